/- Package strconv's Itoa at numbers of 16 bits, as 'V' runs it. No conditions. -/
import Derived.Test.YtjemmehgfheflaaDoorSWalkE
namespace Go.Proofs.YtjemmehgfheflaaDoor.V
open Go
set_option linter.unusedSimpArgs false
set_option linter.unusedVariables false
attribute [local irreducible] go goOps goD opK callK callT stepK leaveTo nextK

theorem sl_arr {P : Program} {H : Hp} {t : TypeId} {b o : Nat} {lo hi : Option AV} {f : AV → Prop} (ht : (match tsh P t with | some (.array _ _ _) => true | _ => false) = true) :
    bindK (evSlice P t (.ptr b o) lo hi none H) f = bindK (tsh P t) fun sh => bindK (bnd lo hi (shA sh).1 (shA sh).1) fun r => f (.slice b (if (shA sh).1 = r.1 then o else o + r.1 * (shA sh).2) (r.2 - r.1) (.ex ((shA sh).1 - r.1))) := by
  split at ht
  · rename_i e z w he
    simp only [evSlice, he, bindK_map, bindK_some, shA]
    rfl
  · cases ht
attribute [go_sem ↓] sl_arr
theorem dig36_sl {n : Nat} (h : n < 10) : ((([48, 49, 50, 51, 52, 53, 54, 55, 56, 57, 97, 98, 99, 100, 101, 102, 103, 104, 105, 106, 107, 108, 109, 110, 111, 112, 113, 114, 115, 116, 117, 118, 119, 120, 121, 122] : List UInt8).drop n).take 1) = [hexD n] := by
  have : ∀ n : Fin 10, ((([48, 49, 50, 51, 52, 53, 54, 55, 56, 57, 97, 98, 99, 100, 101, 102, 103, 104, 105, 106, 107, 108, 109, 110, 111, 112, 113, 114, 115, 116, 117, 118, 119, 120, 121, 122] : List UInt8).drop n.val).take 1) = [hexD n.val] := by decide
  exact this ⟨n, h⟩
theorem smalls_sl {L : List UInt8} {n : Nat} (hL : L = smalls) (h : n < 100) : (L.drop (2 * n)).take 2 = [hexD (n / 10), hexD (n % 10)] := by
  subst hL
  have : ∀ n : Fin 100, (smalls.drop (2 * n.val)).take 2 = [hexD (n.val / 10), hexD (n.val % 10)] := by decide +kernel
  exact this ⟨n, h⟩
theorem smalls_le {L : List UInt8} {n : Nat} (hL : L = smalls) (h : n < 100) : 2 * n + 2 ≤ L.length := by
  subst hL
  have : smalls.length = 200 := by decide +kernel
  omega
theorem str_eq {a b : List UInt8} {H : Hp} (h : a = b) : (AV.str a, H, z0) = (AV.str b, H, z0) := by rw [h]

set_option maxRecDepth 20000 in
theorem small66 (n : Nat) (H k) (hn : n < 100) : callK Tryd.prog 66 [.int .i64 (n : Nat)] H k = k (.str (decP n), H, z0) := by
  refine callK_eq (r := (.str (decP n), H, z0)) ?_ k
  refine callK_start (n := 15) (rs := [.tmp 2]) Tryd.func66 rfl rfl rfl ?_
  intro σ hl ha
  have h0 := ha 0 (by simp)
  clear ha
  simp only [Option.getD_some, List.getElem?_cons_zero, List.getElem?_cons_succ] at h0
  by_cases h10 : n < 10
  · have g : decide ((n : Int) < 10) = true := by simp; omega
    have q3 : IntKind.i64.wrap ((n : Int) + 1) = ((n + 1 : Nat) : Int) := by rw [wrap_i64 (by omega)]; omega
    have s1 := dig36_sl (n := n) (by omega)
    have d1 : n + 1 - n = 1 := by omega
    simp only [go_sem, simprocAttr, hl, h0, g, q3, s1, d1]
    exact ⟨by omega, by rw [decP_small h10]⟩
  · have g : decide ((n : Int) < 10) = false := by simp; omega
    have q1 : IntKind.i64.wrap ((n : Int) * 2) = ((2 * n : Nat) : Int) := by rw [wrap_i64 (by omega)]; omega
    have q3 : IntKind.i64.wrap (((2 * n : Nat) : Int) + 2) = ((2 * n + 2 : Nat) : Int) := by rw [wrap_i64 (by omega)]; omega
    have d1 : 2 * n + 2 - 2 * n = 2 := by omega
    simp only [go_sem, simprocAttr, hl, h0, g, q1, q3, d1]
    refine ⟨?_, str_eq ?_⟩
    · first | exact smalls_le (by kernel_rfl) hn | exact Int.ofNat_le.2 (smalls_le (by kernel_rfl) hn)
    · rw [smalls_sl (by kernel_rfl) hn, decP_big h10, decP_small (by omega)]
      rfl

set_option maxRecDepth 20000 in
theorem format58 (n : Nat) (H k) (ht : Tb H) (hn : n < 65536) : callK Tryd.prog 58 [.int .i64 (n : Nat), .int .i64 10] H k = k (.str (decP n), H, z0) := by
  refine callK_eq (r := (.str (decP n), H, z0)) ?_ k
  refine callK_start (n := 54) (rs := [.tmp 4]) Tryd.func58 rfl rfl rfl ?_
  intro σ hl ha
  have h0 := ha 0 (by simp)
  have h1 := ha 1 (by simp)
  clear ha
  simp only [Option.getD_some, List.getElem?_cons_zero, List.getElem?_cons_succ] at h0 h1
  have g0 : decide ((0 : Int) ≤ (n : Int)) = true := by simp
  have w1 : IntKind.u64.wrap (n : Int) = (n : Int) := wrap_u64 (by omega)
  by_cases h100 : n < 100
  · have g1 : decide ((n : Int) < 100) = true := by simp; omega
    have hs := fun H k => small66 n H k h100
    simp only [go_sem, simprocAttr, hl, h0, h1, g0, g1, hs]
  · have g1 : decide ((n : Int) < 100) = false := by simp; omega
    have g2 : decide ((n : Int) < 0) = false := by simp
    have hnum := fun k => num67 n (H ++ [.cells [.int .u8 0, .int .u8 0, .int .u8 0, .int .u8 0, .int .u8 0, .int .u8 0, .int .u8 0, .int .u8 0, .int .u8 0, .int .u8 0, .int .u8 0, .int .u8 0, .int .u8 0, .int .u8 0, .int .u8 0, .int .u8 0, .int .u8 0, .int .u8 0, .int .u8 0, .int .u8 0, .int .u8 0, .int .u8 0, .int .u8 0, .int .u8 0] 86 .rw]) k (ht.old _) (by omega) hn
    by_cases h1000 : n < 1000
    · have hd : digs n = 3 := by simp only [digs]; rw [if_pos (by omega)]
      rw [hd] at hnum
      have hf := fun k => fmt3 n H k (by omega) (by omega)
      have hdec := dec3 (n := n) (by omega) (by omega)
      simp only [go_sem, simprocAttr, hl, h0, h1, g0, g1, g2, w1, hnum, hf]
      rw [hdec]
    by_cases h10000 : n < 10000
    · have hd : digs n = 4 := by simp only [digs]; rw [if_neg (by omega), if_pos (by omega)]
      rw [hd] at hnum
      have hf := fun k => fmt4 n H k (by omega) (by omega)
      have hdec := dec4 (n := n) (by omega) (by omega)
      simp only [go_sem, simprocAttr, hl, h0, h1, g0, g1, g2, w1, hnum, hf]
      rw [hdec]
    · have hd : digs n = 5 := by simp only [digs]; rw [if_neg (by omega), if_neg (by omega)]
      rw [hd] at hnum
      have hf := fun k => fmt5 n H k (by omega) (by omega)
      have hdec := dec5 (n := n) (by omega) (by omega)
      simp only [go_sem, simprocAttr, hl, h0, h1, g0, g1, g2, w1, hnum, hf]
      rw [hdec]

set_option maxRecDepth 20000 in
theorem itoa53 (n : Nat) (H k) (ht : Tb H) (hn : n < 65536) : callK Tryd.prog 53 [.int .i64 (n : Nat)] H k = k (.str (decP n), H, z0) := by
  refine callK_eq (r := (.str (decP n), H, z0)) ?_ k
  refine callK_start (n := 5) (rs := [.tmp 2]) Tryd.func53 rfl rfl rfl ?_
  intro σ hl ha
  have h0 := ha 0 (by simp)
  clear ha
  simp only [Option.getD_some, List.getElem?_cons_zero, List.getElem?_cons_succ] at h0
  have hs := fun k => format58 n H k ht hn
  simp only [go_sem, simprocAttr, hl, h0, hs]
set_option maxRecDepth 20000 in
theorem itoa37 (n : Nat) (H k) (ht : Tb H) (hn : n < 65536) : callK Tryd.prog 37 [.int .i64 (n : Nat)] H k = k (.str (decP n), H, z0) := by
  refine callK_eq (r := (.str (decP n), H, z0)) ?_ k
  refine callK_start (n := 5) (rs := [.tmp 2]) Tryd.func37 rfl rfl rfl ?_
  intro σ hl ha
  have h0 := ha 0 (by simp)
  clear ha
  simp only [Option.getD_some, List.getElem?_cons_zero, List.getElem?_cons_succ] at h0
  have hs := fun k => itoa53 n H k ht hn
  simp only [go_sem, simprocAttr, hl, h0, hs]
end Go.Proofs.YtjemmehgfheflaaDoor.V
