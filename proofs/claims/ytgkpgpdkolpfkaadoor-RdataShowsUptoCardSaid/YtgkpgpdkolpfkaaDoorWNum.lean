/- Package strconv's FormatInt at numbers of 16 bits, as 'V' runs it. No conditions. -/
import Derived.Test.YtgkpgpdkolpfkaaDoorWBld
namespace Go.Proofs.YtgkpgpdkolpfkaaDoor.V
open Go
set_option linter.unusedSimpArgs false
set_option linter.unusedVariables false
attribute [local irreducible] go goOps goD opK callK callT stepK leaveTo nextK

/-- How many bits a byte takes. -/
def len8 : List UInt8 := [0,1,2,2,3,3,3,3,4,4,4,4,4,4,4,4,5,5,5,5,5,5,5,5,5,5,5,5,5,5,5,5,6,6,6,6,6,6,6,6,6,6,6,6,6,6,6,6,6,6,6,6,6,6,6,6,6,6,6,6,6,6,6,6,7,7,7,7,7,7,7,7,7,7,7,7,7,7,7,7,7,7,7,7,7,7,7,7,7,7,7,7,7,7,7,7,7,7,7,7,7,7,7,7,7,7,7,7,7,7,7,7,7,7,7,7,7,7,7,7,7,7,7,7,7,7,7,7] ++ List.replicate 128 8
def bl8 (c : Nat) : Nat := ((len8[c]?).getD 0).toNat
theorem bl8_at {c : Nat} (h : c < 256) : len8[c]? = some (UInt8.ofNat (bl8 c)) ∧ bl8 c ≤ 8 := by
  have : ∀ c : Fin 256, len8[c.val]? = some (UInt8.ofNat (bl8 c.val)) ∧ bl8 c.val ≤ 8 := by decide +kernel
  exact this ⟨c, h⟩

theorem bindK_len8 {L : List UInt8} {n : Nat} {f : UInt8 → Prop} (hL : L = len8) (h : n < 256) : bindK (L[n]?) f = f (UInt8.ofNat (bl8 n)) := by
  subst hL
  rw [(bl8_at h).1, bindK_some]
set_option maxRecDepth 20000 in
theorem num_log (b : Nat) (H k) (hb : b ≤ 64) : callK Tryd.prog 102 [.int .i64 (b : Nat)] H k = k (.int .i64 (b * 78913 / 262144 : Nat), H, z0) := by
  refine callK_eq (r := (.int .i64 (b * 78913 / 262144 : Nat), H, z0)) ?_ k
  refine callK_start (n := 6) (rs := [.tmp 2]) Tryd.func102 rfl rfl rfl ?_
  intro σ hl ha
  have h0 := ha 0 (by simp)
  clear ha
  simp only [Option.getD_some, List.getElem?_cons_zero, List.getElem?_cons_succ] at h0
  have w1 : IntKind.i64.wrap ((b : Int) * 78913) = ((b * 78913 : Nat) : Int) := by rw [wrap_i64 (by omega)]; omega
  have w2 : ((b * 78913 : Nat) : Int).fdiv (2 ^ min 18 64) = ((b * 78913 / 262144 : Nat) : Int) := by
    have : (2 : Int) ^ min 18 64 = 262144 := by decide
    rw [this, Int.fdiv_eq_ediv_of_nonneg _ (by omega)]; omega
  simp only [go_sem, simprocAttr, hl, h0, w1, w2]
set_option maxRecDepth 20000 in
theorem num_bool (b : Bool) (H k) : callK Tryd.prog 104 [.bool b] H k = k (.int .i64 (if b = true then 1 else 0), H, z0) := by
  refine callK_eq (r := (.int .i64 (if b = true then 1 else 0), H, z0)) ?_ k
  refine callK_start (n := 4) (rs := [.tmp 2]) Tryd.func104 rfl rfl rfl ?_
  intro σ hl ha
  have h0 := ha 0 (by simp)
  clear ha
  simp only [Option.getD_some, List.getElem?_cons_zero, List.getElem?_cons_succ] at h0
  cases b
  · simp only [go_sem, simprocAttr, hl, h0]
  · simp only [go_sem, simprocAttr, hl, h0]

theorem bl8_range : ∀ {c : Nat}, c < 256 → c < 2 ^ bl8 c ∧ (c ≠ 0 → 2 ^ bl8 c ≤ 2 * c) := by
  intro c h
  have : ∀ c : Fin 256, c.val < 2 ^ bl8 c.val ∧ (c.val ≠ 0 → 2 ^ bl8 c.val ≤ 2 * c.val) := by decide +kernel
  exact this ⟨c, h⟩
/-- The table of powers, as it is laid. -/
def pow10c : List AV := [.int .u64 1, .int .u64 10, .int .u64 100, .int .u64 1000, .int .u64 10000, .int .u64 100000, .int .u64 1000000, .int .u64 10000000, .int .u64 100000000, .int .u64 1000000000, .int .u64 10000000000, .int .u64 100000000000, .int .u64 1000000000000, .int .u64 10000000000000, .int .u64 100000000000000, .int .u64 1000000000000000, .int .u64 10000000000000000, .int .u64 100000000000000000, .int .u64 1000000000000000000, .int .u64 10000000000000000000]
/-- The table lies in the heap where the program has it. -/
def Tb (H : Hp) : Prop := ∃ e k, H[1]? = some (.cells pow10c e k)
theorem Tb.old {H : Hp} (h : Tb H) (l : Hp) : Tb (H ++ l) := by
  obtain ⟨e, k, h⟩ := h
  exact ⟨e, k, hp_old h⟩
theorem ix99 {i : Nat} (h : i < 20) : evIndexAddr Tryd.prog 156 (.ptr 1 0) (.int .i64 (i : Nat)) = some (.ptr 1 i) := by
  simp only [evIndexAddr, tsh_156]
  rw [if_pos ⟨by omega, by omega⟩]
  simp
/-- Two digits each, up to 99. -/
def smalls : List UInt8 := (List.range 100).flatMap fun q => [hexD (q / 10), hexD (q % 10)]
theorem smalls_at {q : Nat} (h : q < 100) : smalls[2 * q]? = some (hexD (q / 10)) ∧ smalls[2 * q + 1]? = some (hexD (q % 10)) := by
  have : ∀ q : Fin 100, smalls[2 * q.val]? = some (hexD (q.val / 10)) ∧ smalls[2 * q.val + 1]? = some (hexD (q.val % 10)) := by decide +kernel
  exact this ⟨q, h⟩
theorem bindK_sm0 {L : List UInt8} {q : Nat} {f : UInt8 → Prop} (hL : L = smalls) (h : q < 100) : bindK (L[2 * q]?) f = f (hexD (q / 10)) := by
  subst hL
  rw [(smalls_at h).1, bindK_some]
theorem bindK_sm1 {L : List UInt8} {q : Nat} {f : UInt8 → Prop} (hL : L = smalls) (h : q < 100) : bindK (L[2 * q + 1]?) f = f (hexD (q % 10)) := by
  subst hL
  rw [(smalls_at h).2, bindK_some]
theorem hexD_n {q : Nat} (h : q < 10) : (hexD q).toNat = 48 + q := by
  have : ∀ q : Fin 10, (hexD q.val).toNat = 48 + q.val := by decide
  exact this ⟨q, h⟩
theorem hexD_i {q : Nat} (h : q < 10) : IntKind.u8.wrap (IntKind.u32.wrap (48 + (q : Int))) = ((hexD q).toNat : Int) := by
  rw [hexD_n h, wrap_u32 (by omega), wrap_u8 (by omega)]; omega
theorem dig36_sl {n : Nat} (h : n < 10) : ((([48, 49, 50, 51, 52, 53, 54, 55, 56, 57, 97, 98, 99, 100, 101, 102, 103, 104, 105, 106, 107, 108, 109, 110, 111, 112, 113, 114, 115, 116, 117, 118, 119, 120, 121, 122] : List UInt8).drop n).take 1) = [hexD n] := by
  have : ∀ n : Fin 10, ((([48, 49, 50, 51, 52, 53, 54, 55, 56, 57, 97, 98, 99, 100, 101, 102, 103, 104, 105, 106, 107, 108, 109, 110, 111, 112, 113, 114, 115, 116, 117, 118, 119, 120, 121, 122] : List UInt8).drop n.val).take 1) = [hexD n.val] := by decide
  exact this ⟨n, h⟩
theorem smalls_sl {L : List UInt8} {n : Nat} (hL : L = smalls) (h : n < 100) : (L.drop (2 * n)).take 2 = [hexD (n / 10), hexD (n % 10)] := by
  subst hL
  have : ∀ n : Fin 100, (smalls.drop (2 * n.val)).take 2 = [hexD (n.val / 10), hexD (n.val % 10)] := by decide +kernel
  exact this ⟨n, h⟩
theorem smalls_le {L : List UInt8} {n : Nat} (hL : L = smalls) (h : n < 100) : 2 * n + 2 ≤ L.length := by
  subst hL
  have : smalls.length = 200 := by decide +kernel
  omega
theorem decP_small {n : Nat} (h : n < 10) : decP n = [hexD n] := by unfold decP; rw [if_pos h]
theorem decP_big {n : Nat} (h : ¬ n < 10) : decP n = decP (n / 10) ++ [hexD (n % 10)] := by rw [decP]; rw [if_neg h]
set_option maxRecDepth 20000 in
theorem str_small (n : Nat) (H k) (hn : n < 100) : callK Tryd.prog 88 [.int .i64 (n : Nat)] H k = k (.str (decP n), H, z0) := by
  refine callK_eq (r := (.str (decP n), H, z0)) ?_ k
  refine callK_start (n := 15) (rs := [.tmp 2]) Tryd.func88 rfl rfl rfl ?_
  intro σ hl ha
  have h0 := ha 0 (by simp)
  clear ha
  simp only [Option.getD_some, List.getElem?_cons_zero, List.getElem?_cons_succ] at h0
  by_cases h10 : n < 10
  · have g : decide ((n : Int) < 10) = true := by simp; omega
    have q3 : IntKind.i64.wrap ((n : Int) + 1) = ((n + 1 : Nat) : Int) := by rw [wrap_i64 (by omega)]; omega
    have s1 := dig36_sl (n := n) (by omega)
    have d1 : n + 1 - n = 1 := by omega
    simp only [go_sem, simprocAttr, hl, h0, g, q3, s1, d1]
    exact ⟨by omega, by rw [decP_small h10]⟩
  · have g : decide ((n : Int) < 10) = false := by simp; omega
    have q1 : IntKind.i64.wrap ((n : Int) * 2) = ((2 * n : Nat) : Int) := by rw [wrap_i64 (by omega)]; omega
    have q3 : IntKind.i64.wrap (((2 * n : Nat) : Int) + 2) = ((2 * n + 2 : Nat) : Int) := by rw [wrap_i64 (by omega)]; omega
    have d1 : 2 * n + 2 - 2 * n = 2 := by omega
    simp only [go_sem, simprocAttr, hl, h0, g, q1, q3, d1]
    refine ⟨?_, str_eq ?_⟩
    · first | exact smalls_le (by kernel_rfl) hn | exact Int.ofNat_le.2 (smalls_le (by kernel_rfl) hn)
    · rw [smalls_sl (by kernel_rfl) hn, decP_big h10, decP_small (by omega)]
      rfl

end Go.Proofs.YtgkpgpdkolpfkaaDoor.V
