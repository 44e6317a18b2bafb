/- Joined by mkclaim.py: WTokA WTokB WTokD WTokC WTypeOf WWordB WIndex WWordC WWordD WWordE WRead WReadB WMapLay WMasA WMasB WFold. No conditions. -/
import Derived.Test.YtdppgaphcmhffaaGreatDoorJ3
import Derived.Test.YtdppgaphcmhffaaGreatDoorJ2
import Derived.Test.YtdppgaphcmhffaaGreatDoorChecked
import Derived.WalkKit
import Derived.Lib.TrimAscii
set_option linter.unusedSimpArgs false
set_option linter.unusedVariables false
namespace Go.Proofs.YtdppgaphcmhffaaGreatDoor.V
open Go
attribute [local irreducible] go goOps goD opK callK callT stepK leaveTo nextK jumpTo

section
variable {P : Program} {Q : Ex → St → Prop} {k : List It}
theorem jump_ind {l : Nat} {B X : Code} (I : Nat → St → Prop) (n : Nat) {s : St} (h0 : I n s) (hf : findLabel B l = some X)
  (round : ∀ n σ H e, I n ⟨σ, H, e⟩ → (∀ m s', m < n → I m s' → jumpTo P Q l (.inScope B :: k) s') → go P Q (.code X :: .inScope B :: k) ⟨σ, H, e⟩) : jumpTo P Q l (.inScope B :: k) s := by
 induction n using Nat.strongRecOn generalizing s with
 | _ n ih =>
  obtain ⟨σ, H, e⟩ := s
  rw [jumpTo_scope, hf, jumpIn_some]
  exact round n σ H e h0 (fun m s' hm hi => ih m hm hi)
theorem go_label_jump {l : Nat} {B X : Code} {σ : List AV} {H : Hp} {e : Ef} (hf : findLabel B l = some (.seq .skip X)) : go P Q (.code (.label l) :: .code X :: .inScope B :: k) ⟨σ, H, e⟩ = jumpTo P Q l (.inScope B :: k) ⟨σ, H, e⟩ := by
 rw [jumpTo_scope, hf, jumpIn_some, go_seq, go_skip, go_label]
end

def TkC (T : List UInt8) (i ln bg : Nat) (vo : AV) (bl : Bool) (el : Nat) (vw ve : AV) (ins : Bool) : List AV := [.str T, .int .i64 i, .int .i64 ln, .int .i64 bg, vo, .bool bl, .int .i64 el, vw, ve, .bool ins]
section
variable {T : List UInt8} {i ln bg : Nat} {vo : AV} {bl : Bool} {el : Nat} {vw ve : AV} {ins : Bool} {e : TypeId} {kd : Kd}
theorem TkC.l0 : ldC 0 1 false (.cells (TkC T i ln bg vo bl el vw ve ins) e kd) = some (.str T) := rfl
theorem TkC.l1 : ldC 1 1 false (.cells (TkC T i ln bg vo bl el vw ve ins) e kd) = some (.int .i64 i) := rfl
theorem TkC.l2 : ldC 2 1 false (.cells (TkC T i ln bg vo bl el vw ve ins) e kd) = some (.int .i64 ln) := rfl
theorem TkC.l3 : ldC 3 1 false (.cells (TkC T i ln bg vo bl el vw ve ins) e kd) = some (.int .i64 bg) := rfl
theorem TkC.l4 : ldC 4 1 false (.cells (TkC T i ln bg vo bl el vw ve ins) e kd) = some vo := rfl
theorem TkC.l5 : ldC 5 3 true (.cells (TkC T i ln bg vo bl el vw ve ins) e kd) = some (.agg [.bool bl, .int .i64 el, vw]) := rfl
theorem TkC.l7 : ldC 7 1 false (.cells (TkC T i ln bg vo bl el vw ve ins) e kd) = some vw := rfl
theorem TkC.l8 : ldC 8 1 false (.cells (TkC T i ln bg vo bl el vw ve ins) e kd) = some ve := rfl
theorem TkC.l9 : ldC 9 1 false (.cells (TkC T i ln bg vo bl el vw ve ins) e kd) = some (.bool ins) := rfl
theorem TkC.len : (TkC T i ln bg vo bl el vw ve ins).length = 10 := rfl
theorem TkC.s1 {x : Nat} : splice (TkC T i ln bg vo bl el vw ve ins) 1 [.int .i64 x] = TkC T x ln bg vo bl el vw ve ins := rfl
theorem TkC.s2 {x : Nat} : splice (TkC T i ln bg vo bl el vw ve ins) 2 [.int .i64 x] = TkC T i x bg vo bl el vw ve ins := rfl
theorem TkC.s3 {x : Nat} : splice (TkC T i ln bg vo bl el vw ve ins) 3 [.int .i64 x] = TkC T i ln x vo bl el vw ve ins := rfl
theorem TkC.s4 {x : AV} : splice (TkC T i ln bg vo bl el vw ve ins) 4 [x] = TkC T i ln bg x bl el vw ve ins := rfl
theorem TkC.s5 {x : Bool} {y : Nat} {z : AV} : splice (TkC T i ln bg vo bl el vw ve ins) 5 [.bool x, .int .i64 y, z] = TkC T i ln bg vo x y z ve ins := rfl
theorem TkC.s7 {x : AV} : splice (TkC T i ln bg vo bl el vw ve ins) 7 [x] = TkC T i ln bg vo bl el x ve ins := rfl
theorem TkC.s8 {x : AV} : splice (TkC T i ln bg vo bl el vw ve ins) 8 [x] = TkC T i ln bg vo bl el vw x ins := rfl
theorem TkC.s9 {x : Bool} : splice (TkC T i ln bg vo bl el vw ve ins) 9 [.bool x] = TkC T i ln bg vo bl el vw ve x := rfl
end

theorem tok_blank (c : UInt8) (H k) : callK Tryz.prog 66 [.int .u8 c.toNat] H k = k (.bool (isBl c), H, z0) := by
 refine callK_eq ?_ k
 refine callK_start (n := 13) (rs := [.tmp 2]) Tryz.func66 rfl rfl rfl ?_
 intro σ hl ha
 have h0 := ha 0 (by simp)
 clear ha
 simp only [Option.getD_some, List.getElem?_cons_zero] at h0
 have e1 : ((c.toNat : Int) == 32) = (c == 32) := by rw [show (32 : Int) = (((32 : UInt8).toNat : Nat) : Int) from rfl, u8_beq]; exact (Bool.beq_eq_decide_eq c 32).symm
 have e2 : ((c.toNat : Int) == 9) = (c == 9) := by rw [show (9 : Int) = (((9 : UInt8).toNat : Nat) : Int) from rfl, u8_beq]; exact (Bool.beq_eq_decide_eq c 9).symm
 have e3 : ((c.toNat : Int) == 13) = (c == 13) := by rw [show (13 : Int) = (((13 : UInt8).toNat : Nat) : Int) from rfl, u8_beq]; exact (Bool.beq_eq_decide_eq c 13).symm
 unfold isBl
 cases h1 : c == 32 <;> cases h2 : c == 9 <;> cases h3 : c == 13 <;> rw [h1] at e1 <;> rw [h2] at e2 <;> rw [h3] at e3 <;> simp only [go_sem, simprocAttr, hl, h0, e1, e2, e3]

theorem tok_spot (H : Hp) (rb : Nat) (T : List UInt8) (i ln bg : Nat) (vo : AV) (bl : Bool) (el : Nat) (vw ve : AV) (ins : Bool) (hb : H[rb]? = some (.cells (TkC T i ln bg vo bl el vw ve ins) 93 .rw)) (f : Nat) (hf : bg ≤ f) (hf2 : f < 1000000000) (k) :
  callK Tryz.prog 68 [.ptr rb 0, .int .i64 f] H k = k (.agg [.int .i64 ln, .int .i64 (f - bg + 1 : Nat)], H, z0) := by
 have hlt := lt_of_get hb
 refine callK_eq ?_ k
 refine callK_start (n := 17) (rs := [.cell 4 38]) Tryz.func68 rfl rfl rfl ?_
 intro σ hl ha
 have h0 := ha 0 (by simp)
 have h1 := ha 1 (by simp)
 clear ha
 simp only [Option.getD_some, List.getElem?_cons_zero, List.getElem?_cons_succ] at h0 h1
 simp only [go_sem, simprocAttr, hl, h0, h1]
 refine go_drawZ tFollows (by kernel_rfl) ?_
 have hg : ∀ x, (H ++ [x])[rb]? = some (.cells (TkC T i ln bg vo bl el vw ve ins) 93 .rw) := fun x => get_app hb
 have w1 : IntKind.i64.wrap ((f : Int) - (bg : Int)) = ((f - bg : Nat) : Int) := by rw [wrap_i64 (by omega)]; omega
 have w2 := wrap_succ (show f - bg < 9223372036854775807 by omega)
 have hbd : ∀ x y, evBuild Tryz.prog 38 [(0, .int .i64 x), (1, .int .i64 y)] = some (.agg [.int .i64 x, .int .i64 y]) := by
  intro x y
  simp only [evBuild, tsh_38, tzero_38, tplaces_38, Option.bind_some, fillA]
  rfl
 simp only [go_sem, simprocAttr, hl, h0, h1, hg, TkC.l2, TkC.l3, w1, w2, hbd]
 exact (by kernel_rfl : effOk _ _ _ = true)

def Sto (b : Nat) (e : Ef) : Prop := ∃ x, e.es = some x ∧ x ≤ b
theorem Sto.r {b : Nat} {e : Ef} (h : Sto b e) (f : Ef) : Sto b (f.and e) := by
 obtain ⟨x, h1, h2⟩ := h
 cases hf : f.es with
 | none => exact ⟨x, by simp [Ef.and, omin, hf, h1], h2⟩
 | some y => exact ⟨min y x, by simp [Ef.and, omin, hf, h1], by omega⟩
theorem Sto.l {b : Nat} {e : Ef} (h : Sto b e) (f : Ef) : Sto b (e.and f) := by
 obtain ⟨x, h1, h2⟩ := h
 cases hf : f.es with
 | none => exact ⟨x, by simp [Ef.and, omin, hf, h1], h2⟩
 | some y => exact ⟨min x y, by simp [Ef.and, omin, hf, h1], by omega⟩
theorem Sto.this {b : Nat} {w : Option Nat} : Sto b ⟨some b, w⟩ := ⟨b, rfl, Nat.le_refl _⟩
theorem Sto.low {b n : Nat} {e : Ef} (h : Sto b e) (hb : b < n) : Sto b ⟨low n e.es, low n e.ws⟩ := by
 obtain ⟨x, h1, h2⟩ := h
 refine ⟨x, ?_, h2⟩
 rw [h1]
 unfold V.low
 exact if_neg (by omega)
theorem Sto.leave {b n : Nat} {v : AV} {H : Hp} {e : Ef} (h : Sto b e) (hb : b < n) : leave n v H e = (v, H, ⟨V.low n e.es, V.low n e.ws⟩) := by
 obtain ⟨x, h1, h2⟩ := h
 unfold V.leave
 rw [if_neg]
 rintro ⟨_, h⟩
 rw [h1] at h
 simp [V.low] at h
 omega
theorem leave_lenA {n : Nat} {v : AV} {H : Hp} {e : Ef} (h : H.length ≤ n) : leave n v H e = (v, H, ⟨low n e.es, low n e.ws⟩) := by
 unfold leave
 congr 2
 split
 ·rw [List.take_of_length_le h]
 ·rfl
theorem leave_kpA {n b : Nat} {v : AV} {H : Hp} {e1 : Ef} (hb : b < n) : ∃ e', leave n v H (e1.and ⟨some b, some b⟩) = (v, H, e') ∧ (∀ m, clean m (e1.and ⟨some b, some b⟩) → clean m e') ∧ Sto b e' :=
 ⟨_, (Sto.this.r e1).leave hb, fun m h => clean_leave h, (Sto.this.r e1).low hb⟩

def bkT (n : Nat) (v : AV) (m : Nat) : Prop := ∃ k, v = .slice (n + m) 0 k (.op 0)
def putW (T0 : List UInt8) (f t : Nat) (q : Bool) (ln bg : Nat) : Wd := ⟨if q then (T0.drop (f + 1)).take (t - 1 - (f + 1)) else (T0.drop f).take (t - f), q, (ln : Nat), ((f - bg + 1 : Nat) : Int)⟩
theorem bd_word4 (s : List UInt8) (q : Bool) (a b : Int) : evBuild Tryz.prog 63 [(0, .str s), (1, .bool q), (2, .int .i64 a), (3, .int .i64 b)] = some (.agg (Wd.cells ⟨s, q, a, b⟩)) := by
 simp only [evBuild, tsh_63, tzero_63, tplaces_63, Option.bind_some, fillA]
 rfl
theorem bslice_wdT (w : Wd) (H : Hp) : evBuildSlice Tryz.prog 59 1 [(0, .agg w.cells)] H = some (.slice H.length 0 1 (.ex 1), H ++ [.cells w.cells 63 .rw]) := by
 simp only [evBuildSlice, tsh_59, tzero_63, Option.bind_some]
 rfl
theorem wcells_snocT (L : List Wd) (w : Wd) : wcells (L ++ [w]) = wcells L ++ w.cells := by simp [wcells]

set_option maxRecDepth 20000 in
theorem tok_put (H T : Hp) (j : Nat) (T0 : List UInt8) (i ln bg : Nat) (vo : AV) (bl : Bool) (el : Nat) (vw ve : AV) (ins : Bool) (ws : List Wd) (hb : T[j]? = some (.cells (TkC T0 i ln bg vo bl el vw ve ins) 93 .rw))
  (hw : GBuf H.length T vw 63 4 ws.length (wcells ws)) (f t : Nat) (q : Bool) (hbf : bg ≤ f) (hft : f ≤ t) (hq : q = true → f + 2 ≤ t) (ht : t ≤ T0.length) (hT : T0.length ≤ 262144) (hws : ws.length ≤ 262144) :
  ∃ b : AV × Hp × Ef, (b.2.1[j]? = some (.cells (TkC T0 i ln bg vo bl el b.1 ve ins) 93 .rw) ∧ GBuf H.length b.2.1 b.1 63 4 (ws.length + 1) (wcells (ws ++ [putW T0 f t q ln bg])) ∧ clean H.length b.2.2 ∧ Sto (H.length + j) b.2.2 ∧ (∀ m, bkT H.length b.1 m → T.length ≤ m) ∧
   (∀ (x : Nat) y, x ≠ j → ¬ bkT H.length vw x → T[x]? = some y → b.2.1[x]? = some y)) ∧ ∀ k, callK Tryz.prog 69 [.ptr (H.length + j) 0, .int .i64 f, .int .i64 t, .bool q] (H ++ T) k = k (.tuple [], H ++ b.2.1, b.2.2) := by
 have hlt := lt_of_get hb
 have hb' : (H ++ T)[H.length + j]? = some (.cells (TkC T0 i ln bg vo bl el vw ve ins) 93 .rw) := by rw [hp_new]; exact hb
 have hsp := fun k => tok_spot (H ++ T) (H.length + j) T0 i ln bg vo bl el vw ve ins hb' f hbf (by omega) k
 refine callK_exP (fun b : AV × Hp × Ef => _) (fun b => (.tuple [], H ++ b.2.1, b.2.2)) ?_
 refine callK_start (n := 49) (rs := []) Tryz.func69 rfl rfl rfl ?_
 intro σ hl ha
 have h0 := ha 0 (by simp)
 have h1 := ha 1 (by simp)
 have h2 := ha 2 (by simp)
 have h3 := ha 3 (by simp)
 clear ha
 simp only [Option.getD_some, List.getElem?_cons_zero, List.getElem?_cons_succ] at h0 h1 h2 h3
 simp only [go_sem, simprocAttr, hl, h0, h1, hsp]
 refine go_drawF tFollows (by kernel_rfl) ?_
 have g1 : ∀ x, (T ++ [x])[j]? = some (.cells (TkC T0 i ln bg vo bl el vw ve ins) 93 .rw) := fun x => get_app hb
 have g2 : ∀ x y, (T ++ [x, y])[j]? = some (.cells (TkC T0 i ln bg vo bl el vw ve ins) 93 .rw) := fun x y => get_app hb
 have n1 : ∀ x y, (T ++ [x, y])[T.length]? = some x := fun x y => by simp
 have n2 : ∀ x y, (T ++ [x, y])[T.length + 1]? = some y := fun x y => by simp
 simp only [go_sem, simprocAttr, hl, h0, h1, h2, h3, g1, g2, n1, n2, TkC.l0, bd_word4]
 refine ⟨ht, hft, rfl, ⟨Nat.le_refl _, rfl⟩, (by kernel_rfl : effOk _ _ _ = true), ?_⟩
 have hmj : ∀ m n, vw = .slice (H.length + m) 0 n (.op 0) → j ≠ m := by
  rintro m n e rfl
  rcases hw with ⟨h, _⟩ | ⟨_, _, m', e', hm'⟩
  ·rw [h] at e; cases e
  ·rw [e'] at e
   have : m' = j := by injection e; omega
   rw [this, hb] at hm'
   simp at hm'
 have hwsc := hw.scl
 have hwv : vcells vw = [vw] := by rcases hw with ⟨rfl, _⟩ | ⟨_, _, m', rfl, _⟩ <;> rfl
 have hrd : ∀ w : Wd, rdC 0 4 (.cells w.cells 63 .rw) = some w.cells := fun _ => rfl
 have hld : ∀ w : Wd, ldC 0 4 true (.cells w.cells 63 .rw) = some (.agg w.cells) := fun _ => rfl
 have hz0 : ∀ w : Wd, splice [.str [], .bool false, .int .i64 0, .int .i64 0] 0 w.cells = w.cells := fun _ => rfl
 have hfl : ∀ w : Wd, flats w.cells = true := fun _ => rfl
 have g3 : ∀ x y z, (T ++ [x, y, z])[j]? = some (.cells (TkC T0 i ln bg vo bl el vw ve ins) 93 .rw) := fun x y z => get_app hb
 have n3 : ∀ x y z, (T ++ [x, y, z])[T.length + 1]? = some y := fun x y z => by simp
 have n4 : ∀ x y z, (T ++ [x, y, z])[T.length + 2]? = some z := fun x y z => by simp
 cases q
 ·obtain ⟨w, hwd⟩ : ∃ w, w = putW T0 f t false ln bg := ⟨_, rfl⟩
  have hwd' : (⟨(T0.drop f).take (t - f), false, (ln : Nat), ((f - bg + 1 : Nat) : Int)⟩ : Wd) = w := by rw [hwd]; simp [putW]
  rw [hwd', hz0, hfl, if_pos rfl]
  simp only [go_sem, simprocAttr, hl]
  refine go_drawZ tFollows (by kernel_rfl) ?_
  obtain ⟨T2, e2, happ, hlen2, hcl2, hkp, hnew, hG⟩ := (hw.more [.cells [.int .i64 (ln : Nat), .int .i64 (f - bg + 1 : Nat)] 38 .rw, .cells w.cells 63 .rw, .cells w.cells 63 .rw]).app3 (P := Tryz.prog) (b := 40) (by decide) zok_59 w.cells 1 (by decide) rfl rfl (by simp only [fits, decide_eq_true_eq]; omega)
  rw [← wcells_snocT] at hnew hG
  have hkj := hkp j _ (get_app hb) hmj
  have q1 : ∀ (v : AV) (e : Ef) (A B C : ABlk), quiet (v, H ++ (T ++ [A, B, C]), e) (H ++ (T ++ [A, B])) = false := by intro v e A B C; simp [quiet]
  have q2 : ∀ (v : AV) (e : Ef) (A B C : ABlk), quiet (v, H ++ T2, e) (H ++ (T ++ [A, B, C])) = false := by intro v e A B C; simp only [List.length_append, List.length_cons, List.length_nil] at hlen2; simp [quiet]; omega
  simp only [go_sem, simprocAttr, hl, h0, h1, h2, h3, g1, g2, g3, n1, n2, n3, n4, TkC.l7, TkC.len, TkC.s7, hwv, hwsc, hld, hrd, bslice_wdT, happ, hkj, q1, q2, List.append_assoc, List.cons_append, List.nil_append]
  refine ⟨by rcases tg_or 8 e2 with h | h <;> rw [h] <;> kernel_rfl, ?_⟩
  obtain ⟨e', hlv, hce, hsto⟩ := leave_kpA (n := H.length + T.length) (b := H.length + j) (v := .tuple []) (H := H ++ List.set T2 j (.cells (TkC T0 i ln bg vo bl el (.slice (H.length + (T.length + 3)) 0 (ws.length + 1) (.op 0)) ve ins) 93 .rw)) (e1 := ((⟨none, some (H.length + T.length)⟩ : Ef).and ⟨none, some (H.length + (T.length + 1))⟩).and e2) (by omega)
  refine ⟨(.slice (H.length + (T.length + 3)) 0 (ws.length + 1) (.op 0), _, e'), ⟨?_, ?_, hce H.length ?_, hsto, fun m h => (by obtain ⟨q, h⟩ := h; injection h with h1; omega), fun x y hx hnb hy => ?_⟩, hlv⟩
  ·exact List.getElem?_set_self (lt_of_get hkj)
  ·rw [← hwd]
   have := hG.set (x := .cells (TkC T0 i ln bg vo bl el (.slice (H.length + (T.length + 3)) 0 (ws.length + 1) (.op 0)) ve ins) 93 .rw) hkj
   simpa only [List.length_append, List.length_cons, List.length_nil] using this
  ·simp only [clean_andI, clean_sn, clean_ss, hcl2, and_true]; omega
  ·rw [List.getElem?_set_ne (Ne.symm hx)]
   exact hkp x y (get_app hy) (fun m n e => by rintro rfl; exact hnb ⟨n, e⟩)
 ·obtain ⟨w, hwd⟩ : ∃ w, w = putW T0 f t true ln bg := ⟨_, rfl⟩
  have hwd' : (⟨(T0.drop (f + 1)).take (t - 1 - (f + 1)), true, (ln : Nat), ((f - bg + 1 : Nat) : Int)⟩ : Wd) = w := by rw [hwd]; simp [putW]
  have hq' := hq rfl
  have wa := wrap_succ (show f < 9223372036854775807 by omega)
  have wb : IntKind.i64.wrap ((t : Int) - 1) = ((t - 1 : Nat) : Int) := by rw [wrap_i64 (by omega)]; omega
  have hs1 : splice (Wd.cells ⟨(T0.drop f).take (t - f), true, (ln : Nat), ((f - bg + 1 : Nat) : Int)⟩) 0 [.str ((T0.drop (f + 1)).take (t - 1 - (f + 1)))] = w.cells := by rw [← hwd']; rfl
  have hlen4 : ∀ w : Wd, w.cells.length = 4 := fun _ => rfl
  have hset : ∀ x y z, (T ++ [x, y]).set (T.length + 1) z = T ++ [x, z] := fun x y z => by rw [List.set_append_right _ _ (by omega)]; simp
  rw [hz0, hfl, if_pos rfl]
  simp only [go_sem, simprocAttr, hl, h0, h1, h2, g1, g2, n1, n2, TkC.l0, wa, wb, hs1, hlen4, hset]
  refine ⟨by omega, by omega, ?_⟩
  refine go_drawZ tFollows (by kernel_rfl) ?_
  obtain ⟨T2, e2, happ, hlen2, hcl2, hkp, hnew, hG⟩ := (hw.more [.cells [.int .i64 (ln : Nat), .int .i64 (f - bg + 1 : Nat)] 38 .rw, .cells w.cells 63 .rw, .cells w.cells 63 .rw]).app3 (P := Tryz.prog) (b := 40) (by decide) zok_59 w.cells 1 (by decide) rfl rfl (by simp only [fits, decide_eq_true_eq]; omega)
  rw [← wcells_snocT] at hnew hG
  have hkj := hkp j _ (get_app hb) hmj
  have q1 : ∀ (v : AV) (e : Ef) (A B C : ABlk), quiet (v, H ++ (T ++ [A, B, C]), e) (H ++ (T ++ [A, B])) = false := by intro v e A B C; simp [quiet]
  have q2 : ∀ (v : AV) (e : Ef) (A B C : ABlk), quiet (v, H ++ T2, e) (H ++ (T ++ [A, B, C])) = false := by intro v e A B C; simp only [List.length_append, List.length_cons, List.length_nil] at hlen2; simp [quiet]; omega
  simp only [go_sem, simprocAttr, hl, h0, h1, h2, h3, g1, g2, g3, n1, n2, n3, n4, TkC.l7, TkC.len, TkC.s7, hwv, hwsc, hld, hrd, bslice_wdT, happ, hkj, q1, q2, List.append_assoc, List.cons_append, List.nil_append]
  refine ⟨by rcases tg_or 8 e2 with h | h <;> rw [h] <;> kernel_rfl, ?_⟩
  obtain ⟨e', hlv, hce, hsto⟩ := leave_kpA (n := H.length + T.length) (b := H.length + j) (v := .tuple []) (H := H ++ List.set T2 j (.cells (TkC T0 i ln bg vo bl el (.slice (H.length + (T.length + 3)) 0 (ws.length + 1) (.op 0)) ve ins) 93 .rw)) (e1 := (((⟨none, some (H.length + T.length)⟩ : Ef).and ⟨none, some (H.length + (T.length + 1))⟩).and ⟨none, some (H.length + (T.length + 1))⟩).and e2) (by omega)
  refine ⟨(.slice (H.length + (T.length + 3)) 0 (ws.length + 1) (.op 0), _, e'), ⟨?_, ?_, hce H.length ?_, hsto, fun m h => (by obtain ⟨q, h⟩ := h; injection h with h1; omega), fun x y hx hnb hy => ?_⟩, hlv⟩
  ·exact List.getElem?_set_self (lt_of_get hkj)
  ·rw [← hwd]
   have := hG.set (x := .cells (TkC T0 i ln bg vo bl el (.slice (H.length + (T.length + 3)) 0 (ws.length + 1) (.op 0)) ve ins) 93 .rw) hkj
   simpa only [List.length_append, List.length_cons, List.length_nil] using this
  ·simp only [clean_andI, clean_sn, clean_ss, hcl2, and_true]; omega
  ·rw [List.getElem?_set_ne (Ne.symm hx)]
   exact hkp x y (get_app hy) (fun m n e => by rintro rfl; exact hnb ⟨n, e⟩)

def spC (op : List (Nat × Nat)) : List AV := op.flatMap fun x => [.int .i64 x.1, .int .i64 x.2]
theorem spC_len (op : List (Nat × Nat)) : (spC op).length = op.length * 2 := by
 induction op with
 | nil => rfl
 | cons x l ih => simp only [spC, List.flatMap_cons, List.length_append, List.length_cons, List.length_nil] at ih ⊢; omega
theorem spC_app (a b : List (Nat × Nat)) : spC (a ++ b) = spC a ++ spC b := by simp [spC]

def enC (es : List (En × AV)) : List AV := es.flatMap fun x => [.bool x.1.bl, .int .i64 (x.1.ln : Nat), x.2]
theorem enC_len (es : List (En × AV)) : (enC es).length = es.length * 3 := by
 induction es with
 | nil => rfl
 | cons x l ih => simp only [enC, List.flatMap_cons, List.length_append, List.length_cons, List.length_nil] at ih ⊢; omega
theorem enC_app (a b : List (En × AV)) : enC (a ++ b) = enC a ++ enC b := by simp [enC]
def Eo (H T : Hp) (ve : AV) (es : List (En × AV)) : Prop := GBuf H.length T ve 68 3 es.length (enC es) ∧ ∀ x ∈ es, x.1.ws ≠ [] ∧ GBuf H.length T x.2 63 4 x.1.ws.length (wcells x.1.ws)
theorem bslice_en (b : Bool) (l : Nat) (v : AV) (hv : scal v = true) (H : Hp) : evBuildSlice Tryz.prog 54 1 [(0, .agg [.bool b, .int .i64 l, v])] H = some (.slice H.length 0 1 (.ex 1), H ++ [.cells [.bool b, .int .i64 l, v] 68 .rw]) := by
 simp only [evBuildSlice, tsh_54, tzero_68, Option.bind_some]
 rfl
end Go.Proofs.YtdppgaphcmhffaaGreatDoor.V
namespace Go.Proofs.YtdppgaphcmhffaaGreatDoor.V
open Go
attribute [local irreducible] go goOps goD opK callK callT stepK leaveTo nextK jumpTo

theorem GBuf.lenW {n : Nat} {T : Hp} {v : AV} {ws : List Wd} (h : GBuf n T v 63 4 ws.length (wcells ws)) (H' : Hp) : evLen Tryz.prog 59 v H' = some (.int .i64 ws.length) := by
 obtain ⟨rfl, _, h3⟩ | ⟨_, _, m, rfl, _⟩ := h <;> simp only [evLen, tsh_59]
 rw [h3]; rfl
theorem GBuf.vc {n : Nat} {T : Hp} {v : AV} {e z len : Nat} {cs : List AV} (h : GBuf n T v e z len cs) : vcells v = [v] := by
 obtain ⟨rfl, _⟩ | ⟨_, _, m, rfl, _⟩ := h <;> rfl
theorem GBuf.ne {n : Nat} {T : Hp} {v : AV} {e z len : Nat} {cs : List AV} (h : GBuf n T v e z len cs) {m : Nat} {c : List AV} {e' : TypeId} {k : Kd} (hm : T[m]? = some (.cells c e' k)) (he : e' ≠ e) : ¬ bkT n v m := by
 rintro ⟨q, rfl⟩
 obtain ⟨h, _⟩ | ⟨_, _, m', h, hm'⟩ := h
 ·cases h
 ·have : m = m' := by injection h; omega
  rw [this, hm'] at hm
  simp at hm
  exact he hm.2.1.symm
theorem GBuf.nb {n : Nat} {T : Hp} {v : AV} {e z len : Nat} {cs : List AV} (h : GBuf n T v e z len cs) {e2 z2 l2 : Nat} {v2 : AV} {c2 : List AV} (h2 : GBuf n T v2 e2 z2 l2 c2) (he : e2 ≠ e) {m : Nat} (hm : bkT n v2 m) : ¬ bkT n v m := by
 obtain ⟨q, rfl⟩ := hm
 obtain ⟨h', _⟩ | ⟨_, _, m', h', hm'⟩ := h2
 ·cases h'
 ·have : m = m' := by injection h'; omega
  subst this
  exact h.ne hm' he
theorem GBuf.nrw {n : Nat} {T : Hp} {v : AV} {e z len : Nat} {cs : List AV} (h : GBuf n T v e z len cs) {m : Nat} {c : List AV} {e' : TypeId} (hm : T[m]? = some (.cells c e' .rw)) : ¬ bkT n v m := by
 rintro ⟨q, rfl⟩
 obtain ⟨h, _⟩ | ⟨_, _, m', h, hm'⟩ := h
 ·cases h
 ·have : m = m' := by injection h; omega
  rw [this, hm'] at hm
  simp at hm
theorem GBuf.fr {n : Nat} {T T' : Hp} {v : AV} {e z len : Nat} {cs : List AV} (h : GBuf n T v e z len cs) (hk : ∀ m y, bkT n v m → T[m]? = some y → T'[m]? = some y) : GBuf n T' v e z len cs := by
 obtain h | ⟨h1, h2, m, rfl, hm⟩ := h
 ·exact .inl h
 ·exact .inr ⟨h1, h2, m, rfl, hk m _ ⟨_, rfl⟩ hm⟩

set_option maxRecDepth 20000 in
theorem tok_close (H T : Hp) (j : Nat) (T0 : List UInt8) (i ln bg : Nat) (vo : AV) (bl : Bool) (el : Nat) (vw ve : AV) (ins : Bool) (ws : List Wd) (es : List (En × AV)) (hb : T[j]? = some (.cells (TkC T0 i ln bg vo bl el vw ve ins) 93 .rw))
  (hw : GBuf H.length T vw 63 4 ws.length (wcells ws)) (hE : Eo H T ve es) (hes : es.length ≤ 262144) :
  ∃ b : AV × Hp × Ef, (b.2.1[j]? = some (.cells (TkC T0 i ln bg vo false 0 .nils b.1 false) 93 .rw) ∧ Eo H b.2.1 b.1 (if ws = [] then es else es ++ [(⟨bl, el, ws⟩, vw)]) ∧ clean H.length b.2.2 ∧ ((ws = [] ∧ b.2.1.length ≤ T.length) ∨ Sto (H.length + j) b.2.2) ∧
   (∀ (x : Nat) y, x ≠ j → ¬ bkT H.length ve x → T[x]? = some y → b.2.1[x]? = some y)) ∧ ∀ k, callK Tryz.prog 70 [.ptr (H.length + j) 0] (H ++ T) k = k (.tuple [], H ++ b.2.1, b.2.2) := by
 have hlt := lt_of_get hb
 have hlen := hw.lenW
 have hbz : evBuild Tryz.prog 68 [] = some (.agg [.bool false, .int .i64 0, .nils]) := by kernel_rfl
 have hs5 : ∀ (vo : AV) (bl : Bool) (el : Nat) (vw ve : AV) (ins : Bool), splice (TkC T0 i ln bg vo bl el vw ve ins) 5 [.bool false, .int .i64 0, .nils] = TkC T0 i ln bg vo false 0 .nils ve ins := fun _ _ _ _ _ _ => rfl
 refine callK_exP (fun b : AV × Hp × Ef => _) (fun b => (.tuple [], H ++ b.2.1, b.2.2)) ?_
 refine callK_start (n := 29) (rs := []) Tryz.func70 rfl rfl rfl ?_
 intro σ hl ha
 have h0 := ha 0 (by simp)
 clear ha
 simp only [Option.getD_some, List.getElem?_cons_zero, List.getElem?_cons_succ] at h0
 by_cases hws : ws = []
 ·subst hws
  have hd0 : decide ((([] : List Wd).length : Int) > 0) = false := by simp
  have hg2 : ∀ y, (T.set j y)[j]? = some y := fun y => List.getElem?_set_self hlt
  simp only [go_sem, simprocAttr, hl, h0, hb, TkC.l7, hlen, hd0, hbz, hs5, TkC.len, TkC.s9, hg2, List.set_set]
  have hcl : clean H.length (⟨none, some (H.length + j)⟩ : Ef) := by simp [clean, low]
  refine ⟨(ve, T.set j (.cells (TkC T0 i ln bg vo false 0 .nils ve false) 93 .rw), _), ⟨hg2 _, ⟨hE.1.set hb, fun x hx => ⟨(hE.2 x hx).1, (hE.2 x hx).2.set hb⟩⟩, clean_leave (n := H.length) (m := H.length + T.length) (e := (⟨none, some (H.length + j)⟩ : Ef)) hcl, .inl (by simp), fun x y hx _ hy => ?_⟩, ?_⟩
  ·rw [List.getElem?_set_ne (Ne.symm hx)]; exact hy
  ·unfold leave
   congr 2
   split
   ·rw [List.take_of_length_le (by simp)]
   ·rfl
 ·have hd1 : decide ((ws.length : Int) > 0) = true := by have : 0 < ws.length := List.length_pos_iff.2 hws; simp; omega
  have hwsc := hw.scl
  obtain ⟨x, hx⟩ : ∃ x : List AV, x = [.bool bl, .int .i64 el, vw] := ⟨_, rfl⟩
  have hl5 : ldC 5 3 true (.cells (TkC T0 i ln bg vo bl el vw ve ins) 93 .rw) = some (.agg x) := by rw [hx]; rfl
  have hbs : ∀ H, evBuildSlice Tryz.prog 54 1 [(0, .agg x)] H = some (.slice H.length 0 1 (.ex 1), H ++ [.cells x 68 .rw]) := by rw [hx]; exact bslice_en bl el vw hwsc
  have hrd : rdC 0 3 (.cells x 68 .rw) = some x := by rw [hx]; rfl
  have n1 : ∀ y, (T ++ [y])[T.length]? = some y := fun y => by simp
  have g1 : ∀ y, (T ++ [y])[j]? = some (.cells (TkC T0 i ln bg vo bl el vw ve ins) 93 .rw) := fun y => get_app hb
  obtain ⟨T2, e2, happ, hlen2, hcl2, hkp, hnew, hG⟩ := (hE.1.more [.cells x 68 .rw]).app3 (P := Tryz.prog) (b := 40) (by decide) zok_54 x 1 (by decide) (by rw [hx]; rfl) (by rw [hx]; simp only [List.all_cons, hwsc, List.all_nil, Bool.and_true]; rfl) (by simp only [fits, decide_eq_true_eq]; omega)
  have hmj : ∀ m n, ve = .slice (H.length + m) 0 n (.op 0) → j ≠ m := by
   rintro m n e rfl
   exact hE.1.ne hb (by decide) ⟨n, e⟩
  have hkj := hkp j _ (get_app hb) hmj
  have q1 : ∀ (v : AV) (e : Ef) (A : ABlk), quiet (v, H ++ (T ++ [A]), e) (H ++ T) = false := by intro v e A; simp [quiet]
  have q2 : ∀ (v : AV) (e : Ef) (A : ABlk), quiet (v, H ++ T2, e) (H ++ (T ++ [A])) = false := by intro v e A; simp only [List.length_append, List.length_cons, List.length_nil] at hlen2; simp [quiet]; omega
  have hvv := hE.1.vc
  have hg2 : ∀ y, (T2.set j y)[j]? = some y := fun y => List.getElem?_set_self (lt_of_get hkj)
  simp only [go_sem, simprocAttr, hl, h0, hb, TkC.l7, hlen, hd1]
  refine go_drawZ tFollows (by kernel_rfl) ?_
  simp only [go_sem, simprocAttr, hl, h0, hb, TkC.l8, hl5, hvv, hbs, hrd, n1, g1, happ, hkj, q1, q2, TkC.len, TkC.s8, List.append_assoc, List.cons_append, List.nil_append, hg2, hbz, hs5, TkC.s9, List.set_set]
  refine ⟨by rcases tg_or 10 e2 with h | h <;> rw [h] <;> kernel_rfl, ?_⟩
  obtain ⟨y, hy⟩ : ∃ y : ABlk, y = .cells (TkC T0 i ln bg vo false 0 .nils (.slice (H.length + (T.length + 1)) 0 (es.length + 1) (.op 0)) false) 93 .rw := ⟨_, rfl⟩
  obtain ⟨e', hlv, hce, hsto⟩ := leave_kpA (n := H.length + T.length) (b := H.length + j) (v := .tuple []) (H := H ++ List.set T2 j y) (e1 := e2) (by omega)
  have hnn : (⟨none, some (H.length + j)⟩ : Ef).and ⟨none, some (H.length + j)⟩ = ⟨none, some (H.length + j)⟩ := by simp [Ef.and, omin]
  rw [Ef.and_assoc, Ef.and_assoc, hnn, and_ew, ← hy, hlv]
  have kp : ∀ (v : AV) (ws : List Wd), GBuf H.length T v 63 4 ws.length (wcells ws) → GBuf H.length (T2.set j y) v 63 4 ws.length (wcells ws) := by
   intro v ws h
   refine h.fr (fun m z hm hz => ?_)
   have hne : j ≠ m := fun hjm => h.ne (hjm ▸ hb) (by decide) hm
   rw [List.getElem?_set_ne hne]
   exact hkp m z (get_app hz) (fun m' n e => by rintro rfl; exact hE.1.nb h (by decide) hm ⟨n, e⟩)
  refine ⟨(.slice (H.length + (T.length + 1)) 0 (es.length + 1) (.op 0), T2.set j y, e'), ⟨?_, ⟨?_, ?_⟩, hce H.length ?_, .inr hsto, fun x z hxj hnb hz => ?_⟩, rfl⟩
  ·rw [hy]; exact hg2 _
  ·have hen : enC [((⟨bl, el, ws⟩ : En), vw)] = x := by rw [hx]; rfl
   rw [if_neg hws, enC_app, List.length_append, List.length_singleton, hen]
   have := hG.set (x := y) hkj
   simpa only [List.length_append, List.length_cons, List.length_nil, Nat.zero_add] using this
  ·rw [if_neg hws]
   intro x hx
   rcases List.mem_append.1 hx with hx | hx
   ·exact ⟨(hE.2 x hx).1, kp _ _ (hE.2 x hx).2⟩
   ·rw [List.mem_singleton.1 hx]
    exact ⟨hws, kp _ _ hw⟩
  ·simp only [clean_andI, clean_ss, hcl2, true_and]; omega
  ·show (T2.set j y)[x]? = some z
   rw [List.getElem?_set_ne (Ne.symm hxj)]
   exact hkp x z (get_app hz) (fun m n e => by rintro rfl; exact hnb ⟨n, e⟩)

def Oo (n : Nat) (T : Hp) (v : AV) (op : List (Nat × Nat)) : Prop := (v = .nils ∧ op = []) ∨ ∃ m r, v = .slice (n + m) 0 op.length (.op 0) ∧ T[m]? = some (.cells (spC op ++ spC r) 38 (.op 0 false)) ∧ 0 < op.length + r.length
theorem Oo.len {n : Nat} {T : Hp} {v : AV} {op : List (Nat × Nat)} (h : Oo n T v op) (H' : Hp) : evLen Tryz.prog 91 v H' = some (.int .i64 op.length) := by
 obtain ⟨rfl, rfl⟩ | ⟨m, r, rfl, _⟩ := h <;> simp only [evLen, tsh_91]
 rfl
theorem Oo.scl {n : Nat} {T : Hp} {v : AV} {op : List (Nat × Nat)} (h : Oo n T v op) : scal v = true ∧ vcells v = [v] := by
 obtain ⟨rfl, rfl⟩ | ⟨m, r, rfl, _⟩ := h <;> exact ⟨rfl, rfl⟩
theorem Oo.ne {n : Nat} {T : Hp} {v : AV} {op : List (Nat × Nat)} (h : Oo n T v op) {m : Nat} {c : List AV} {e' : TypeId} {k : Kd} (hm : T[m]? = some (.cells c e' k)) (he : e' ≠ 38) : ¬ bkT n v m := by
 rintro ⟨q, rfl⟩
 obtain ⟨h, _⟩ | ⟨m', r, h, hm', _⟩ := h
 ·cases h
 ·have : m = m' := by injection h; omega
  rw [this, hm'] at hm
  simp at hm
  exact he hm.2.1.symm
theorem Oo.fr {n : Nat} {T T' : Hp} {v : AV} {op : List (Nat × Nat)} (h : Oo n T v op) (hk : ∀ m y, bkT n v m → T[m]? = some y → T'[m]? = some y) : Oo n T' v op := by
 obtain h | ⟨m, r, rfl, hm, hr⟩ := h
 ·exact .inl h
 ·exact .inr ⟨m, r, rfl, hk m _ ⟨_, rfl⟩ hm, hr⟩
theorem Oo.nb {n : Nat} {T : Hp} {v : AV} {op : List (Nat × Nat)} (h : Oo n T v op) {e z len : Nat} {v2 : AV} {c2 : List AV} (h2 : GBuf n T v2 e z len c2) (he : e ≠ 38) {m : Nat} (hm : bkT n v m) : ¬ bkT n v2 m := by
 intro hm2
 obtain ⟨q, rfl⟩ := hm2
 obtain ⟨h', _⟩ | ⟨_, _, m', h', hm'⟩ := h2
 ·cases h'
 ·have : m = m' := by injection h'; omega
  subst this
  exact h.ne hm' he hm

set_option maxRecDepth 20000 in
theorem tok_ended (H T : Hp) (j : Nat) (T0 : List UInt8) (i ln bg : Nat) (vo : AV) (bl : Bool) (el : Nat) (vw ve : AV) (ins : Bool) (op : List (Nat × Nat)) (ws : List Wd) (es : List (En × AV)) (hb : T[j]? = some (.cells (TkC T0 i ln bg vo bl el vw ve ins) 93 .rw))
  (hO : Oo H.length T vo op) (hw : GBuf H.length T vw 63 4 ws.length (wcells ws)) (hE : Eo H T ve es) (hes : es.length ≤ 262144) (hln : ln ≤ 262144) :
  ∃ b : AV × Hp × Ef, ((if op = [] then b.2.1[j]? = some (.cells (TkC T0 i (ln + 1) i vo false 0 .nils b.1 false) 93 .rw) ∧ Eo H b.2.1 b.1 (if ws = [] then es else es ++ [(⟨bl, el, ws⟩, vw)]) else b.2.1[j]? = some (.cells (TkC T0 i (ln + 1) i vo bl el vw ve ins) 93 .rw) ∧ b.1 = ve ∧ Eo H b.2.1 ve es) ∧ clean H.length b.2.2 ∧ (((ws = [] ∨ op ≠ []) ∧ b.2.1.length ≤ T.length) ∨ Sto (H.length + j) b.2.2) ∧
   (∀ (x : Nat) y, x ≠ j → ¬ bkT H.length ve x → T[x]? = some y → b.2.1[x]? = some y)) ∧ ∀ k, callK Tryz.prog 67 [.ptr (H.length + j) 0] (H ++ T) k = k (.tuple [], H ++ b.2.1, b.2.2) := by
 have hlt := lt_of_get hb
 have hlen := hO.len
 obtain ⟨T1, hT1⟩ : ∃ T1, T1 = T.set j (.cells (TkC T0 i (ln + 1) i vo bl el vw ve ins) 93 .rw) := ⟨_, rfl⟩
 have hg2 : ∀ y, (T.set j y)[j]? = some y := fun y => List.getElem?_set_self hlt
 have hb1 : T1[j]? = some (.cells (TkC T0 i (ln + 1) i vo bl el vw ve ins) 93 .rw) := by rw [hT1]; exact hg2 _
 have w1 := wrap_succ (show ln < 9223372036854775807 by omega)
 refine callK_exP (fun b : AV × Hp × Ef => _) (fun b => (.tuple [], H ++ b.2.1, b.2.2)) ?_
 refine callK_start (n := 24) (rs := []) Tryz.func67 rfl rfl rfl ?_
 intro σ hl ha
 have h0 := ha 0 (by simp)
 clear ha
 simp only [Option.getD_some, List.getElem?_cons_zero, List.getElem?_cons_succ] at h0
 by_cases hop : op = []
 ·obtain ⟨b, ⟨c1, c2, c3, c5, c4⟩, hc⟩ := tok_close H T1 j T0 i (ln + 1) i vo bl el vw ve ins ws es hb1 (hT1 ▸ hw.set hb) (hT1 ▸ ⟨hE.1.set hb, fun x hx => ⟨(hE.2 x hx).1, (hE.2 x hx).2.set hb⟩⟩) hes
  subst hop
  have hz : ((([] : List (Nat × Nat)).length : Int) == 0) = true := rfl
  simp only [go_sem, simprocAttr, hl, h0, hb, TkC.l1, TkC.l2, TkC.l4, hlen, hz, TkC.len, TkC.s2, TkC.s3, hg2, hb1, List.set_set, w1, ← hT1, hc]
  have hcl : clean H.length (⟨none, some (H.length + j)⟩ : Ef) := by simp [clean, low]
  have hT1l : T1.length = T.length := by rw [hT1]; simp
  have hlv : leave (H.length + T.length) (.tuple []) (H ++ b.2.1) ((⟨none, some (H.length + j)⟩ : Ef).and b.2.2) = (.tuple [], H ++ b.2.1, ⟨low (H.length + T.length) ((⟨none, some (H.length + j)⟩ : Ef).and b.2.2).es, low (H.length + T.length) ((⟨none, some (H.length + j)⟩ : Ef).and b.2.2).ws⟩) := by
   rcases c5 with h | h
   ·exact leave_lenA (by rw [List.length_append]; omega)
   ·exact (h.r _).leave (by omega)
  refine ⟨(b.1, b.2.1, ⟨low (H.length + T.length) ((⟨none, some (H.length + j)⟩ : Ef).and b.2.2).es, low (H.length + T.length) ((⟨none, some (H.length + j)⟩ : Ef).and b.2.2).ws⟩), ⟨⟨c1, c2⟩, clean_leave (clean_andI.2 ⟨hcl, c3⟩), ?_, fun x y hx hnb hy => ?_⟩, hlv⟩
  ·rcases c5 with h | h
   ·exact .inl ⟨.inl h.1, by show b.2.1.length ≤ T.length; omega⟩
   ·exact .inr ((h.r _).low (by omega))
  ·exact c4 x y hx hnb (by rw [hT1, List.getElem?_set_ne (Ne.symm hx)]; exact hy)
 ·have hz : ((op.length : Int) == 0) = false := by have := List.length_pos_iff.2 hop; rw [beq_eq_false_iff_ne]; omega
  simp only [go_sem, simprocAttr, hl, h0, hb, TkC.l1, TkC.l2, TkC.l4, hlen, hz, TkC.len, TkC.s2, TkC.s3, hg2, hb1, List.set_set, w1, ← hT1]
  have hcl : clean H.length (⟨none, some (H.length + j)⟩ : Ef) := by simp [clean, low]
  have hT1l : T1.length = T.length := by rw [hT1]; simp
  refine ⟨(ve, T1, _), ⟨by rw [if_neg hop]; exact ⟨hb1, rfl, by show Eo H T1 ve es; rw [hT1]; exact ⟨hE.1.set hb, fun x hx => ⟨(hE.2 x hx).1, (hE.2 x hx).2.set hb⟩⟩⟩, clean_leave hcl, .inl ⟨.inr hop, by show T1.length ≤ T.length; omega⟩, fun x y hx hnb hy => ?_⟩, leave_lenA (by rw [List.length_append]; omega)⟩
  show T1[x]? = some y
  rw [hT1, List.getElem?_set_ne (Ne.symm hx)]; exact hy
end Go.Proofs.YtdppgaphcmhffaaGreatDoor.V
namespace Go.Proofs.YtdppgaphcmhffaaGreatDoor.V
open Go
attribute [local irreducible] go goOps goD opK callK callT stepK leaveTo nextK jumpTo

theorem Oo.pop {H T : Hp} {v : AV} {op : List (Nat × Nat)} (h : Oo H.length T v op) (hne : op ≠ []) : ∃ v', (∀ kk, slK Tryz.prog 91 v none (some (.int .i64 (op.length - 1 : Nat))) none (H ++ T) kk = kk (v', H ++ T, z0)) ∧ Oo H.length T v' op.dropLast ∧ flat v' = false ∧ (∀ m, bkT H.length v' m → bkT H.length v m) := by
 obtain ⟨_, rfl⟩ | ⟨m, r, rfl, hm, hr⟩ := h
 ·exact absurd rfl hne
 ·have hpos := List.length_pos_iff.2 hne
  refine ⟨.slice (H.length + m) 0 (op.length - 1) (.op 0), fun kk => ?_, .inr ⟨m, op.getLast hne :: r, by rw [List.length_dropLast], ?_, by simp; omega⟩, rfl, ?_⟩
  ·rw [slK_op (by rw [tsh_91]; rfl), tsh_91, bindK_some, hp_new, hm, bindK_some, knC_c, if_pos ⟨rfl, by decide, rfl⟩, bindK_some, bnd_nh]
   have hl : ((spC op ++ spC r).length - 0) / 2 = op.length + r.length := by rw [List.length_append, spC_len, spC_len]; omega
   rw [hl]
   have q1 : ((0 : Int) ≤ ((op.length - 1 : Nat) : Int) ∧ ((op.length - 1 : Nat) : Int) ≤ ((op.length + r.length : Nat) : Int)) = True := eq_true ⟨by omega, by omega⟩
   have d0 : decide ((0 : Nat) = 0 ∨ 0 < op.length + r.length) = true := decide_eq_true (.inl rfl)
   rw [q1, true_and, d0, guardK_tt]
   simp only [shZ_s]
   simp
  ·rw [hm]
   congr 2
   have e : spC op = spC op.dropLast ++ spC [op.getLast hne] := by rw [← spC_app, List.dropLast_concat_getLast hne]
   rw [e, List.append_assoc, ← spC_app, List.singleton_append]
  ·rintro x ⟨q, h⟩
   injection h with h1
   exact ⟨_, by rw [show m = x by omega]⟩

theorem Oo.app {H T : Hp} {v : AV} {op : List (Nat × Nat)} (h : Oo H.length T v op) (x : Nat × Nat) (hf : fits (op.length + 1) 16 = true) :
  ∃ v' T2 e2, (∀ kk, stepK (appTo Tryz.prog (.slice 38 2 16) v ([.int .i64 x.1, .int .i64 x.2], 1) (H ++ T)) kk = kk (v', H ++ T2, e2)) ∧ T.length ≤ T2.length ∧ clean H.length e2 ∧ (∀ (i : Nat) y, ¬ bkT H.length v i → T[i]? = some y → T2[i]? = some y) ∧ Oo H.length T2 v' (op ++ [x]) ∧ flat v' = false ∧ (∀ w, quiet (w, H ++ T2, e2) (H ++ T) = false) ∧ (∀ i, bkT H.length v' i → bkT H.length v i ∨ T.length ≤ i) := by
 have zk := zok_91
 obtain ⟨rfl, rfl⟩ | ⟨m, r, rfl, hm, hr⟩ := h
 ·refine ⟨.slice (H.length + T.length) 0 1 (.op 0), T ++ [.cells [.int .i64 x.1, .int .i64 x.2] 38 (.op 0 false)], z0, fun kk => ?_, by simp, by simp [clean, z0, low], fun i y _ hy => get_app hy, .inr ⟨T.length, [], rfl, by simp [spC], by simp⟩, rfl, fun w => by simp [quiet], ?_⟩
  ·rw [appTo_nils (by decide) zk]
   have hd : decide ((1 : Nat) = 0) = false := by decide
   have hf : fits 1 16 = true := by simpa using hf
   simp only [hd, guardK_ft, hf, true_and, List.length_append, List.append_assoc]
  ·rintro i ⟨q, h⟩
   injection h with h1
   exact .inr (by omega)
 ·have hlt := lt_of_get hm
  have hg : (H ++ T)[H.length + m]? = some (.cells (spC op ++ spC r) 38 (.op 0 false)) := by rw [hp_new, hm]
  have hlen : (spC op ++ spC r).length = (op.length + r.length) * 2 := by rw [List.length_append, spC_len, spC_len]; omega
  cases r with
  | nil =>
   refine ⟨.slice (H.length + T.length) 0 (op.length + 1) (.op 0), T.set m .dead ++ [.cells (spC op ++ [.int .i64 x.1, .int .i64 x.2]) 38 (.op 0 false)], ⟨none, some (H.length + m)⟩, fun kk => ?_, by simp, by simp [clean, low], fun i y hi hy => ?_, .inr ⟨T.length, [], by simp, ?_, by simp⟩, rfl, fun w => by simp [quiet], ?_⟩
   ·rw [appTo_op (by decide) zk, hg, bindK_some, appO_c]
    have hd : decide (0 + (op.length + 1) * 2 ≤ (spC op ++ spC []).length) = false := by rw [hlen]; simp
    have hk : ((spC op ++ spC []).drop 0).take (op.length * 2) = spC op := by
     have : spC [] = [] := rfl
     rw [this, List.append_nil, List.drop_zero, ← spC_len, List.take_length]
    have hle : 0 + op.length * 2 ≤ (spC op ++ spC []).length := by rw [hlen]; simp
    have hsc : ([.int .i64 x.1, .int .i64 x.2] : List AV).all scal = true := rfl
    simp only [hd, guardK_ft, hk, hf, hle, hsc]
    simp [hp_set]
   ·exact get_app (by rw [List.getElem?_set_ne (by rintro rfl; exact hi ⟨_, rfl⟩)]; exact hy)
   ·rw [List.getElem?_append_right (by simp), spC_app]; simp [spC]
   ·rintro i ⟨q, h⟩
    injection h with h1
    exact .inr (by omega)
  | cons y r =>
   refine ⟨.slice (H.length + m) 0 (op.length + 1) (.op 0), T.set m (.cells (spC (op ++ [x]) ++ spC r) 38 (.op 0 false)), ⟨none, some (H.length + m)⟩, fun kk => ?_, by simp, by simp [clean, low], fun i z hi hz => ?_, .inr ⟨m, r, by simp, List.getElem?_set_self hlt, by simp; omega⟩, rfl, fun w => by simp [quiet], ?_⟩
   ·rw [appTo_op (by decide) zk, hg, bindK_some, appO_c]
    have hd : decide (0 + (op.length + 1) * 2 ≤ (spC op ++ spC (y :: r)).length) = true := by rw [hlen]; simp; omega
    have hle : 0 + op.length * 2 ≤ (spC op ++ spC (y :: r)).length := by rw [hlen]; simp; omega
    have hsp : splice (spC op ++ spC (y :: r)) (0 + op.length * 2) [.int .i64 x.1, .int .i64 x.2] = spC (op ++ [x]) ++ spC r := by
     unfold splice
     have e1 : (spC op ++ spC (y :: r)).take (0 + op.length * 2) = spC op := by rw [Nat.zero_add, ← spC_len, List.take_left]
     have e2 : (spC op ++ spC (y :: r)).drop (0 + op.length * 2 + ([.int .i64 x.1, .int .i64 x.2] : List AV).length) = spC r := by
      rw [← List.drop_drop, Nat.zero_add, ← spC_len, List.drop_left]; rfl
     rw [e1, e2, spC_app]; rfl
    have hwr : wr (H ++ T) (H.length + m) (0 + op.length * 2) [.int .i64 x.1, .int .i64 x.2] = some (H ++ T.set m (.cells (spC (op ++ [x]) ++ spC r) 38 (.op 0 false)), ⟨none, some (H.length + m)⟩) := by
     unfold wr
     rw [hg]
     simp only []
     rw [if_pos ⟨by rw [hlen]; simp; omega, by simp [canWr], rfl⟩, hsp, hp_set]
     rfl
    simp only [hd, guardK_tt, hwr, bindK_some, hle]
    simp
   ·rw [List.getElem?_set_ne (by rintro rfl; exact hi ⟨_, rfl⟩)]; exact hz
   ·rintro i ⟨q, h⟩
    injection h with h1
    exact .inl ⟨_, by rw [show m = i by omega]⟩
theorem Oo.nrw {n : Nat} {T : Hp} {v : AV} {op : List (Nat × Nat)} (h : Oo n T v op) {m : Nat} {c : List AV} {e' : TypeId} (hm : T[m]? = some (.cells c e' .rw)) : ¬ bkT n v m := by
 rintro ⟨q, rfl⟩
 obtain ⟨h, _⟩ | ⟨m', r, h, hm', _⟩ := h
 ·cases h
 ·have : m = m' := by injection h; omega
  rw [this, hm'] at hm
  simp at hm
theorem Eo.fr {H T T' : Hp} {v : AV} {es : List (En × AV)} (h : Eo H T v es) (hk : ∀ m y, (bkT H.length v m ∨ ∃ x ∈ es, bkT H.length x.2 m) → T[m]? = some y → T'[m]? = some y) : Eo H T' v es :=
 ⟨h.1.fr (fun m y hm hy => hk m y (.inl hm) hy), fun x hx => ⟨(h.2 x hx).1, (h.2 x hx).2.fr (fun m y hm hy => hk m y (.inr ⟨x, hx, hm⟩) hy)⟩⟩
theorem bslice_sp (a b : Int) (H : Hp) : evBuildSlice Tryz.prog 91 1 [(0, .agg [.int .i64 a, .int .i64 b])] H = some (.slice H.length 0 1 (.ex 1), H ++ [.cells [.int .i64 a, .int .i64 b] 38 .rw]) := by
 simp only [evBuildSlice, tsh_91, tzero_38, Option.bind_some]
 rfl

theorem drop_c {t : List UInt8} {a : Nat} {c : UInt8} (h : t[a]? = some c) : t.drop a = c :: t.drop (a + 1) := by
 have hl := (List.getElem?_eq_some_iff.1 h).1
 rw [List.drop_eq_getElem_cons hl]; congr 1; rw [List.getElem?_eq_getElem hl] at h; exact Option.some.inj h
theorem take_c {t : List UInt8} {i a : Nat} {c : UInt8} (hi : i ≤ a) (h : t[a]? = some c) : (t.drop i).take (a + 1 - i) = (t.drop i).take (a - i) ++ [c] := by
 rw [show a + 1 - i = (a - i) + 1 by omega, List.take_add_one, List.getElem?_drop, show i + (a - i) = a by omega, h]; rfl
theorem quo_c (c : UInt8) (r : List UInt8) : quoS (c :: r) = if c = 10 then none else if c = 34 then some ([], r) else if c = 92 then (match r with
   | [] => none
   | d :: r' => if d = 10 then none else (quoS r').map fun x => (c :: d :: x.1, x.2)) else (quoS r).map fun x => (c :: x.1, x.2) := by
 conv => lhs; rw [quoS.eq_def]
 rfl
theorem quo_10 (r : List UInt8) : quoS (10 :: r) = none := by rw [quo_c, if_pos rfl]
theorem quo_e : quoS [] = none := by rw [quoS.eq_def]
def QuA (t : List UInt8) (i a : Nat) : Prop := quoS (t.drop i) = (quoS (t.drop a)).map fun x => ((t.drop i).take (a - i) ++ x.1, x.2)
theorem QuA.refl (t : List UInt8) (i : Nat) : QuA t i i := by
 unfold QuA
 cases quoS (t.drop i) <;> simp
theorem QuA.one {t : List UInt8} {i a : Nat} {c : UInt8} (h : QuA t i a) (hi : i ≤ a) (hc : t[a]? = some c) (h10 : c ≠ 10) (h34 : c ≠ 34) (hb : c = 92 → t[a + 1]? = none ∨ t[a + 1]? = some 10) : QuA t i (a + 1) := by
 unfold QuA at h ⊢
 rw [h, take_c hi hc, drop_c hc]
 by_cases c92 : c = 92
 ·subst c92
  rcases hb rfl with h' | h'
  ·have : t.drop (a + 1) = [] := List.drop_eq_nil_of_le (by have := List.getElem?_eq_none_iff.1 h'; omega)
   rw [this, quo_c, if_neg (by decide), if_neg (by decide), if_pos rfl, quo_e]; rfl
  ·rw [drop_c h', quo_10, quo_c, if_neg (by decide), if_neg (by decide), if_pos rfl]; rfl
 ·rw [quo_c, if_neg h10, if_neg h34, if_neg c92]
  cases quoS (t.drop (a + 1)) <;> simp
theorem QuA.two {t : List UInt8} {i a : Nat} {d : UInt8} (h : QuA t i a) (hi : i ≤ a) (hc : t[a]? = some 92) (hd : t[a + 1]? = some d) (h10 : d ≠ 10) : QuA t i (a + 2) := by
 unfold QuA at h ⊢
 rw [h, take_c (by omega) hd, take_c hi hc, drop_c hc, drop_c hd]
 have : quoS (92 :: d :: t.drop (a + 1 + 1)) = (quoS (t.drop (a + 1 + 1))).map fun x => (92 :: d :: x.1, x.2) := by
  rw [quo_c, if_neg (by decide), if_neg (by decide), if_pos rfl]
  simp only [if_neg h10]
 rw [this]
 cases quoS (t.drop (a + 1 + 1)) <;> simp
theorem QuA.bad {t : List UInt8} {i a : Nat} (h : QuA t i a) (hb : t[a]? = none ∨ t[a]? = some 10) : quoS (t.drop i) = none := by
 unfold QuA at h
 rw [h]
 rcases hb with h' | h'
 ·have : t.drop a = [] := List.drop_eq_nil_of_le (by have := List.getElem?_eq_none_iff.1 h'; omega)
  rw [this, quo_e]; rfl
 ·rw [drop_c h', quo_10]; rfl
theorem QuA.fin {t : List UInt8} {i a : Nat} (h : QuA t i a) (hb : t[a]? = some 34) : quoS (t.drop i) = some ((t.drop i).take (a - i), t.drop (a + 1)) := by
 unfold QuA at h
 rw [h, drop_c hb]
 rw [quo_c, if_neg (by decide), if_pos rfl]
 simp

theorem bare_c (c : UInt8) (r : List UInt8) : bareS (c :: r) = if isSt c then ([], c :: r) else if c = 92 then (match r with
   | [] => ([c], [])
   | d :: r' => if d = 10 then (c :: (bareS (d :: r')).1, (bareS (d :: r')).2) else (c :: d :: (bareS r').1, (bareS r').2)) else (c :: (bareS r).1, (bareS r).2) := by
 conv => lhs; rw [bareS.eq_def]
 rfl
theorem bare_e : bareS [] = ([], []) := by rw [bareS.eq_def]
def BaA (t : List UInt8) (i a : Nat) : Prop := bareS (t.drop i) = ((t.drop i).take (a - i) ++ (bareS (t.drop a)).1, (bareS (t.drop a)).2)
theorem BaA.refl (t : List UInt8) (i : Nat) : BaA t i i := by unfold BaA; simp
theorem BaA.one {t : List UInt8} {i a : Nat} {c : UInt8} (h : BaA t i a) (hi : i ≤ a) (hc : t[a]? = some c) (hs : isSt c = false) (hb : c = 92 → t[a + 1]? = none ∨ t[a + 1]? = some 10) : BaA t i (a + 1) := by
 unfold BaA at h ⊢
 have e : bareS (t.drop a) = (c :: (bareS (t.drop (a + 1))).1, (bareS (t.drop (a + 1))).2) := by
  rw [drop_c hc, bare_c, hs, if_neg (by decide)]
  by_cases c92 : c = 92
  ·rw [if_pos c92]
   rcases hb c92 with h' | h'
   ·have : t.drop (a + 1) = [] := List.drop_eq_nil_of_le (by have := List.getElem?_eq_none_iff.1 h'; omega)
    rw [this, bare_e]
   ·rw [drop_c h']; rfl
  ·rw [if_neg c92]
 rw [h, take_c hi hc, e]
 simp
theorem BaA.two {t : List UInt8} {i a : Nat} {d : UInt8} (h : BaA t i a) (hi : i ≤ a) (hc : t[a]? = some 92) (hd : t[a + 1]? = some d) (h10 : d ≠ 10) : BaA t i (a + 2) := by
 unfold BaA at h ⊢
 have e : bareS (t.drop a) = (92 :: d :: (bareS (t.drop (a + 1 + 1))).1, (bareS (t.drop (a + 1 + 1))).2) := by
  rw [drop_c hc, drop_c hd, bare_c, show isSt 92 = false from rfl, if_neg (by decide), if_pos rfl]
  simp only [if_neg h10]
 rw [h, take_c (by omega) hd, take_c hi hc, e]
 simp
theorem BaA.fin {t : List UInt8} {i a : Nat} (h : BaA t i a) (hb : t[a]? = none ∨ ∃ c, t[a]? = some c ∧ isSt c = true) : bareS (t.drop i) = ((t.drop i).take (a - i), t.drop a) := by
 unfold BaA at h
 rw [h]
 rcases hb with h' | ⟨c, h', hs⟩
 ·have : t.drop a = [] := List.drop_eq_nil_of_le (List.getElem?_eq_none_iff.1 h')
  rw [this, bare_e]; simp
 ·rw [drop_c h', bare_c, hs, if_pos rfl]; simp
end Go.Proofs.YtdppgaphcmhffaaGreatDoor.V
namespace Go.Proofs.YtdppgaphcmhffaaGreatDoor.V
open Go
attribute [local irreducible] go goOps goD opK callK callT stepK leaveTo nextK jumpTo
attribute [-go_sem] jumpTo_scope jumpIn_some jumpIn_none go_label

def TI (H T00 : Hp) (j : Nat) (t : List UInt8) (i ln bg : Nat) (op : List (Nat × Nat)) (cur : Option En) (es : List (En × AV)) (T : Hp) (e : Ef) : Prop :=
 ∃ vo bl el vw ve ins ws, T[j]? = some (.cells (TkC t i ln bg vo bl el vw ve ins) 93 .rw) ∧ Oo H.length T vo op ∧ GBuf H.length T vw 63 4 ws.length (wcells ws) ∧ Eo H T ve es ∧
  (∀ x ∈ es, ∀ m, bkT H.length x.2 m → ¬ bkT H.length vw m) ∧ ((ins = true ∧ cur = some ⟨bl, el, ws⟩) ∨ (ins = false ∧ cur = none ∧ vw = .nils ∧ ws = [])) ∧
  i ≤ t.length ∧ bg ≤ i ∧ ln ≤ i + 1 ∧ ws.length ≤ i ∧ es.length ≤ i ∧ op.length ≤ i ∧ clean H.length e ∧ (Sto (H.length + j) e ∨ (vo = .nils ∧ vw = .nils ∧ ve = .nils)) ∧
  T00.length ≤ T.length ∧ (∀ x c e', x ≠ j → T00[x]? = some (.cells c e' .rw) → T[x]? = some (.cells c e' .rw))

def TZ (H T00 : Hp) (j : Nat) (t : List UInt8) (r : TR) (v : AV) (T : Hp) (e : Ef) : Prop :=
 clean H.length e ∧ T00.length ≤ T.length ∧ (∀ x c e', x ≠ j → T00[x]? = some (.cells c e' .rw) → T[x]? = some (.cells c e' .rw)) ∧
 match r with
 | .bad l c n => v = .tuple [.agg [.int .i64 (l : Nat), .int .i64 (c : Nat)], .int .i64 (n : Nat)]
 | .ok l => v = .tuple [.agg [.int .i64 0, .int .i64 0], .int .i64 0] ∧ ∃ i ln bg vo bl el vw ve ins es, T[j]? = some (.cells (TkC t i ln bg vo bl el vw ve ins) 93 .rw) ∧ Eo H T ve es ∧ es.map (·.1) = l

theorem leave_two {H T : Hp} {n b : Nat} {v : AV} {e : Ef} (hn : n ≤ T.length) : ∃ T' e', leave (H.length + n) v (H ++ T) e = (v, H ++ T', e') ∧ n ≤ T'.length ∧ (∀ x, x < n → T'[x]? = T[x]?) ∧ (Sto b e → b < H.length + n → T' = T) ∧ (clean H.length e → clean H.length e') := by
 by_cases hc : flat v = true ∧ low (H.length + n) e.es = none
 ·refine ⟨T.take n, ⟨low (H.length + n) e.es, low (H.length + n) e.ws⟩, ?_, by simp; omega, fun x hx => by rw [List.getElem?_take_of_lt hx], fun hs hb => ?_, fun h => clean_leave h⟩
  ·unfold leave
   rw [if_pos hc, List.take_length_add_append]
  ·obtain ⟨x, h1, h2⟩ := hs
   have := hc.2
   rw [h1] at this
   simp [low] at this
   omega
 ·refine ⟨T, ⟨low (H.length + n) e.es, low (H.length + n) e.ws⟩, ?_, hn, fun _ _ => rfl, fun _ _ => rfl, fun h => clean_leave h⟩
  unfold leave
  rw [if_neg hc]
theorem Oo.hd {H T : Hp} {v : AV} {l c : Nat} {op : List (Nat × Nat)} (h : Oo H.length T v ((l, c) :: op)) : ∃ m row e k, evIndexAddr Tryz.prog 91 v (.int .i64 0) = some (.ptr (H.length + m) 0) ∧ T[m]? = some (.cells row e k) ∧ ldC 0 2 true (.cells row e k) = some (.agg [.int .i64 l, .int .i64 c]) := by
 obtain ⟨_, h⟩ | ⟨m, r, rfl, hm, _⟩ := h
 ·cases h
 ·refine ⟨m, _, _, _, ?_, hm, rfl⟩
  simp only [evIndexAddr, tsh_91]
  rw [if_pos (by simp)]
  rfl

theorem Oo.set {n : Nat} {T : Hp} {v : AV} {op : List (Nat × Nat)} (h : Oo n T v op) {j : Nat} {c : List AV} {x : ABlk} (hj : T[j]? = some (.cells c 93 .rw)) : Oo n (T.set j x) v op :=
 h.fr (fun m y hm hy => by
  rw [List.getElem?_set_ne]
  ·exact hy
  ·rintro rfl
   exact h.ne hj (by decide) hm)
theorem Eo.set {H T : Hp} {v : AV} {es : List (En × AV)} (h : Eo H T v es) {j : Nat} {c : List AV} {x : ABlk} (hj : T[j]? = some (.cells c 93 .rw)) : Eo H (T.set j x) v es :=
 ⟨h.1.set hj, fun x hx => ⟨(h.2 x hx).1, (h.2 x hx).2.set hj⟩⟩
theorem remS_at {t : List UInt8} {a : Nat} {c : UInt8} (h : t[a]? = some c) : remS (t.drop a) = if c = 10 then t.drop a else remS (t.drop (a + 1)) := by
 have hl := (List.getElem?_eq_some_iff.1 h).1
 have e : t.drop a = c :: t.drop (a + 1) := by rw [List.drop_eq_getElem_cons hl]; congr 1; rw [List.getElem?_eq_getElem hl] at h; exact Option.some.inj h
 rw [e, remS]
theorem u8_neZ {c n : UInt8} (h : c ≠ n) : ((c.toNat : Int) == (n.toNat : Int)) = false := by rw [u8_beq]; simp [h]
theorem tz_bad {H T00 T : Hp} {j : Nat} {t : List UInt8} {l c n : Nat} {e : Ef} (hR : tokS t = .bad l c n) (hT0 : T00.length ≤ T.length) (hfr : ∀ x c e', x ≠ j → T00[x]? = some (.cells c e' .rw) → T[x]? = some (.cells c e' .rw)) (hce : clean H.length e) (Y : ABlk) :
  ∃ v T1 e1, TZ H T00 j t (tokS t) v T1 e1 ∧ leave (H.length + T00.length) (.tuple [.agg [.int .i64 l, .int .i64 c], .int .i64 n]) (H ++ T.set T00.length Y) (e.and ⟨none, some (H.length + T00.length)⟩) = (v, H ++ T1, e1) := by
 obtain ⟨T', e', h1, h2, h3, h4, h5⟩ := leave_two (H := H) (T := T.set T00.length Y) (n := T00.length) (b := 0) (v := .tuple [.agg [.int .i64 l, .int .i64 c], .int .i64 n]) (e := e.and ⟨none, some (H.length + T00.length)⟩) (by simpa using hT0)
 refine ⟨_, T', e', ⟨h5 ?_, h2, fun x c' e2 hx hy => ?_, ?_⟩, h1⟩
 ·rw [clean_andI, clean_sn]; exact ⟨hce, by omega⟩
 ·have hl := lt_of_get hy
  rw [h3 x hl, List.getElem?_set_ne (by omega)]
  exact hfr x c' e2 hx hy
 ·rw [hR]
theorem tz_ok {H T00 T : Hp} {j : Nat} {t : List UInt8} {i ln bg : Nat} {vo vw ve : AV} {bl ins : Bool} {el : Nat} {es : List (En × AV)} {e : Ef} (hjl : j < T00.length) (hR : tokS t = .ok (es.map (·.1))) (hb : T[j]? = some (.cells (TkC t i ln bg vo bl el vw ve ins) 93 .rw)) (hE : Eo H T ve es)
  (hst : Sto (H.length + j) e ∨ (ve = .nils ∧ es = [])) (hT0 : T00.length ≤ T.length) (hfr : ∀ x c e', x ≠ j → T00[x]? = some (.cells c e' .rw) → T[x]? = some (.cells c e' .rw)) (hsb : ∃ c k, T[T00.length]? = some (.cells c 38 k) ∧ k = .rw) (hce : clean H.length e) (Y : ABlk) :
  ∃ v T1 e1, TZ H T00 j t (tokS t) v T1 e1 ∧ leave (H.length + T00.length) (.tuple [.agg [.int .i64 0, .int .i64 0], .int .i64 0]) (H ++ T.set T00.length Y) (e.and ⟨none, some (H.length + T00.length)⟩) = (v, H ++ T1, e1) := by
 obtain ⟨c0, k0, hs0, rfl⟩ := hsb
 obtain ⟨T', e', h1, h2, h3, h4, h5⟩ := leave_two (H := H) (T := T.set T00.length Y) (n := T00.length) (b := H.length + j) (v := .tuple [.agg [.int .i64 0, .int .i64 0], .int .i64 0]) (e := e.and ⟨none, some (H.length + T00.length)⟩) (by simpa using hT0)
 refine ⟨_, T', e', ⟨h5 ?_, h2, fun x c' e2 hx hy => ?_, ?_⟩, h1⟩
 ·rw [clean_andI, clean_sn]; exact ⟨hce, by omega⟩
 ·have hl := lt_of_get hy
  rw [h3 x hl, List.getElem?_set_ne (by omega)]
  exact hfr x c' e2 hx hy
 ·rw [hR]
  refine ⟨rfl, i, ln, bg, vo, bl, el, vw, ve, ins, es, ?_, ?_, rfl⟩
  ·rw [h3 j hjl, List.getElem?_set_ne (by omega)]; exact hb
  ·rcases hst with hst | ⟨rfl, rfl⟩
   ·rw [h4 (hst.l _) (by omega)]
    exact ⟨hE.1.set hs0, fun x hx => ⟨(hE.2 x hx).1, (hE.2 x hx).2.set hs0⟩⟩
   ·exact ⟨.inl ⟨rfl, rfl, rfl⟩, fun x hx => by cases hx⟩

set_option maxRecDepth 100000 in
set_option maxHeartbeats 4000000 in
theorem tok_read (H T00 : Hp) (j : Nat) (t : List UInt8) (ht : t.length ≤ 262144) (hb0 : T00[j]? = some (.cells (TkC t 0 1 0 .nils false 0 .nils .nils false) 93 .rw)) :
  callK Tryz.prog 40 [.ptr (H.length + j) 0] (H ++ T00) (fun r => ∃ v T e, TZ H T00 j t (tokS t) v T e ∧ r = (v, H ++ T, e)) := by
 refine callK_start (n := 345) (rs := [.cell 2 38, .tmp 3]) Tryz.func40 rfl rfl rfl ?_
 intro σ hl ha
 have h0 := ha 0 (by simp)
 clear ha
 simp only [Option.getD_some, List.getElem?_cons_zero, List.getElem?_cons_succ] at h0
 simp only [go_sem, simprocAttr, hl, h0]
 rw [go_label_jump rfl]
 have hbi : (T00 ++ [.cells [.int .i64 0, .int .i64 0] 38 .rw])[j]? = some (.cells (TkC t 0 1 0 .nils false 0 .nils .nils false) 93 .rw) := get_app hb0
 refine jump_ind (fun n st => ∃ σ T e i ln bg op cur es k, st = ⟨σ, H ++ T, e⟩ ∧ n + i = t.length ∧ TI H (T00 ++ [.cells [.int .i64 0, .int .i64 0] 38 .rw]) j t i ln bg op cur es T e ∧ t.length ≤ k + i ∧ tokS t = rdT k (t.drop i) ln (i - bg + 1) op cur (es.map (·.1)) ∧ σ.length = 345 ∧ fr σ 0 = .ptr (H.length + j) 0 ∧ fr σ 2 = .ptr (H.length + T00.length) 0 ∧ fr σ 3 = .int .i64 0) t.length
  ⟨_, T00 ++ [.cells [.int .i64 0, .int .i64 0] 38 .rw], _, 0, 1, 0, [], none, [], t.length, rfl, rfl, ⟨.nils, false, 0, .nils, .nils, false, [], hbi, .inl ⟨rfl, rfl⟩, .inl ⟨rfl, rfl, rfl⟩, ⟨.inl ⟨rfl, rfl, rfl⟩, fun x hx => by cases hx⟩, fun x hx => (by cases hx), .inr ⟨rfl, rfl, rfl, rfl⟩, Nat.zero_le _, Nat.le_refl _, Nat.le_refl _, Nat.le_refl _, Nat.le_refl _, Nat.le_refl _, by simp [clean, z0, low], .inr ⟨rfl, rfl, rfl⟩, Nat.le_refl _, fun x c e' _ h => h⟩, Nat.le_refl _, rfl, by simp only [go_sem, simprocAttr, hl], by simp only [go_sem, simprocAttr, hl, h0], by simp only [go_sem, simprocAttr, hl], by simp only [go_sem, simprocAttr, hl]⟩ rfl ?_
 clear h0 hl hbi
 rintro n σ H' e ⟨σ', T, e', i, ln, bg, op, cur, es, k, heq, hni, ⟨vo, bl, el, vw, ve, ins, ws, hb, hO, hw, hE, hdj, hcur, hi, hbg, hln, hwl, hel, hol, hce, hst, hTl, hfr⟩, hk, hrd, hl, h0, h2, h3⟩ ih
 cases heq
 by_cases hit : i = t.length
 ·subst hit
  have hd : decide (t.length < t.length) = false := by simp
  have hq : (t.length == t.length) = true := by simp
  have hlo := hO.len
  have hsb : T[T00.length]? = some (.cells [.int .i64 0, .int .i64 0] 38 .rw) := hfr T00.length _ _ (by have := lt_of_get hb0; omega) (by simp)
  have hT0 : T00.length ≤ T.length := by simp at hTl; omega
  have hfr0 : ∀ x c e', x ≠ j → T00[x]? = some (.cells c e' .rw) → T[x]? = some (.cells c e' .rw) := fun x c e' hx h => hfr x c e' hx (get_app h)
  rw [List.drop_length] at hrd
  cases op with
  | cons p op =>
   obtain ⟨l, c⟩ := p
   have hdp : decide (((op.length + 1 : Nat) : Int) > 0) = true := by simp
   obtain ⟨m, row, em, km, hix, hgm, hlm⟩ := hO.hd
   have hss : ∀ y, (T.set T00.length y)[T00.length]? = some y := fun y => List.getElem?_set_self (lt_of_get hsb)
   have hR : tokS t = .bad l c 81 := by rw [hrd]; cases k <;> rfl
   cases ins
   all_goals
    simp only [go_sem, simprocAttr, hl, h0]
    refine go_drawZ tFollows (by kernel_rfl) ?_
    simp only [go_sem, simprocAttr, hl, h0, hb, TkC.l9, TkC.l1, TkC.l0, hd]
    refine go_drawZ tFollows (by kernel_rfl) ?_
    simp only [go_sem, simprocAttr, hl, h0, hb, TkC.l1, TkC.l0, hq]
    rw [jumpTo_scope, show findLabel _ 1 = some _ from rfl, jumpIn_some]
    simp only [go_sem, simprocAttr, hl, h0, h2, hb, TkC.l4, hlo, hdp, hix, hgm, hlm, hsb, hss]
    exact tz_bad hR hT0 hfr0 hce _
  | nil =>
   have hdp : decide ((([] : List (Nat × Nat)).length : Int) > 0) = false := by simp
   obtain ⟨b, ⟨c1, c2, c3, c5, c4⟩, hc⟩ := tok_close H T j t t.length ln bg vo bl el vw ve ins ws es hb hw hE (by omega)
   have hbz : evBuild Tryz.prog 38 [] = some (.agg [.int .i64 0, .int .i64 0]) := by kernel_rfl
   have hjl := lt_of_get hb0
   have hsb2 : b.2.1[T00.length]? = some (.cells [.int .i64 0, .int .i64 0] 38 .rw) := c4 _ _ (by omega) (hE.1.ne hsb (by decide)) hsb
   have hss : ∀ y, (b.2.1.set T00.length y)[T00.length]? = some y := fun y => List.getElem?_set_self (lt_of_get hsb2)
   have hT1 : T00.length ≤ b.2.1.length := by have := lt_of_get hsb2; omega
   have hfr1 : ∀ x c e', x ≠ j → T00[x]? = some (.cells c e' .rw) → b.2.1[x]? = some (.cells c e' .rw) := by
    intro x c e' hx h
    refine c4 x _ hx ?_ (hfr0 x c e' hx h)
    rintro ⟨q, rfl⟩
    obtain ⟨h', _⟩ | ⟨_, _, m', h', hm'⟩ := hE.1
    ·cases h'
    ·have : x = m' := by injection h'; omega
     rw [this] at h
     rw [hfr0 m' c e' (this ▸ hx) h] at hm'
     cases hm'
   have hR : tokS t = .ok (((if ws = [] then es else es ++ [(⟨bl, el, ws⟩, vw)]) : List (En × AV)).map (·.1)) := by
    have : tokS t = .ok (shut cur (es.map (·.1))) := by rw [hrd]; cases k <;> rfl
    rw [this]
    rcases hcur with ⟨_, rfl⟩ | ⟨_, rfl, _, rfl⟩
    ·by_cases hw0 : ws = []
     ·simp [shut, hw0]
     ·simp [shut, hw0]
    ·simp [shut]
   have hst2 : Sto (H.length + j) (e.and b.2.2) ∨ (b.1 = .nils ∧ (if ws = [] then es else es ++ [((⟨bl, el, ws⟩ : En), vw)]) = []) := by
    rcases hst with h | ⟨_, rfl, rfl⟩
    ·exact .inl (h.l _)
    ·rcases c5 with ⟨hw0, hlb⟩ | h
     ·have hes : es = [] := by
       rcases hE.1 with ⟨_, _, h⟩ | ⟨_, _, m, h, _⟩
       ·exact List.length_eq_zero_iff.1 h
       ·cases h
      subst hes
      rw [if_pos hw0] at c2 ⊢
      rcases c2.1 with ⟨h, _⟩ | ⟨h, _⟩
      ·exact .inr ⟨h, rfl⟩
      ·exact absurd h (by simp)
     ·exact .inl (h.r _)
   cases ins
   all_goals
    simp only [go_sem, simprocAttr, hl, h0]
    refine go_drawZ tFollows (by kernel_rfl) ?_
    simp only [go_sem, simprocAttr, hl, h0, hb, TkC.l9, TkC.l1, TkC.l0, hd]
    refine go_drawZ tFollows (by kernel_rfl) ?_
    simp only [go_sem, simprocAttr, hl, h0, hb, TkC.l1, TkC.l0, hq]
    rw [jumpTo_scope, show findLabel _ 1 = some _ from rfl, jumpIn_some]
    simp only [go_sem, simprocAttr, hl, h0, h2, hb, TkC.l4, hlo, hdp, hc, hbz, hsb2, hss]
    exact tz_ok hjl hR c1 c2 hst2 hT1 hfr1 ⟨_, _, hsb2, rfl⟩ (clean_andI.2 ⟨hce, c3⟩) _
 ·have hil : i < t.length := by omega
  obtain ⟨c, hc⟩ : ∃ c, t[i]? = some c := ⟨t[i], List.getElem?_eq_getElem hil⟩
  obtain ⟨k, rfl⟩ : ∃ k', k = k' + 1 := ⟨k - 1, by omega⟩
  have hdc : t.drop i = c :: t.drop (i + 1) := by rw [List.drop_eq_getElem_cons hil]; congr 1; rw [List.getElem?_eq_getElem hil] at hc; exact Option.some.inj hc
  rw [hdc] at hrd
  have hd : decide (i < t.length) = true := by simpa using hil
  have hq : (i == t.length) = false := by simpa using hit
  rw [go_seq, go_skip, go_seq]
  refine go_cut (fun st => ∃ σ T e vo bl el vw ve ws, st = ⟨σ, H ++ T, e⟩ ∧ T[j]? = some (.cells (TkC t i ln bg vo bl el vw ve true) 93 .rw) ∧ Oo H.length T vo op ∧ GBuf H.length T vw 63 4 ws.length (wcells ws) ∧ Eo H T ve es ∧
   (∀ x ∈ es, ∀ m, bkT H.length x.2 m → ¬ bkT H.length vw m) ∧ cur.getD ⟨isBl c, ln, []⟩ = ⟨bl, el, ws⟩ ∧ ws.length ≤ i ∧ clean H.length e ∧ (Sto (H.length + j) e ∨ (vo = .nils ∧ vw = .nils ∧ ve = .nils)) ∧
   T00.length + 1 ≤ T.length ∧ (∀ x c e', x ≠ j → (T00 ++ [.cells [.int .i64 0, .int .i64 0] 38 .rw])[x]? = some (.cells c e' .rw) → T[x]? = some (.cells c e' .rw)) ∧ σ.length = 345 ∧ fr σ 0 = .ptr (H.length + j) 0 ∧ fr σ 2 = .ptr (H.length + T00.length) 0 ∧ fr σ 3 = .int .i64 0) ?_ ?_
  ·have hTl' : T00.length + 1 ≤ T.length := by simpa using hTl
   cases ins
   ·obtain ⟨_, rfl, rfl, rfl⟩ : False = False ∧ cur = none ∧ vw = .nils ∧ ws = [] := by
     rcases hcur with ⟨h, _⟩ | ⟨_, h⟩
     ·cases h
     ·exact ⟨rfl, h⟩
    have hlt := lt_of_get hb
    have hg2 : ∀ y, (T.set j y)[j]? = some y := fun y => List.getElem?_set_self hlt
    have hbd : ∀ (a : Nat) (b : Bool), evBuild Tryz.prog 68 [(1, .int .i64 a), (0, .bool b)] = some (.agg [.bool b, .int .i64 a, .nils]) := by
     intro a b
     simp only [evBuild, tsh_68, tzero_68, tplaces_68, Option.bind_some, fillA]
     rfl
    have hbl := fun H' k => tok_blank c H' k
    simp only [go_sem, simprocAttr, hl, h0]
    refine go_drawZ tFollows (by kernel_rfl) ?_
    simp only [go_sem, simprocAttr, hl, h0, hb, TkC.l9, TkC.l1, TkC.l0, hd, TkC.len, TkC.s9]
    refine go_drawZ tFollows (by kernel_rfl) ?_
    simp only [go_sem, simprocAttr, hl, h0, hb, hg2, TkC.l0, TkC.l1, TkC.l2, hc, hbl, hbd, TkC.len, TkC.s5, List.set_set]
    have hcl : clean H.length (⟨none, some (H.length + j)⟩ : Ef) := by simp [clean, low]
    refine ⟨(by kernel_rfl : effOk _ _ _ = true), _, T.set j (.cells (TkC t i ln bg vo (isBl c) ln .nils ve true) 93 .rw), _, vo, isBl c, ln, .nils, ve, [], rfl, hg2 _, hO.set hb, .inl ⟨rfl, rfl, rfl⟩, hE.set hb, hdj, rfl, Nat.zero_le _, clean_andI.2 ⟨clean_andI.2 ⟨hce, hcl⟩, hcl⟩, ?_, by simpa using hTl', fun x c' e' hx h => ?_, ?_, ?_, ?_, ?_⟩
    ·rcases hst with h | ⟨h1, _, h3⟩
     ·exact .inl ((h.l _).l _)
     ·exact .inr ⟨h1, rfl, h3⟩
    ·rw [List.getElem?_set_ne (Ne.symm hx)]; exact hfr x c' e' hx h
    all_goals simp only [go_sem, simprocAttr, hl, h0, h2, h3]
   ·have hcur2 : cur = some ⟨bl, el, ws⟩ := by
     rcases hcur with ⟨_, h⟩ | ⟨h, _⟩
     ·exact h
     ·cases h
    simp only [go_sem, simprocAttr, hl, h0]
    refine go_drawZ tFollows (by kernel_rfl) ?_
    simp only [go_sem, simprocAttr, hl, h0, hb, TkC.l9]
    refine ⟨_, T, _, vo, bl, el, vw, ve, ws, rfl, hb, hO, hw, hE, hdj, by rw [hcur2]; rfl, hwl, hce, hst, hTl', hfr, ?_, ?_, ?_, ?_⟩
    all_goals simp only [go_sem, simprocAttr, hl, h0, h2, h3]
  ·clear hb hO hw hE hdj hwl hce hst hl h0 h2 h3 hcur hfr hTl
   rintro _ ⟨σ, T, e, vo, bl, el, vw, ve, ws, rfl, hb, hO, hw, hE, hdj, hcur, hwl, hce, hst, hTl, hfr, hl, h0, h2, h3⟩
   have hlt := lt_of_get hb
   have hg2 : ∀ y, (T.set j y)[j]? = some y := fun y => List.getElem?_set_self hlt
   have w1 := wrap_succ (show i < 9223372036854775807 by omega)
   have hbl := fun H' k => tok_blank c H' k
   have hq2 : ((i : Int) == (t.length : Int)) = false := by rw [beq_eq_false_iff_ne]; omega
   simp only [go_sem, simprocAttr, hl, h0]
   refine go_drawZ tFollows (by kernel_rfl) ?_
   simp only [go_sem, simprocAttr, hl, h0, hb, TkC.l1, TkC.l0, hq, hq2]
   refine go_drawZ tFollows (by kernel_rfl) ?_
   simp only [go_sem, simprocAttr, hl, h0, hb, hg2, TkC.l0, TkC.l1, TkC.len, TkC.s1, hc, hbl, w1, List.set_set]
   have hcl : clean H.length (⟨none, some (H.length + j)⟩ : Ef) := by simp [clean, low]
   have back := fun (σ : List AV) (T2 : Hp) (e2 : Ef) (i2 ln2 bg2 : Nat) (op2 : List (Nat × Nat)) (cur2 : Option En) (es2 : List (En × AV)) (k2 : Nat) (hii : i < i2) (hi2 : i2 ≤ t.length) (hTI : TI H (T00 ++ [.cells [.int .i64 0, .int .i64 0] 38 .rw]) j t i2 ln2 bg2 op2 cur2 es2 T2 e2) (hk2 : t.length ≤ k2 + i2)
    (hrd2 : tokS t = rdT k2 (t.drop i2) ln2 (i2 - bg2 + 1) op2 cur2 (es2.map (·.1))) (hl2 : σ.length = 345) (g0 : fr σ 0 = .ptr (H.length + j) 0) (g2 : fr σ 2 = .ptr (H.length + T00.length) 0) (g3 : fr σ 3 = .int .i64 0) => ih (t.length - i2) ⟨σ, H ++ T2, e2⟩ (by omega) ⟨σ, T2, e2, i2, ln2, bg2, op2, cur2, es2, k2, rfl, by omega, hTI, hk2, hrd2, hl2, g0, g2, g3⟩
   clear ih
   obtain ⟨T1, hT1⟩ : ∃ T1, T1 = T.set j (.cells (TkC t (i + 1) ln bg vo bl el vw ve true) 93 .rw) := ⟨_, rfl⟩
   have hb1 : T1[j]? = some (.cells (TkC t (i + 1) ln bg vo bl el vw ve true) 93 .rw) := by rw [hT1]; exact hg2 _
   have hO1 : Oo H.length T1 vo op := by rw [hT1]; exact hO.set hb
   have hw1 : GBuf H.length T1 vw 63 4 ws.length (wcells ws) := by rw [hT1]; exact hw.set hb
   have hE1 : Eo H T1 ve es := by rw [hT1]; exact hE.set hb
   have hTl1 : T00.length + 1 ≤ T1.length := by rw [hT1]; simpa using hTl
   have hfr1 : ∀ x c e', x ≠ j → (T00 ++ [.cells [.int .i64 0, .int .i64 0] 38 .rw])[x]? = some (.cells c e' .rw) → T1[x]? = some (.cells c e' .rw) := fun x c e' hx h => by rw [hT1, List.getElem?_set_ne (Ne.symm hx)]; exact hfr x c e' hx h
   have hcb : i + 1 - bg + 1 = i - bg + 1 + 1 := by omega
   have hce1 : clean H.length (e.and ⟨none, some (H.length + j)⟩) := clean_andI.2 ⟨hce, hcl⟩
   have hst1 : Sto (H.length + j) (e.and ⟨none, some (H.length + j)⟩) ∨ (vo = .nils ∧ vw = .nils ∧ ve = .nils) := hst.imp_left (fun h => h.l _)
   rw [← hT1]
   unfold rdT at hrd
   simp only [hcur] at hrd
   cases hbc : isBl c with
   | true =>
    rw [hbc, if_pos rfl] at hrd
    simp only [go_sem, simprocAttr, hl, hbc]
    refine back _ T1 _ (i + 1) ln bg op (some ⟨bl, el, ws⟩) es k (by omega) (by omega) ⟨vo, bl, el, vw, ve, true, ws, hb1, hO1, hw1, hE1, hdj, .inl ⟨rfl, rfl⟩, by omega, by omega, by omega, by omega, by omega, by omega, hce1, hst1, by simpa using hTl1, hfr1⟩ (by omega) (by rw [hcb]; exact hrd) ?_ ?_ ?_ ?_
    all_goals simp only [go_sem, simprocAttr, hl, h0, h2, h3]
   | false =>
    rw [hbc, if_neg (by decide)] at hrd
    simp only [go_sem, simprocAttr, hl, hbc]
    by_cases c10 : c = 10
    ·rw [if_pos c10] at hrd
     subst c10
     obtain ⟨b, ⟨d1, d2, d3, d4⟩, hen⟩ := tok_ended H T1 j t (i + 1) ln bg vo bl el vw ve true op ws es hb1 hO1 hw1 hE1 (by omega) (by omega)
     have g10 : (((10 : UInt8).toNat : Int) == 10) = true := rfl
     simp only [go_sem, simprocAttr, hl, h0, g10, hen]
     have hfr2 : ∀ x c e', x ≠ j → (T00 ++ [.cells [.int .i64 0, .int .i64 0] 38 .rw])[x]? = some (.cells c e' .rw) → b.2.1[x]? = some (.cells c e' .rw) := fun x c e' hx h => d4 x _ hx (hE1.1.nrw (hfr1 x c e' hx h)) (hfr1 x c e' hx h)
     have hTl2 : T00.length + 1 ≤ b.2.1.length := by
      have := lt_of_get (hfr2 T00.length [.int .i64 0, .int .i64 0] 38 (by have := lt_of_get hb0; omega) (by simp))
      omega
     have hO2 : Oo H.length b.2.1 vo op := hO1.fr (fun m y hm hy => d4 m y (fun h => hO1.ne (h ▸ hb1) (by decide) hm) (hO1.nb hE1.1 (by decide) hm) hy)
     have hcol : i + 1 - (i + 1) + 1 = 1 := by omega
     by_cases hop : op = []
     ·rw [if_pos hop] at d1 hrd
      have hst2 : Sto (H.length + j) ((e.and ⟨none, some (H.length + j)⟩).and b.2.2) ∨ (vo = .nils ∧ AV.nils = .nils ∧ b.1 = .nils) := by
       rcases hst1 with h | ⟨h1, h4, h5⟩
       ·exact .inl (h.l _)
       ·rcases d3 with ⟨hw0 | ho, hlb⟩ | h
        ·have hes : es = [] := by
          rcases hE1.1 with ⟨_, _, h⟩ | ⟨_, _, m, h, _⟩
          ·exact List.length_eq_zero_iff.1 h
          ·rw [h5] at h; cases h
         have hd := d1.2
         rw [if_pos hw0, hes] at hd
         rcases hd.1 with ⟨h, _⟩ | ⟨h, _⟩
         ·exact .inr ⟨h1, rfl, h⟩
         ·exact absurd h (by simp)
        ·exact absurd hop ho
        ·exact .inl (h.r _)
      have hrd3 : tokS t = rdT k (t.drop (i + 1)) (ln + 1) (i + 1 - (i + 1) + 1) op none (((if ws = [] then es else es ++ [(⟨bl, el, ws⟩, vw)]) : List (En × AV)).map (·.1)) := by
       rw [hcol, hrd, hop]
       congr 1
       by_cases hw0 : ws = []
       ·simp [shut, hw0]
       ·simp [shut, hw0]
      have hel2 : (((if ws = [] then es else es ++ [(⟨bl, el, ws⟩, vw)]) : List (En × AV))).length ≤ i + 1 := by
       split
       ·omega
       ·rw [List.length_append, List.length_singleton]; omega
      refine back _ b.2.1 _ (i + 1) (ln + 1) (i + 1) op none _ k (by omega) (by omega) ⟨vo, false, 0, .nils, b.1, false, [], d1.1, hO2, .inl ⟨rfl, rfl, rfl⟩, d1.2, fun x _ m _ h => (by obtain ⟨q, h⟩ := h; cases h), .inr ⟨rfl, rfl, rfl, rfl⟩, by omega, by omega, by omega, Nat.zero_le _, hel2, by omega, clean_andI.2 ⟨hce1, d2⟩, hst2, by simpa using hTl2, hfr2⟩ (by omega) hrd3 ?_ ?_ ?_ ?_
      all_goals simp only [go_sem, simprocAttr, hl, h0, h2, h3]
     ·rw [if_neg hop] at d1 hrd
      have hw2 : GBuf H.length b.2.1 vw 63 4 ws.length (wcells ws) := hw1.fr (fun m y hm hy => d4 m y (fun h => hw1.ne (h ▸ hb1) (by decide) hm) (hE1.1.nb hw1 (by decide) hm) hy)
      have hst2 : Sto (H.length + j) ((e.and ⟨none, some (H.length + j)⟩).and b.2.2) ∨ (vo = .nils ∧ vw = .nils ∧ ve = .nils) := hst1.imp_left (fun h => h.l _)
      refine back _ b.2.1 _ (i + 1) (ln + 1) (i + 1) op (some ⟨bl, el, ws⟩) es k (by omega) (by omega) ⟨vo, bl, el, vw, ve, true, ws, d1.1, hO2, hw2, d1.2.2, hdj, .inl ⟨rfl, rfl⟩, by omega, by omega, by omega, by omega, by omega, by omega, clean_andI.2 ⟨hce1, d2⟩, hst2, by simpa using hTl2, hfr2⟩ (by omega) (by rw [hcol]; exact hrd) ?_ ?_ ?_ ?_
      all_goals simp only [go_sem, simprocAttr, hl, h0, h2, h3]
    ·rw [if_neg c10] at hrd
     have g10 : ((c.toNat : Int) == 10) = false := u8_neZ c10
     by_cases c59 : c = 59
     ·rw [if_pos c59] at hrd
      subst c59
      have g59 : (((59 : UInt8).toNat : Int) == 59) = true := rfl
      simp only [go_sem, simprocAttr, hl, h0, g10, g59]
      rw [jumpTo_scope, show findLabel _ 2 = some _ from rfl, jumpIn_some]
      simp only [go_sem, simprocAttr, hl]
      refine go_rounds (fun n st => ∃ σ a T2 e2, n + a = t.length ∧ i < a ∧ a ≤ t.length ∧ T2 = T.set j (.cells (TkC t a ln bg vo bl el vw ve true) 93 .rw) ∧ st = ⟨σ, H ++ T2, e2⟩ ∧ remS (t.drop (i + 1)) = remS (t.drop a) ∧ clean H.length e2 ∧ (Sto (H.length + j) e2 ∨ (vo = .nils ∧ vw = .nils ∧ ve = .nils)) ∧ σ.length = 345 ∧ fr σ 0 = .ptr (H.length + j) 0 ∧ fr σ 2 = .ptr (H.length + T00.length) 0 ∧ fr σ 3 = .int .i64 0) (t.length - (i + 1))
       ⟨_, i + 1, T1, _, by omega, by omega, by omega, hT1, rfl, rfl, hce1, hst1, by simp only [go_sem, simprocAttr, hl], by simp only [go_sem, simprocAttr, hl, h0], by simp only [go_sem, simprocAttr, hl, h2], by simp only [go_sem, simprocAttr, hl, h3]⟩ ?_
      clear hl h0 h2 h3
      rintro n _ ⟨σ, a, T2, e2, hna, hia, hal, hT2, rfl, hrem, hce2, hst2, hl, h0, h2, h3⟩
      have hb2 : T2[j]? = some (.cells (TkC t a ln bg vo bl el vw ve true) 93 .rw) := by rw [hT2]; exact hg2 _
      by_cases hstop : a = t.length ∨ t[a]? = some 10
      ·
       have hrem2 : remS (t.drop (i + 1)) = t.drop a := by
        rw [hrem]
        rcases hstop with rfl | h
        ·rw [List.drop_length]; rfl
        ·rw [remS_at h, if_pos rfl]
       have hcol : i - bg + 1 + 1 + ((t.drop (i + 1)).length - (t.drop a).length) = a - bg + 1 := by rw [List.length_drop, List.length_drop]; omega
       rw [hrem2, hcol] at hrd
       have hfr2 : ∀ x c e', x ≠ j → (T00 ++ [.cells [.int .i64 0, .int .i64 0] 38 .rw])[x]? = some (.cells c e' .rw) → T2[x]? = some (.cells c e' .rw) := fun x c e' hx h => by rw [hT2, List.getElem?_set_ne (Ne.symm hx)]; exact hfr x c e' hx h
       have hTI2 : ∀ e3, clean H.length e3 → (Sto (H.length + j) e3 ∨ (vo = .nils ∧ vw = .nils ∧ ve = .nils)) → TI H (T00 ++ [.cells [.int .i64 0, .int .i64 0] 38 .rw]) j t a ln bg op (some ⟨bl, el, ws⟩) es T2 e3 := fun e3 q1 q2 => ⟨vo, bl, el, vw, ve, true, ws, hb2, hT2 ▸ hO.set hb, hT2 ▸ hw.set hb, hT2 ▸ hE.set hb, hdj, .inl ⟨rfl, rfl⟩, by omega, by omega, by omega, by omega, by omega, by omega, q1, q2, by rw [hT2]; simpa using hTl, hfr2⟩
       rcases hstop with hae | h10
       ·have hda : decide (a < t.length) = false := by simp; omega
        simp only [go_sem, simprocAttr, hl, h0]
        refine go_drawZ tFollows (by kernel_rfl) ?_
        simp only [go_sem, simprocAttr, hl, h0, hb2, TkC.l1, TkC.l0, hda]
        refine back _ T2 _ a ln bg op (some ⟨bl, el, ws⟩) es k hia hal (hTI2 _ hce2 hst2) (by omega) hrd ?_ ?_ ?_ ?_
        all_goals simp only [go_sem, simprocAttr, hl, h0, h2, h3]
       ·have hda : decide (a < t.length) = true := by simpa using (List.getElem?_eq_some_iff.1 h10).1
        have gx : (((10 : UInt8).toNat : Int) != 10) = false := rfl
        simp only [go_sem, simprocAttr, hl, h0]
        refine go_drawZ tFollows (by kernel_rfl) ?_
        simp only [go_sem, simprocAttr, hl, h0, hb2, TkC.l1, TkC.l0, hda, h10, gx]
        refine back _ T2 _ a ln bg op (some ⟨bl, el, ws⟩) es k hia hal (hTI2 _ hce2 hst2) (by omega) hrd ?_ ?_ ?_ ?_
        all_goals simp only [go_sem, simprocAttr, hl, h0, h2, h3]
      ·have hal2 : a < t.length := by
        rcases Nat.lt_or_ge a t.length with h | h
        ·exact h
        ·exact absurd (.inl (by omega)) hstop
       obtain ⟨d, hd⟩ : ∃ d, t[a]? = some d := ⟨t[a], List.getElem?_eq_getElem hal2⟩
       have hd10 : d ≠ 10 := fun h => hstop (.inr (h ▸ hd))
       have hda : decide (a < t.length) = true := by simpa using hal2
       have gx : ((d.toNat : Int) != 10) = true := by
        have := u8_neZ hd10
        rw [bne, show ((d.toNat : Int) == 10) = false from this]; rfl
       have wa := wrap_succ (show a < 9223372036854775807 by omega)
       have hset : ∀ y, T2.set j y = T.set j y := fun y => by rw [hT2, List.set_set]
       simp only [go_sem, simprocAttr, hl, h0]
       refine go_drawZ tFollows (by kernel_rfl) ?_
       simp only [go_sem, simprocAttr, hl, h0, hb2, TkC.l1, TkC.l0, hda, hd, gx, wa, TkC.len, TkC.s1, hset]
       refine ⟨n - 1, by omega, _, a + 1, _, _, by omega, by omega, by omega, rfl, rfl, ?_, clean_andI.2 ⟨hce2, hcl⟩, hst2.imp_left (fun h => h.l _), ?_, ?_, ?_, ?_⟩
       ·rw [hrem, remS_at hd, if_neg hd10]
       all_goals simp only [go_sem, simprocAttr, hl, h0, h2, h3]
     ·rw [if_neg c59] at hrd
      have g59 : ((c.toNat : Int) == 59) = false := u8_neZ c59
      have hsp := fun k => tok_spot (H ++ T1) (H.length + j) t (i + 1) ln bg vo bl el vw ve true (by rw [hp_new]; exact hb1) i hbg (by omega) k
      have hg21 : ∀ y, (T1.set j y)[j]? = some y := fun y => List.getElem?_set_self (lt_of_get hb1)
      by_cases c40 : c = 40
      ·rw [if_pos c40] at hrd
       subst c40
       have g40 : (((40 : UInt8).toNat : Int) == 40) = true := rfl
       obtain ⟨y, hy⟩ : ∃ y : ABlk, y = .cells [.int .i64 ln, .int .i64 (i - bg + 1 : Nat)] 38 .rw := ⟨_, rfl⟩
       have hO1' : Oo H.length (T1 ++ [y]) vo op := hO1.fr (fun m z _ hz => get_app hz)
       obtain ⟨v', T2, e2, happ, hlen2, hcl2, hkp, hO2, hflv, hqu, hbk⟩ := hO1'.app (ln, i - bg + 1) (by simp only [fits, decide_eq_true_eq]; omega)
       have hkj := hkp j _ (hO1.ne hb1 (by decide)) (get_app hb1)
       have hrdy : rdC 0 2 y = some [.int .i64 ln, .int .i64 (i - bg + 1 : Nat)] := by rw [hy]; rfl
       have g1 : (T1 ++ [y])[j]? = some (.cells (TkC t (i + 1) ln bg vo bl el vw ve true) 93 .rw) := get_app hb1
       have n1 : (T1 ++ [y])[T1.length]? = some y := by simp
       have q1 : ∀ (v : AV) (e : Ef), quiet (v, H ++ (T1 ++ [y]), e) (H ++ T1) = false := by intro v e; simp [quiet]
       obtain ⟨hsc2, hvc2⟩ := hO2.scl
       have hbs := fun H => bslice_sp ln (i - bg + 1 : Nat) H
       rw [← hy] at hbs
       simp only [go_sem, simprocAttr, hl, h0, g10, g59, g40]
       refine go_drawZ tFollows (by kernel_rfl) ?_
       simp only [go_sem, simprocAttr, hl, h0, hb1, TkC.l4, ↓hsp, hbs, hrdy, n1, happ, hqu, q1, hkj, TkC.len, TkC.s4, hvc2, hsc2, hflv, List.append_assoc, List.cons_append, List.nil_append]
       refine ⟨by rcases tg_or 9 e2 with h | h <;> rw [h] <;> kernel_rfl, ?_⟩
       have hw3 : GBuf H.length T2 vw 63 4 ws.length (wcells ws) := hw1.fr (fun m z hm hz => hkp m z (fun h => hO1.nb hw1 (by decide) h hm) (get_app hz))
       have hE3 : Eo H T2 ve es := hE1.fr (fun m z hm hz => hkp m z (fun h => by
        rcases hm with hm | ⟨x, hx, hm⟩
        ·exact hO1.nb hE1.1 (by decide) h hm
        ·exact hO1.nb (hE1.2 x hx).2 (by decide) h hm) (get_app hz))
       have hfr3 : ∀ (Y : ABlk) x c e', x ≠ j → (T00 ++ [.cells [.int .i64 0, .int .i64 0] 38 .rw])[x]? = some (.cells c e' .rw) → (T2.set j Y)[x]? = some (.cells c e' .rw) := fun Y x c e' hx h => by
        rw [List.getElem?_set_ne (Ne.symm hx)]
        exact hkp x _ (hO1.nrw (hfr1 x c e' hx h)) (get_app (hfr1 x c e' hx h))
       have hTl3 : T00.length + 1 ≤ T2.length := by rw [List.length_append] at hlen2; omega
       have hol3 : (op ++ [(ln, i - bg + 1)]).length ≤ i + 1 := by rw [List.length_append, List.length_singleton]; omega
       refine back _ (T2.set j (.cells (TkC t (i + 1) ln bg v' bl el vw ve true) 93 .rw)) _ (i + 1) ln bg (op ++ [(ln, i - bg + 1)]) (some ⟨bl, el, ws⟩) es k (by omega) (by omega) ⟨v', bl, el, vw, ve, true, ws, List.getElem?_set_self (lt_of_get hkj), hO2.set hkj, hw3.set hkj, hE3.set hkj, hdj, .inl ⟨rfl, rfl⟩, by omega, by omega, by omega, by omega, by omega, hol3, ?_, .inl (Sto.this.r _), by simpa using hTl3, hfr3 _⟩ (by omega) (by rw [hcb]; exact hrd) ?_ ?_ ?_ ?_
       ·simp only [clean_andI, clean_ss, clean_sn, hce, hcl2, true_and, and_true]; omega
       all_goals simp only [go_sem, simprocAttr, hl, h0, h2, h3]
      ·rw [if_neg c40] at hrd
       have g40 : ((c.toNat : Int) == 40) = false := u8_neZ c40
       by_cases c41 : c = 41
       ·rw [if_pos c41] at hrd
        subst c41
        have g41 : (((41 : UInt8).toNat : Int) == 41) = true := rfl
        have hlo := hO1.len
        by_cases hop : op = []
        ·rw [if_pos hop] at hrd
         subst hop
         have hz : ((([] : List (Nat × Nat)).length : Int) == 0) = true := rfl
         have hsb : T1[T00.length]? = some (.cells [.int .i64 0, .int .i64 0] 38 .rw) := hfr1 T00.length _ _ (by have := lt_of_get hb0; omega) (by simp)
         have hss : ∀ y, (T1.set T00.length y)[T00.length]? = some y := fun y => List.getElem?_set_self (lt_of_get hsb)
         simp only [go_sem, simprocAttr, hl, h0, h2, g10, g59, g40, g41, hb1, TkC.l4, hlo, hz, ↓hsp, hsb, hss]
         exact tz_bad hrd (by omega) (fun x c e' hx h => hfr1 x c e' hx (get_app h)) hce1 _
        ·rw [if_neg hop] at hrd
         have hpos := List.length_pos_iff.2 hop
         have hz : ((op.length : Int) == 0) = false := by rw [beq_eq_false_iff_ne]; omega
         have wm : IntKind.i64.wrap ((op.length : Int) - 1) = ((op.length - 1 : Nat) : Int) := by rw [wrap_i64 (by omega)]; omega
         obtain ⟨v', hsl, hO2, hflv, hbk⟩ := hO1.pop hop
         obtain ⟨hsc2, hvc2⟩ := hO2.scl
         simp only [go_sem, simprocAttr, hl, h0, h2, g10, g59, g40, g41, hb1, TkC.l4, hlo, hz]
         refine go_drawZ tFollows (by kernel_rfl) ?_
         simp only [go_sem, simprocAttr, hl, h0, hb1, TkC.l4, hlo, wm, hsl, TkC.len, TkC.s4, hvc2, hsc2, hflv]
         refine ⟨(by kernel_rfl : effOk _ _ _ = true), ?_⟩
         have hg2' := hg21
         have hfr3 : ∀ (Y : ABlk) x c e', x ≠ j → (T00 ++ [.cells [.int .i64 0, .int .i64 0] 38 .rw])[x]? = some (.cells c e' .rw) → (T1.set j Y)[x]? = some (.cells c e' .rw) := fun Y x c e' hx h => by
          rw [List.getElem?_set_ne (Ne.symm hx)]
          exact hfr1 x c e' hx h
         have hol3 : op.dropLast.length ≤ i + 1 := by rw [List.length_dropLast]; omega
         refine back _ (T1.set j (.cells (TkC t (i + 1) ln bg v' bl el vw ve true) 93 .rw)) _ (i + 1) ln bg op.dropLast (some ⟨bl, el, ws⟩) es k (by omega) (by omega) ⟨v', bl, el, vw, ve, true, ws, hg21 _, hO2.set hb1, hw1.set hb1, hE1.set hb1, hdj, .inl ⟨rfl, rfl⟩, by omega, by omega, by omega, by omega, by omega, hol3, ?_, .inl (Sto.this.r _), by simpa using hTl1, hfr3 _⟩ (by omega) (by rw [hcb]; exact hrd) ?_ ?_ ?_ ?_
         ·simp only [clean_andI, clean_ss, clean_sn, hce, true_and, and_true]; omega
         all_goals simp only [go_sem, simprocAttr, hl, h0, h2, h3]
       ·rw [if_neg c41] at hrd
        have g41 : ((c.toNat : Int) == 41) = false := u8_neZ c41
        by_cases c34 : c = 34
        ·rw [if_pos c34] at hrd
         subst c34
         have g34 : (((34 : UInt8).toNat : Int) == 34) = true := rfl
         simp only [go_sem, simprocAttr, hl, h0, g10, g59, g40, g41, g34]
         have hsb : T[T00.length]? = some (.cells [.int .i64 0, .int .i64 0] 38 .rw) := hfr T00.length _ _ (by have := lt_of_get hb0; omega) (by simp)
         refine jump_ind (fun n st => ∃ σ a T2 e2, n + a = t.length ∧ i < a ∧ a ≤ t.length ∧ T2 = T.set j (.cells (TkC t a ln bg vo bl el vw ve true) 93 .rw) ∧ st = ⟨σ, H ++ T2, e2⟩ ∧ QuA t (i + 1) a ∧ clean H.length e2 ∧ (Sto (H.length + j) e2 ∨ (vo = .nils ∧ vw = .nils ∧ ve = .nils)) ∧ σ.length = 345 ∧ fr σ 0 = .ptr (H.length + j) 0 ∧ fr σ 2 = .ptr (H.length + T00.length) 0 ∧ fr σ 3 = .int .i64 0 ∧ fr σ 4 = .int .i64 i) (t.length - (i + 1))
          ⟨_, i + 1, T1, _, by omega, by omega, by omega, hT1, rfl, QuA.refl _ _, hce1, hst1, by simp only [go_sem, simprocAttr, hl], by simp only [go_sem, simprocAttr, hl, h0], by simp only [go_sem, simprocAttr, hl, h2], by simp only [go_sem, simprocAttr, hl, h3], by simp only [go_sem, simprocAttr, hl]⟩ rfl ?_
         clear hl h0 h2 h3
         rintro n σ' H' e' ⟨σ, a, T2, e2, hna, hia, hal, hT2, heq, hqa, hce2, hst2, hl, h0, h2, h3, h4⟩ ih3
         cases heq
         have hb2 : T2[j]? = some (.cells (TkC t a ln bg vo bl el vw ve true) 93 .rw) := by rw [hT2]; exact hg2 _
         have hs2 : T2[T00.length]? = some (.cells [.int .i64 0, .int .i64 0] 38 .rw) := by rw [hT2, List.getElem?_set_ne (by have := lt_of_get hb0; omega)]; exact hsb
         have hsp2 := fun k => tok_spot (H ++ T2) (H.length + j) t a ln bg vo bl el vw ve true (by rw [hp_new]; exact hb2) i hbg (by omega) k
         have hss : ∀ y, (T2.set T00.length y)[T00.length]? = some y := fun y => List.getElem?_set_self (lt_of_get hs2)
         have hfr2 : ∀ x c e', x ≠ j → T00[x]? = some (.cells c e' .rw) → T2[x]? = some (.cells c e' .rw) := fun x c e' hx h => by rw [hT2, List.getElem?_set_ne (Ne.symm hx)]; exact hfr x c e' hx (get_app h)
         have hTl2 : T00.length ≤ T2.length := by rw [hT2, List.length_set]; omega
         by_cases hae : a = t.length
         ·have hqe : (a == t.length) = true := by simpa using hae
          have hqe2 : ((a : Int) == (t.length : Int)) = true := by rw [hae]; simp
          rw [hqa.bad (.inl (List.getElem?_eq_none (by omega)))] at hrd
          simp only [go_sem, simprocAttr, hl, h0]
          refine go_drawZ tFollows (by kernel_rfl) ?_
          simp only [go_sem, simprocAttr, hl, h0, h2, h4, hb2, TkC.l1, TkC.l0, hqe, hqe2, ↓hsp2, hs2, hss]
          exact tz_bad hrd hTl2 hfr2 hce2 _
         ·obtain ⟨d, hd⟩ : ∃ d, t[a]? = some d := ⟨t[a]'(by omega), List.getElem?_eq_getElem (by omega)⟩
          have hqe : (a == t.length) = false := by simpa using hae
          have hqe2 : ((a : Int) == (t.length : Int)) = false := by rw [beq_eq_false_iff_ne]; omega
          by_cases d10 : d = 10
          ·subst d10
           have gd : (((10 : UInt8).toNat : Int) == 10) = true := rfl
           rw [hqa.bad (.inr hd)] at hrd
           simp only [go_sem, simprocAttr, hl, h0]
           refine go_drawZ tFollows (by kernel_rfl) ?_
           simp only [go_sem, simprocAttr, hl, h0, h2, h4, hb2, TkC.l1, TkC.l0, hqe, hqe2, hd, gd, ↓hsp2, hs2, hss]
           exact tz_bad hrd hTl2 hfr2 hce2 _
          ·have gd10 : ((d.toNat : Int) == 10) = false := u8_neZ d10
           have wa := wrap_succ (show a < 9223372036854775807 by omega)
           have wa2 := wrap_succ (show a + 1 < 9223372036854775807 by omega)
           have hset : ∀ y, T2.set j y = T.set j y := fun y => by rw [hT2, List.set_set]
           simp only [go_sem, simprocAttr, hl, h0]
           refine go_drawZ tFollows (by kernel_rfl) ?_
           simp only [go_sem, simprocAttr, hl, h0, h2, h4, hb2, TkC.l1, TkC.l0, hqe, hqe2, hd, gd10]
           refine go_drawZ tFollows (by kernel_rfl) ?_
           simp only [go_sem, simprocAttr, hl, h0, h2, h4, hb2, TkC.l1, TkC.l0, hd, wa, TkC.len, TkC.s1, hset]
           by_cases d92 : d = 92
           ·subst d92
            have g92 : (((92 : UInt8).toNat : Int) == 92) = true := rfl
            have g34 : (((92 : UInt8).toNat : Int) != 34) = true := rfl
            by_cases hlt2 : a + 1 < t.length
            ·have hdl : decide (a + 1 < t.length) = true := by simpa using hlt2
             obtain ⟨f, hf⟩ : ∃ f, t[a + 1]? = some f := ⟨t[a + 1], List.getElem?_eq_getElem hlt2⟩
             by_cases f10 : f = 10
             ·subst f10
              have gf : (((10 : UInt8).toNat : Int) != 10) = false := rfl
              refine go_drawZ tFollows (by kernel_rfl) ?_
              simp only [go_sem, simprocAttr, hl, h0, h2, h4, hg2, TkC.l1, TkC.l0, g92, hdl, hf, gf, g34]
              refine ih3 (n - 1) _ (by omega) ⟨_, a + 1, T.set j (.cells (TkC t (a + 1) ln bg vo bl el vw ve true) 93 .rw), _, by omega, by omega, by omega, rfl, rfl, hqa.one (by omega) hd d10 (by decide) (fun _ => .inr hf), ?_, ?_, ?_, ?_, ?_, ?_, ?_⟩
              ·simp only [clean_andI, clean_sn, hce2, true_and, and_true]; omega
              ·exact hst2.imp_left (fun h => by first | exact (h.l _).l _ | exact h.l _)
              all_goals simp only [go_sem, simprocAttr, hl, h0, h2, h3, h4]
             ·have gf : ((f.toNat : Int) != 10) = true := by
               rw [bne, show ((f.toNat : Int) == 10) = false from u8_neZ f10]; rfl
              refine go_drawZ tFollows (by kernel_rfl) ?_
              simp only [go_sem, simprocAttr, hl, h0, h2, h4, hg2, TkC.l1, TkC.l0, g92, hdl, hf, gf, g34, wa2, TkC.len, TkC.s1, List.set_set]
              refine ih3 (n - 2) _ (by omega) ⟨_, a + 2, T.set j (.cells (TkC t (a + 2) ln bg vo bl el vw ve true) 93 .rw), _, by omega, by omega, by omega, rfl, rfl, hqa.two (by omega) hd hf f10, ?_, ?_, ?_, ?_, ?_, ?_, ?_⟩
              ·simp only [clean_andI, clean_sn, hce2, true_and, and_true]; omega
              ·exact hst2.imp_left (fun h => by first | exact (h.l _).l _ | exact h.l _)
              all_goals simp only [go_sem, simprocAttr, hl, h0, h2, h3, h4]
            ·have hdl : decide (a + 1 < t.length) = false := by simpa using hlt2
             refine go_drawZ tFollows (by kernel_rfl) ?_
             simp only [go_sem, simprocAttr, hl, h0, h2, h4, hg2, TkC.l1, TkC.l0, g92, hdl, g34]
             refine ih3 (n - 1) _ (by omega) ⟨_, a + 1, T.set j (.cells (TkC t (a + 1) ln bg vo bl el vw ve true) 93 .rw), _, by omega, by omega, by omega, rfl, rfl, hqa.one (by omega) hd d10 (by decide) (fun _ => .inl (List.getElem?_eq_none (by omega))), ?_, ?_, ?_, ?_, ?_, ?_, ?_⟩
             ·simp only [clean_andI, clean_sn, hce2, true_and, and_true]; omega
             ·exact hst2.imp_left (fun h => by first | exact (h.l _).l _ | exact h.l _)
             all_goals simp only [go_sem, simprocAttr, hl, h0, h2, h3, h4]
           ·have g92 : ((d.toNat : Int) == 92) = false := u8_neZ d92
            by_cases d34 : d = 34
            ·subst d34
             have g34 : (((34 : UInt8).toNat : Int) != 34) = false := rfl
             have hal2 : a < t.length := by omega
             obtain ⟨T3, hT3⟩ : ∃ T3, T3 = T.set j (.cells (TkC t (a + 1) ln bg vo bl el vw ve true) 93 .rw) := ⟨_, rfl⟩
             have hb3 : T3[j]? = some (.cells (TkC t (a + 1) ln bg vo bl el vw ve true) 93 .rw) := by rw [hT3]; exact hg2 _
             have hO3 : Oo H.length T3 vo op := by rw [hT3]; exact hO.set hb
             have hw3 : GBuf H.length T3 vw 63 4 ws.length (wcells ws) := by rw [hT3]; exact hw.set hb
             have hE3 : Eo H T3 ve es := by rw [hT3]; exact hE.set hb
             have hfr3 : ∀ x c e', x ≠ j → (T00 ++ [.cells [.int .i64 0, .int .i64 0] 38 .rw])[x]? = some (.cells c e' .rw) → T3[x]? = some (.cells c e' .rw) := fun x c e' hx h => by rw [hT3, List.getElem?_set_ne (Ne.symm hx)]; exact hfr x c e' hx h
             obtain ⟨b, ⟨p1, p2, p3, p4, p6, p5⟩, hput⟩ := tok_put H T3 j t (a + 1) ln bg vo bl el vw ve true ws hb3 hw3 i (a + 1) true hbg (by omega) (fun _ => by omega) (by omega) ht (by omega)
             rw [hqa.fin hd] at hrd
             simp only [] at hrd
             have hwd : putW t i (a + 1) true ln bg = ⟨(t.drop (i + 1)).take (a - (i + 1)), true, (ln : Nat), ((i - bg + 1 : Nat) : Int)⟩ := by
              unfold putW
              rw [if_pos rfl, show a + 1 - 1 - (i + 1) = a - (i + 1) by omega]
             have hcol : i - bg + 1 + 2 + ((t.drop (i + 1)).take (a - (i + 1))).length = a + 1 - bg + 1 := by rw [List.length_take, List.length_drop]; omega
             rw [hcol, ← hwd] at hrd
             have hfr4 : ∀ x c e', x ≠ j → (T00 ++ [.cells [.int .i64 0, .int .i64 0] 38 .rw])[x]? = some (.cells c e' .rw) → b.2.1[x]? = some (.cells c e' .rw) := fun x c e' hx h => p5 x _ hx (hw3.nrw (hfr3 x c e' hx h)) (hfr3 x c e' hx h)
             have hTl4 : T00.length + 1 ≤ b.2.1.length := by
              have := lt_of_get (hfr4 T00.length [.int .i64 0, .int .i64 0] 38 (by have := lt_of_get hb0; omega) (by simp))
              omega
             have hO4 : Oo H.length b.2.1 vo op := hO3.fr (fun m y hm hy => p5 m y (fun h => hO3.ne (h ▸ hb3) (by decide) hm) (hO3.nb hw3 (by decide) hm) hy)
             have hE4 : Eo H b.2.1 ve es := hE3.fr (fun m y hm hy => by
              rcases hm with hm | ⟨x, hx, hm⟩
              ·exact p5 m y (fun h => hE3.1.ne (h ▸ hb3) (by decide) hm) (hw3.nb hE3.1 (by decide) hm) hy
              ·exact p5 m y (fun h => (hE3.2 x hx).2.ne (h ▸ hb3) (by decide) hm) (hdj x hx m hm) hy)
             have hdj4 : ∀ x ∈ es, ∀ m, bkT H.length x.2 m → ¬ bkT H.length b.1 m := by
              intro x hx m hm h
              have h1 := p6 m h
              obtain ⟨q, hq⟩ := hm
              rcases (hE3.2 x hx).2 with ⟨h2, _⟩ | ⟨_, _, m', h2, h3⟩
              ·rw [h2] at hq; cases hq
              ·rw [hq] at h2
               injection h2 with h2
               have := lt_of_get h3
               omega
             have hws4 : (ws ++ [putW t i (a + 1) true ln bg]).length = ws.length + 1 := by simp
             refine go_drawZ tFollows (by kernel_rfl) ?_
             simp only [go_sem, simprocAttr, hl, h0, h2, h4, hg2, TkC.l1, TkC.l0, g92, g34, ← hT3, hb3, ↓hput]
             refine back _ b.2.1 _ (a + 1) ln bg op (some ⟨bl, el, ws ++ [putW t i (a + 1) true ln bg]⟩) es k (by omega) (by omega) ⟨vo, bl, el, b.1, ve, true, _, p1, hO4, by rw [hws4]; exact p2, hE4, hdj4, .inl ⟨rfl, rfl⟩, by omega, by omega, by omega, by omega, by omega, by omega, ?_, .inl (p4.r _), by simpa using hTl4, hfr4⟩ (by omega) hrd ?_ ?_ ?_ ?_
             ·simp only [clean_andI, clean_sn, hce2, p3, true_and, and_true]; omega
             all_goals simp only [go_sem, simprocAttr, hl, h0, h2, h3, h4]
            ·have g34 : ((d.toNat : Int) != 34) = true := by
              rw [bne, show ((d.toNat : Int) == 34) = false from u8_neZ d34]; rfl
             refine go_drawZ tFollows (by kernel_rfl) ?_
             simp only [go_sem, simprocAttr, hl, h0, h2, h4, hg2, TkC.l1, TkC.l0, g92, g34]
             refine ih3 (n - 1) _ (by omega) ⟨_, a + 1, T.set j (.cells (TkC t (a + 1) ln bg vo bl el vw ve true) 93 .rw), _, by omega, by omega, by omega, rfl, rfl, hqa.one (by omega) hd d10 d34 (fun h => absurd h d92), ?_, ?_, ?_, ?_, ?_, ?_, ?_⟩
             ·simp only [clean_andI, clean_sn, hce2, true_and, and_true]; omega
             ·exact hst2.imp_left (fun h => by first | exact (h.l _).l _ | exact h.l _)
             all_goals simp only [go_sem, simprocAttr, hl, h0, h2, h3, h4]
        ·rw [if_neg c34] at hrd
         have g34 : ((c.toNat : Int) == 34) = false := u8_neZ c34
         have wm : IntKind.i64.wrap (((i + 1 : Nat) : Int) - 1) = (i : Nat) := by rw [wrap_i64 (by omega)]; omega
         have hset1 : ∀ y, T1.set j y = T.set j y := fun y => by rw [hT1, List.set_set]
         have hcs : isSt c = false := by
          unfold isSt
          simp [hbc, c10, c59, c40, c41, c34]
         simp only [go_sem, simprocAttr, hl, h0, g10, g59, g40, g41, g34, hb1, TkC.l1, wm, TkC.len, TkC.s1, hset1]
         rw [go_label_jump rfl]
         refine jump_ind (fun n st => ∃ σ a T2 e2, n + a = t.length ∧ i ≤ a ∧ a ≤ t.length ∧ T2 = T.set j (.cells (TkC t a ln bg vo bl el vw ve true) 93 .rw) ∧ st = ⟨σ, H ++ T2, e2⟩ ∧ BaA t i a ∧ clean H.length e2 ∧ (Sto (H.length + j) e2 ∨ (vo = .nils ∧ vw = .nils ∧ ve = .nils)) ∧ σ.length = 345 ∧ fr σ 0 = .ptr (H.length + j) 0 ∧ fr σ 2 = .ptr (H.length + T00.length) 0 ∧ fr σ 3 = .int .i64 0 ∧ fr σ 4 = .int .i64 i) (t.length - i)
          ⟨_, i, T.set j (.cells (TkC t i ln bg vo bl el vw ve true) 93 .rw), _, by omega, by omega, by omega, rfl, rfl, BaA.refl _ _, clean_andI.2 ⟨hce1, hcl⟩, hst1.imp_left (fun h => h.l _), by simp only [go_sem, simprocAttr, hl], by simp only [go_sem, simprocAttr, hl, h0], by simp only [go_sem, simprocAttr, hl, h2], by simp only [go_sem, simprocAttr, hl, h3], by simp only [go_sem, simprocAttr, hl]⟩ rfl ?_
         clear hl h0 h2 h3
         rintro n σ' H' e' ⟨σ, a, T2, e2, hna, hia, hal, hT2, heq, hqa, hce2, hst2, hl, h0, h2, h3, h4⟩ ih5
         cases heq
         have hb2 : T2[j]? = some (.cells (TkC t a ln bg vo bl el vw ve true) 93 .rw) := by rw [hT2]; exact hg2 _
         have hset : ∀ y, T2.set j y = T.set j y := fun y => by rw [hT2, List.set_set]
         by_cases hae : a = t.length
         ·have hqe : (a == t.length) = true := by simpa using hae
          have hqe2 : ((a : Int) == (t.length : Int)) = true := by rw [hae]; simp
          simp only [go_sem, simprocAttr, hl, h0]
          refine go_drawZ tFollows (by kernel_rfl) ?_
          simp only [go_sem, simprocAttr, hl, h0, h2, h4, hb2, TkC.l1, TkC.l0, hqe, hqe2]
          have hlt9 : i < a := by omega
          rw [jumpTo_scope, show findLabel _ 4 = some _ from rfl, jumpIn_some]
          have hO3 : Oo H.length T2 vo op := by rw [hT2]; exact hO.set hb
          have hw3 : GBuf H.length T2 vw 63 4 ws.length (wcells ws) := by rw [hT2]; exact hw.set hb
          have hE3 : Eo H T2 ve es := by rw [hT2]; exact hE.set hb
          have hfr3 : ∀ x c e', x ≠ j → (T00 ++ [.cells [.int .i64 0, .int .i64 0] 38 .rw])[x]? = some (.cells c e' .rw) → T2[x]? = some (.cells c e' .rw) := fun x c e' hx h => by rw [hT2, List.getElem?_set_ne (Ne.symm hx)]; exact hfr x c e' hx h
          obtain ⟨b, ⟨p1, p2, p3, p4, p6, p5⟩, hput⟩ := tok_put H T2 j t a ln bg vo bl el vw ve true ws hb2 hw3 i a false hbg hia (fun h => by cases h) hal ht (by omega)
          have hfin := hqa.fin (.inl (List.getElem?_eq_none (by omega)))
          rw [← hdc, hfin] at hrd
          simp only [] at hrd
          have hwd : putW t i a false ln bg = ⟨(t.drop i).take (a - i), false, (ln : Nat), ((i - bg + 1 : Nat) : Int)⟩ := by unfold putW; rw [if_neg (by decide)]
          have hcol : i - bg + 1 + ((t.drop i).take (a - i)).length = a - bg + 1 := by rw [List.length_take, List.length_drop]; omega
          rw [hcol, ← hwd] at hrd
          have hfr4 : ∀ x c e', x ≠ j → (T00 ++ [.cells [.int .i64 0, .int .i64 0] 38 .rw])[x]? = some (.cells c e' .rw) → b.2.1[x]? = some (.cells c e' .rw) := fun x c e' hx h => p5 x _ hx (hw3.nrw (hfr3 x c e' hx h)) (hfr3 x c e' hx h)
          have hTl4 : T00.length + 1 ≤ b.2.1.length := by
           have := lt_of_get (hfr4 T00.length [.int .i64 0, .int .i64 0] 38 (by have := lt_of_get hb0; omega) (by simp))
           omega
          have hO4 : Oo H.length b.2.1 vo op := hO3.fr (fun m y hm hy => p5 m y (fun h => hO3.ne (h ▸ hb2) (by decide) hm) (hO3.nb hw3 (by decide) hm) hy)
          have hE4 : Eo H b.2.1 ve es := hE3.fr (fun m y hm hy => by
           rcases hm with hm | ⟨x, hx, hm⟩
           ·exact p5 m y (fun h => hE3.1.ne (h ▸ hb2) (by decide) hm) (hw3.nb hE3.1 (by decide) hm) hy
           ·exact p5 m y (fun h => (hE3.2 x hx).2.ne (h ▸ hb2) (by decide) hm) (hdj x hx m hm) hy)
          have hdj4 : ∀ x ∈ es, ∀ m, bkT H.length x.2 m → ¬ bkT H.length b.1 m := by
           intro x hx m hm h
           have h1 := p6 m h
           obtain ⟨q, hq⟩ := hm
           rcases (hE3.2 x hx).2 with ⟨h2, _⟩ | ⟨_, _, m', h2, h3⟩
           ·rw [h2] at hq; cases hq
           ·rw [hq] at h2
            injection h2 with h2
            have := lt_of_get h3
            omega
          have hws4 : (ws ++ [putW t i a false ln bg]).length = ws.length + 1 := by simp
          simp only [go_sem, simprocAttr, hl, h0, h4, hb2, TkC.l1, ↓hput]
          refine back _ b.2.1 _ a ln bg op (some ⟨bl, el, ws ++ [putW t i a false ln bg]⟩) es k hlt9 hal ⟨vo, bl, el, b.1, ve, true, _, p1, hO4, by rw [hws4]; exact p2, hE4, hdj4, .inl ⟨rfl, rfl⟩, by omega, by omega, by omega, by omega, by omega, by omega, clean_andI.2 ⟨hce2, p3⟩, .inl (p4.r _), by simpa using hTl4, hfr4⟩ (by omega) hrd ?_ ?_ ?_ ?_
          all_goals simp only [go_sem, simprocAttr, hl, h0, h2, h3, h4]
         ·obtain ⟨d, hd⟩ : ∃ d, t[a]? = some d := ⟨t[a]'(by omega), List.getElem?_eq_getElem (by omega)⟩
          have hqe : (a == t.length) = false := by simpa using hae
          have hqe2 : ((a : Int) == (t.length : Int)) = false := by rw [beq_eq_false_iff_ne]; omega
          have hbl2 := fun H' k => tok_blank d H' k
          simp only [go_sem, simprocAttr, hl, h0]
          refine go_drawZ tFollows (by kernel_rfl) ?_
          simp only [go_sem, simprocAttr, hl, h0, h2, h4, hb2, TkC.l1, TkC.l0, hqe, hqe2]
          refine go_drawZ tFollows (by kernel_rfl) ?_
          simp only [go_sem, simprocAttr, hl, h0, h2, h4, hb2, TkC.l1, TkC.l0, hd, hbl2]
          refine condK_cut (fun st => ∃ σ e3, st = ⟨σ, H ++ T2, e3⟩ ∧ fr σ 155 = .bool (isSt d) ∧ fr σ 5 = .int .u8 d.toNat ∧ σ.length = 345 ∧ fr σ 0 = .ptr (H.length + j) 0 ∧ fr σ 2 = .ptr (H.length + T00.length) 0 ∧ fr σ 3 = .int .i64 0 ∧ fr σ 4 = .int .i64 i ∧ clean H.length e3 ∧ (Sto (H.length + j) e3 ∨ (vo = .nils ∧ vw = .nils ∧ ve = .nils))) (fun hbd => ?_) (fun hbd => ?_) ?_
          ·simp only [go_sem, simprocAttr, hl]
           exact ⟨_, _, rfl, by simp only [go_sem, simprocAttr, hl, hbd]; simp [isSt, hbd], by simp only [go_sem, simprocAttr, hl], by simp only [go_sem, simprocAttr, hl], by simp only [go_sem, simprocAttr, hl, h0], by simp only [go_sem, simprocAttr, hl, h2], by simp only [go_sem, simprocAttr, hl, h3], by simp only [go_sem, simprocAttr, hl, h4], hce2, hst2⟩
          ·simp only [go_sem, simprocAttr, hl]
           by_cases d10 : d = 10
           ·subst d10
            simp only [go_sem, simprocAttr, hl, show (((10 : UInt8).toNat : Int) == 10) = true from rfl]
            exact ⟨_, _, rfl, by simp only [go_sem, simprocAttr, hl]; rfl, by simp only [go_sem, simprocAttr, hl], by simp only [go_sem, simprocAttr, hl], by simp only [go_sem, simprocAttr, hl, h0], by simp only [go_sem, simprocAttr, hl, h2], by simp only [go_sem, simprocAttr, hl, h3], by simp only [go_sem, simprocAttr, hl, h4], hce2, hst2⟩
           ·have q10 : ((d.toNat : Int) == 10) = false := u8_neZ d10
            by_cases d59 : d = 59
            ·subst d59
             simp only [go_sem, simprocAttr, hl, show (((59 : UInt8).toNat : Int) == 59) = true from rfl, show (((59 : UInt8).toNat : Int) == 10) = false from rfl]
             exact ⟨_, _, rfl, by simp only [go_sem, simprocAttr, hl]; rfl, by simp only [go_sem, simprocAttr, hl], by simp only [go_sem, simprocAttr, hl], by simp only [go_sem, simprocAttr, hl, h0], by simp only [go_sem, simprocAttr, hl, h2], by simp only [go_sem, simprocAttr, hl, h3], by simp only [go_sem, simprocAttr, hl, h4], hce2, hst2⟩
            ·have q59 : ((d.toNat : Int) == 59) = false := u8_neZ d59
             by_cases d40 : d = 40
             ·subst d40
              simp only [go_sem, simprocAttr, hl, show (((40 : UInt8).toNat : Int) == 40) = true from rfl, show (((40 : UInt8).toNat : Int) == 10) = false from rfl, show (((40 : UInt8).toNat : Int) == 59) = false from rfl]
              exact ⟨_, _, rfl, by simp only [go_sem, simprocAttr, hl]; rfl, by simp only [go_sem, simprocAttr, hl], by simp only [go_sem, simprocAttr, hl], by simp only [go_sem, simprocAttr, hl, h0], by simp only [go_sem, simprocAttr, hl, h2], by simp only [go_sem, simprocAttr, hl, h3], by simp only [go_sem, simprocAttr, hl, h4], hce2, hst2⟩
             ·have q40 : ((d.toNat : Int) == 40) = false := u8_neZ d40
              by_cases d41 : d = 41
              ·subst d41
               simp only [go_sem, simprocAttr, hl, show (((41 : UInt8).toNat : Int) == 41) = true from rfl, show (((41 : UInt8).toNat : Int) == 10) = false from rfl, show (((41 : UInt8).toNat : Int) == 59) = false from rfl, show (((41 : UInt8).toNat : Int) == 40) = false from rfl]
               exact ⟨_, _, rfl, by simp only [go_sem, simprocAttr, hl]; rfl, by simp only [go_sem, simprocAttr, hl], by simp only [go_sem, simprocAttr, hl], by simp only [go_sem, simprocAttr, hl, h0], by simp only [go_sem, simprocAttr, hl, h2], by simp only [go_sem, simprocAttr, hl, h3], by simp only [go_sem, simprocAttr, hl, h4], hce2, hst2⟩
              ·have q41 : ((d.toNat : Int) == 41) = false := u8_neZ d41
               by_cases d34 : d = 34
               ·subst d34
                simp only [go_sem, simprocAttr, hl, show (((34 : UInt8).toNat : Int) == 34) = true from rfl, show (((34 : UInt8).toNat : Int) == 10) = false from rfl, show (((34 : UInt8).toNat : Int) == 59) = false from rfl, show (((34 : UInt8).toNat : Int) == 40) = false from rfl, show (((34 : UInt8).toNat : Int) == 41) = false from rfl]
                exact ⟨_, _, rfl, by simp only [go_sem, simprocAttr, hl]; rfl, by simp only [go_sem, simprocAttr, hl], by simp only [go_sem, simprocAttr, hl], by simp only [go_sem, simprocAttr, hl, h0], by simp only [go_sem, simprocAttr, hl, h2], by simp only [go_sem, simprocAttr, hl, h3], by simp only [go_sem, simprocAttr, hl, h4], hce2, hst2⟩
               ·have q34 : ((d.toNat : Int) == 34) = false := u8_neZ d34
                simp only [go_sem, simprocAttr, hl, q10, q59, q40, q41, q34]
                exact ⟨_, _, rfl, by simp only [go_sem, simprocAttr, hl]; simp [isSt, hbd, d10, d59, d40, d41, d34], by simp only [go_sem, simprocAttr, hl], by simp only [go_sem, simprocAttr, hl], by simp only [go_sem, simprocAttr, hl, h0], by simp only [go_sem, simprocAttr, hl, h2], by simp only [go_sem, simprocAttr, hl, h3], by simp only [go_sem, simprocAttr, hl, h4], hce2, hst2⟩
          ·clear hl h0 h2 h3 h4
           rintro _ ⟨σ, e3, rfl, h155, h5, hl, h0, h2, h3, h4, hce3, hst3⟩
           have wa := wrap_succ (show a < 9223372036854775807 by omega)
           have wa2 := wrap_succ (show a + 1 < 9223372036854775807 by omega)
           cases hsd : isSt d with
           | true =>
            rw [hsd] at h155
            simp only [go_sem, simprocAttr, hl, h155]
            have hlt9 : i < a := by
             rcases Nat.lt_or_ge i a with h | h
             ·exact h
             ·have : a = i := by omega
              rw [this] at hd
              have hdc2 : d = c := Option.some.inj (hd.symm.trans hc)
              rw [hdc2, hcs] at hsd
              cases hsd
            rw [jumpTo_scope, show findLabel _ 4 = some _ from rfl, jumpIn_some]
            have hO3 : Oo H.length T2 vo op := by rw [hT2]; exact hO.set hb
            have hw3 : GBuf H.length T2 vw 63 4 ws.length (wcells ws) := by rw [hT2]; exact hw.set hb
            have hE3 : Eo H T2 ve es := by rw [hT2]; exact hE.set hb
            have hfr3 : ∀ x c e', x ≠ j → (T00 ++ [.cells [.int .i64 0, .int .i64 0] 38 .rw])[x]? = some (.cells c e' .rw) → T2[x]? = some (.cells c e' .rw) := fun x c e' hx h => by rw [hT2, List.getElem?_set_ne (Ne.symm hx)]; exact hfr x c e' hx h
            obtain ⟨b, ⟨p1, p2, p3, p4, p6, p5⟩, hput⟩ := tok_put H T2 j t a ln bg vo bl el vw ve true ws hb2 hw3 i a false hbg hia (fun h => by cases h) hal ht (by omega)
            have hfin := hqa.fin (.inr ⟨d, hd, hsd⟩)
            rw [← hdc, hfin] at hrd
            simp only [] at hrd
            have hwd : putW t i a false ln bg = ⟨(t.drop i).take (a - i), false, (ln : Nat), ((i - bg + 1 : Nat) : Int)⟩ := by unfold putW; rw [if_neg (by decide)]
            have hcol : i - bg + 1 + ((t.drop i).take (a - i)).length = a - bg + 1 := by rw [List.length_take, List.length_drop]; omega
            rw [hcol, ← hwd] at hrd
            have hfr4 : ∀ x c e', x ≠ j → (T00 ++ [.cells [.int .i64 0, .int .i64 0] 38 .rw])[x]? = some (.cells c e' .rw) → b.2.1[x]? = some (.cells c e' .rw) := fun x c e' hx h => p5 x _ hx (hw3.nrw (hfr3 x c e' hx h)) (hfr3 x c e' hx h)
            have hTl4 : T00.length + 1 ≤ b.2.1.length := by
             have := lt_of_get (hfr4 T00.length [.int .i64 0, .int .i64 0] 38 (by have := lt_of_get hb0; omega) (by simp))
             omega
            have hO4 : Oo H.length b.2.1 vo op := hO3.fr (fun m y hm hy => p5 m y (fun h => hO3.ne (h ▸ hb2) (by decide) hm) (hO3.nb hw3 (by decide) hm) hy)
            have hE4 : Eo H b.2.1 ve es := hE3.fr (fun m y hm hy => by
             rcases hm with hm | ⟨x, hx, hm⟩
             ·exact p5 m y (fun h => hE3.1.ne (h ▸ hb2) (by decide) hm) (hw3.nb hE3.1 (by decide) hm) hy
             ·exact p5 m y (fun h => (hE3.2 x hx).2.ne (h ▸ hb2) (by decide) hm) (hdj x hx m hm) hy)
            have hdj4 : ∀ x ∈ es, ∀ m, bkT H.length x.2 m → ¬ bkT H.length b.1 m := by
             intro x hx m hm h
             have h1 := p6 m h
             obtain ⟨q, hq⟩ := hm
             rcases (hE3.2 x hx).2 with ⟨h2, _⟩ | ⟨_, _, m', h2, h3⟩
             ·rw [h2] at hq; cases hq
             ·rw [hq] at h2
              injection h2 with h2
              have := lt_of_get h3
              omega
            have hws4 : (ws ++ [putW t i a false ln bg]).length = ws.length + 1 := by simp
            simp only [go_sem, simprocAttr, hl, h0, h4, hb2, TkC.l1, ↓hput]
            refine back _ b.2.1 _ a ln bg op (some ⟨bl, el, ws ++ [putW t i a false ln bg]⟩) es k hlt9 hal ⟨vo, bl, el, b.1, ve, true, _, p1, hO4, by rw [hws4]; exact p2, hE4, hdj4, .inl ⟨rfl, rfl⟩, by omega, by omega, by omega, by omega, by omega, by omega, clean_andI.2 ⟨hce3, p3⟩, .inl (p4.r _), by simpa using hTl4, hfr4⟩ (by omega) hrd ?_ ?_ ?_ ?_
            all_goals simp only [go_sem, simprocAttr, hl, h0, h2, h3, h4]
           | false =>
            rw [hsd] at h155
            have hal2 : a < t.length := by omega
            simp only [go_sem, simprocAttr, hl, h155]
            by_cases d92 : d = 92
            ·subst d92
             have g92 : (((92 : UInt8).toNat : Int) == 92) = true := rfl
             by_cases hlt2 : a + 1 < t.length
             ·have hdl : decide (a + 1 < t.length) = true := by simpa using hlt2
              obtain ⟨f, hf⟩ : ∃ f, t[a + 1]? = some f := ⟨t[a + 1], List.getElem?_eq_getElem hlt2⟩
              by_cases f10 : f = 10
              ·subst f10
               have gf : (((10 : UInt8).toNat : Int) != 10) = false := rfl
               refine go_drawZ tFollows (by kernel_rfl) ?_
               simp only [go_sem, simprocAttr, hl, h0, h5, hb2, TkC.l1, TkC.l0, g92, wa, hdl, hf, gf, TkC.len, TkC.s1, hset]
               refine ih5 (n - 1) _ (by omega) ⟨_, a + 1, T.set j (.cells (TkC t (a + 1) ln bg vo bl el vw ve true) 93 .rw), _, by omega, by omega, by omega, rfl, rfl, hqa.one (by omega) hd hsd (fun _ => .inr hf), ?_, ?_, ?_, ?_, ?_, ?_, ?_⟩
               ·simp only [clean_andI, clean_sn, hce3, true_and, and_true]; omega
               ·exact hst3.imp_left (fun h => by first | exact (h.l _).l _ | exact h.l _)
               all_goals simp only [go_sem, simprocAttr, hl, h0, h2, h3, h4]
              ·have gf : ((f.toNat : Int) != 10) = true := by
                rw [bne, show ((f.toNat : Int) == 10) = false from u8_neZ f10]; rfl
               refine go_drawZ tFollows (by kernel_rfl) ?_
               simp only [go_sem, simprocAttr, hl, h0, h5, hb2, hg2, TkC.l1, TkC.l0, g92, wa, wa2, hdl, hf, gf, TkC.len, TkC.s1, hset, List.set_set]
               refine ih5 (n - 2) _ (by omega) ⟨_, a + 2, T.set j (.cells (TkC t (a + 2) ln bg vo bl el vw ve true) 93 .rw), _, by omega, by omega, by omega, rfl, rfl, hqa.two (by omega) hd hf f10, ?_, ?_, ?_, ?_, ?_, ?_, ?_⟩
               ·simp only [clean_andI, clean_sn, hce3, true_and, and_true]; omega
               ·exact hst3.imp_left (fun h => by first | exact (h.l _).l _ | exact h.l _)
               all_goals simp only [go_sem, simprocAttr, hl, h0, h2, h3, h4]
             ·have hdl : decide (a + 1 < t.length) = false := by simpa using hlt2
              refine go_drawZ tFollows (by kernel_rfl) ?_
              simp only [go_sem, simprocAttr, hl, h0, h5, hb2, TkC.l1, TkC.l0, g92, wa, hdl, TkC.len, TkC.s1, hset]
              refine ih5 (n - 1) _ (by omega) ⟨_, a + 1, T.set j (.cells (TkC t (a + 1) ln bg vo bl el vw ve true) 93 .rw), _, by omega, by omega, by omega, rfl, rfl, hqa.one (by omega) hd hsd (fun _ => .inl (List.getElem?_eq_none (by omega))), ?_, ?_, ?_, ?_, ?_, ?_, ?_⟩
              ·simp only [clean_andI, clean_sn, hce3, true_and, and_true]; omega
              ·exact hst3.imp_left (fun h => by first | exact (h.l _).l _ | exact h.l _)
              all_goals simp only [go_sem, simprocAttr, hl, h0, h2, h3, h4]
            ·have g92 : ((d.toNat : Int) == 92) = false := u8_neZ d92
             refine go_drawZ tFollows (by kernel_rfl) ?_
             simp only [go_sem, simprocAttr, hl, h0, h5, hb2, TkC.l1, TkC.l0, g92, wa, TkC.len, TkC.s1, hset]
             refine ih5 (n - 1) _ (by omega) ⟨_, a + 1, T.set j (.cells (TkC t (a + 1) ln bg vo bl el vw ve true) 93 .rw), _, by omega, by omega, by omega, rfl, rfl, hqa.one (by omega) hd hsd (fun h => absurd h d92), ?_, ?_, ?_, ?_, ?_, ?_, ?_⟩
             ·simp only [clean_andI, clean_sn, hce3, true_and, and_true]; omega
             ·exact hst3.imp_left (fun h => by first | exact (h.l _).l _ | exact h.l _)
             all_goals simp only [go_sem, simprocAttr, hl, h0, h2, h3, h4]
end Go.Proofs.YtdppgaphcmhffaaGreatDoor.V
namespace Go.Proofs.YtdppgaphcmhffaaGreatDoor.V
open Go
attribute [local irreducible] go goOps goD opK callK callT stepK leaveTo nextK

def tyO (l : List UInt8) : Option Nat :=
 if l = [97] then some 1 else if l = [110, 115] then some 2 else if l = [99, 110, 97, 109, 101] then some 5 else if l = [115, 111, 97] then some 6 else if l = [112, 116, 114] then some 12 else
 if l = [109, 120] then some 15 else if l = [116, 120, 116] then some 16 else if l = [97, 97, 97, 97] then some 28 else if l = [115, 114, 118] then some 33 else
 if l.take 4 = [116, 121, 112, 101] then numS (l.drop 4) 65535 else none
theorem kXt_low {i : Nat} (h : i < 9) : lowS (kXt i) = (([[97], [110, 115], [99, 110, 97, 109, 101], [115, 111, 97], [112, 116, 114], [109, 120], [116, 120, 116], [97, 97, 97, 97], [115, 114, 118]] : List (List UInt8))[i]?).getD [] := by
 have : i = 0 ∨ i = 1 ∨ i = 2 ∨ i = 3 ∨ i = 4 ∨ i = 5 ∨ i = 6 ∨ i = 7 ∨ i = 8 := by omega
 rcases this with rfl | rfl | rfl | rfl | rfl | rfl | rfl | rfl | rfl <;> decide
theorem tyO_at {i : Nat} (h : i < 9) {l : List UInt8} (hl : lowS (kXt i) = l) : ∃ n : Nat, tyO l = some n ∧ kT i = (n : Int) ∧ n < 65536 := by
 rw [kXt_low h] at hl
 have : i = 0 ∨ i = 1 ∨ i = 2 ∨ i = 3 ∨ i = 4 ∨ i = 5 ∨ i = 6 ∨ i = 7 ∨ i = 8 := by omega
 rcases this with rfl | rfl | rfl | rfl | rfl | rfl | rfl | rfl | rfl <;> (subst hl; exact ⟨_, rfl, rfl, by decide⟩)
theorem tyO_no {l : List UInt8} (h : ∀ j, j < 9 → lowS (kXt j) ≠ l) : tyO l = if l.take 4 = [116, 121, 112, 101] then numS (l.drop 4) 65535 else none := by
 have h0 := h 0 (by decide); have h1 := h 1 (by decide); have h2 := h 2 (by decide); have h3 := h 3 (by decide); have h4 := h 4 (by decide)
 have h5 := h 5 (by decide); have h6 := h 6 (by decide); have h7 := h 7 (by decide); have h8 := h 8 (by decide)
 have h0 : ([97] : List UInt8) ≠ l := fun e => h0 (by rw [kXt_low (by decide)]; exact e)
 have h1 : [110, 115] ≠ l := fun e => h1 (by rw [kXt_low (by decide)]; exact e)
 have h2 : [99, 110, 97, 109, 101] ≠ l := fun e => h2 (by rw [kXt_low (by decide)]; exact e)
 have h3 : [115, 111, 97] ≠ l := fun e => h3 (by rw [kXt_low (by decide)]; exact e)
 have h4 : [112, 116, 114] ≠ l := fun e => h4 (by rw [kXt_low (by decide)]; exact e)
 have h5 : [109, 120] ≠ l := fun e => h5 (by rw [kXt_low (by decide)]; exact e)
 have h6 : [116, 120, 116] ≠ l := fun e => h6 (by rw [kXt_low (by decide)]; exact e)
 have h7 : [97, 97, 97, 97] ≠ l := fun e => h7 (by rw [kXt_low (by decide)]; exact e)
 have h8 : [115, 114, 118] ≠ l := fun e => h8 (by rw [kXt_low (by decide)]; exact e)
 unfold tyO
 rw [if_neg (Ne.symm h0), if_neg (Ne.symm h1), if_neg (Ne.symm h2), if_neg (Ne.symm h3), if_neg (Ne.symm h4), if_neg (Ne.symm h5), if_neg (Ne.symm h6), if_neg (Ne.symm h7), if_neg (Ne.symm h8)]
theorem decP_ne (n : Nat) : decP n ≠ [] := by
 unfold decP
 split <;> simp
theorem hexD_isD {n : Nat} (h : n < 10) : isD (hexD n) = true ∧ (hexD n).toNat - 48 = n ∧ (n ≠ 0 → hexD n ≠ 48) := by
 have : ∀ n : Fin 10, isD (hexD n.val) = true ∧ (hexD n.val).toNat - 48 = n.val ∧ (n.val ≠ 0 → hexD n.val ≠ 48) := by decide
 exact this ⟨n, h⟩
theorem decP_ok (n : Nat) : (decP n).all isD = true ∧ valS (decP n) = n ∧ (n ≠ 0 → (decP n)[0]? ≠ some 48) ∧ (n < 10 → (decP n).length = 1) := by
 induction n using Nat.strongRecOn with
 | _ n ih =>
  by_cases h : n < 10
  ·obtain ⟨h1, h2, h3⟩ := hexD_isD h
   have he : decP n = [hexD n] := by unfold decP; exact if_pos h
   rw [he]
   refine ⟨by simp [h1], by simp [valS, h2], fun hn => by simpa using h3 hn, fun _ => rfl⟩
  ·have he : decP n = decP (n / 10) ++ [hexD (n % 10)] := by rw [decP]; exact if_neg h
   obtain ⟨i1, i2, i3, _⟩ := ih (n / 10) (by omega)
   obtain ⟨h1, h2, _⟩ := hexD_isD (n := n % 10) (by omega)
   rw [he]
   refine ⟨by rw [List.all_append, i1]; simp [h1], ?_, fun _ => ?_, fun h' => absurd h' h⟩
   ·have : valS (decP (n / 10) ++ [hexD (n % 10)]) = 10 * valS (decP (n / 10)) + ((hexD (n % 10)).toNat - 48) := by simp [valS]
    rw [this, i2, h2]; omega
   ·have hp : 0 < (decP (n / 10)).length := List.length_pos_iff.2 (decP_ne _)
    rw [List.getElem?_append_left hp]
    exact i3 (by omega)
theorem tyO_lt {l : List UInt8} {n : Nat} (h : tyO l = some n) : n < 65536 := by
 by_cases hk : ∃ j, j < 9 ∧ lowS (kXt j) = l
 ·obtain ⟨j, hj, hk⟩ := hk
  obtain ⟨m, h1, _, h3⟩ := tyO_at hj hk
  rw [h1] at h; cases h; exact h3
 ·rw [tyO_no (fun j hj hh => hk ⟨j, hj, hh⟩)] at h
  split at h
  ·unfold numS at h
   split at h
   ·cases h
   ·split at h
    ·split at h
     ·cases h; omega
     ·cases h
    ·cases h
  ·cases h

theorem typ_cut (l : List UInt8) : cutS l [116, 121, 112, 101] = if l.take 4 = [116, 121, 112, 101] then (l.drop 4, true) else (l, false) := rfl
theorem kXt_len {i : Nat} (h : i < 9) : (kXt i).length ≤ 5 := by
 have : i = 0 ∨ i = 1 ∨ i = 2 ∨ i = 3 ∨ i = 4 ∨ i = 5 ∨ i = 6 ∨ i = 7 ∨ i = 8 := by omega
 rcases this with rfl | rfl | rfl | rfl | rfl | rfl | rfl | rfl | rfl <;> decide
set_option maxRecDepth 20000 in
theorem rdata_TypeOf (s : List UInt8) (H k) (hk : Tk H) (hte : Te H) (hs : s.length ≤ 1048576) : callK Tryz.prog 48 [.str s] H k = k (.tuple [.int .u16 (((tyO (lowS s)).getD 0 : Nat)), .bool (tyO (lowS s)).isSome], H, z0) := by
 have hmax : s.length ≤ maxI := by unfold maxI; omega
 have hlw := fun k => rdata_low s H k hmax
 have hll : (lowS s).length = s.length := by simp [lowS]
 obtain ⟨e, kd, hg⟩ := hk
 refine callK_eq (r := (.tuple [.int .u16 (((tyO (lowS s)).getD 0 : Nat)), .bool (tyO (lowS s)).isSome], H, z0)) ?_ k
 refine callK_start (n := 40) (rs := [.tmp 2, .tmp 3]) Tryz.func48 rfl rfl rfl ?_
 intro σ hl ha
 have h0 := ha 0 (by simp)
 clear ha
 simp only [Option.getD_some, List.getElem?_cons_zero, List.getElem?_cons_succ] at h0
 generalize hL : lowS s = L at *
 simp only [go_sem, simprocAttr, hl, h0, hlw]
 refine go_rounds (fun n st => ∃ σ i, n + i = 9 ∧ (∀ j, j < i → lowS (kXt j) ≠ L) ∧ st = ⟨σ, H, z0⟩ ∧ σ.length = 40 ∧ fr σ 0 = .str L ∧ fr σ 11 = .int .i64 (i : Nat)) 9
  ⟨_, 0, rfl, fun j hj => by omega, rfl, by simp only [go_sem, simprocAttr, hl], by simp only [go_sem, simprocAttr, hl], by simp only [go_sem, simprocAttr, hl]⟩ ?_
 rintro n _ ⟨σ, i, hn, hall, rfl, hl, h0, h11⟩
 by_cases hlt : i < 9
 ·obtain ⟨l1, _⟩ := kinds_at hlt e kd
  have l2 := kinds_tx hlt e kd
  have hw := wrap_succ (show i < 9223372036854775807 by omega)
  have g0 : decide ((i : Int) < 9) = true := by simp; omega
  have b0 : (i : Int) < 9 := by omega
  have hlk := fun k => rdata_low (kXt i) H k (by have := kXt_len hlt; unfold maxI; omega)
  by_cases hk : lowS (kXt i) = L
  ·have g1 : (lowS (kXt i) == L) = true := by rw [hk]; exact beq_self_eq_true _
   obtain ⟨m, hm, hkm, _⟩ := tyO_at hlt hk
   simp only [go_sem, simprocAttr, hl, h0, h11, g0, b0, hg, l1, l2, g1, hlk, hm, hkm, Option.getD_some, Option.isSome_some]
  ·have g1 : (lowS (kXt i) == L) = false := by rw [beq_eq_false_iff_ne]; exact hk
   simp only [go_sem, simprocAttr, hl, h0, h11, g0, b0, hg, l1, l2, g1, hlk, hw]
   refine ⟨n - 1, by omega, _, i + 1, by omega, fun j hj => ?_, rfl, by simp only [go_sem, simprocAttr, hl], by simp only [go_sem, simprocAttr, hl, h0], by simp only [go_sem, simprocAttr, hl]⟩
   by_cases hji : j = i
   ·rw [hji]; exact hk
   ·exact hall j (by omega)
 ·have g0 : decide ((i : Int) < 9) = false := by simp; omega
  rw [tyO_no (fun j hj => hall j (by omega))]
  have hcp := fun k => cut_prefix L [116, 121, 112, 101] H k (by unfold maxI; omega) (by unfold maxI; simp)
  rw [typ_cut] at hcp
  by_cases ht : L.take 4 = [116, 121, 112, 101]
  ·rw [if_pos ht] at hcp ⊢
   have hnm := fun k => rdata_number (L.drop 4) 16 65535 (.inr (.inl ⟨rfl, rfl⟩)) (by decide) H k hte (by rw [List.length_drop]; omega)
   have hw2 : IntKind.u16.wrap ((((numS (L.drop 4) 65535).getD 0 : Nat)) : Int) = (((numS (L.drop 4) 65535).getD 0 : Nat) : Int) := by
    refine wrap_u16 ?_
    have : tyO L = numS (L.drop 4) 65535 := by rw [tyO_no (fun j hj => hall j (by omega)), if_pos ht]
    cases hq : numS (L.drop 4) 65535 with
    | none => simp
    | some m => have := tyO_lt (this.trans hq); simp; omega
   simp only [go_sem, simprocAttr, hl, h0, h11, g0, hcp, hnm, hw2]
  ·rw [if_neg ht] at hcp ⊢
   simp only [go_sem, simprocAttr, hl, h0, h11, g0, hcp, Option.getD_none, Option.isSome_none]
end Go.Proofs.YtdppgaphcmhffaaGreatDoor.V
namespace Go.Proofs.YtdppgaphcmhffaaGreatDoor.V
open Go
attribute [local irreducible] go goOps goD opK callK callT stepK leaveTo nextK

def two (n : Nat) : List UInt8 := [UInt8.ofNat (n / 256), UInt8.ofNat n]
end Go.Proofs.YtdppgaphcmhffaaGreatDoor.V
namespace Go.Proofs.YtdppgaphcmhffaaGreatDoor.V
open Go
attribute [local irreducible] go goOps goD opK callK callT stepK leaveTo nextK

def noCC (s : List UInt8) : Prop := ∀ j : Nat, s[j]? = some 58 → s[j + 1]? ≠ some 58
theorem noCC.drop {s : List UInt8} (h : noCC s) (i : Nat) : noCC (s.drop i) := by
 intro j h1 h2
 rw [List.getElem?_drop] at h1 h2
 exact h (i + j) h1 h2
theorem noCC.tk {s : List UInt8} (h : noCC s) (i : Nat) : ((s.drop i).take 2 == [58, 58]) = false := by
 rw [beq_eq_false_iff_ne]
 intro e
 have h1 : s[i]? = some 58 := by have := congrArg (·[0]?) e; simpa [List.getElem?_take, List.getElem?_drop] using this
 have h2 : s[i + 1]? = some 58 := by have := congrArg (·[1]?) e; simpa [List.getElem?_take, List.getElem?_drop] using this
 exact h i h1 h2
def Ml (H : Hp) : Prop := ∃ (m : Int) (e : TypeId) (k : Kd), H[6]? = some (.cells [.int .i64 m] e k)
theorem Ml.old {H : Hp} (h : Ml H) (l : Hp) : Ml (H ++ l) := by
 obtain ⟨m, e, k, h⟩ := h
 exact ⟨m, e, k, get_app h⟩
end Go.Proofs.YtdppgaphcmhffaaGreatDoor.V
namespace Go.Proofs.YtdppgaphcmhffaaGreatDoor.V
open Go
attribute [local irreducible] go goOps goD opK callK callT stepK leaveTo nextK

theorem set_new {H T : Hp} {rb a : Nat} {y x : ABlk} (h : T[a]? = some x) : (H.set rb y ++ T)[H.length + a]? = some x := by
 rw [List.getElem?_append_right (by simp)]
 simpa using h
theorem numS_decP {n mx : Nat} (h : n ≤ mx) (hm : mx ≤ 4294967295) : numS (decP n) mx = some n := by
 obtain ⟨h1, h2, h3, h4⟩ := decP_ok n
 have hl := decP_le2 (n := n) (by omega)
 unfold numS
 rw [if_neg, if_pos h1, h2, if_pos h]
 rintro (h | ⟨h, h'⟩ | h)
 ·exact decP_ne n h
 ·by_cases hn : n < 10
  ·have := h4 hn; omega
  ·exact h3 (by omega) h'
 ·omega
theorem decA_split (raw : List UInt8) (hr : raw ≠ []) : splitB 46 (joinS [46] (decA raw)) = decA raw := by
 have hno : ∀ x ∈ decA raw, (46 : UInt8) ∉ x := by
  intro x hx h
  simp only [decA, List.mem_map] at hx
  obtain ⟨b, _, rfl⟩ := hx
  have := decP_dig _ _ h
  revert this; decide
 cases raw with
 | nil => exact absurd rfl hr
 | cons b r => exact splitB_join 46 _ _ (hno _ (by simp [decA])) (fun y hy => hno y (by simp [decA] at hy ⊢; exact .inr hy))
section
variable (H : Hp) (rb : Nat) (v : AV) (o : List UInt8) (d : Dt) (j : Nat) (w : Wd) (ws : List Wd) (hq : w.q = false) (hb : H[rb]? = some (.cells (WdC v o d j) 144 .rw)) (hv : Wv H v (w :: ws)) (hw : w.t.length ≤ 1048576)
include hq hb hv hw
set_option maxRecDepth 20000 in
set_option maxHeartbeats 2000000 in
theorem wd_four (raw : List UInt8) (hr : raw.length = 4) (hwt : w.t = joinS [46] (decA raw)) (ht : Te H) (hdr : d.raw.length ≤ 1048576) :
  ∃ b : AV × Hp, Wv (H ++ b.2) b.1 ws ∧ ∀ k, callK Tryz.prog 84 [.ptr rb 0] H k = k (.tuple [], H.set rb (.cells (WdC b.1 o { d with raw := d.raw ++ raw } j) 144 .rw) ++ b.2, ⟨some rb, some rb⟩) := by
 obtain ⟨v', L, hv', hnx⟩ := wd_next H rb v o d j w ws hq hb hv
 have hlt := lt_of_get hb
 have hg : ∀ y T, (H.set rb y ++ T)[rb]? = some y := fun y T => get_app (by rw [List.getElem?_set_self hlt])
 have hs : ∀ y z T, (H.set rb y ++ T).set rb z = H.set rb z ++ T := fun y z T => by rw [List.set_append_left _ _ (by simpa using hlt), List.set_set]
 have hlv : ∀ (x : AV) (H' : Hp), leave H.length x H' ⟨some rb, some rb⟩ = (x, H', ⟨some rb, some rb⟩) := fun x H' => leave_ee hlt
 have hsp := fun y k => s_Split w.t 46 (H.set rb y ++ L) k hw
 have hne : raw ≠ [] := by rintro rfl; simp at hr
 rw [hwt, decA_split raw hne] at hsp
 have hAl : (decA raw).length = 4 := by simp [decA, hr]
 simp only [List.length_append, List.length_set, hAl] at hsp
 rw [hwt] at hnx
 refine callK_exP (fun b : AV × Hp => Wv (H ++ b.2) b.1 ws) (fun b => (.tuple [], H.set rb (.cells (WdC b.1 o { d with raw := d.raw ++ raw } j) 144 .rw) ++ b.2, ⟨some rb, some rb⟩)) ?_
 refine callK_start (n := 42) (rs := []) Tryz.func84 rfl rfl rfl ?_
 intro σ hl ha
 have h0 := ha 0 (by simp)
 clear ha
 simp only [Option.getD_some, List.getElem?_cons_zero, List.getElem?_cons_succ] at h0
 simp only [go_sem, simprocAttr, hl, h0, hnx, hsp]
 refine go_rounds (fun n st => ∃ σ i T, n + i = 4 ∧ (L ++ [.cells (strs (decA raw)) 9 .rw])[L.length]? = T[L.length]? ∧ (∃ T2, T = L ++ T2) ∧ st = ⟨σ, H.set rb (.cells (WdC v' o { d with raw := d.raw ++ raw.take i } j) 144 .rw) ++ T, ⟨some rb, some rb⟩⟩ ∧ σ.length = 42 ∧ fr σ 0 = .ptr rb 0 ∧ fr σ 14 = .slice (H.length + L.length) 0 4 (.ex 4) ∧ fr σ 15 = .int .i64 4 ∧ fr σ 16 = .int .i64 (i : Nat)) 4
  ⟨_, 0, L ++ [.cells (strs (decA raw)) 9 .rw], rfl, rfl, ⟨_, rfl⟩, by simp only [List.take_zero, List.append_nil]; rfl, by simp only [go_sem, simprocAttr, hl], by simp only [go_sem, simprocAttr, hl, h0], by simp only [go_sem, simprocAttr, hl], by simp only [go_sem, simprocAttr, hl], by simp only [go_sem, simprocAttr, hl]⟩ ?_
 rintro n _ ⟨σ, i, T, hn, hT, ⟨T2, hT2⟩, rfl, hl, h0, h14, h15, h16⟩
 have hT' : T[L.length]? = some (.cells (strs (decA raw)) 9 .rw) := by rw [← hT, List.getElem?_append_right (Nat.le_refl _)]; simp
 by_cases hlt4 : i < 4
 ·obtain ⟨c, hc⟩ : ∃ c, raw[i]? = some c := ⟨_, List.getElem?_eq_getElem (by omega)⟩
  have hgA := fun y => set_new (H := H) (rb := rb) (y := y) hT'
  have hdi : (decA raw)[i]? = some (decP c.toNat) := by simp [decA, hc]
  have hld := strs_ld hdi
  have hcl := c.toNat_lt
  have hw1 := wrap_succ (show i < 9223372036854775807 by omega)
  have hdl := decP_le2 (n := c.toNat) (by omega)
  have hnm := fun y k => rdata_number (decP c.toNat) 8 255 (.inl ⟨rfl, rfl⟩) (by decide) (H.set rb y ++ T) k ((ht.set hb).old T) (by omega)
  rw [numS_decP (n := c.toNat) (mx := 255) (by omega) (by decide)] at hnm
  simp only [Option.getD_some, Option.isSome_some] at hnm
  have g0 : decide ((i : Int) < 4) = true := by simp; omega
  have g1 : (i : Int) < 4 := by omega
  have w8 : IntKind.u8.wrap (c.toNat : Int) = (c.toNat : Int) := wrap_u8 (by omega)
  have hbs := bsliceU c.toNat
  have hsn : raw.take i ++ [c] = raw.take (i + 1) := (take_snoc hc).symm
  have hml : d.raw.length + ((raw.take i).length + 1) ≤ maxI := by unfold maxI; rw [List.length_take]; omega
  have hgN : ∀ y X, (H.set rb y ++ (T ++ [X]))[H.length + T.length]? = some X := fun y X => set_new (by simp)
  simp only [go_sem, simprocAttr, hl, h0, h14, h15, h16, g0, g1, hgA, hld, hnm]
  refine go_drawZ tFollows (by kernel_rfl) ?_
  simp only [go_sem, simprocAttr, hl, h0, h14, h15, h16, hg, hs, WdC.l2, WdC.len, WdC.s2, w8, hbs, hgN, hml, hw1, and_ew, hsn]
  exact ⟨by kernel_rfl, n - 1, by omega, _, i + 1, T ++ [_], by omega, (get_app hT').symm, ⟨T2 ++ [_], by rw [hT2, List.append_assoc]⟩, rfl, by simp only [go_sem, simprocAttr, hl], by simp only [go_sem, simprocAttr, hl, h0], by simp only [go_sem, simprocAttr, hl, h14], by simp only [go_sem, simprocAttr, hl, h15], by simp only [go_sem, simprocAttr, hl]⟩
 ·have hi : i = 4 := by omega
  subst hi
  rw [List.take_of_length_le (by omega)]
  simp only [go_sem, simprocAttr, hl, h0, h14, h15, h16, hlv]
  exact ⟨(v', T), by rw [hT2, ← List.append_assoc]; exact hv'.old _, rfl⟩
end
theorem Ml.set {H : Hp} (h : Ml H) {rb : Nat} {v : AV} {o : List UInt8} {d : Dt} {j : Nat} {x : ABlk} (hb : H[rb]? = some (.cells (WdC v o d j) 144 .rw)) : Ml (H.set rb x) := by
 obtain ⟨m, e, k, h1⟩ := h
 have g1 : rb ≠ 6 := by rintro rfl; rw [hb] at h1; simp [WdC] at h1
 exact ⟨m, e, k, by rw [List.getElem?_set_ne g1]; exact h1⟩
section
variable (H : Hp) (rb : Nat) (v : AV) (o : List UInt8) (d : Dt) (j : Nat) (w : Wd) (ws : List Wd) (hq : w.q = false) (hb : H[rb]? = some (.cells (WdC v o d j) 144 .rw)) (hv : Wv H v (w :: ws))
include hq hb hv
end
end Go.Proofs.YtdppgaphcmhffaaGreatDoor.V
namespace Go.Proofs.YtdppgaphcmhffaaGreatDoor.V
open Go
attribute [local irreducible] go goOps goD opK callK callT stepK leaveTo nextK

section
variable (H : Hp) (rb : Nat) (v : AV) (o : List UInt8) (d : Dt) (j : Nat) (ws : List Wd) (hb : H[rb]? = some (.cells (WdC v o d j) 144 .rw)) (hv : Wv H v ws) (hw : ∀ w ∈ ws, w.t.length ≤ 1048576)
include hb hv hw
end
end Go.Proofs.YtdppgaphcmhffaaGreatDoor.V
namespace Go.Proofs.YtdppgaphcmhffaaGreatDoor.V
open Go
attribute [local irreducible] go goOps goD opK callK callT stepK leaveTo nextK

theorem Tk.set {H : Hp} (h : Tk H) {rb : Nat} {v : AV} {o : List UInt8} {d : Dt} {j : Nat} {x : ABlk} (hb : H[rb]? = some (.cells (WdC v o d j) 144 .rw)) : Tk (H.set rb x) := by
 obtain ⟨e, k, h⟩ := h
 have hne : rb ≠ 0 := by
  rintro rfl
  rw [hb] at h
  have := congrArg (Option.map fun | ABlk.cells c _ _ => c.length | _ => 0) h
  simp [WdC, kindsC] at this
 exact ⟨e, k, by rw [List.getElem?_set_ne hne]; exact h⟩
theorem Wv.keep {B T T' : Hp} {v : AV} {ws : List Wd} {jb : Nat} {c : List AV} {e : TypeId} (h : Wv (B ++ T) v ws) (hk : Keep T jb T') (hj : T[jb]? = some (.cells c e .rw)) : Wv (B ++ T') v ws := by
 have key : ∀ (b : Nat) (x : ABlk), (B ++ T)[b]? = some x → fixd x = true → (∀ c e, x ≠ .cells c e .rw) → (B ++ T')[b]? = some x := by
  intro b x hb hf hr
  by_cases hlt : b < B.length
  ·rw [List.getElem?_append_left hlt] at hb ⊢; exact hb
  ·rw [List.getElem?_append_right (by omega)] at hb ⊢
   refine hk.2 (b - B.length) x ?_ hb hf
   intro he
   rw [he, hj] at hb
   cases hb
   exact hr c e rfl
 obtain h | ⟨b, k, pre, fz, st, h1, h2, h3⟩ | ⟨b, h1, h2, h3⟩ := h
 ·exact .inl h
 ·exact .inr (.inl ⟨b, k, pre, fz, st, h1, h2, key b _ h3 rfl (by intro c e h; injection h with _ _ h; cases h)⟩)
 ·exact .inr (.inr ⟨b, h1, key b _ h2 rfl (by intro c e h; cases h), h3⟩)
section
variable (H : Hp) (rb : Nat) (v : AV) (o : List UInt8) (d : Dt) (j : Nat) (w : Wd) (ws : List Wd) (hq : w.q = false) (hb : H[rb]? = some (.cells (WdC v o d j) 144 .rw)) (hv : Wv H v (w :: ws)) (hw : w.t.length ≤ 1048576)
include hq hb hv hw
end
end Go.Proofs.YtdppgaphcmhffaaGreatDoor.V
namespace Go.Proofs.YtdppgaphcmhffaaGreatDoor.V
open Go
attribute [local irreducible] go goOps goD opK callK callT stepK leaveTo nextK

def Wd.key (w : Wd) : List UInt8 × Bool := (w.t, w.q)
end Go.Proofs.YtdppgaphcmhffaaGreatDoor.V
namespace Go.Proofs.YtdppgaphcmhffaaGreatDoor.V
open Go
attribute [local irreducible] go goOps goD opK callK callT stepK leaveTo nextK

theorem Wv.set2 {H : Hp} {v : AV} {ws : List Wd} (h : Wv H v ws) {rb : Nat} {x y : ABlk} (hb : H[rb]? = some y) (hy : (∀ c e fz st, y ≠ .cells c e (.op fz st)) ∧ y ≠ .void) : Wv (H.set rb x) v ws := by
 obtain h | ⟨b, k, pre, fz, st, h1, h2, h3⟩ | ⟨b, h1, h2, h3⟩ := h
 ·exact .inl h
 ·have hne : rb ≠ b := by
   rintro rfl
   rw [hb] at h3; injection h3 with h3; exact hy.1 _ _ _ _ h3
  exact .inr (.inl ⟨b, k, pre, fz, st, h1, h2, by rw [List.getElem?_set_ne hne]; exact h3⟩)
 ·have hne : rb ≠ b := by
   rintro rfl
   rw [hb] at h2; injection h2 with h2; exact hy.2 h2
  exact .inr (.inr ⟨b, h1, by rw [List.getElem?_set_ne hne]; exact h2, h3⟩)
section
variable (H : Hp) (rb : Nat) (v : AV) (o : List UInt8) (d : Dt) (j : Nat) (w : Wd) (ws : List Wd) (hq : w.q = false) (hb : H[rb]? = some (.cells (WdC v o d j) 144 .rw)) (hv : Wv H v (w :: ws)) (hw : w.t.length ≤ 1048576)
include hq hb hv hw
end
def doW (rb : Nat) : List (AV × AV) := [(.int .i32 104, .func (.func 80) [.ptr rb 0] []), (.int .i32 112, .func (.func 80) [.ptr rb 0] []), (.int .i32 109, .func (.func 81) [.ptr rb 0] []), (.int .i32 115, .func (.func 82) [.ptr rb 0] []), (.int .i32 108, .func (.func 83) [.ptr rb 0] []), (.int .i32 97, .func (.func 84) [.ptr rb 0] []), (.int .i32 113, .func (.func 85) [.ptr rb 0] []), (.int .i32 120, .func (.func 86) [.ptr rb 0] [])]
end Go.Proofs.YtdppgaphcmhffaaGreatDoor.V
namespace Go.Proofs.YtdppgaphcmhffaaGreatDoor.V
open Go
open Go.Shelf

def laysMap_ren : Go.Shelf.Ren := ⟨fun | 230 => 71 | 197 => 101 | 118 => 102 | 165 => 91 | 166 => 26 | 168 => 103 | 270 => 104 | 167 => 53 | 169 => 33 | 260 => 127 | 240 => 50 | 241 => 124 | 242 => 128 | 276 => 87 | 277 => 150 | 278 => 152 | n => n, fun | 107 => 131 | 9 => 9 | 72 => 73 | 0 => 0 | 4 => 4 | 3 => 3 | 21 => 21 | 105 => 161 | 76 => 76 | 5 => 5 | 75 => 75 | 70 => 70 | 20 => 20 | 37 => 71 | 127 => 122 | 119 => 205 | 46 => 118 | 139 => 208 | 138 => 207 | 164 => 148 | 51 => 25 | 80 => 83 | n => n, fun | 3 => 2 | 4 => 3 | n => n⟩
theorem laysMap : Go.Proofs.Lays.n230 Tryz.prog laysMap_ren := {
 mixed := by kernel_rfl
 f118 := Tryz.func102.trans (congrArg some (by kernel_rfl))
 f165 := Tryz.func91.trans (congrArg some (by kernel_rfl))
 f166 := Tryz.func26.trans (congrArg some (by kernel_rfl))
 f167 := Tryz.func53.trans (congrArg some (by kernel_rfl))
 f168 := Tryz.func103.trans (congrArg some (by kernel_rfl))
 f169 := Tryz.func33.trans (congrArg some (by kernel_rfl))
 f197 := Tryz.func101.trans (congrArg some (by kernel_rfl))
 f230 := Tryz.func71.trans (congrArg some (by kernel_rfl))
 f240 := Tryz.func50.trans (congrArg some (by kernel_rfl))
 f241 := Tryz.func124.trans (congrArg some (by kernel_rfl))
 f242 := Tryz.func128.trans (congrArg some (by kernel_rfl))
 f260 := Tryz.func127.trans (congrArg some (by kernel_rfl))
 f270 := Tryz.func104.trans (congrArg some (by kernel_rfl))
 f276 := Tryz.func87.trans (congrArg some (by kernel_rfl))
 f277 := Tryz.func150.trans (congrArg some (by kernel_rfl))
 f278 := Tryz.func152.trans (congrArg some (by kernel_rfl))
 t0 := Tryz.underlying0
 a0 := Tryz.isAgg0
 z0 := Tryz.sizeOf0
 v0 := Tryz.zeroValue0
 t3 := Tryz.underlying3
 a3 := Tryz.isAgg3
 z3 := Tryz.sizeOf3
 v3 := Tryz.zeroValue3
 t4 := Tryz.underlying4
 a4 := Tryz.isAgg4
 z4 := Tryz.sizeOf4
 v4 := Tryz.zeroValue4
 t5 := Tryz.underlying5
 a5 := Tryz.isAgg5
 z5 := Tryz.sizeOf5
 v5 := Tryz.zeroValue5
 t9 := Tryz.underlying9
 a9 := Tryz.isAgg9
 z9 := Tryz.sizeOf9
 v9 := Tryz.zeroValue9
 t20 := Tryz.underlying20
 a20 := Tryz.isAgg20
 z20 := Tryz.sizeOf20
 v20 := Tryz.zeroValue20
 t21 := Tryz.underlying21
 a21 := Tryz.isAgg21
 z21 := Tryz.sizeOf21
 v21 := Tryz.zeroValue21
 t37 := Tryz.underlying71
 a37 := Tryz.isAgg71
 z37 := Tryz.sizeOf71
 v37 := Tryz.zeroValue71
 t46 := Tryz.underlying118
 a46 := Tryz.isAgg118
 z46 := Tryz.sizeOf118
 v46 := Tryz.zeroValue118
 t51 := Tryz.underlying25
 a51 := Tryz.isAgg25
 z51 := Tryz.sizeOf25
 v51 := Tryz.zeroValue25
 t70 := Tryz.underlying70
 a70 := Tryz.isAgg70
 z70 := Tryz.sizeOf70
 v70 := Tryz.zeroValue70
 t72 := Tryz.underlying73
 a72 := Tryz.isAgg73
 z72 := Tryz.sizeOf73
 v72 := Tryz.zeroValue73
 t75 := Tryz.underlying75
 a75 := Tryz.isAgg75
 z75 := Tryz.sizeOf75
 v75 := Tryz.zeroValue75
 t76 := Tryz.underlying76
 a76 := Tryz.isAgg76
 z76 := Tryz.sizeOf76
 v76 := Tryz.zeroValue76
 t105 := Tryz.underlying161
 a105 := Tryz.isAgg161
 z105 := Tryz.sizeOf161
 v105 := Tryz.zeroValue161
 t107 := Tryz.underlying131
 a107 := Tryz.isAgg131
 z107 := Tryz.sizeOf131
 v107 := Tryz.zeroValue131
 t119 := Tryz.underlying205
 a119 := Tryz.isAgg205
 z119 := Tryz.sizeOf205
 t127 := Tryz.underlying122
 a127 := Tryz.isAgg122
 z127 := Tryz.sizeOf122
 v127 := Tryz.zeroValue122
 t138 := Tryz.underlying207
 a138 := Tryz.isAgg207
 z138 := Tryz.sizeOf207
 v138 := Tryz.zeroValue207
 t139 := Tryz.underlying208
 a139 := Tryz.isAgg208
 z139 := Tryz.sizeOf208
 v139 := Tryz.zeroValue208
 t164 := Tryz.underlying148
 a164 := Tryz.isAgg148
 z164 := Tryz.sizeOf148
 v164 := Tryz.zeroValue148
 g3 := by kernel_rfl
 g4 := by kernel_rfl }
theorem extraMap : Builder.Extra Tryz.prog laysMap_ren := {
 sizeBuilder := by kernel_rfl
 liesBuilder := by kernel_rfl
 t5 := laysMap.t5
 a5 := laysMap.a5
 z5 := laysMap.z5
 v5 := laysMap.v5
 infoByte := by kernel_rfl
 cellsByte := by kernel_rfl
 sizeByte := by kernel_rfl
 neB5 := by decide }
def lowF (c : Int) : Int := if 65 ≤ c ∧ c ≤ 90 then c + 32 else c
set_option maxHeartbeats 1000000 in
set_option maxRecDepth 1000000 in
theorem low_gives (W : World) (x : Nat) (hx : x ≤ 1114111) : FnGives Tryz.prog 72 #[] #[encR x] (.int .i32 (lowF x)) W := by
 show Calls Tryz.prog 72 #[.int .i32 (x : Int)] W _
 unfold lowF
 go_enter Tryz.func72, Tryz.ntmps72
 go_wp2
 ·go_ret
  refine ⟨?_, 0, rfl⟩
  rw [show (x : Int) - 65 + 97 = (x : Int) + 32 by omega]
  rfl
 ·go_ret
  exact ⟨rfl, 0, rfl⟩
 ·go_ret
  exact ⟨rfl, 0, rfl⟩

theorem lowF_ok (x : Nat) (hx : x ≤ 1114111) : 0 ≤ lowF x ∧ lowF x ≤ 2147483647 := by
 unfold lowF; split <;> omega
def U8 (H : Hp) : Prop := U8H Tryz.prog H 2 3
theorem evS_low {s : List UInt8} {H : Hp} (hu : U8 H) (hs : s.length < 35184372088832) : evS Tryz.prog 71 [.func (.func 72) [] [], .str s] H = some (.str (Lib.mapD lowF s), H, z0) := by
 have hm : mapFn (fnName Tryz.prog 72) = some lowF := by kernel_rfl
 have hl : MapLaid Tryz.prog 71 72 lowF H := ⟨laysMap_ren, laysMap, extraMap, rfl, by kernel_rfl, by kernel_rfl, hu, low_gives, lowF_ok⟩
 unfold evS
 simp only [hm, Option.bind_some]
 rw [if_pos ⟨hl, hs⟩]

theorem lowM_cons {c : UInt8} {r : List UInt8} (h : c.toNat < 128) : Lib.mapD lowF (c :: r) = (if 65 ≤ c.toNat ∧ c.toNat ≤ 90 then c + 32 else c) :: Lib.mapD lowF r := by
 rw [Lib.mapD_step _ _ (by simp), Lib.decodeL_ascii c r h]
 have h0 : 0 ≤ lowF (c.toNat : Nat) := (lowF_ok _ (by omega)).1
 simp only []
 rw [if_pos h0, List.drop_succ_cons, List.drop_zero]
 have : Lib.encodeRune (lowF (c.toNat : Nat)) = [if 65 ≤ c.toNat ∧ c.toNat ≤ 90 then c + 32 else c] := by
  unfold lowF
  split
  ·rename_i hc
   have hc' : 65 ≤ c.toNat ∧ c.toNat ≤ 90 := by omega
   rw [if_pos hc']
   unfold Lib.encodeRune
   rw [Lib.encodeRuneZ_one (by omega) (by omega)]
   simp only [List.map_cons, List.map_nil, List.cons.injEq, and_true]
   apply UInt8.toNat.inj
   have e1 : ((c.toNat : Int) + 32).toNat = c.toNat + 32 := by omega
   rw [e1, UInt8.toNat_add]
   simp
  ·rename_i hc
   have hc' : ¬ (65 ≤ c.toNat ∧ c.toNat ≤ 90) := by omega
   rw [if_neg hc']
   unfold Lib.encodeRune
   rw [Lib.encodeRuneZ_one (by omega) (by omega)]
   simp
 rw [this]; rfl
theorem lowM_big {c : UInt8} {r : List UInt8} (h : 128 ≤ c.toNat) : ∃ d x, Lib.mapD lowF (c :: r) = d :: x ∧ 128 ≤ d.toNat := by
 rw [Lib.mapD_step _ _ (by simp)]
 have hle := Lib.decodeL_rune (c :: r)
 rw [if_pos (lowF_ok _ hle).1]
 by_cases hv : (Lib.decodeL (c :: r)).1 = 65533 ∧ (Lib.decodeL (c :: r)).2 = 1
 ·rw [hv.1]
  exact ⟨239, _, rfl, by decide⟩
 ·have he := Lib.encode_decode (c :: r) (by simp) hv
  have hw := Lib.decodeL_width (c :: r)
  have hx : lowF ((Lib.decodeL (c :: r)).1 : Nat) = ((Lib.decodeL (c :: r)).1 : Nat) := by
   unfold lowF
   split
   ·rename_i hc
    exfalso
    unfold Lib.encodeRune at he
    rw [Lib.encodeRuneZ_one (by omega) (by omega)] at he
    obtain ⟨m, hm⟩ : ∃ m, (Lib.decodeL (c :: r)).2 = m + 1 := ⟨_, (Nat.sub_add_cancel hw).symm⟩
    rw [hm, List.take_succ_cons] at he
    simp only [List.map_cons, List.map_nil, List.cons.injEq] at he
    have := he.1
    rw [← this] at h
    have e1 : (((Lib.decodeL (c :: r)).1 : Nat) : Int).toNat.toUInt8.toNat = (Lib.decodeL (c :: r)).1 % 256 := by simp
    rw [e1] at h
    omega
   ·rfl
  rw [hx, he]
  obtain ⟨m, hm⟩ : ∃ m, (Lib.decodeL (c :: r)).2 = m + 1 := ⟨_, (Nat.sub_add_cancel hw).symm⟩
  rw [hm, List.take_succ_cons]
  exact ⟨c, _, rfl, h⟩
theorem lowM_eq : ∀ (s t : List UInt8), (∀ c ∈ t, c.toNat < 128) → (Lib.mapD lowF s == t) = ((s.map fun c => if 65 ≤ c.toNat ∧ c.toNat ≤ 90 then c + 32 else c) == t)
 | [], t, _ => rfl
 | c :: r, t, ht => by
  by_cases hc : c.toNat < 128
  ·rw [lowM_cons hc]
   cases t with
   | nil => rfl
   | cons d t =>
    have := lowM_eq r t (fun x hx => ht x (by simp [hx]))
    simp only [List.map_cons, List.cons_beq_cons, this]
  ·obtain ⟨d, x, e, hd⟩ := lowM_big (c := c) (r := r) (by omega)
   rw [e]
   have hcc : ¬ (65 ≤ c.toNat ∧ c.toNat ≤ 90) := by omega
   cases t with
   | nil => rfl
   | cons y t =>
    have hy := ht y (by simp)
    have n1 : (d == y) = false := by rw [beq_eq_false_iff_ne]; rintro rfl; omega
    have n2 : (c == y) = false := by rw [beq_eq_false_iff_ne]; rintro rfl; omega
    simp only [List.map_cons, List.cons_beq_cons, n1, if_neg hcc, n2, Bool.false_and]
end Go.Proofs.YtdppgaphcmhffaaGreatDoor.V
namespace Go.Proofs.YtdppgaphcmhffaaGreatDoor.V
open Go
attribute [local irreducible] go goOps goD opK callK callT stepK leaveTo nextK

def gN : Nat := 9
def Gl (H : Hp) : Prop := Tk H ∧ Te H ∧ Ml H ∧ U8 H
def Fm (rb : Nat) (H H' : Hp) : Prop := H.length ≤ H'.length ∧ ∀ (i : Nat) x, i ≠ rb → H[i]? = some x → H'[i]? = some x
theorem Fm.refl (rb : Nat) (H : Hp) : Fm rb H H := ⟨Nat.le_refl _, fun _ _ _ h => h⟩
theorem Fm.trans {rb : Nat} {H H' H'' : Hp} (h : Fm rb H H') (h' : Fm rb H' H'') : Fm rb H H'' := ⟨Nat.le_trans h.1 h'.1, fun i x hi hx => h'.2 i x hi (h.2 i x hi hx)⟩
theorem Fm.old {rb : Nat} (H L : Hp) : Fm rb H (H ++ L) := ⟨by simp, fun i x _ h => get_app h⟩
theorem Fm.set {rb : Nat} (H : Hp) (x : ABlk) : Fm rb H (H.set rb x) := ⟨by simp, fun i y hi h => by rw [List.getElem?_set_ne (Ne.symm hi)]; exact h⟩
theorem Fm.setn {rb j : Nat} {H H' : Hp} (h : Fm rb H H') (hj : H.length ≤ j) (z : ABlk) : Fm rb H (H'.set j z) :=
 ⟨by simp; exact h.1, fun i x hi hx => by rw [List.getElem?_set_ne (by have := lt_of_get hx; omega)]; exact h.2 i x hi hx⟩
theorem Fm.app {rb : Nat} {H H' : Hp} (h : Fm rb H H') (L : Hp) : Fm rb H (H' ++ L) := h.trans (Fm.old _ _)
theorem rd_fr {H H' : Hp} {b o n : Nat} {c : List AV} (h : rd H b o n = some c) (hn : 0 < n) (hb : ∀ x, H[b]? = some x → H'[b]? = some x) : rd H' b o n = some c := by
 unfold V.rd at h ⊢
 cases hx : H[b]? with
 | none => rw [hx] at h; simp at h
 | some x => rw [hb x hx]; rw [hx] at h; exact h
theorem Gl.fr {H H' : Hp} (h : Gl H) (hf : ∀ (i : Nat) x, i < gN → H[i]? = some x → H'[i]? = some x) : Gl H' := by
 obtain ⟨⟨e1, k1, h1⟩, ⟨⟨e2, k2, u2, b2, h2⟩, ⟨e3, k3, u3, b3, h3⟩⟩, ⟨m4, e4, k4, h4⟩, ⟨a1, a2, a3, a4⟩⟩ := h
 refine ⟨⟨e1, k1, hf _ _ (by decide) h1⟩, ⟨⟨e2, k2, u2, b2, hf _ _ (by decide) h2⟩, ⟨e3, k3, u3, b3, hf _ _ (by decide) h3⟩⟩, ⟨m4, e4, k4, hf _ _ (by decide) h4⟩, ⟨a1, a2, fun c hc => ?_, fun i hi => ⟨?_, ?_⟩⟩⟩
 ·exact rd_fr (a3 c hc) (by decide) (fun x hx => hf _ _ (by decide) hx)
 ·exact rd_fr (a4 i hi).1 (by decide) (fun x hx => hf _ _ (by decide) hx)
 ·exact rd_fr (a4 i hi).2 (by decide) (fun x hx => hf _ _ (by decide) hx)
theorem Gl.old {H : Hp} (h : Gl H) (L : Hp) : Gl (H ++ L) := h.fr (fun i x _ hx => get_app hx)
theorem Gl.frm {H H' : Hp} {rb : Nat} (h : Gl H) (hr : gN ≤ rb) (hf : Fm rb H H') : Gl H' := h.fr (fun i x hi hx => hf.2 i x (by omega) hx)

def MsC (o ow : List UInt8) (tt : Nat) (tl fx : Bool) (vo vf vw : AV) : List AV := [.str o, .str ow, .int .u32 tt, .bool tl, .bool fx, vo, vf, vw]
section
variable {o ow : List UInt8} {tt : Nat} {tl fx : Bool} {vo vf vw : AV} {e : TypeId} {kd : Kd}
theorem MsC.l0 : ldC 0 1 false (.cells (MsC o ow tt tl fx vo vf vw) e kd) = some (.str o) := rfl
theorem MsC.l1 : ldC 1 1 false (.cells (MsC o ow tt tl fx vo vf vw) e kd) = some (.str ow) := rfl
theorem MsC.l2 : ldC 2 1 false (.cells (MsC o ow tt tl fx vo vf vw) e kd) = some (.int .u32 tt) := rfl
theorem MsC.l3 : ldC 3 1 false (.cells (MsC o ow tt tl fx vo vf vw) e kd) = some (.bool tl) := rfl
theorem MsC.l4 : ldC 4 1 false (.cells (MsC o ow tt tl fx vo vf vw) e kd) = some (.bool fx) := rfl
theorem MsC.l5 : ldC 5 1 false (.cells (MsC o ow tt tl fx vo vf vw) e kd) = some vo := rfl
theorem MsC.l6 : ldC 6 1 false (.cells (MsC o ow tt tl fx vo vf vw) e kd) = some vf := rfl
theorem MsC.l7 : ldC 7 1 false (.cells (MsC o ow tt tl fx vo vf vw) e kd) = some vw := rfl
theorem MsC.len : (MsC o ow tt tl fx vo vf vw).length = 8 := rfl
theorem MsC.s0 {x : List UInt8} : splice (MsC o ow tt tl fx vo vf vw) 0 [.str x] = MsC x ow tt tl fx vo vf vw := rfl
theorem MsC.s1 {x : List UInt8} : splice (MsC o ow tt tl fx vo vf vw) 1 [.str x] = MsC o x tt tl fx vo vf vw := rfl
theorem MsC.s2 {x : Nat} : splice (MsC o ow tt tl fx vo vf vw) 2 [.int .u32 x] = MsC o ow x tl fx vo vf vw := rfl
theorem MsC.s3 {x : Bool} : splice (MsC o ow tt tl fx vo vf vw) 3 [.bool x] = MsC o ow tt x fx vo vf vw := rfl
theorem MsC.s4 {x : Bool} : splice (MsC o ow tt tl fx vo vf vw) 4 [.bool x] = MsC o ow tt tl x vo vf vw := rfl
theorem MsC.s5 {x : AV} : splice (MsC o ow tt tl fx vo vf vw) 5 [x] = MsC o ow tt tl fx x vf vw := rfl
theorem MsC.s6 {x : AV} : splice (MsC o ow tt tl fx vo vf vw) 6 [x] = MsC o ow tt tl fx vo x vw := rfl
theorem MsC.s7 {x : AV} : splice (MsC o ow tt tl fx vo vf vw) 7 [x] = MsC o ow tt tl fx vo vf x := rfl
end
theorem Wv.fr {H H' : Hp} {v : AV} {ws : List Wd} {rb : Nat} {c : List AV} (h : Wv H v ws) (hf : Fm rb H H') (hb : H[rb]? = some (.cells c 61 .rw)) : Wv H' v ws := by
 obtain h | ⟨b, k, pre, fz, st, h1, h2, h3⟩ | ⟨b, h1, h2, h3⟩ := h
 ·exact .inl h
 ·exact .inr (.inl ⟨b, k, pre, fz, st, h1, h2, hf.2 b _ (by rintro rfl; rw [hb] at h3; injection h3 with h3; injection h3 with _ _ h3; cases h3) h3⟩)
 ·exact .inr (.inr ⟨b, h1, hf.2 b _ (by rintro rfl; rw [hb] at h2; cases h2) h2, h3⟩)

theorem ld_word {w : Wd} {e : TypeId} {k : Kd} : ldC 0 4 true (.cells w.cells e k) = some (.agg w.cells) := rfl
theorem sp_word {w : Wd} : splice [.str [], .bool false, .int .i64 0, .int .i64 0] 0 w.cells = w.cells := rfl
theorem fl_word {w : Wd} : flats w.cells = true := rfl
theorem ln_word {w : Wd} : w.cells.length = 4 := rfl
theorem sc_word {w : Wd} : w.cells.all scal = true := rfl

theorem rw_no {c0 : List AV} {e0 : TypeId} : (∀ c e fz st, ABlk.cells c0 e0 .rw ≠ .cells c e (.op fz st)) ∧ ABlk.cells c0 e0 .rw ≠ .void :=
 ⟨(fun c e fz st h => by injection h with _ _ h; cases h), (fun h => by cases h)⟩
set_option maxRecDepth 20000 in
theorem ms_next (H : Hp) (rb : Nat) (o ow : List UInt8) (tt : Nat) (tl fx : Bool) (vo vf vw : AV) (w : Wd) (ws : List Wd) (hb : H[rb]? = some (.cells (MsC o ow tt tl fx vo vf vw) 61 .rw)) (hv : Wv H vw (w :: ws)) :
  ∃ v' H', Fm rb H H' ∧ H'[rb]? = some (.cells (MsC o ow tt tl fx vo vf v') 61 .rw) ∧ Wv H' v' ws ∧ ∀ k, callK Tryz.prog 43 [.ptr rb 0] H k = k (.agg w.cells, H', ⟨some rb, some rb⟩) := by
 have hlt := lt_of_get hb
 obtain ⟨b, q, row, e, kd, hi, hg, hl4⟩ := hv.at (i := 0) rfl
 have hi : evIndexAddr Tryz.prog 59 vw (.int .i64 0) = some (.ptr b q) := hi
 obtain ⟨X, hX⟩ : ∃ X : Hp, X = [.cells [.str [], .bool false, .int .i64 0, .int .i64 0] 63 .rw, .cells w.cells 63 .rw] := ⟨_, rfl⟩
 obtain ⟨v', L, hsl, hv', hL, hfl⟩ := (hv.old X).tl
 obtain ⟨hsc, hvc⟩ := hv'.scl
 have hgX : (H ++ X)[rb]? = some (.cells (MsC o ow tt tl fx vo vf vw) 61 .rw) := get_app hb
 refine (fun h => ?_) (callK_exP (P := Tryz.prog) (f := 43) (args := [.ptr rb 0]) (H := H) (fun H' : Hp => Fm rb H H' ∧ H'[rb]? = some (.cells (MsC o ow tt tl fx vo vf v') 61 .rw) ∧ Wv H' v' ws) (fun H' => (.agg w.cells, H', ⟨some rb, some rb⟩)) ?_)
 ·obtain ⟨H', ⟨h1, h2, h3⟩, h4⟩ := h
  exact ⟨v', H', h1, h2, h3, h4⟩
 refine callK_start (n := 19) (rs := [.cell 2 63]) Tryz.func43 rfl rfl rfl ?_
 intro σ hl ha
 have h0 := ha 0 (by simp)
 clear ha
 simp only [Option.getD_some, List.getElem?_cons_zero] at h0
 have hg1 : ∀ x, (H ++ [x])[rb]? = some (.cells (MsC o ow tt tl fx vo vf vw) 61 .rw) := fun x => get_app hb
 have hg3 : ∀ x y, (H ++ [x, y])[rb]? = some (.cells (MsC o ow tt tl fx vo vf vw) 61 .rw) := fun x y => get_app hb
 have hg2 : ∀ x, (H ++ [x])[b]? = some (.cells row e kd) := fun x => get_app hg
 obtain ⟨Hc, hHc⟩ : ∃ Hc : Hp, Hc = H ++ X ++ L := ⟨_, rfl⟩
 have hsl' : ∀ kk, slK Tryz.prog 59 vw (some (.int .i64 1)) none none (H ++ [.cells [.str [], .bool false, .int .i64 0, .int .i64 0] 63 .rw, .cells w.cells 63 .rw]) kk = kk (v', Hc, z0) := by rw [hX] at hsl; rw [hHc, hX]; exact hsl
 have c0 : Hc[rb]? = some (.cells (MsC o ow tt tl fx vo vf vw) 61 .rw) := by rw [hHc]; exact get_app hgX
 have c1 : Hc[H.length]? = some (.cells [.str [], .bool false, .int .i64 0, .int .i64 0] 63 .rw) := by rw [hHc, hX]; exact get_app (by rw [hp_new0]; rfl)
 have c2 : Hc[H.length + 1]? = some (.cells w.cells 63 .rw) := by rw [hHc, hX]; exact get_app (by rw [hp_new]; rfl)
 have d1 : ∀ y, (Hc.set rb y)[H.length]? = some (.cells [.str [], .bool false, .int .i64 0, .int .i64 0] 63 .rw) := fun y => by rw [List.getElem?_set_ne (by omega)]; exact c1
 have d2 : ∀ y, (Hc.set rb y)[H.length + 1]? = some (.cells w.cells 63 .rw) := fun y => by rw [List.getElem?_set_ne (by omega)]; exact c2
 have d3 : ∀ y z, ((Hc.set rb y).set H.length z)[H.length]? = some z := fun y z => List.getElem?_set_self (by simp; exact lt_of_get c1)
 have hfm : Fm rb H Hc := by rw [hHc, List.append_assoc]; exact Fm.old _ _
 have hvc' : Wv Hc v' ws := by rw [hHc]; exact hv'
 simp only [go_sem, simprocAttr, hl, h0, hg1, hg2, MsC.l7, hi, hl4, ld_word, sp_word, fl_word, ln_word, sc_word, hsl', hg3, c0, d1, d2, d3, MsC.len, MsC.s7, hvc, hsc, hfl]
 have e1 : ((⟨none, some (H.length + 1)⟩ : Ef).and ⟨some rb, some rb⟩).and ⟨none, some H.length⟩ = ⟨some rb, some rb⟩ := by
  rw [and_ce (n := H.length) (by simp [clean, low]) hlt, and_ec (n := H.length) (by simp [clean, low]) hlt]
 rw [e1, leave_ee hlt]
 have hs1 : Wv (Hc.set rb (.cells (MsC o ow tt tl fx vo vf v') 61 .rw)) v' ws := hvc'.set2 c0 rw_no
 refine ⟨_, ⟨(hfm.trans (Fm.set _ _)).setn (Nat.le_refl _) _, ?_, ?_⟩, rfl⟩
 ·rw [List.getElem?_set_ne (by omega), List.getElem?_set_self (lt_of_get c0)]
 ·exact hs1.set2 (d1 _) rw_no

theorem eqEn : binV Tryz.prog .eql 75 .nili .nili true = some (.bool true) := by simp only [binV, if_true, tsh_75]
theorem eqEi {t : TypeId} {v : AV} : binV Tryz.prog .eql 75 (.iface t v) .nili true = some (.bool false) := by
 simp only [binV]
 simp [evBin, evEq, tsh_75]
def numW (w : Wd) : Option Nat := if w.q = true then none else numS w.t 4294967295
set_option maxRecDepth 20000 in
theorem ms_number (w : Wd) (H) (ht : Te H) (hw : w.t.length ≤ 1048576) : ∃ x : Int, (∀ n, numW w = some n → x = (n : Nat)) ∧ ∀ k, callK Tryz.prog 46 [.agg w.cells] H k = k (.tuple [.int .u32 x, .bool (numW w).isSome], H, z0) := by
 refine callK_exP (fun x : Int => ∀ n, numW w = some n → x = (n : Nat)) (fun x => (.tuple [.int .u32 x, .bool (numW w).isSome], H, z0)) ?_
 refine callK_start (n := 52) (rs := [.tmp 2, .tmp 3]) Tryz.func46 rfl rfl rfl ?_
 intro σ hl ha
 have h0 := ha 0 (by simp)
 clear ha
 simp only [Option.getD_some, List.getElem?_cons_zero] at h0
 have hlq : ldC 1 1 false (.cells w.cells 63 .rw) = some (.bool w.q) := rfl
 have hlt : ldC 0 1 false (.cells w.cells 63 .rw) = some (.str w.t) := rfl
 have hvc : vcells (.agg w.cells) = w.cells := rfl
 unfold numW
 cases hq : w.q
 case true =>
  rw [hq] at hlq
  simp only [go_sem, simprocAttr, hl, h0, hlq, hlt, hvc, sc_word, if_true, Option.isSome_none]
  exact ⟨0, (fun n h => by cases h), rfl⟩
 rw [hq] at hlq
 rw [if_neg Bool.false_ne_true]
 generalize hs : w.t = s at *
 by_cases hz : s = []
 ·rw [numS_bad (.inl hz)]
  subst hz
  simp only [go_sem, simprocAttr, hl, h0, hlq, hlt, hvc, sc_word, Option.isSome_none]
  exact ⟨0, (fun n h => by cases h), rfl⟩
 have hpos : 0 < s.length := List.length_pos_iff.2 hz
 obtain ⟨c, hc⟩ : ∃ c, s[0]? = some c := ⟨_, List.getElem?_eq_getElem hpos⟩
 have e0 : (s == []) = false := by simpa using hz
 have hcl := c.toNat_lt
 by_cases hld : 1 < s.length ∧ c.toNat = 48
 ·rw [numS_bad (.inr (.inl ⟨hld.1, by rw [hc]; congr 1; exact UInt8.toNat.inj hld.2⟩))]
  have g1 : decide ((s.length : Int) > 1) = true := by simp; omega
  have g2 : ((c.toNat : Int) == 48) = true := by simp; omega
  simp only [go_sem, simprocAttr, hl, h0, hlq, hlt, hvc, sc_word, hc, hpos, g1, g2, e0, Option.isSome_none]
  exact ⟨0, (fun n h => by cases h), rfl⟩
 have hcase : (decide ((s.length : Int) > 1) = true ∧ ((c.toNat : Int) == 48) = false) ∨ decide ((s.length : Int) > 1) = false := by
  by_cases h1 : 1 < s.length
  ·exact .inl ⟨by simp; omega, by simp; intro h; exact hld ⟨h1, by omega⟩⟩
  ·exact .inr (by simp; omega)
 have hnb : ¬ (1 < s.length ∧ s[0]? = some 48) := by
  rintro ⟨h1, h2⟩
  rw [hc] at h2
  cases h2
  exact hld ⟨h1, rfl⟩
 have hnd : ∀ i c, s[i]? = some c → isD c = false → numS s 4294967295 = none := fun i c h hd => by
  have h2 := all_not (p := isD) h hd
  have h3 := (puE_spec (mx := 4294967295) s 0).2 (by rw [h2]; simp) (by decide)
  rw [numS_pu (by decide) hz hnb, if_neg (by omega)]
 rcases hcase with ⟨g1, g2⟩ | g1
 all_goals first
  | simp only [go_sem, simprocAttr, hl, h0, hlq, hlt, hvc, sc_word, hc, hpos, g1, g2, e0]
  | simp only [go_sem, simprocAttr, hl, h0, hlq, hlt, hvc, sc_word, hc, hpos, g1, e0]
 all_goals
  refine go_rounds (fun m st => ∃ σ i e, m + i = s.length ∧ st = ⟨σ, H ++ [.cells w.cells 63 .rw, .cells (u8s s) 5 (.op 0 true)], e⟩ ∧ (s.take i).all isD = true ∧ clean H.length e ∧ σ.length = 52 ∧ fr σ 1 = .ptr H.length 0 ∧ fr σ 29 = .slice (H.length + 1) 0 s.length (.op 0) ∧ fr σ 30 = .int .i64 s.length ∧ fr σ 31 = .int .i64 (i : Nat)) s.length
   ⟨_, 0, _, rfl, rfl, rfl, ⟨rfl, rfl⟩, by simp only [go_sem, simprocAttr, hl], by simp only [go_sem, simprocAttr, hl], by simp only [go_sem, simprocAttr, hl], by simp only [go_sem, simprocAttr, hl], by simp only [go_sem, simprocAttr, hl]⟩ ?_
  clear g1 hl h0
  rintro m _ ⟨σ, i, e, hmi, rfl, hall, hce, hl, h1, h29, h30, h31⟩
  by_cases hil : i < s.length
  ·obtain ⟨d, hd⟩ : ∃ d, s[i]? = some d := ⟨_, List.getElem?_eq_getElem hil⟩
   have hld := fun (e : TypeId) (k : Kd) => u8s_ld (n := 1) (e := e) (k := k) hd
   have hdl := d.toNat_lt
   have c1 : decide ((i : Int) < (s.length : Int)) = true := by simp; omega
   have w1 := wrap_succ (show i < 9223372036854775807 by omega)
   by_cases hdd : isD d = true
   ·have hdd' := hdd
    unfold isD at hdd
    have hdd := of_decide_eq_true hdd
    have c2 : decide ((d.toNat : Int) < 48) = false := by simp; omega
    have c3 : decide ((d.toNat : Int) > 57) = false := by simp; omega
    simp only [go_sem, simprocAttr, hl, h1, h29, h30, h31, c1, c2, c3, hld, w1, hil]
    exact ⟨m - 1, by omega, _, i + 1, _, by omega, rfl, all_take_succ hd hall hdd', by simp only [clean_andI, clean_sn, clean_z, hce, and_true, true_and], by simp only [go_sem, simprocAttr, hl], by simp only [go_sem, simprocAttr, hl, h1], by simp only [go_sem, simprocAttr, hl, h29], by simp only [go_sem, simprocAttr, hl, h30], by simp only [go_sem, simprocAttr, hl]⟩
   ·rw [hnd i d hd (by simpa using hdd)]
    have hdd' : ¬ (48 ≤ d.toNat ∧ d.toNat ≤ 57) := fun h => hdd (decide_eq_true h)
    by_cases c2 : d.toNat < 48
    ·have c2 : decide ((d.toNat : Int) < 48) = true := by simp; omega
     simp only [go_sem, simprocAttr, hl, h1, h29, h30, h31, c1, c2, hld, w1, hil, Option.isSome_none]
     exact ⟨0, (fun n h => by cases h), leave_flat rfl hce⟩
    ·have c3 : decide ((d.toNat : Int) > 57) = true := by simp; omega
     have c2 : decide ((d.toNat : Int) < 48) = false := by simp; omega
     simp only [go_sem, simprocAttr, hl, h1, h29, h30, h31, c1, c2, c3, hld, w1, hil, Option.isSome_none]
     exact ⟨0, (fun n h => by cases h), leave_flat rfl hce⟩
  ·have hie : i = s.length := by omega
   subst hie
   have c1 : decide (s.length < s.length) = false := by simp
   have hHc := ht.old [.cells w.cells 63 .rw, .cells (u8s s) 5 (.op 0 true)]
   rw [numS_pu (by decide) hz hnb]
   by_cases he : (puE 4294967295 s 0).2 = 0
   ·have hpu := fun k => parse_uint_ok s 32 4294967295 (.inr (.inr (.inl ⟨rfl, rfl⟩))) (H ++ [.cells w.cells 63 .rw, .cells (u8s s) 5 (.op 0 true)]) k hz hw he
    rw [if_pos he]
    have hle : (puE 4294967295 s 0).1 ≤ 4294967295 := by
     by_cases hg : s.all isD = true ∧ valF 0 s ≤ 4294967295
     ·rw [(puE_spec s 0).1 hg]; exact hg.2
     ·have := (puE_spec s 0).2 hg (by omega); omega
    have w0 : IntKind.u32.wrap ((puE 4294967295 s 0).1 : Int) = ((puE 4294967295 s 0).1 : Int) := wrap_u32 (by omega)
    simp only [go_sem, simprocAttr, hl, h1, h29, h30, h31, c1, hlt, hpu]
    refine go_drawZ tFollows (by kernel_rfl) ?_
    simp only [go_sem, simprocAttr, hl, h1, h29, h30, h31, c1, hlt, hpu, w0, eqEn]
    exact ⟨_, (fun n h => by cases h; rfl), leave_flat rfl hce⟩
   ·have hbd : (puE 4294967295 s 0).2 = 1 ∨ (puE 4294967295 s 0).2 = 2 := by
     by_cases hg : s.all isD = true ∧ valF 0 s ≤ 4294967295
     ·exact absurd (by rw [(puE_spec s 0).1 hg]) he
     ·exact (puE_spec s 0).2 hg (by omega)
    obtain ⟨x, hpu⟩ := parse_uint_bad s 32 4294967295 (.inr (.inr (.inl ⟨rfl, rfl⟩))) (H ++ [.cells w.cells 63 .rw, .cells (u8s s) 5 (.op 0 true)]) hHc hz hw hbd
    rw [if_neg he]
    simp only [go_sem, simprocAttr, hl, h1, h29, h30, h31, c1, hlt, hpu, Option.isSome_none]
    refine go_drawZ tFollows (by kernel_rfl) ?_
    simp only [go_sem, simprocAttr, hl, h1, h29, h30, h31, c1, hlt, hpu, eqEi]
    exact ⟨_, (fun n h => by cases h), leave_flat rfl hce⟩
theorem ms_low (s : List UInt8) (H k) (hu : U8 H) (hs : s.length ≤ 1048576) : callK Tryz.prog 44 [.str s] H k = k (.str (Lib.mapD lowF s), H, z0) := by
 refine callK_eq (r := (.str (Lib.mapD lowF s), H, z0)) ?_ k
 refine callK_start (n := 5) (rs := [.tmp 2]) Tryz.func44 rfl rfl rfl ?_
 intro σ hl ha
 have h0 := ha 0 (by simp)
 clear ha
 simp only [Option.getD_some, List.getElem?_cons_zero] at h0
 have hm := evS_low (s := s) (H := H) hu (by omega)
 simp only [go_sem, simprocAttr, hl, h0, hm]
theorem low_is (s t : List UInt8) (ht : ∀ c ∈ t, c.toNat < 128) : (Lib.mapD lowF s == t) = (lowS s == t) := lowM_eq s t ht
theorem ofS_len (L : List (List UInt8)) : (ofS L).1.length ≤ 255 := by
 unfold ofS
 split
 ·simp
 split
 ·simp
 ·rename_i h
  simp only [nameOf, List.length_append, List.length_cons, List.length_nil, nameB_len]
  omega
theorem nameS_len (s o : List UInt8) : (nameS s o).1.length ≤ 255 := by
 unfold nameS
 split
 ·simp
 split
 ·simp
 split
 ·simp
 ·exact ofS_len _
def namW (w : Wd) (o : List UInt8) : List UInt8 × Bool := if w.q = true then ([], false) else if w.t = [64] then (o, true) else (lowS (nameS w.t o).1, (nameS w.t o).2 == 0)
set_option maxRecDepth 20000 in
theorem ms_named (H : Hp) (rb : Nat) (o ow : List UInt8) (tt : Nat) (tl fx : Bool) (vo vf vw : AV) (w : Wd) (k) (hb : H[rb]? = some (.cells (MsC o ow tt tl fx vo vf vw) 61 .rw)) (hw : w.t.length ≤ 1048576) (ho : o.length ≤ 1048576) :
  callK Tryz.prog 45 [.ptr rb 0, .agg w.cells] H k = k (.tuple [.str (namW w o).1, .bool (namW w o).2], H, z0) := by
 refine callK_eq (r := (.tuple [.str (namW w o).1, .bool (namW w o).2], H, z0)) ?_ k
 refine callK_start (n := 31) (rs := [.tmp 4, .tmp 5]) Tryz.func45 rfl rfl rfl ?_
 intro σ hl ha
 have h0 := ha 0 (by simp)
 have h1 := ha 1 (by simp)
 clear ha
 simp only [Option.getD_some, List.getElem?_cons_zero, List.getElem?_cons_succ] at h0 h1
 have hlq : ldC 1 1 false (.cells w.cells 63 .rw) = some (.bool w.q) := rfl
 have hlt : ldC 0 1 false (.cells w.cells 63 .rw) = some (.str w.t) := rfl
 have hvc : vcells (.agg w.cells) = w.cells := rfl
 have hg : ∀ x, (H ++ [x])[rb]? = some (.cells (MsC o ow tt tl fx vo vf vw) 61 .rw) := fun x => get_app hb
 unfold namW
 cases hq : w.q
 case true =>
  rw [hq] at hlq
  simp only [go_sem, simprocAttr, hl, h0, h1, hlq, hlt, hvc, sc_word, if_true]
 rw [hq] at hlq
 rw [if_neg Bool.false_ne_true]
 by_cases h64 : w.t = [64]
 ·rw [if_pos h64]
  have e0 : (w.t == [64]) = true := by simpa using h64
  simp only [go_sem, simprocAttr, hl, h0, h1, hlq, hlt, hvc, sc_word, e0, hg, MsC.l0]
 ·rw [if_neg h64]
  have e0 : (w.t == [64]) = false := by simpa using h64
  have hp := fun H' k => name_Parse w.t o H' k hw ho
  have hf := fun H' k => name_Fold (nameS w.t o).1 H' k (by have := nameS_len w.t o; unfold maxI; omega)
  simp only [go_sem, simprocAttr, hl, h0, h1, hlq, hlt, hvc, sc_word, e0, hg, MsC.l0]
  refine go_drawZ tFollows (by kernel_rfl) ?_
  simp only [go_sem, simprocAttr, hl, h0, h1, hlq, hlt, hvc, sc_word, hg, MsC.l0, hp, hf]
  have e1 : (((nameS w.t o).2 : Int) == 0) = ((nameS w.t o).2 == 0) := by cases h : (nameS w.t o).2 <;> rfl
  rw [e1]
end Go.Proofs.YtdppgaphcmhffaaGreatDoor.V
namespace Go.Proofs.YtdppgaphcmhffaaGreatDoor.V
open Go
attribute [local irreducible] go goOps goD opK callK callT stepK leaveTo nextK

section
variable {P : Program} {f : FuncId} {args : List AV} {H : Hp}
theorem callC_exP {α : Type} (p : α → Prop) (g : α → AV × Hp × Ef) (h : callC P f args H (fun _ => False) (fun q => ∃ b, p b ∧ q = g b)) : ∃ b, p b ∧ ∀ kk kp, callC P f args H kk kp = kp (g b) := by
 unfold callC at h
 rcases h with h | ⟨n, q, hq, b, hb, rfl⟩
 ·obtain ⟨b, _⟩ := callK_exP (fun _ : Empty => True) (fun b => b.elim) (callK_mono h (fun _ h => h.elim))
  exact b.elim
 ·exact ⟨b, hb, fun kk kp => callC_isP (by unfold callC; exact .inr ⟨n, _, hq, rfl⟩) kk kp⟩
theorem callC_exK {α : Type} (p : α → Prop) (g : α → AV × Hp × Ef) (h : callC P f args H (fun q => ∃ b, p b ∧ q = g b) (fun _ => False)) : ∃ b, p b ∧ ∀ k, callK P f args H k = k (g b) := by
 unfold callC at h
 rcases h with h | ⟨n, q, hq, h⟩
 ·exact callK_exP p g h
 ·exact h.elim
end
def flt (w : Wd) (n : Nat) : AV := .iface 65 (.agg (w.cells ++ [.int .i64 (n : Nat)]))
def oriT : List UInt8 := [36, 111, 114, 105, 103, 105, 110]
def ttlT : List UInt8 := [36, 116, 116, 108]
def dirS (o : List UInt8) (tt : Nat) (fx : Bool) (w : Wd) (ws : List Wd) : Option (List UInt8 × Nat × Bool) :=
 match ws with
 | [x] => if lowS w.t = oriT then (if (namW x o).2 = true then some ((namW x o).1, tt, fx) else none)
  else if lowS w.t = ttlT then (match numW x with
   | some n => if n ≤ 2147483647 then some (o, n, true) else none
   | none => none) else none
 | _ => none
theorem bd_flt (w : Wd) (n : Nat) : evBuild Tryz.prog 65 [(0, .agg w.cells), (1, .int .i64 (n : Nat))] = some (.agg (w.cells ++ [.int .i64 (n : Nat)])) := by
 simp only [evBuild, tsh_65, tzero_65, tplaces_65, Option.bind_some, fillA]
 rfl
theorem if_flt (v : AV) : ifaceV Tryz.prog 65 v = some (.iface 65 v) := by simp only [ifaceV, tsh_65]

set_option maxRecDepth 20000 in
theorem ms_dir (H : Hp) (rb : Nat) (o ow : List UInt8) (tt : Nat) (tl fx : Bool) (vo vf vw : AV) (w : Wd) (ws : List Wd) (hb : H[rb]? = some (.cells (MsC o ow tt tl fx vo vf vw) 61 .rw)) (hv : Wv H vw (w :: ws)) (hgl : Gl H) (hr : gN ≤ rb)
  (hw : ∀ x ∈ w :: ws, x.t.length ≤ 1048576) (ho : o.length ≤ 1048576) :
  callC Tryz.prog 24 [.ptr rb 0] H
   (fun q => ∃ d, dirS o tt fx w ws = some d ∧ ∃ v' H', q = (.tuple [], H', ⟨some rb, some rb⟩) ∧ Fm rb H H' ∧ H'[rb]? = some (.cells (MsC d.1 ow d.2.1 tl d.2.2 vo vf v') 61 .rw))
   (fun q => dirS o tt fx w ws = none ∧ ∃ H' c, q = (flt w 94, H', ⟨some rb, some rb⟩) ∧ Fm rb H H' ∧ H'[rb]? = some (.cells c 61 .rw)) := by
 have hlt := lt_of_get hb
 obtain ⟨v1, H1, hf1, hb1, hv1, hnx⟩ := ms_next H rb o ow tt tl fx vo vf vw w ws hb hv
 have hu1 := (hgl.frm hr hf1).2.2.2
 have hlen := hv1.len
 have hlow := fun L k => ms_low w.t (H1 ++ L) k (hgl.frm hr (hf1.app L)).2.2.2 (hw w (by simp))
 have hlo : low H.length (some rb) = some rb := low_sm hlt
 refine callC_start (n := 63) (rs := []) Tryz.func24 rfl rfl rfl ?_
 intro σ hl ha
 have h0 := ha 0 (by simp)
 clear ha
 simp only [Option.getD_some, List.getElem?_cons_zero] at h0
 have hg1 : ∀ x, (H1 ++ [x])[rb]? = some (.cells (MsC o ow tt tl fx vo vf v1) 61 .rw) := fun x => get_app hb1
 have hwt : ldC 0 1 false (.cells w.cells 63 .rw) = some (.str w.t) := rfl
 have hvw : vcells (.agg w.cells) = w.cells := rfl
 have hbf : evBuild Tryz.prog 65 [(0, .agg w.cells), (1, .int .i64 94)] = some (.agg (w.cells ++ [.int .i64 94])) := bd_flt w 94
 have he1 : (⟨some rb, some rb⟩ : Ef).and ⟨none, some H1.length⟩ = ⟨some rb, some rb⟩ := and_ec (n := H.length) (by have := hf1.1; simp [clean, low]; omega) hlt
 have hlv : ∀ (x : AV) (H' : Hp), leave H.length x H' ⟨some rb, some rb⟩ = (x, H', ⟨some rb, some rb⟩) := fun x H' => leave_ee hlt
 have fin : dirS o tt fx w ws = none → ∀ L, dirS o tt fx w ws = none ∧ ∃ H' c, ((flt w 94, H1 ++ L, ⟨some rb, some rb⟩) : AV × Hp × Ef) = (flt w 94, H', ⟨some rb, some rb⟩) ∧ Fm rb H H' ∧ H'[rb]? = some (.cells c 61 .rw) :=
  fun h L => ⟨h, _, _, rfl, hf1.app L, get_app hb1⟩
 match ws, hv1, hlen, hw, fin with
 | [], hv1, hlen, hw, fin =>
  have c0 : ((([] : List Wd).length : Int) == 1) = false := rfl
  simp only [go_sem, simprocAttr, hl, h0, hnx, hg1, MsC.l7, hlen, hvw, sc_word, sp_word, fl_word, ld_word, ln_word, hbf, if_flt, he1, c0, hlv]
  exact fin rfl _
 | a :: b :: r, hv1, hlen, hw, fin =>
  have c0 : (((r.length + 2 : Nat) : Int) == 1) = false := by rw [beq_eq_false_iff_ne]; omega
  simp only [go_sem, simprocAttr, hl, h0, hnx, hg1, MsC.l7, hlen, hvw, sc_word, sp_word, fl_word, ld_word, ln_word, hbf, if_flt, he1, c0, hlv]
  exact fin rfl _
 | [x], hv1, hlen, hw, fin =>
  have c0 : ((([x] : List Wd).length : Int) == 1) = true := rfl
  simp only [dirS] at fin ⊢
  obtain ⟨b, q, row, e, kd, hi, hg, hl4⟩ := hv1.at (i := 0) rfl
  have hi : evIndexAddr Tryz.prog 59 v1 (.int .i64 0) = some (.ptr b q) := hi
  have hg2 : ∀ x, (H1 ++ [x])[b]? = some (.cells row e kd) := fun x => get_app hg
  have hnm := fun L k => ms_named (H1 ++ L) rb o ow tt tl fx vo vf v1 x k (get_app hb1) (hw x (by simp)) ho
  obtain ⟨nx, hnx1, hnum⟩ := ms_number x (H1 ++ [.cells w.cells 63 .rw]) (hgl.frm hr (hf1.app _)).2.1 (hw x (by simp))
  have hs : ∀ y L, (H1 ++ L).set rb y = H1.set rb y ++ L := fun y L => List.set_append_left _ _ (lt_of_get hb1)
  by_cases h1 : lowS w.t = oriT
  ·have q1 : (Lib.mapD lowF w.t == [36, 111, 114, 105, 103, 105, 110]) = true := by rw [low_is _ _ (by decide)]; simpa [oriT] using h1
   rw [if_pos h1] at fin ⊢
   cases h2 : (namW x o).2
   ·rw [h2] at fin hnm
    simp only [go_sem, simprocAttr, hl, h0, hnx, hg1, hg2, MsC.l7, hlen, hvw, sc_word, sp_word, fl_word, ld_word, ln_word, hbf, if_flt, he1, c0, hlv, hwt, hlow, q1, hi, hl4, hnm]
    exact (fin rfl _).2
   ·rw [h2] at hnm
    simp only [go_sem, simprocAttr, hl, h0, hnx, hg1, hg2, MsC.l7, hlen, hvw, sc_word, sp_word, fl_word, ld_word, ln_word, hbf, if_flt, he1, c0, hlv, hwt, hlow, q1, hi, hl4, hnm, MsC.len, MsC.s0, hs, and_ew]
    exact ⟨_, rfl, v1, _, rfl, (hf1.trans (Fm.set _ _)).app _, get_app (List.getElem?_set_self (lt_of_get hb1))⟩
  ·have q1 : (Lib.mapD lowF w.t == [36, 111, 114, 105, 103, 105, 110]) = false := by rw [low_is _ _ (by decide)]; simpa [oriT] using h1
   rw [if_neg h1] at fin ⊢
   by_cases h2 : lowS w.t = ttlT
   ·have q2 : (Lib.mapD lowF w.t == [36, 116, 116, 108]) = true := by rw [low_is _ _ (by decide)]; simpa [ttlT] using h2
    rw [if_pos h2] at fin ⊢
    cases h3 : numW x with
    | none =>
     rw [h3] at fin hnum
     simp only [Option.isSome_none] at hnum
     simp only [go_sem, simprocAttr, hl, h0, hnx, hg1, hg2, MsC.l7, hlen, hvw, sc_word, sp_word, fl_word, ld_word, ln_word, hbf, if_flt, he1, c0, hlv, hwt, hlow, q1, q2, hi, hl4, hnum]
     exact (fin rfl _).2
    | some n =>
     rw [h3] at fin hnum
     have hx := hnx1 n h3
     subst hx
     simp only [Option.isSome_some] at hnum
     simp only [] at fin ⊢
     by_cases h4 : n ≤ 2147483647
     ·have q3 : decide ((n : Int) ≤ 2147483647) = true := by simp; omega
      rw [if_pos h4]
      have hs2 : ∀ y z L, (H1.set rb y ++ L).set rb z = H1.set rb z ++ L := fun y z L => by rw [List.set_append_left _ _ (by simpa using lt_of_get hb1), List.set_set]
      have hg5 : ∀ y L, (H1.set rb y ++ L)[rb]? = some y := fun y L => get_app (List.getElem?_set_self (lt_of_get hb1))
      simp only [go_sem, simprocAttr, hl, h0, hnx, hg1, hg2, MsC.l7, hlen, hvw, sc_word, sp_word, fl_word, ld_word, ln_word, hbf, if_flt, he1, c0, hlv, hwt, hlow, q1, q2, q3, hi, hl4, hnum, MsC.len, MsC.s2, MsC.s4, hs, and_ew, hs2, hg5]
      exact ⟨_, rfl, v1, _, rfl, (hf1.trans (Fm.set _ _)).app _, get_app (List.getElem?_set_self (lt_of_get hb1))⟩
     ·have q3 : decide ((n : Int) ≤ 2147483647) = false := by simp; omega
      rw [if_neg h4] at fin
      simp only [go_sem, simprocAttr, hl, h0, hnx, hg1, hg2, MsC.l7, hlen, hvw, sc_word, sp_word, fl_word, ld_word, ln_word, hbf, if_flt, he1, c0, hlv, hwt, hlow, q1, q2, q3, hi, hl4, hnum]
      exact ⟨if_neg h4, (fin rfl _).2⟩
   ·have q2 : (Lib.mapD lowF w.t == [36, 116, 116, 108]) = false := by rw [low_is _ _ (by decide)]; simpa [ttlT] using h2
    rw [if_neg h2] at fin ⊢
    simp only [go_sem, simprocAttr, hl, h0, hnx, hg1, hg2, MsC.l7, hlen, hvw, sc_word, sp_word, fl_word, ld_word, ln_word, hbf, if_flt, he1, c0, hlv, hwt, hlow, q1, q2]
    exact (fin rfl _).2

def RcC (nm : List UInt8) (ty : Int) (cl : Int) (tt : Nat) (d : Dt) : List AV := [.str nm, .int .u16 ty, .int .u16 cl, .int .u32 tt] ++ d.cells
def headS : List Wd → Bool → Bool → Nat → Except (Wd × Nat) (List Wd × Bool × Nat)
 | [], tm, _, tt => .ok ([], tm, tt)
 | w :: r, tm, cs, tt =>
  if (numW w).isSome = true ∧ tm = false then (if 2147483647 < (numW w).getD 0 then .error (w, 91) else headS r true cs ((numW w).getD 0))
  else if w.q = false ∧ cs = false ∧ lowS w.t = [105, 110] then headS r tm true tt
  else if w.q = false ∧ cs = false ∧ (lowS w.t = [99, 104] ∨ lowS w.t = [99, 115] ∨ lowS w.t = [104, 115]) then .error (w, 92)
  else .ok (w :: r, tm, tt)
theorem RcC.s3 {nm : List UInt8} {ty cl : Int} {tt : Nat} {d : Dt} {x : Nat} : splice (RcC nm ty cl tt d) 3 [.int .u32 x] = RcC nm ty cl x d := rfl
theorem RcC.len {nm : List UInt8} {ty cl : Int} {tt : Nat} {d : Dt} : (RcC nm ty cl tt d).length = 12 := rfl
def Fm2 (rb xb : Nat) (H H' : Hp) : Prop := H.length ≤ H'.length ∧ ∀ (i : Nat) x, i ≠ rb → i ≠ xb → H[i]? = some x → H'[i]? = some x

theorem Fm2.app {rb xb : Nat} {H H' : Hp} (h : Fm2 rb xb H H') (L : Hp) : Fm2 rb xb H (H' ++ L) := ⟨by simp; have := h.1; omega, fun i x hi hj hx => get_app (h.2 i x hi hj hx)⟩
theorem Fm2.setr {rb xb : Nat} {H H' : Hp} (h : Fm2 rb xb H H') (y : ABlk) : Fm2 rb xb H (H'.set rb y) := ⟨by simp; exact h.1, fun i x hi hj hx => by rw [List.getElem?_set_ne (Ne.symm hi)]; exact h.2 i x hi hj hx⟩
theorem Fm2.setx {rb xb : Nat} {H H' : Hp} (h : Fm2 rb xb H H') (y : ABlk) : Fm2 rb xb H (H'.set xb y) := ⟨by simp; exact h.1, fun i x hi hj hx => by rw [List.getElem?_set_ne (Ne.symm hj)]; exact h.2 i x hi hj hx⟩
theorem Gl.fm2 {H H' : Hp} {rb xb : Nat} (h : Gl H) (hr : gN ≤ rb) (hx : rb < xb) (hf : Fm2 rb xb H H') : Gl H' := h.fr (fun i x hi hy => hf.2 i x (by omega) (by omega) hy)
theorem leave_h {H H1 L : Hp} {e : Ef} {v : AV} {rb : Nat} (hfl : flat v = true) (hlt : rb < H.length) (hc : clean rb e) (hs : (H1 = H ∧ e.es = none) ∨ Sto rb e) : ∃ H' e', leave H.length v (H1 ++ L) e = (v, H', e') ∧ clean rb e' ∧ (H' = H1 ∨ H' = H1 ++ L) := by
 rcases hs with ⟨rfl, he⟩ | hs
 ·refine ⟨H1, ⟨none, low H1.length e.ws⟩, ?_, ⟨rfl, low_low hc.2⟩, .inl rfl⟩
  unfold V.leave
  rw [he, if_pos ⟨hfl, rfl⟩, List.take_left]; rfl
 ·exact ⟨_, _, hs.leave hlt, ⟨low_low hc.1, low_low hc.2⟩, .inr rfl⟩

set_option maxRecDepth 20000 in
set_option maxHeartbeats 4000000 in
theorem ms_head (H : Hp) (rb xb : Nat) (o ow : List UInt8) (tt : Nat) (tl fx : Bool) (vo vf vw : AV) (ws : List Wd) (nm : List UInt8) (ty cl : Int) (t0 : Nat) (d : Dt) (hb : H[rb]? = some (.cells (MsC o ow tt tl fx vo vf vw) 61 .rw)) (hx : H[xb]? = some (.cells (RcC nm ty cl t0 d) 36 .rw))
  (hv : Wv H vw ws) (hgl : Gl H) (hr : gN ≤ rb) (hrx : rb < xb) (hw : ∀ x ∈ ws, x.t.length ≤ 1048576) :
  callC Tryz.prog 47 [.ptr rb 0, .ptr xb 0] H
   (fun q => ∃ y, headS ws false false t0 = .ok y ∧ ∃ v' H' e, q = (.bool y.2.1, H', e) ∧ clean rb e ∧ Fm2 rb xb H H' ∧ H'[rb]? = some (.cells (MsC o ow tt tl fx vo vf v') 61 .rw) ∧ H'[xb]? = some (.cells (RcC nm ty cl y.2.2 d) 36 .rw) ∧ Wv H' v' y.1)
   (fun q => ∃ y, headS ws false false t0 = .error y ∧ ∃ H' e c, q = (flt y.1 y.2, H', e) ∧ clean rb e ∧ Fm2 rb xb H H' ∧ H'[rb]? = some (.cells c 61 .rw)) := by
 have hlt := lt_of_get hb
 have hltx := lt_of_get hx
 refine callC_start (n := 91) (rs := [.tmp 4]) Tryz.func47 rfl rfl rfl ?_
 intro σ hl ha
 have h0 := ha 0 (by simp)
 have h1 := ha 1 (by simp)
 clear ha
 simp only [Option.getD_some, List.getElem?_cons_zero, List.getElem?_cons_succ] at h0 h1
 simp only [go_sem, simprocAttr, hl, h0, h1]
 refine go_rounds (fun m st => ∃ σ v H1 e r tm cs ti, m = r.length ∧ headS ws false false t0 = headS r tm cs ti ∧ (∀ x ∈ r, x.t.length ≤ 1048576) ∧ st = ⟨σ, H1, e⟩ ∧ clean rb e ∧ Fm2 rb xb H H1 ∧ H1[rb]? = some (.cells (MsC o ow tt tl fx vo vf v) 61 .rw) ∧ H1[xb]? = some (.cells (RcC nm ty cl ti d) 36 .rw) ∧ Wv H1 v r ∧
  ((H1 = H ∧ e.es = none) ∨ Sto rb e) ∧ σ.length = 91 ∧ fr σ 0 = .ptr rb 0 ∧ fr σ 1 = .ptr xb 0 ∧ fr σ 5 = .bool tm ∧ fr σ 6 = .bool cs) ws.length
  ⟨_, vw, H, _, ws, false, false, t0, rfl, rfl, hw, rfl, ⟨rfl, rfl⟩, ⟨Nat.le_refl _, fun _ _ _ _ h => h⟩, hb, hx, hv, .inl ⟨rfl, rfl⟩, by simp only [go_sem, simprocAttr, hl], by simp only [go_sem, simprocAttr, hl, h0], by simp only [go_sem, simprocAttr, hl, h1], by simp only [go_sem, simprocAttr, hl], by simp only [go_sem, simprocAttr, hl]⟩ ?_
 clear hl h0 h1
 rintro m _ ⟨σ, v, H1, e, r, tm, cs, ti, rfl, hhd, hwr, rfl, hce, hfm, hb1, hx1, hv1, hst, hl, h0, h1, h5, h6⟩
 have hlen := hv1.len
 rw [hhd]
 cases r with
 | nil =>
  have c0 : decide (((([] : List Wd).length : Nat) : Int) > 0) = false := rfl
  simp only [go_sem, simprocAttr, hl, h0, h1, h5, h6, hb1, MsC.l7, hlen, c0]
  obtain ⟨H', e', q1, q2, q3⟩ := leave_h (L := []) (v := .bool tm) rfl hlt hce hst
  rw [List.append_nil] at q1
  rw [q1]
  have q3 : H' = H1 := by rcases q3 with h | h <;> simpa using h
  subst q3
  exact ⟨_, rfl, v, _, _, rfl, q2, hfm, hb1, hx1, hv1⟩
 | cons w r =>
  have c0 : decide (((r.length + 1 : Nat) : Int) > 0) = true := decide_eq_true (by omega)
  obtain ⟨b, q, row, ee, kd, hi, hg, hl4⟩ := hv1.at (i := 0) rfl
  have hi : evIndexAddr Tryz.prog 59 v (.int .i64 0) = some (.ptr b q) := hi
  have hgl1 := hgl.fm2 hr hrx hfm
  have hwt : ldC 0 1 false (.cells w.cells 63 .rw) = some (.str w.t) := rfl
  have hwq : ldC 1 1 false (.cells w.cells 63 .rw) = some (.bool w.q) := rfl
  have hvw : vcells (.agg w.cells) = w.cells := rfl
  obtain ⟨nx, hnx1, hnum⟩ := ms_number w (H1 ++ [.cells w.cells 63 .rw]) (hgl1.old _).2.1 (hwr w (by simp))
  have hlow := fun k => ms_low w.t (H1 ++ [.cells w.cells 63 .rw]) k (hgl1.old _).2.2.2 (hwr w (by simp))
  have hg1 : ∀ x, (H1 ++ [x])[rb]? = some (.cells (MsC o ow tt tl fx vo vf v) 61 .rw) := fun x => get_app hb1
  have hg2 : ∀ x, (H1 ++ [x])[xb]? = some (.cells (RcC nm ty cl ti d) 36 .rw) := fun x => get_app hx1
  have hle1 := hfm.1
  have hes : ∀ j, (e.and ⟨none, some j⟩).es = e.es := fun j => by show omin e.es none = e.es; cases e.es <;> rfl
  have hce2 : clean rb (e.and ⟨none, some H1.length⟩) := clean_and hce (by simp [clean, low]; omega)
  have hst2 : (H1 = H ∧ (e.and ⟨none, some H1.length⟩).es = none) ∨ Sto rb (e.and ⟨none, some H1.length⟩) := by
   rcases hst with ⟨h1, h2⟩ | h
   ·exact .inl ⟨h1, by rw [hes]; exact h2⟩
   ·exact .inr (h.l _)
  have finr : headS (w :: r) tm cs ti = .ok (w :: r, tm, ti) → ∀ L, ∃ y, headS (w :: r) tm cs ti = .ok y ∧ ∃ v' H' e', leave H.length (.bool tm) (H1 ++ L) (e.and ⟨none, some H1.length⟩) = (.bool y.2.1, H', e') ∧ clean rb e' ∧ Fm2 rb xb H H' ∧ H'[rb]? = some (.cells (MsC o ow tt tl fx vo vf v') 61 .rw) ∧ H'[xb]? = some (.cells (RcC nm ty cl y.2.2 d) 36 .rw) ∧ Wv H' v' y.1 := by
   intro hS L
   obtain ⟨H', e', q1, q2, q3⟩ := leave_h (L := L) (v := .bool tm) rfl hlt hce2 hst2
   refine ⟨_, hS, v, H', e', q1, q2, ?_⟩
   rcases q3 with rfl | rfl
   ·exact ⟨hfm, hb1, hx1, hv1⟩
   ·exact ⟨hfm.app L, get_app hb1, get_app hx1, hv1.old L⟩
  have finp : ∀ n, headS (w :: r) tm cs ti = .error (w, n) → ∀ L, ∃ y, headS (w :: r) tm cs ti = .error y ∧ ∃ H' e' c, leave H.length (flt w n) (H1 ++ L) (e.and ⟨none, some H1.length⟩) = (flt y.1 y.2, H', e') ∧ clean rb e' ∧ Fm2 rb xb H H' ∧ H'[rb]? = some (.cells c 61 .rw) := by
   intro n hS L
   obtain ⟨H', e', q1, q2, q3⟩ := leave_h (L := L) (v := flt w n) rfl hlt hce2 hst2
   refine ⟨_, hS, H', e', MsC o ow tt tl fx vo vf v, q1, q2, ?_⟩
   rcases q3 with rfl | rfl
   ·exact ⟨hfm, hb1⟩
   ·exact ⟨hfm.app L, get_app hb1⟩
  have hbf1 : evBuild Tryz.prog 65 [(0, .agg w.cells), (1, .int .i64 91)] = some (.agg (w.cells ++ [.int .i64 91])) := bd_flt w 91
  have hbf2 : evBuild Tryz.prog 65 [(0, .agg w.cells), (1, .int .i64 92)] = some (.agg (w.cells ++ [.int .i64 92])) := bd_flt w 92
  have hvt := (hv1.old [.cells w.cells 63 .rw]).tl
  obtain ⟨v', L2, hsl, hv', hL2, hfl⟩ := hvt
  obtain ⟨hsc, hvc⟩ := hv'.scl
  obtain ⟨Hc, hHc⟩ : ∃ Hc : Hp, Hc = H1 ++ [.cells w.cells 63 .rw] ++ L2 := ⟨_, rfl⟩
  have hsl' : ∀ kk, slK Tryz.prog 59 v (some (.int .i64 1)) none none (H1 ++ [.cells w.cells 63 .rw]) kk = kk (v', Hc, z0) := by rw [hHc]; exact hsl
  rw [← hHc] at hv'
  have f0 : Fm2 rb xb H Hc := by rw [hHc]; exact (hfm.app _).app _
  have f1 : Hc[rb]? = some (.cells (MsC o ow tt tl fx vo vf v) 61 .rw) := by rw [hHc]; exact get_app (hg1 _)
  have f2 : Hc[xb]? = some (.cells (RcC nm ty cl ti d) 36 .rw) := by rw [hHc]; exact get_app (hg2 _)
  have f3 := f0.setr (.cells (MsC o ow tt tl fx vo vf v') 61 .rw)
  have f4 : (Hc.set rb (.cells (MsC o ow tt tl fx vo vf v') 61 .rw))[rb]? = some (.cells (MsC o ow tt tl fx vo vf v') 61 .rw) := List.getElem?_set_self (lt_of_get f1)
  have f5 : (Hc.set rb (.cells (MsC o ow tt tl fx vo vf v') 61 .rw))[xb]? = some (.cells (RcC nm ty cl ti d) 36 .rw) := by rw [List.getElem?_set_ne (by omega)]; exact f2
  have f6 : Wv (Hc.set rb (.cells (MsC o ow tt tl fx vo vf v') 61 .rw)) v' r := hv'.set2 f1 rw_no
  have f7 : clean rb ((e.and ⟨none, some H1.length⟩).and ⟨some rb, some rb⟩) := clean_and hce2 (by simp [clean, low])
  have hwr' : ∀ x ∈ r, x.t.length ≤ 1048576 := fun x hx => hwr x (by simp [hx])
  have hin : (Lib.mapD lowF w.t == [105, 110]) = (lowS w.t == [105, 110]) := low_is _ _ (by decide)
  have hch : (Lib.mapD lowF w.t == [99, 104]) = (lowS w.t == [99, 104]) := low_is _ _ (by decide)
  have hcs2 : (Lib.mapD lowF w.t == [99, 115]) = (lowS w.t == [99, 115]) := low_is _ _ (by decide)
  have hhs : (Lib.mapD lowF w.t == [104, 115]) = (lowS w.t == [104, 115]) := low_is _ _ (by decide)
  cases h3 : numW w with
  | none =>
   rw [h3] at hnum
   simp only [Option.isSome_none] at hnum
   cases hq : w.q
   case true =>
    rw [hq] at hwq
    simp only [go_sem, simprocAttr, hl, h0, h1, h5, h6, hb1, MsC.l7, hlen, c0, hi, hg, hl4, hvw, sc_word, sp_word, fl_word, ld_word, ln_word, hwt, hwq, hnum, hlow]
    exact finr (by simp only [headS]; rw [if_neg (by rw [h3]; simp), if_neg (by rw [hq]; simp), if_neg (by rw [hq]; simp)]) _
   rw [hq] at hwq
   cases hcs : cs
   case true =>
    rw [hcs] at h6
    simp only [go_sem, simprocAttr, hl, h0, h1, h5, h6, hb1, MsC.l7, hlen, c0, hi, hg, hl4, hvw, sc_word, sp_word, fl_word, ld_word, ln_word, hwt, hwq, hnum, hlow]
    exact hcs ▸ finr (by simp only [headS]; rw [if_neg (by rw [h3]; simp), if_neg (by rw [hcs]; simp), if_neg (by rw [hcs]; simp)]) _
   rw [hcs] at h6
   cases hbi : (lowS w.t == [105, 110])
   case true =>
    simp only [go_sem, simprocAttr, hl, h0, h1, h5, h6, hb1, MsC.l7, hlen, c0, hi, hg, hl4, hvw, sc_word, sp_word, fl_word, ld_word, ln_word, hwt, hwq, hnum, hlow, hin, hbi, hg1, hsl', f1, MsC.len, MsC.s7, hvc, hsc, hfl]
    exact ⟨r.length, by omega, _, v', _, _, r, tm, true, ti, rfl, by simp only [headS]; rw [if_neg (by rw [h3]; simp), if_pos ⟨hq, trivial, by simpa using hbi⟩], hwr', rfl, f7, f3, f4, f5, f6, .inr (Sto.this.r _), by simp only [go_sem, simprocAttr, hl], by simp only [go_sem, simprocAttr, hl, h0], by simp only [go_sem, simprocAttr, hl, h1], by simp only [go_sem, simprocAttr, hl, h5], by simp only [go_sem, simprocAttr, hl]⟩
   cases hbc : (lowS w.t == [99, 104])
   case true =>
    simp only [go_sem, simprocAttr, hl, h0, h1, h5, h6, hb1, MsC.l7, hlen, c0, hi, hg, hl4, hvw, sc_word, sp_word, fl_word, ld_word, ln_word, hwt, hwq, hnum, hlow, hin, hbi, hch, hbc, hbf2, if_flt]
    exact hcs ▸ finp 92 (by simp only [headS]; rw [if_neg (by rw [h3]; simp), if_neg (fun h => by rw [h.2.2] at hbi; simp at hbi), if_pos ⟨hq, hcs, .inl (by simpa using hbc)⟩]) _
   cases hbs : (lowS w.t == [99, 115])
   case true =>
    simp only [go_sem, simprocAttr, hl, h0, h1, h5, h6, hb1, MsC.l7, hlen, c0, hi, hg, hl4, hvw, sc_word, sp_word, fl_word, ld_word, ln_word, hwt, hwq, hnum, hlow, hin, hbi, hch, hbc, hcs2, hbs, hbf2, if_flt]
    exact hcs ▸ finp 92 (by simp only [headS]; rw [if_neg (by rw [h3]; simp), if_neg (fun h => by rw [h.2.2] at hbi; simp at hbi), if_pos ⟨hq, hcs, .inr (.inl (by simpa using hbs))⟩]) _
   cases hbh : (lowS w.t == [104, 115])
   case true =>
    simp only [go_sem, simprocAttr, hl, h0, h1, h5, h6, hb1, MsC.l7, hlen, c0, hi, hg, hl4, hvw, sc_word, sp_word, fl_word, ld_word, ln_word, hwt, hwq, hnum, hlow, hin, hbi, hch, hbc, hcs2, hbs, hhs, hbh, hbf2, if_flt]
    exact hcs ▸ finp 92 (by simp only [headS]; rw [if_neg (by rw [h3]; simp), if_neg (fun h => by rw [h.2.2] at hbi; simp at hbi), if_pos ⟨hq, hcs, .inr (.inr (by simpa using hbh))⟩]) _
   simp only [go_sem, simprocAttr, hl, h0, h1, h5, h6, hb1, MsC.l7, hlen, c0, hi, hg, hl4, hvw, sc_word, sp_word, fl_word, ld_word, ln_word, hwt, hwq, hnum, hlow, hin, hbi, hch, hbc, hcs2, hbs, hhs, hbh]
   exact hcs ▸ finr (by
    simp only [headS]
    rw [if_neg (by rw [h3]; simp), if_neg (fun h => by rw [h.2.2] at hbi; simp at hbi), if_neg]
    rintro ⟨_, _, h | h | h⟩
    ·rw [h] at hbc; simp at hbc
    ·rw [h] at hbs; simp at hbs
    ·rw [h] at hbh; simp at hbh) _
  | some n =>
   rw [h3] at hnum
   simp only [Option.isSome_some] at hnum
   have hx := hnx1 n h3
   subst hx
   cases htm : tm
   case true =>
    subst htm
    cases hq : w.q
    case true =>
     rw [hq] at hwq
     simp only [go_sem, simprocAttr, hl, h0, h1, h5, h6, hb1, MsC.l7, hlen, c0, hi, hg, hl4, hvw, sc_word, sp_word, fl_word, ld_word, ln_word, hwt, hwq, hnum, hlow]
     exact finr (by simp only [headS]; rw [if_neg (by simp), if_neg (by rw [hq]; simp), if_neg (by rw [hq]; simp)]) _
    rw [hq] at hwq
    cases hcs : cs
    case true =>
     rw [hcs] at h6
     simp only [go_sem, simprocAttr, hl, h0, h1, h5, h6, hb1, MsC.l7, hlen, c0, hi, hg, hl4, hvw, sc_word, sp_word, fl_word, ld_word, ln_word, hwt, hwq, hnum, hlow]
     exact hcs ▸ finr (by simp only [headS]; rw [if_neg (by simp), if_neg (by rw [hcs]; simp), if_neg (by rw [hcs]; simp)]) _
    rw [hcs] at h6
    cases hbi : (lowS w.t == [105, 110])
    case true =>
     simp only [go_sem, simprocAttr, hl, h0, h1, h5, h6, hb1, MsC.l7, hlen, c0, hi, hg, hl4, hvw, sc_word, sp_word, fl_word, ld_word, ln_word, hwt, hwq, hnum, hlow, hin, hbi, hg1, hsl', f1, MsC.len, MsC.s7, hvc, hsc, hfl]
     exact ⟨r.length, by omega, _, v', _, _, r, true, true, ti, rfl, by simp only [headS]; rw [if_neg (by simp), if_pos ⟨hq, trivial, by simpa using hbi⟩], hwr', rfl, f7, f3, f4, f5, f6, .inr (Sto.this.r _), by simp only [go_sem, simprocAttr, hl], by simp only [go_sem, simprocAttr, hl, h0], by simp only [go_sem, simprocAttr, hl, h1], by simp only [go_sem, simprocAttr, hl, h5], by simp only [go_sem, simprocAttr, hl]⟩
    cases hbc : (lowS w.t == [99, 104])
    case true =>
     simp only [go_sem, simprocAttr, hl, h0, h1, h5, h6, hb1, MsC.l7, hlen, c0, hi, hg, hl4, hvw, sc_word, sp_word, fl_word, ld_word, ln_word, hwt, hwq, hnum, hlow, hin, hbi, hch, hbc, hbf2, if_flt]
     exact hcs ▸ finp 92 (by simp only [headS]; rw [if_neg (by simp), if_neg (fun h => by rw [h.2.2] at hbi; simp at hbi), if_pos ⟨hq, hcs, .inl (by simpa using hbc)⟩]) _
    cases hbs : (lowS w.t == [99, 115])
    case true =>
     simp only [go_sem, simprocAttr, hl, h0, h1, h5, h6, hb1, MsC.l7, hlen, c0, hi, hg, hl4, hvw, sc_word, sp_word, fl_word, ld_word, ln_word, hwt, hwq, hnum, hlow, hin, hbi, hch, hbc, hcs2, hbs, hbf2, if_flt]
     exact hcs ▸ finp 92 (by simp only [headS]; rw [if_neg (by simp), if_neg (fun h => by rw [h.2.2] at hbi; simp at hbi), if_pos ⟨hq, hcs, .inr (.inl (by simpa using hbs))⟩]) _
    cases hbh : (lowS w.t == [104, 115])
    case true =>
     simp only [go_sem, simprocAttr, hl, h0, h1, h5, h6, hb1, MsC.l7, hlen, c0, hi, hg, hl4, hvw, sc_word, sp_word, fl_word, ld_word, ln_word, hwt, hwq, hnum, hlow, hin, hbi, hch, hbc, hcs2, hbs, hhs, hbh, hbf2, if_flt]
     exact hcs ▸ finp 92 (by simp only [headS]; rw [if_neg (by simp), if_neg (fun h => by rw [h.2.2] at hbi; simp at hbi), if_pos ⟨hq, hcs, .inr (.inr (by simpa using hbh))⟩]) _
    simp only [go_sem, simprocAttr, hl, h0, h1, h5, h6, hb1, MsC.l7, hlen, c0, hi, hg, hl4, hvw, sc_word, sp_word, fl_word, ld_word, ln_word, hwt, hwq, hnum, hlow, hin, hbi, hch, hbc, hcs2, hbs, hhs, hbh]
    exact hcs ▸ finr (by
     simp only [headS]
     rw [if_neg (by simp), if_neg (fun h => by rw [h.2.2] at hbi; simp at hbi), if_neg]
     rintro ⟨_, _, h | h | h⟩
     ·rw [h] at hbc; simp at hbc
     ·rw [h] at hbs; simp at hbs
     ·rw [h] at hbh; simp at hbh) _
   subst htm
   by_cases hbig : 2147483647 < n
   ·have q3 : decide ((n : Int) > 2147483647) = true := decide_eq_true (by omega)
    simp only [go_sem, simprocAttr, hl, h0, h1, h5, h6, hb1, MsC.l7, hlen, c0, hi, hg, hl4, hvw, sc_word, sp_word, fl_word, ld_word, ln_word, hwt, hwq, hnum, hlow, q3, hbf1, if_flt]
    exact finp 91 (by simp only [headS]; rw [if_pos ⟨by rw [h3]; rfl, trivial⟩, h3, Option.getD_some, if_pos hbig]) _
   ·have q3 : decide ((n : Int) > 2147483647) = false := decide_eq_false (by omega)
    obtain ⟨Hd, hHd⟩ : ∃ Hd : Hp, Hd = (H1 ++ [ABlk.cells w.cells 63 .rw] : Hp).set xb (.cells (RcC nm ty cl n d) 36 .rw) := ⟨_, rfl⟩
    have e0 : Hd[rb]? = some (.cells (MsC o ow tt tl fx vo vf v) 61 .rw) := by rw [hHd, List.getElem?_set_ne (by omega)]; exact hg1 _
    have e1 : Hd[xb]? = some (.cells (RcC nm ty cl n d) 36 .rw) := by rw [hHd]; exact List.getElem?_set_self (lt_of_get (hg2 _))
    have e2 : Fm2 rb xb H Hd := by rw [hHd]; exact (hfm.app _).setx _
    have hvd : Wv Hd v (w :: r) := by rw [hHd]; exact (hv1.old [.cells w.cells 63 .rw]).set2 (hg2 _) rw_no
    obtain ⟨u', L3, hsl3, hu', hL3, hfl3⟩ := hvd.tl
    obtain ⟨hsc3, hvc3⟩ := hu'.scl
    obtain ⟨He, hHe⟩ : ∃ He : Hp, He = Hd ++ L3 := ⟨_, rfl⟩
    rw [← hHe] at hsl3 hu'
    have g1 : He[rb]? = some (.cells (MsC o ow tt tl fx vo vf v) 61 .rw) := by rw [hHe]; exact get_app e0
    have g2 : He[xb]? = some (.cells (RcC nm ty cl n d) 36 .rw) := by rw [hHe]; exact get_app e1
    have g3 : Fm2 rb xb H He := by rw [hHe]; exact e2.app _
    have g5 : (He.set rb (.cells (MsC o ow tt tl fx vo vf u') 61 .rw))[xb]? = some (.cells (RcC nm ty cl n d) 36 .rw) := by rw [List.getElem?_set_ne (by omega)]; exact g2
    have g7 : clean rb (((e.and ⟨none, some H1.length⟩).and ⟨none, some xb⟩).and ⟨some rb, some rb⟩) := clean_and (clean_and hce2 (by simp [clean, low]; omega)) (by simp [clean, low])
    simp only [go_sem, simprocAttr, hl, h0, h1, h5, h6, hb1, MsC.l7, hlen, c0, hi, hg, hl4, hvw, sc_word, sp_word, fl_word, ld_word, ln_word, hwt, hwq, hnum, hlow, q3, hg2, RcC.len, RcC.s3, ← hHd, e0, hsl3, g1, MsC.len, MsC.s7, hvc3, hsc3, hfl3]
    exact ⟨r.length, by omega, _, u', _, _, r, true, cs, n, rfl, by simp only [headS]; rw [if_pos ⟨by rw [h3]; rfl, trivial⟩, h3, Option.getD_some, if_neg hbig], hwr', rfl, g7, g3.setr _, List.getElem?_set_self (lt_of_get g1), g5, hu'.set2 g1 rw_no, .inr (Sto.this.r _), by simp only [go_sem, simprocAttr, hl], by simp only [go_sem, simprocAttr, hl, h0], by simp only [go_sem, simprocAttr, hl, h1], by simp only [go_sem, simprocAttr, hl], by simp only [go_sem, simprocAttr, hl, h6]⟩
end Go.Proofs.YtdppgaphcmhffaaGreatDoor.V
namespace Go.Proofs.YtdppgaphcmhffaaGreatDoor.V
open Go
attribute [local irreducible] go goOps goD opK callK callT stepK leaveTo nextK

set_option maxRecDepth 20000 in
theorem fold_1 (d : Dt) (H) (hk : Tk H) (hd : d.wf) : callK Tryz.prog 29 [.int .u16 1, .agg d.cells] H (fun q => q = (.agg (Dt.cells { d with host := d.host, mail := d.mail }), H, z0)) := by
 refine callK_start (n := 28) (rs := [.cell 4 34]) Tryz.func29 rfl rfl rfl ?_
 intro σ hl ha
 have h0 := ha 0 (by simp)
 have h1 := ha 1 (by simp)
 clear ha
 simp only [Option.getD_some, List.getElem?_cons_zero, List.getElem?_cons_succ] at h0 h1
 have hf := fun l k => rdata_form 1 (H ++ l) k (hk.old l)
 rw [show formS 1 = [97] from rfl] at hf
 have i0 : strIter [97] 0 = (.tuple [.bool true, .int .i64 0, .int .i32 97], 1) := by rw [strIter_a (by decide)]; rfl
 have i1 : strIter [97] 1 = (.tuple [.bool false], 1) := by rw [strIter_a (by decide)]; rfl
 simp only [go_sem, simprocAttr, hl, h0, h1, Dt.cells, hf]
 rw [go_loop]
 simp only [go_sem, simprocAttr, hl, h0, h1, i0, i1, hf]
 rw [go_loop]
 simp only [go_sem, simprocAttr, hl, h0, h1, i0, i1, hf]
set_option maxRecDepth 20000 in
theorem fold_2 (d : Dt) (H) (hk : Tk H) (hd : d.wf) : callK Tryz.prog 29 [.int .u16 2, .agg d.cells] H (fun q => q = (.agg (Dt.cells { d with host := lowS d.host, mail := d.mail }), H, z0)) := by
 refine callK_start (n := 28) (rs := [.cell 4 34]) Tryz.func29 rfl rfl rfl ?_
 intro σ hl ha
 have h0 := ha 0 (by simp)
 have h1 := ha 1 (by simp)
 clear ha
 simp only [Option.getD_some, List.getElem?_cons_zero, List.getElem?_cons_succ] at h0 h1
 have hf := fun l k => rdata_form 2 (H ++ l) k (hk.old l)
 rw [show formS 2 = [104] from rfl] at hf
 have hh := fun H k => name_Fold d.host H k (by have := hd.host; show _ ≤ 9223372036854775807; omega)
 have i0 : strIter [104] 0 = (.tuple [.bool true, .int .i64 0, .int .i32 104], 1) := by rw [strIter_a (by decide)]; rfl
 have i1 : strIter [104] 1 = (.tuple [.bool false], 1) := by rw [strIter_a (by decide)]; rfl
 simp only [go_sem, simprocAttr, hl, h0, h1, Dt.cells, hf, hh]
 rw [go_loop]
 simp only [go_sem, simprocAttr, hl, h0, h1, i0, i1, hf, hh]
 rw [go_loop]
 simp only [go_sem, simprocAttr, hl, h0, h1, i0, i1, hf, hh]
set_option maxRecDepth 20000 in
theorem fold_5 (d : Dt) (H) (hk : Tk H) (hd : d.wf) : callK Tryz.prog 29 [.int .u16 5, .agg d.cells] H (fun q => q = (.agg (Dt.cells { d with host := lowS d.host, mail := d.mail }), H, z0)) := by
 refine callK_start (n := 28) (rs := [.cell 4 34]) Tryz.func29 rfl rfl rfl ?_
 intro σ hl ha
 have h0 := ha 0 (by simp)
 have h1 := ha 1 (by simp)
 clear ha
 simp only [Option.getD_some, List.getElem?_cons_zero, List.getElem?_cons_succ] at h0 h1
 have hf := fun l k => rdata_form 5 (H ++ l) k (hk.old l)
 rw [show formS 5 = [104] from rfl] at hf
 have hh := fun H k => name_Fold d.host H k (by have := hd.host; show _ ≤ 9223372036854775807; omega)
 have i0 : strIter [104] 0 = (.tuple [.bool true, .int .i64 0, .int .i32 104], 1) := by rw [strIter_a (by decide)]; rfl
 have i1 : strIter [104] 1 = (.tuple [.bool false], 1) := by rw [strIter_a (by decide)]; rfl
 simp only [go_sem, simprocAttr, hl, h0, h1, Dt.cells, hf, hh]
 rw [go_loop]
 simp only [go_sem, simprocAttr, hl, h0, h1, i0, i1, hf, hh]
 rw [go_loop]
 simp only [go_sem, simprocAttr, hl, h0, h1, i0, i1, hf, hh]
set_option maxRecDepth 20000 in
theorem fold_6 (d : Dt) (H) (hk : Tk H) (hd : d.wf) : callK Tryz.prog 29 [.int .u16 6, .agg d.cells] H (fun q => q = (.agg (Dt.cells { d with host := lowS d.host, mail := lowS d.mail }), H, z0)) := by
 refine callK_start (n := 28) (rs := [.cell 4 34]) Tryz.func29 rfl rfl rfl ?_
 intro σ hl ha
 have h0 := ha 0 (by simp)
 have h1 := ha 1 (by simp)
 clear ha
 simp only [Option.getD_some, List.getElem?_cons_zero, List.getElem?_cons_succ] at h0 h1
 have hf := fun l k => rdata_form 6 (H ++ l) k (hk.old l)
 rw [show formS 6 = [104, 109, 108, 108, 108, 108, 108] from rfl] at hf
 have hh := fun H k => name_Fold d.host H k (by have := hd.host; show _ ≤ 9223372036854775807; omega)
 have hm := fun H k => name_Fold d.mail H k (by have := hd.mail; show _ ≤ 9223372036854775807; omega)
 have i0 : strIter [104, 109, 108, 108, 108, 108, 108] 0 = (.tuple [.bool true, .int .i64 0, .int .i32 104], 1) := by rw [strIter_a (by decide)]; rfl
 have i1 : strIter [104, 109, 108, 108, 108, 108, 108] 1 = (.tuple [.bool true, .int .i64 1, .int .i32 109], 2) := by rw [strIter_a (by decide)]; rfl
 have i2 : strIter [104, 109, 108, 108, 108, 108, 108] 2 = (.tuple [.bool true, .int .i64 2, .int .i32 108], 3) := by rw [strIter_a (by decide)]; rfl
 have i3 : strIter [104, 109, 108, 108, 108, 108, 108] 3 = (.tuple [.bool true, .int .i64 3, .int .i32 108], 4) := by rw [strIter_a (by decide)]; rfl
 have i4 : strIter [104, 109, 108, 108, 108, 108, 108] 4 = (.tuple [.bool true, .int .i64 4, .int .i32 108], 5) := by rw [strIter_a (by decide)]; rfl
 have i5 : strIter [104, 109, 108, 108, 108, 108, 108] 5 = (.tuple [.bool true, .int .i64 5, .int .i32 108], 6) := by rw [strIter_a (by decide)]; rfl
 have i6 : strIter [104, 109, 108, 108, 108, 108, 108] 6 = (.tuple [.bool true, .int .i64 6, .int .i32 108], 7) := by rw [strIter_a (by decide)]; rfl
 have i7 : strIter [104, 109, 108, 108, 108, 108, 108] 7 = (.tuple [.bool false], 7) := by rw [strIter_a (by decide)]; rfl
 simp only [go_sem, simprocAttr, hl, h0, h1, Dt.cells, hf, hh, hm]
 rw [go_loop]
 simp only [go_sem, simprocAttr, hl, h0, h1, i0, i1, i2, i3, i4, i5, i6, i7, hf, hh, hm]
 rw [go_loop]
 simp only [go_sem, simprocAttr, hl, h0, h1, i0, i1, i2, i3, i4, i5, i6, i7, hf, hh, hm]
 rw [go_loop]
 simp only [go_sem, simprocAttr, hl, h0, h1, i0, i1, i2, i3, i4, i5, i6, i7, hf, hh, hm]
 rw [go_loop]
 simp only [go_sem, simprocAttr, hl, h0, h1, i0, i1, i2, i3, i4, i5, i6, i7, hf, hh, hm]
 rw [go_loop]
 simp only [go_sem, simprocAttr, hl, h0, h1, i0, i1, i2, i3, i4, i5, i6, i7, hf, hh, hm]
 rw [go_loop]
 simp only [go_sem, simprocAttr, hl, h0, h1, i0, i1, i2, i3, i4, i5, i6, i7, hf, hh, hm]
 rw [go_loop]
 simp only [go_sem, simprocAttr, hl, h0, h1, i0, i1, i2, i3, i4, i5, i6, i7, hf, hh, hm]
 rw [go_loop]
 simp only [go_sem, simprocAttr, hl, h0, h1, i0, i1, i2, i3, i4, i5, i6, i7, hf, hh, hm]
set_option maxRecDepth 20000 in
theorem fold_12 (d : Dt) (H) (hk : Tk H) (hd : d.wf) : callK Tryz.prog 29 [.int .u16 12, .agg d.cells] H (fun q => q = (.agg (Dt.cells { d with host := lowS d.host, mail := d.mail }), H, z0)) := by
 refine callK_start (n := 28) (rs := [.cell 4 34]) Tryz.func29 rfl rfl rfl ?_
 intro σ hl ha
 have h0 := ha 0 (by simp)
 have h1 := ha 1 (by simp)
 clear ha
 simp only [Option.getD_some, List.getElem?_cons_zero, List.getElem?_cons_succ] at h0 h1
 have hf := fun l k => rdata_form 12 (H ++ l) k (hk.old l)
 rw [show formS 12 = [104] from rfl] at hf
 have hh := fun H k => name_Fold d.host H k (by have := hd.host; show _ ≤ 9223372036854775807; omega)
 have i0 : strIter [104] 0 = (.tuple [.bool true, .int .i64 0, .int .i32 104], 1) := by rw [strIter_a (by decide)]; rfl
 have i1 : strIter [104] 1 = (.tuple [.bool false], 1) := by rw [strIter_a (by decide)]; rfl
 simp only [go_sem, simprocAttr, hl, h0, h1, Dt.cells, hf, hh]
 rw [go_loop]
 simp only [go_sem, simprocAttr, hl, h0, h1, i0, i1, hf, hh]
 rw [go_loop]
 simp only [go_sem, simprocAttr, hl, h0, h1, i0, i1, hf, hh]
set_option maxRecDepth 20000 in
theorem fold_15 (d : Dt) (H) (hk : Tk H) (hd : d.wf) : callK Tryz.prog 29 [.int .u16 15, .agg d.cells] H (fun q => q = (.agg (Dt.cells { d with host := lowS d.host, mail := d.mail }), H, z0)) := by
 refine callK_start (n := 28) (rs := [.cell 4 34]) Tryz.func29 rfl rfl rfl ?_
 intro σ hl ha
 have h0 := ha 0 (by simp)
 have h1 := ha 1 (by simp)
 clear ha
 simp only [Option.getD_some, List.getElem?_cons_zero, List.getElem?_cons_succ] at h0 h1
 have hf := fun l k => rdata_form 15 (H ++ l) k (hk.old l)
 rw [show formS 15 = [115, 104] from rfl] at hf
 have hh := fun H k => name_Fold d.host H k (by have := hd.host; show _ ≤ 9223372036854775807; omega)
 have i0 : strIter [115, 104] 0 = (.tuple [.bool true, .int .i64 0, .int .i32 115], 1) := by rw [strIter_a (by decide)]; rfl
 have i1 : strIter [115, 104] 1 = (.tuple [.bool true, .int .i64 1, .int .i32 104], 2) := by rw [strIter_a (by decide)]; rfl
 have i2 : strIter [115, 104] 2 = (.tuple [.bool false], 2) := by rw [strIter_a (by decide)]; rfl
 simp only [go_sem, simprocAttr, hl, h0, h1, Dt.cells, hf, hh]
 rw [go_loop]
 simp only [go_sem, simprocAttr, hl, h0, h1, i0, i1, i2, hf, hh]
 rw [go_loop]
 simp only [go_sem, simprocAttr, hl, h0, h1, i0, i1, i2, hf, hh]
 rw [go_loop]
 simp only [go_sem, simprocAttr, hl, h0, h1, i0, i1, i2, hf, hh]
set_option maxRecDepth 20000 in
theorem fold_16 (d : Dt) (H) (hk : Tk H) (hd : d.wf) : callK Tryz.prog 29 [.int .u16 16, .agg d.cells] H (fun q => q = (.agg (Dt.cells { d with host := d.host, mail := d.mail }), H, z0)) := by
 refine callK_start (n := 28) (rs := [.cell 4 34]) Tryz.func29 rfl rfl rfl ?_
 intro σ hl ha
 have h0 := ha 0 (by simp)
 have h1 := ha 1 (by simp)
 clear ha
 simp only [Option.getD_some, List.getElem?_cons_zero, List.getElem?_cons_succ] at h0 h1
 have hf := fun l k => rdata_form 16 (H ++ l) k (hk.old l)
 rw [show formS 16 = [120] from rfl] at hf
 have i0 : strIter [120] 0 = (.tuple [.bool true, .int .i64 0, .int .i32 120], 1) := by rw [strIter_a (by decide)]; rfl
 have i1 : strIter [120] 1 = (.tuple [.bool false], 1) := by rw [strIter_a (by decide)]; rfl
 simp only [go_sem, simprocAttr, hl, h0, h1, Dt.cells, hf]
 rw [go_loop]
 simp only [go_sem, simprocAttr, hl, h0, h1, i0, i1, hf]
 rw [go_loop]
 simp only [go_sem, simprocAttr, hl, h0, h1, i0, i1, hf]
set_option maxRecDepth 20000 in
theorem fold_28 (d : Dt) (H) (hk : Tk H) (hd : d.wf) : callK Tryz.prog 29 [.int .u16 28, .agg d.cells] H (fun q => q = (.agg (Dt.cells { d with host := d.host, mail := d.mail }), H, z0)) := by
 refine callK_start (n := 28) (rs := [.cell 4 34]) Tryz.func29 rfl rfl rfl ?_
 intro σ hl ha
 have h0 := ha 0 (by simp)
 have h1 := ha 1 (by simp)
 clear ha
 simp only [Option.getD_some, List.getElem?_cons_zero, List.getElem?_cons_succ] at h0 h1
 have hf := fun l k => rdata_form 28 (H ++ l) k (hk.old l)
 rw [show formS 28 = [113] from rfl] at hf
 have i0 : strIter [113] 0 = (.tuple [.bool true, .int .i64 0, .int .i32 113], 1) := by rw [strIter_a (by decide)]; rfl
 have i1 : strIter [113] 1 = (.tuple [.bool false], 1) := by rw [strIter_a (by decide)]; rfl
 simp only [go_sem, simprocAttr, hl, h0, h1, Dt.cells, hf]
 rw [go_loop]
 simp only [go_sem, simprocAttr, hl, h0, h1, i0, i1, hf]
 rw [go_loop]
 simp only [go_sem, simprocAttr, hl, h0, h1, i0, i1, hf]
set_option maxRecDepth 20000 in
theorem fold_33 (d : Dt) (H) (hk : Tk H) (hd : d.wf) : callK Tryz.prog 29 [.int .u16 33, .agg d.cells] H (fun q => q = (.agg (Dt.cells { d with host := lowS d.host, mail := d.mail }), H, z0)) := by
 refine callK_start (n := 28) (rs := [.cell 4 34]) Tryz.func29 rfl rfl rfl ?_
 intro σ hl ha
 have h0 := ha 0 (by simp)
 have h1 := ha 1 (by simp)
 clear ha
 simp only [Option.getD_some, List.getElem?_cons_zero, List.getElem?_cons_succ] at h0 h1
 have hf := fun l k => rdata_form 33 (H ++ l) k (hk.old l)
 rw [show formS 33 = [115, 115, 115, 112] from rfl] at hf
 have hh := fun H k => name_Fold d.host H k (by have := hd.host; show _ ≤ 9223372036854775807; omega)
 have i0 : strIter [115, 115, 115, 112] 0 = (.tuple [.bool true, .int .i64 0, .int .i32 115], 1) := by rw [strIter_a (by decide)]; rfl
 have i1 : strIter [115, 115, 115, 112] 1 = (.tuple [.bool true, .int .i64 1, .int .i32 115], 2) := by rw [strIter_a (by decide)]; rfl
 have i2 : strIter [115, 115, 115, 112] 2 = (.tuple [.bool true, .int .i64 2, .int .i32 115], 3) := by rw [strIter_a (by decide)]; rfl
 have i3 : strIter [115, 115, 115, 112] 3 = (.tuple [.bool true, .int .i64 3, .int .i32 112], 4) := by rw [strIter_a (by decide)]; rfl
 have i4 : strIter [115, 115, 115, 112] 4 = (.tuple [.bool false], 4) := by rw [strIter_a (by decide)]; rfl
 simp only [go_sem, simprocAttr, hl, h0, h1, Dt.cells, hf, hh]
 rw [go_loop]
 simp only [go_sem, simprocAttr, hl, h0, h1, i0, i1, i2, i3, i4, hf, hh]
 rw [go_loop]
 simp only [go_sem, simprocAttr, hl, h0, h1, i0, i1, i2, i3, i4, hf, hh]
 rw [go_loop]
 simp only [go_sem, simprocAttr, hl, h0, h1, i0, i1, i2, i3, i4, hf, hh]
 rw [go_loop]
 simp only [go_sem, simprocAttr, hl, h0, h1, i0, i1, i2, i3, i4, hf, hh]
 rw [go_loop]
 simp only [go_sem, simprocAttr, hl, h0, h1, i0, i1, i2, i3, i4, hf, hh]
set_option maxRecDepth 20000 in
theorem fold_o (t : Int) (d : Dt) (H) (ht : t ≠ 1 ∧ t ≠ 2 ∧ t ≠ 5 ∧ t ≠ 6 ∧ t ≠ 12 ∧ t ≠ 15 ∧ t ≠ 16 ∧ t ≠ 28 ∧ t ≠ 33) (hk : Tk H) (hd : d.wf) : callK Tryz.prog 29 [.int .u16 t, .agg d.cells] H (fun q => q = (.agg (Dt.cells { d with host := d.host, mail := d.mail }), H, z0)) := by
 refine callK_start (n := 28) (rs := [.cell 4 34]) Tryz.func29 rfl rfl rfl ?_
 intro σ hl ha
 have h0 := ha 0 (by simp)
 have h1 := ha 1 (by simp)
 clear ha
 simp only [Option.getD_some, List.getElem?_cons_zero, List.getElem?_cons_succ] at h0 h1
 have hf := fun l k => rdata_form t (H ++ l) k (hk.old l)
 have hfs : formS t = [114] := formS_o ht
 rw [hfs] at hf
 have i0 : strIter [114] 0 = (.tuple [.bool true, .int .i64 0, .int .i32 114], 1) := by rw [strIter_a (by decide)]; rfl
 have i1 : strIter [114] 1 = (.tuple [.bool false], 1) := by rw [strIter_a (by decide)]; rfl
 simp only [go_sem, simprocAttr, hl, h0, h1, Dt.cells, hf]
 rw [go_loop]
 simp only [go_sem, simprocAttr, hl, h0, h1, i0, i1, hf]
 rw [go_loop]
 simp only [go_sem, simprocAttr, hl, h0, h1, i0, i1, hf]

theorem aggQ {d d' : Dt} (h : d = d') {H : Hp} : (AV.agg d.cells, H, z0) = (AV.agg d'.cells, H, z0) := by rw [h]
theorem rdata_FoldQ (t : Int) (d : Dt) (H) (hk : Tk H) (hd : d.wf) : callK Tryz.prog 29 [.int .u16 t, .agg d.cells] H (fun q => q = (.agg (foldD t d).cells, H, z0)) := by
 rcases kinds_cases t with rfl | rfl | rfl | rfl | rfl | rfl | rfl | rfl | rfl | ht
 case inr.inr.inr.inr.inr.inr.inr.inr.inr =>
  refine callK_mono (fold_o t d H ht hk hd) (fun r hr => hr.trans (aggQ ?_))
  obtain ⟨h1, h2, h3, h4, h5, h6, h7, h8, h9⟩ := ht
  have e1 : hostT t = false := by simp only [hostT, decide_eq_false_iff_not]; omega
  have e2 : mailT t = false := by simp only [mailT, decide_eq_false_iff_not]; omega
  unfold foldD
  rw [e1, e2]
  rfl
 ·exact callK_mono (fold_1 d H hk hd) (fun r hr => hr.trans (aggQ rfl))
 ·exact callK_mono (fold_2 d H hk hd) (fun r hr => hr.trans (aggQ rfl))
 ·exact callK_mono (fold_5 d H hk hd) (fun r hr => hr.trans (aggQ rfl))
 ·exact callK_mono (fold_6 d H hk hd) (fun r hr => hr.trans (aggQ rfl))
 ·exact callK_mono (fold_12 d H hk hd) (fun r hr => hr.trans (aggQ rfl))
 ·exact callK_mono (fold_15 d H hk hd) (fun r hr => hr.trans (aggQ rfl))
 ·exact callK_mono (fold_16 d H hk hd) (fun r hr => hr.trans (aggQ rfl))
 ·exact callK_mono (fold_28 d H hk hd) (fun r hr => hr.trans (aggQ rfl))
 ·exact callK_mono (fold_33 d H hk hd) (fun r hr => hr.trans (aggQ rfl))
theorem rdata_Fold (t : Int) (d : Dt) (H k) (hk : Tk H) (hd : d.wf) : callK Tryz.prog 29 [.int .u16 t, .agg d.cells] H k = k (.agg (foldD t d).cells, H, z0) := callK_eq (rdata_FoldQ t d H hk hd) k
end Go.Proofs.YtdppgaphcmhffaaGreatDoor.V
