/- Package strings' Cut, Split and HasPrefix at single bytes, as 'V' runs them. No conditions. -/
import Derived.Test.YtjemmehgfheflaaDoorSWalkJ
import Derived.Test.YtjemmehgfheflaaDoorSParse
namespace Go.Proofs.YtjemmehgfheflaaDoor.V
open Go
set_option linter.unusedSimpArgs false
set_option linter.unusedVariables false
attribute [local irreducible] go goOps goD opK callK callT stepK leaveTo nextK

theorem ix_none {c : UInt8} : ∀ {s p : List UInt8}, splitC c s = (p, []) → Lib.indexByte s c = -1 ∧ p = s
  | [], p, h => by simp only [splitC, Prod.mk.injEq, and_true] at h; exact ⟨rfl, h.symm⟩
  | b :: s, p, h => by
    unfold splitC at h
    split at h
    · simp at h
    · rename_i hb
      simp only [Prod.mk.injEq] at h
      obtain ⟨h1, h2⟩ := h
      obtain ⟨h3, h4⟩ := ix_none (s := s) (p := (splitC c s).1) (by rw [← h2])
      refine ⟨?_, by rw [← h1, h4]⟩
      have hb' : (b == c) = false := by simpa using hb
      simp [Lib.indexByte, hb', h3]
theorem ix_some {c : UInt8} : ∀ {s p q : List UInt8} {R : List (List UInt8)}, splitC c s = (p, q :: R) → Lib.indexByte s c = (p.length : Int) ∧ s = p ++ c :: (q ++ joinC c R)
  | [], p, q, R, h => by simp [splitC] at h
  | b :: s, p, q, R, h => by
    unfold splitC at h
    split at h
    · rename_i hb
      subst hb
      simp only [Prod.mk.injEq, List.cons.injEq] at h
      obtain ⟨rfl, h2, h3⟩ := h
      refine ⟨by simp [Lib.indexByte], ?_⟩
      have := split_join b s
      rw [List.nil_append, ← h2, ← h3, ← this]
    · rename_i hb
      simp only [Prod.mk.injEq] at h
      obtain ⟨h1, h2⟩ := h
      obtain ⟨h3, h4⟩ := ix_some (s := s) (p := (splitC c s).1) (q := q) (R := R) (by rw [← h2])
      have hb' : (b == c) = false := by simpa using hb
      subst h1
      refine ⟨?_, by rw [List.cons_append, ← h4]⟩
      have hne : ¬ ((splitC c s).1.length : Int) = -1 := by omega
      simp [Lib.indexByte, hb', h3, hne]
theorem count_eq {c : UInt8} : ∀ (s : List UInt8), Lib.countByte s c = (splitC c s).2.length
  | [] => rfl
  | b :: s => by
    have ih := count_eq (c := c) s
    unfold Lib.countByte at *
    unfold splitC
    rw [List.count_cons, ih]
    by_cases hb : b = c
    · have hb' : (b == c) = true := by simpa using hb
      rw [if_pos hb, if_pos hb', List.length_cons]
    · have hb' : ¬ (b == c) = true := by simpa using hb
      rw [if_neg hb, if_neg hb']; rfl

set_option maxRecDepth 20000 in
theorem hasp46 (s p : List UInt8) (H k) : callK Tryd.prog 46 [.str s, .str p] H k = k (.bool (s.take p.length == p), H, z0) := by
  refine callK_eq (r := (.bool (s.take p.length == p), H, z0)) ?_ k
  refine callK_start (n := 18) (rs := [.tmp 4]) Tryd.func46 rfl rfl rfl ?_
  intro σ hl ha
  have h0 := ha 0 (by simp)
  have h1 := ha 1 (by simp)
  clear ha
  simp only [Option.getD_some, List.getElem?_cons_zero, List.getElem?_cons_succ] at h0 h1
  by_cases h : p.length ≤ s.length
  · have g : decide ((s.length : Int) ≥ (p.length : Int)) = true := by simp; omega
    simp only [go_sem, simprocAttr, hl, h0, h1, g, h, Nat.sub_zero, List.drop_zero]
  · have g : decide ((s.length : Int) ≥ (p.length : Int)) = false := by simp; omega
    have hne : (s.take p.length == p) = false := by
      rw [beq_eq_false_iff_ne]
      intro e
      have := congrArg List.length e
      rw [List.length_take] at this
      omega
    simp only [go_sem, simprocAttr, hl, h0, h1, g, h, hne]
set_option maxRecDepth 20000 in
theorem hasp25 (s p : List UInt8) (H k) : callK Tryd.prog 25 [.str s, .str p] H k = k (.bool (s.take p.length == p), H, z0) := by
  refine callK_eq (r := (.bool (s.take p.length == p), H, z0)) ?_ k
  refine callK_start (n := 8) (rs := [.tmp 4]) Tryd.func25 rfl rfl rfl ?_
  intro σ hl ha
  have h0 := ha 0 (by simp)
  have h1 := ha 1 (by simp)
  clear ha
  simp only [Option.getD_some, List.getElem?_cons_zero, List.getElem?_cons_succ] at h0 h1
  have hr := fun H k => hasp46 s p H k
  simp only [go_sem, simprocAttr, hl, h0, h1, hr]
set_option maxRecDepth 20000 in
theorem ixb55 (s : List UInt8) (c : UInt8) (H k) : callK Tryd.prog 55 [.str s, .int .u8 c.toNat] H k = k (.int .i64 (Lib.indexByte s c), H, z0) := by
  refine callK_eq (r := (.int .i64 (Lib.indexByte s c), H, z0)) ?_ k
  refine callK_start (n := 8) (rs := [.tmp 4]) Tryd.func55 rfl rfl rfl ?_
  intro σ hl ha
  have h0 := ha 0 (by simp)
  have h1 := ha 1 (by simp)
  clear ha
  simp only [Option.getD_some, List.getElem?_cons_zero, List.getElem?_cons_succ] at h0 h1
  simp only [go_sem, simprocAttr, hl, h0, h1, Nat.toUInt8, UInt8.ofNat_toNat]
set_option maxRecDepth 20000 in
theorem ixb47 (s : List UInt8) (c : UInt8) (H k) : callK Tryd.prog 47 [.str s, .int .u8 c.toNat] H k = k (.int .i64 (Lib.indexByte s c), H, z0) := by
  refine callK_eq (r := (.int .i64 (Lib.indexByte s c), H, z0)) ?_ k
  refine callK_start (n := 8) (rs := [.tmp 4]) Tryd.func47 rfl rfl rfl ?_
  intro σ hl ha
  have h0 := ha 0 (by simp)
  have h1 := ha 1 (by simp)
  clear ha
  simp only [Option.getD_some, List.getElem?_cons_zero, List.getElem?_cons_succ] at h0 h1
  have hr := fun H k => ixb55 s c H k
  simp only [go_sem, simprocAttr, hl, h0, h1, hr]
set_option maxRecDepth 20000 in
theorem ix54 (s : List UInt8) (c : UInt8) (H k) : callK Tryd.prog 54 [.str s, .str [c]] H k = k (.int .i64 (Lib.indexByte s c), H, z0) := by
  refine callK_eq (r := (.int .i64 (Lib.indexByte s c), H, z0)) ?_ k
  refine callK_start (n := 143) (rs := [.tmp 4]) Tryd.func54 rfl rfl rfl ?_
  intro σ hl ha
  have h0 := ha 0 (by simp)
  have h1 := ha 1 (by simp)
  clear ha
  simp only [Option.getD_some, List.getElem?_cons_zero, List.getElem?_cons_succ] at h0 h1
  have hr := fun H k => ixb55 s c H k
  simp only [go_sem, simprocAttr, hl, h0, h1]
  refine condK_split (fun hb => ?_) (fun hb => ?_)
  · have : s = [c] := by
      have := eq_of_beq hb
      exact this.symm
    subst this
    have hi : Lib.indexByte [c] c = 0 := by simp [Lib.indexByte]
    simp only [go_sem, simprocAttr, hl, hi]
  · simp only [go_sem, simprocAttr, hl, h0, h1, hr]
set_option maxRecDepth 20000 in
theorem ix65 (s : List UInt8) (c : UInt8) (H k) : callK Tryd.prog 65 [.str s, .str [c]] H k = k (.int .i64 (Lib.indexByte s c), H, z0) := by
  refine callK_eq (r := (.int .i64 (Lib.indexByte s c), H, z0)) ?_ k
  refine callK_start (n := 8) (rs := [.tmp 4]) Tryd.func65 rfl rfl rfl ?_
  intro σ hl ha
  have h0 := ha 0 (by simp)
  have h1 := ha 1 (by simp)
  clear ha
  simp only [Option.getD_some, List.getElem?_cons_zero, List.getElem?_cons_succ] at h0 h1
  have hr := fun H k => ix54 s c H k
  simp only [go_sem, simprocAttr, hl, h0, h1, hr]
set_option maxRecDepth 20000 in
theorem cnt64 (s : List UInt8) (c : UInt8) (H k) : callK Tryd.prog 64 [.str s, .str [c]] H k = k (.int .i64 ((splitC c s).2.length : Nat), H, z0) := by
  refine callK_eq (r := (.int .i64 ((splitC c s).2.length : Nat), H, z0)) ?_ k
  refine callK_start (n := 34) (rs := [.tmp 4]) Tryd.func64 rfl rfl rfl ?_
  intro σ hl ha
  have h0 := ha 0 (by simp)
  have h1 := ha 1 (by simp)
  clear ha
  simp only [Option.getD_some, List.getElem?_cons_zero, List.getElem?_cons_succ] at h0 h1
  simp only [go_sem, simprocAttr, hl, h0, h1, Nat.toUInt8, UInt8.ofNat_toNat, count_eq]

/-- What is left behind a mark; is there more? -/
def restOf (c : UInt8) (R : List (List UInt8)) : List UInt8 := (joinC c R).drop 1
def moreOf (R : List (List UInt8)) : Bool := !R.isEmpty
set_option maxRecDepth 20000 in
theorem cut45 (s : List UInt8) (c : UInt8) (H k) (hs : s.length ≤ 1000000) : callK Tryd.prog 45 [.str s, .str [c]] H k = k (.tuple [.str (splitC c s).1, .str (restOf c (splitC c s).2), .bool (moreOf (splitC c s).2)], H, z0) := by
  refine callK_eq (r := (.tuple [.str (splitC c s).1, .str (restOf c (splitC c s).2), .bool (moreOf (splitC c s).2)], H, z0)) ?_ k
  refine callK_start (n := 23) (rs := [.tmp 4, .tmp 5, .tmp 6]) Tryd.func45 rfl rfl rfl ?_
  intro σ hl ha
  have h0 := ha 0 (by simp)
  have h1 := ha 1 (by simp)
  clear ha
  simp only [Option.getD_some, List.getElem?_cons_zero, List.getElem?_cons_succ] at h0 h1
  have hr := fun H k => ix54 s c H k
  cases hsp : splitC c s with
  | mk p R =>
    cases R with
    | nil =>
      obtain ⟨e1, e2⟩ := ix_none hsp
      rw [e1] at hr
      subst e2
      simp only [go_sem, simprocAttr, hl, h0, h1, hr, moreOf, restOf, joinC, List.isEmpty_nil, List.flatMap_nil]
    | cons q R =>
      obtain ⟨e1, e2⟩ := ix_some hsp
      rw [e1] at hr
      have hlen : s.length = p.length + (1 + (q ++ joinC c R).length) := by
        have := congrArg List.length e2
        rw [List.length_append, List.length_cons] at this; omega
      have g : decide ((p.length : Int) ≥ 0) = true := by simp
      have w1 : IntKind.i64.wrap ((p.length : Int) + 1) = ((p.length + 1 : Nat) : Int) := by rw [wrap_i64 (by omega)]; omega
      have t1 : s.take p.length = p := by rw [e2, List.take_left]
      have t2 : (s.drop (p.length + 1)).take (s.length - (p.length + 1)) = q ++ joinC c R := by
        rw [List.take_of_length_le (by rw [List.length_drop]; exact Nat.le_refl _), e2, ← List.drop_drop, List.drop_left]; rfl
      have b1 : p.length ≤ s.length := by omega
      have b2 : p.length + 1 ≤ s.length := by omega
      have hrest : restOf c (q :: R) = q ++ joinC c R := rfl
      simp only [go_sem, simprocAttr, hl, h0, h1, hr, g]
      refine go_drawZ tFollows (by kernel_rfl) ?_
      simp only [go_sem, simprocAttr, hl, h0, h1, w1, b1, b2, t1, t2, Nat.sub_zero, List.drop_zero, moreOf, List.isEmpty_cons, hrest]
set_option maxRecDepth 20000 in
theorem cut24 (s : List UInt8) (c : UInt8) (H k) (hs : s.length ≤ 1000000) : callK Tryd.prog 24 [.str s, .str [c]] H k = k (.tuple [.str (splitC c s).1, .str (restOf c (splitC c s).2), .bool (moreOf (splitC c s).2)], H, z0) := by
  refine callK_eq (r := (.tuple [.str (splitC c s).1, .str (restOf c (splitC c s).2), .bool (moreOf (splitC c s).2)], H, z0)) ?_ k
  refine callK_start (n := 13) (rs := [.tmp 4, .tmp 5, .tmp 6]) Tryd.func24 rfl rfl rfl ?_
  intro σ hl ha
  have h0 := ha 0 (by simp)
  have h1 := ha 1 (by simp)
  clear ha
  simp only [Option.getD_some, List.getElem?_cons_zero, List.getElem?_cons_succ] at h0 h1
  have hr := fun H k => cut45 s c H k hs
  simp only [go_sem, simprocAttr, hl, h0, h1, hr]
end Go.Proofs.YtjemmehgfheflaaDoor.V
