/- Data of records checked and folded, as 'V' runs the program's and the document's functions. No conditions. -/
import Derived.Test.YtgkpgpdkolpfkaaDoorWData
namespace Go.Proofs.YtgkpgpdkolpfkaaDoor.V
open Go
set_option linter.unusedSimpArgs false
set_option linter.unusedVariables false
attribute [local irreducible] go goOps goD opK callK callT stepK leaveTo nextK

def eqD (d d' : Dt) : Bool := decide (d = d')
theorem eq_data (r h m r' h' m' : List UInt8) (a b c d e a' b' c' d' e' : Int) :
    evEq Tryd.prog 20 37 (.agg [.str r, .str h, .str m, .int .u32 a, .int .u32 b, .int .u32 c, .int .u32 d, .int .u32 e]) (.agg [.str r', .str h', .str m', .int .u32 a', .int .u32 b', .int .u32 c', .int .u32 d', .int .u32 e']) = some (eqD ⟨r, h, m, a, b, c, d, e⟩ ⟨r', h', m', a', b', c', d', e'⟩) := by
  have key : evEq Tryd.prog 20 37 (.agg [.str r, .str h, .str m, .int .u32 a, .int .u32 b, .int .u32 c, .int .u32 d, .int .u32 e]) (.agg [.str r', .str h', .str m', .int .u32 a', .int .u32 b', .int .u32 c', .int .u32 d', .int .u32 e']) =
      if (r == r') = true then (if (h == h') = true then (if (m == m') = true then
        ((if (a == a') = true then (if (b == b') = true then (if (c == c') = true then (if (d == d') = true then (if (e == e') = true then some true else some false) else some false) else some false) else some false) else some false : Option Bool).bind fun q => if q = true then some true else some false)
        else some false) else some false) else some false := by kernel_rfl
  rw [key]
  unfold eqD
  simp only [beq_iff_eq]
  by_cases h1 : r = r'
  case neg => simp [h1, Dt.mk.injEq]
  subst h1
  by_cases h2 : h = h'
  case neg => simp [h2, Dt.mk.injEq]
  subst h2
  by_cases h3 : m = m'
  case neg => simp [h3, Dt.mk.injEq]
  subst h3
  by_cases h4 : a = a'
  case neg => simp [h4, Dt.mk.injEq]
  subst h4
  by_cases h5 : b = b'
  case neg => simp [h5, Dt.mk.injEq]
  subst h5
  by_cases h6 : c = c'
  case neg => simp [h6, Dt.mk.injEq]
  subst h6
  by_cases h7 : d = d'
  case neg => simp [h7, Dt.mk.injEq]
  subst h7
  by_cases h8 : e = e'
  case neg => simp [h8, Dt.mk.injEq]
  subst h8
  simp
theorem eqD_iff {d d' : Dt} : eqD d d' = true ↔ d = d' := by simp [eqD]

set_option maxRecDepth 20000 in
theorem need (is ok : Bool) (H : Hp) (x : ABlk) (r : Hp) (k) : callK Tryd.prog 46 [.bool is, .ptr (H.length + 1) 0] (H ++ (x :: .cells [.bool ok] 4 .rw :: r)) k = k (.tuple [], H ++ (x :: .cells [.bool (ok && is)] 4 .rw :: r), ⟨none, some (H.length + 1)⟩) := by
  refine callK_eq (r := (.tuple [], H ++ (x :: .cells [.bool (ok && is)] 4 .rw :: r), ⟨none, some (H.length + 1)⟩)) ?_ k
  refine callK_start (n := 7) (rs := []) Tryd.func46 rfl rfl rfl ?_
  intro σ hl ha
  have h0 := ha 0 (by simp)
  have h1 := ha 1 (by simp)
  clear ha
  simp only [Option.getD_some, List.getElem?_cons_zero, List.getElem?_cons_succ] at h0 h1
  cases ok
  · simp only [go_sem, simprocAttr, hl, h0, h1]
    rw [leave_same rfl (by simp), low_sm (by omega)]
    rfl
  · simp only [go_sem, simprocAttr, hl, h0, h1]
    rw [leave_same rfl (by simp), low_sm (by omega)]

theorem ckq (b : Bool) : ((if b = true then (0 : Int) else 11) == 0) = b := by cases b <;> rfl
theorem as_a : ([97] : List UInt8).all (fun c => decide (c.toNat < 128)) = true := by decide
theorem build_data0 : evBuild Tryd.prog 37 [] = some (.agg [.str [], .str [], .str [], .int .u32 0, .int .u32 0, .int .u32 0, .int .u32 0, .int .u32 0]) := by kernel_rfl
theorem formS_o {t : Int} (h : t ≠ 1 ∧ t ≠ 2 ∧ t ≠ 5 ∧ t ≠ 6 ∧ t ≠ 12 ∧ t ≠ 15 ∧ t ≠ 16 ∧ t ≠ 28 ∧ t ≠ 33) : formS t = [114] := by
  obtain ⟨h1, h2, h3, h4, h5, h6, h7, h8, h9⟩ := h
  unfold formS
  rw [if_neg h1, if_neg h2, if_neg h3, if_neg h4, if_neg h5, if_neg h6, if_neg h7, if_neg h8, if_neg h9]

end Go.Proofs.YtgkpgpdkolpfkaaDoor.V
