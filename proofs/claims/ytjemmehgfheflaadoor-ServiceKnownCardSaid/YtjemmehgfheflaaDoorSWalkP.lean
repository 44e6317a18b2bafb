/- The service chapter: two metas held against each other; the example; the laws there-and-back and apart, as 'V' runs them: they answer true. No conditions beyond the arguments' reading. -/
import Derived.Test.YtjemmehgfheflaaDoorSWalkO
namespace Go.Proofs.YtjemmehgfheflaaDoor.V
open Go
set_option linter.unusedSimpArgs false
set_option linter.unusedVariables false
attribute [local irreducible] go goOps goD opK callK callT stepK leaveTo nextK

noncomputable def sameM (m n : Mt) : Bool := @decide (m = n) (Classical.propDecidable _)
theorem sameM_t {m n : Mt} (h : m = n) : sameM m n = true := @decide_eq_true _ (Classical.propDecidable _) h
theorem sameM_f {m n : Mt} (h : m ≠ n) : sameM m n = false := @decide_eq_false _ (Classical.propDecidable _) h
theorem sameM_iff {m n : Mt} : sameM m n = true ↔ m = n := by unfold sameM; exact @decide_eq_true_iff _ (Classical.propDecidable _)
/-- Two services are one. -/
noncomputable def eqS (s t : Svc) : Bool := @decide (s = t) (Classical.propDecidable _)
theorem eqS_iff {s t : Svc} : eqS s t = true ↔ s = t := by unfold eqS; exact @decide_eq_true_iff _ (Classical.propDecidable _)
theorem eqs41 (s t : Svc) : evEq Tryd.prog 20 41 (.agg s.cells) (.agg t.cells) = some (eqS s t) := by
  have : evEq Tryd.prog 20 41 (.agg s.cells) (.agg t.cells) = if (s.label == t.label) = true then (if (s.dg == t.dg) = true then (if (s.port == t.port) = true then (if (s.prio == t.prio) = true then (if (s.weight == t.weight) = true then (if (s.text == t.text) = true then some true else some false) else some false) else some false) else some false) else some false) else some false := by kernel_rfl
  rw [this]
  have hiff : eqS s t = true ↔ (s.label = t.label ∧ s.dg = t.dg ∧ s.port = t.port ∧ s.prio = t.prio ∧ s.weight = t.weight ∧ s.text = t.text) := by
    rw [eqS_iff]
    constructor
    · rintro rfl; exact ⟨rfl, rfl, rfl, rfl, rfl, rfl⟩
    · rintro ⟨h1, h2, h3, h4, h5, h6⟩
      obtain ⟨a1, a2, a3, a4, a5, a6⟩ := s
      obtain ⟨b1, b2, b3, b4, b5, b6⟩ := t
      simp only at h1 h2 h3 h4 h5 h6
      subst h1; subst h2; subst h3; subst h4; subst h5; subst h6; rfl
  cases he : eqS s t with
  | true =>
    obtain ⟨h1, h2, h3, h4, h5, h6⟩ := hiff.1 he
    simp [h1, h2, h3, h4, h5, h6]
  | false =>
    have hn : ¬ (s.label = t.label ∧ s.dg = t.dg ∧ s.port = t.port ∧ s.prio = t.prio ∧ s.weight = t.weight ∧ s.text = t.text) := fun h => by rw [hiff.2 h] at he; cases he
    simp only [beq_iff_eq]
    repeat' split
    all_goals first
      | rfl
      | exact absurd ⟨by assumption, by assumption, by assumption, by assumption, by assumption, by assumption⟩ hn

set_option maxRecDepth 20000 in
theorem same16 (m n : Mt) (H k x y) (hx : Sv H x m.ss) (hy : Sv H y n.ss) (hn : m.ss.length ≤ 9223372036854775807) : callK Tryd.prog 16 [.agg [.str m.a, .str m.b, .str m.c, x], .agg [.str n.a, .str n.b, .str n.c, y]] H k = k (.bool (sameM m n), H, z0) := by
  refine callK_eq (r := (.bool (sameM m n), H, z0)) ?_ k
  refine callK_start (n := 52) (rs := [.tmp 4]) Tryd.func16 rfl rfl rfl ?_
  intro σ hl ha
  have h0 := ha 0 (by simp)
  have h1 := ha 1 (by simp)
  clear ha
  have xl := hx.len
  have yl := hy.len
  simp only [Option.getD_some, List.getElem?_cons_zero, List.getElem?_cons_succ] at h0 h1
  have hne : m ≠ n → (AV.bool false, H, z0) = (AV.bool (sameM m n), H, z0) := fun h => by rw [sameM_f h]
  have hlens : ((m.ss.length : Int) != (n.ss.length : Int)) = !decide (m.ss.length = n.ss.length) := by
    rw [bne]; congr 1; rw [Bool.eq_iff_iff]; simp only [beq_iff_eq, decide_eq_true_eq]; omega
  repeat' first
    | refine guardK_split (fun hb => ?_) (fun hb => ?_)
    | refine condK_split (fun hb => ?_) (fun hb => ?_)
    | simp only [go_sem, simprocAttr, hl, h0, h1, xl, yl, hlens, *]
  all_goals first
    | (refine hne (fun h => ?_)
       subst h
       simp_all
       done)
    | skip
  have hab : m.a = n.a ∧ m.b = n.b ∧ m.c = n.c ∧ m.ss.length = n.ss.length := by
    refine ⟨?_, ?_, ?_, ?_⟩ <;> simp_all
  obtain ⟨ea, eb, ec, el⟩ := hab
  have hmn : (∀ i, i < m.ss.length → m.ss[i]? = n.ss[i]?) → m = n := by
    intro h
    have hs : m.ss = n.ss := by
      refine List.ext_getElem? (fun i => ?_)
      by_cases hi : i < m.ss.length
      · exact h i hi
      · rw [List.getElem?_eq_none (by omega), List.getElem?_eq_none (by omega)]
    obtain ⟨m1, m2, m3, m4⟩ := m
    obtain ⟨n1, n2, n3, n4⟩ := n
    simp only at ea eb ec hs
    subst ea; subst eb; subst ec; subst hs; rfl
  refine go_rounds (fun q s => ∃ σ i, q + i = m.ss.length ∧ (∀ j, j < i → m.ss[j]? = n.ss[j]?) ∧ s = ⟨σ, H ++ [.cells [.str m.a, .str m.b, .str m.c, x] 24 .rw, .cells [.str n.a, .str n.b, .str n.c, y] 24 .rw], z0⟩ ∧ σ.length = 52 ∧ fr σ 2 = .ptr H.length 0 ∧ fr σ 3 = .ptr (H.length + 1) 0 ∧ fr σ 5 = .int .i64 (i : Nat)) m.ss.length
    ⟨_, 0, rfl, fun j hj => by omega, rfl, by simp only [go_sem, simprocAttr, hl], by simp only [go_sem, simprocAttr, hl], by simp only [go_sem, simprocAttr, hl], by simp only [go_sem, simprocAttr, hl]⟩ ?_
  rintro q _ ⟨σ, i, hi, heq, rfl, hl, h2, h3, h5⟩
  by_cases hlt : i < m.ss.length
  · obtain ⟨s, hs⟩ : ∃ s, m.ss[i]? = some s := ⟨_, List.getElem?_eq_getElem hlt⟩
    obtain ⟨t, ht⟩ : ∃ t, n.ss[i]? = some t := ⟨_, List.getElem?_eq_getElem (by omega)⟩
    obtain ⟨bx, csx, ex, kx, xa, xb⟩ := hx.at hs
    obtain ⟨by_, csy, ey, ky, ya, yb⟩ := hy.at ht
    have lx := sflat_ld m.ss i csx (e := ex) (k := kx) hs
    have ly := sflat_ld n.ss i csy (e := ey) (k := ky) ht
    have hw := wrap_succ (show i < 9223372036854775807 by omega)
    simp only [go_sem, simprocAttr, hl, h2, h3, h5, xl, yl, hlt]
    refine go_drawZ tFollows (by kernel_rfl) ?_
    simp only [go_sem, simprocAttr, hl, h2, h3, h5, xl, yl, hlt, xa, xb, ya, yb, lx, ly, eqs41, hw]
    refine condK_split (fun hb => ?_) (fun hb => ?_)
    · simp only [go_sem, simprocAttr, hl, h2, h3, h5, xl, yl, hlt, hw]
      refine hne (fun h => ?_)
      rw [h, ht] at hs
      simp only [Option.some.injEq] at hs
      rw [eqS_iff.2 hs.symm] at hb
      cases hb
    · have hst : s = t := eqS_iff.1 (by cases h : eqS s t <;> simp_all)
      simp only [go_sem, simprocAttr, hl, h2, h3, h5, xl, yl, hlt, hw]
      refine ⟨q - 1, by omega, _, i + 1, by omega, fun j hj => ?_, rfl, by simp only [go_sem, simprocAttr, hl], by simp only [go_sem, simprocAttr, hl, h2], by simp only [go_sem, simprocAttr, hl, h3], by simp only [go_sem, simprocAttr, hl]⟩
      by_cases hji : j = i
      · rw [hji, hs, ht, hst]
      · exact heq j (by omega)
  · have hm : m = n := hmn (fun j hj => heq j (by omega))
    simp only [go_sem, simprocAttr, hl, h2, h3, h5, xl, yl, hlt, sameM_t hm]
end Go.Proofs.YtjemmehgfheflaaDoor.V
