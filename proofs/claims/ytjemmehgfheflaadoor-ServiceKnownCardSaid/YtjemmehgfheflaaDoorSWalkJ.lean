/- The service chapter: a meta packed, as 'V' runs both functions; the law of packing answers true. No conditions beyond the arguments' reading. -/
import Derived.Test.YtjemmehgfheflaaDoorSWalkI
namespace Go.Proofs.YtjemmehgfheflaaDoor.V
open Go
set_option linter.unusedSimpArgs false
set_option linter.unusedVariables false
attribute [local irreducible] go goOps goD opK callK callT stepK leaveTo nextK

/-- A meta's numbers are numbers of 16 bits, its texts not too long to be. -/
def Wf (a b c : List UInt8) (ss : List Svc) : Prop := (a.length ≤ 9223372036854775807 ∧ b.length ≤ 9223372036854775807 ∧ c.length ≤ 9223372036854775807 ∧ ss.length ≤ 9223372036854775807) ∧ ∀ s ∈ ss, s.label.length ≤ 9223372036854775807 ∧ s.text.length ≤ 9223372036854775807 ∧ (0 ≤ s.port ∧ s.port < 65536) ∧ (0 ≤ s.prio ∧ s.prio < 65536) ∧ (0 ≤ s.weight ∧ s.weight < 65536)
theorem host_len {s : List UInt8} (h : hostP s = true) : 0 < s.length ∧ s.length < 63 := by
  simp only [hostP, Bool.and_eq_true, decide_eq_true_eq] at h
  exact h.1
theorem small_of {a b c : List UInt8} {ss : List Svc} (hw : Wf a b c ss) (hm : mayP a b c ss = true) (h16 : ss.length ≤ 16) : Small a b c ss := by
  obtain ⟨⟨h1, h2, h3⟩, h4⟩ := mayP_iff.1 hm
  have := host_len h1
  refine ⟨⟨by omega, by omega, by omega, by omega⟩, by omega, fun s hs => ?_⟩
  obtain ⟨i, hi⟩ := List.getElem?_of_mem hs
  obtain ⟨q1, q2, _⟩ := h4 i s hi
  have := host_len q1
  exact ⟨⟨by omega, by omega⟩, by omega, (hw.2 s hs).2.2⟩
/-- What packing answers. -/
noncomputable def packP (a b c : List UInt8) (ss : List Svc) : List UInt8 × Int :=
  if 16 < ss.length then ([], 2) else if mayP a b c ss = true then (if 400 < (toldP a b c ss).length then ([], 2) else (toldP a b c ss, 0)) else ([], 210)
def packR (H : Hp) (p : List UInt8 × Int) (q : AV × Hp × Ef) : Prop := q = (.tuple [.str p.1, .int .i64 p.2], H, z0)
theorem packR_s {H : Hp} {s : List UInt8} {n : Int} {p : List UInt8 × Int} (h : p = (s, n)) : packR H p (.tuple [.str s, .int .i64 n], H, z0) := by subst h; rfl
theorem toldP_len {a b c : List UInt8} {ss : List Svc} (h : Small a b c ss) : (toldP a b c ss).length ≤ 11000000 := by
  have h1 := head_len h
  have h2 := told_len h ss.length
  rw [List.take_length] at h2
  unfold toldP
  rw [List.length_append]; omega

set_option maxRecDepth 20000 in
theorem pack10 (a b c : List UInt8) (H k x ss) (hx : Sw H x ss) (ht : Tb H) (hw : Wf a b c ss) : callK Tryd.prog 10 [.agg [.str a, .str b, .str c, x]] H k = k (.tuple [.str (packP a b c ss).1, .int .i64 (packP a b c ss).2], H, z0) := by
  refine callK_eq (r := (.tuple [.str (packP a b c ss).1, .int .i64 (packP a b c ss).2], H, z0)) ?_ k
  show callK _ _ _ _ (packR H (packP a b c ss))
  refine callK_start (n := 18) (rs := [.tmp 2, .tmp 3]) Tryd.func10 rfl rfl rfl ?_
  intro σ hl ha0
  have h0 := ha0 0 (by simp)
  clear ha0
  have xl := hx.sv.len
  simp only [Option.getD_some, List.getElem?_cons_zero, List.getElem?_cons_succ] at h0
  have rm := fun k => may19 a b c (H ++ [.cells [.str a, .str b, .str c, x] 24 .rw]) k x ss (hx.old _) (by have := hw.1; omega) hw.1.1 hw.1.2.1 hw.1.2.2.1 (fun s hs => (hw.2 s hs).1)
  by_cases h16 : 16 < ss.length
  · have g1 : decide ((ss.length : Int) > 16) = true := by simp; omega
    simp only [go_sem, simprocAttr, hl, h0, xl, g1]
    exact packR_s (by simp only [packP, if_pos h16])
  · have g1 : decide ((ss.length : Int) > 16) = false := by simp; omega
    cases hm : mayP a b c ss with
    | false =>
      rw [hm] at rm
      simp only [go_sem, simprocAttr, hl, h0, xl, g1, rm]
      exact packR_s (by simp only [packP, if_neg h16, hm, Bool.false_eq_true, if_false])
    | true =>
      rw [hm] at rm
      have hsm := small_of hw hm (by omega)
      have rt := fun k => told20 a b c (H ++ [.cells [.str a, .str b, .str c, x] 24 .rw]) k x ss (hx.old _) (ht.old _) hsm
      have hl4 := toldP_len hsm
      by_cases h400 : 400 < (toldP a b c ss).length
      · have g2 : decide (((toldP a b c ss).length : Int) > 400) = true := by simp; omega
        simp only [go_sem, simprocAttr, hl, h0, xl, g1, rm, rt, g2]
        exact packR_s (by simp only [packP, if_neg h16, hm, if_true, if_pos h400])
      · have g2 : decide (((toldP a b c ss).length : Int) > 400) = false := by simp; omega
        simp only [go_sem, simprocAttr, hl, h0, xl, g1, rm, rt, g2]
        exact packR_s (by simp only [packP, if_neg h16, hm, if_true, if_neg h400])

set_option maxRecDepth 20000 in
theorem pack11 (a b c : List UInt8) (H k x ss) (hx : Sw H x ss) (hw : Wf a b c ss) : callK Tryd.prog 11 [.agg [.str a, .str b, .str c, x]] H k = k (.tuple [.str (packP a b c ss).1, .int .i64 (packP a b c ss).2], H, z0) := by
  refine callK_eq (r := (.tuple [.str (packP a b c ss).1, .int .i64 (packP a b c ss).2], H, z0)) ?_ k
  show callK _ _ _ _ (packR H (packP a b c ss))
  refine callK_start (n := 18) (rs := [.tmp 2, .tmp 3]) Tryd.func11 rfl rfl rfl ?_
  intro σ hl ha0
  have h0 := ha0 0 (by simp)
  clear ha0
  have xl := hx.sv.len
  simp only [Option.getD_some, List.getElem?_cons_zero, List.getElem?_cons_succ] at h0
  have rm := fun k => may21 a b c (H ++ [.cells [.str a, .str b, .str c, x] 24 .rw]) k x ss (hx.old _) (by have := hw.1; omega) hw.1.1 hw.1.2.1 hw.1.2.2.1 (fun s hs => (hw.2 s hs).1)
  by_cases h16 : 16 < ss.length
  · have g1 : decide ((ss.length : Int) > 16) = true := by simp; omega
    simp only [go_sem, simprocAttr, hl, h0, xl, g1]
    exact packR_s (by simp only [packP, if_pos h16])
  · have g1 : decide ((ss.length : Int) > 16) = false := by simp; omega
    cases hm : mayP a b c ss with
    | false =>
      rw [hm] at rm
      simp only [go_sem, simprocAttr, hl, h0, xl, g1, rm]
      exact packR_s (by simp only [packP, if_neg h16, hm, Bool.false_eq_true, if_false])
    | true =>
      rw [hm] at rm
      have hsm := small_of hw hm (by omega)
      have rt := fun k => told22 a b c (H ++ [.cells [.str a, .str b, .str c, x] 24 .rw]) k x ss (hx.old _) hsm
      have hl4 := toldP_len hsm
      by_cases h400 : 400 < (toldP a b c ss).length
      · have g2 : decide (((toldP a b c ss).length : Int) > 400) = true := by simp; omega
        simp only [go_sem, simprocAttr, hl, h0, xl, g1, rm, rt, g2]
        exact packR_s (by simp only [packP, if_neg h16, hm, if_true, if_pos h400])
      · have g2 : decide (((toldP a b c ss).length : Int) > 400) = false := by simp; omega
        simp only [go_sem, simprocAttr, hl, h0, xl, g1, rm, rt, g2]
        exact packR_s (by simp only [packP, if_neg h16, hm, if_true, if_neg h400])

set_option maxRecDepth 20000 in
theorem check12 (a b c : List UInt8) (H k x ss) (hx : Sw H x ss) (ht : Tb H) (hw : Wf a b c ss) : callK Tryd.prog 12 [.agg [.str a, .str b, .str c, x]] H k = k (.int .i64 (packP a b c ss).2, H, z0) := by
  refine callK_eq (r := (.int .i64 (packP a b c ss).2, H, z0)) ?_ k
  refine callK_start (n := 11) (rs := [.tmp 2]) Tryd.func12 rfl rfl rfl ?_
  intro σ hl ha0
  have h0 := ha0 0 (by simp)
  clear ha0
  simp only [Option.getD_some, List.getElem?_cons_zero, List.getElem?_cons_succ] at h0
  have rp := fun k => pack10 a b c (H ++ [.cells [.str a, .str b, .str c, x] 24 .rw]) k x ss (hx.old _) (ht.old _) hw
  simp only [go_sem, simprocAttr, hl, h0, rp]

theorem packP_nil : packP [] [] [] [] = ([], 210) := by
  have : mayP [] [] [] [] = false := by
    cases h : mayP [] [] [] [] with
    | false => rfl
    | true => exact absurd (mayP_iff.1 h).1.1 (by decide)
  simp [packP, this]
theorem build_nil : evBuild Tryd.prog 24 [] = some (.agg [.str [], .str [], .str [], .nils]) := by kernel_rfl

set_option maxRecDepth 20000 in
theorem law3 (a b c : List UInt8) (H x ss) (hx : Sw H x ss) (ht : Tb H) (hw : Wf a b c ss) : callK Tryd.prog 3 [.agg [.str a, .str b, .str c, x]] H (fun q => q = (.bool true, H, z0)) := by
  refine callK_start (n := 52) (rs := [.tmp 2]) Tryd.func3 rfl rfl rfl ?_
  intro σ hl ha
  have h0 := ha 0 (by simp)
  clear ha
  simp only [Option.getD_some, List.getElem?_cons_zero, List.getElem?_cons_succ] at h0
  obtain ⟨⟨g, hgf⟩, hg⟩ := large_ex a b c _ x ss (hx.sv.old [.cells [.str a, .str b, .str c, x] 24 .rw]) (by have := hw.1; omega)
  simp only [go_sem, simprocAttr, hl, h0, hg]
  refine condK_split (fun hb => ?_) (fun hb => ?_)
  · simp only [go_sem, simprocAttr, hl]
  · have hm := hgf hb
    have hf : fits (ss.length + 1) 40 = true := by
      simp only [fits, decide_eq_true_eq]
      omega
    obtain ⟨⟨⟨y, L⟩, hL⟩, hlent⟩ := lent_ex a b c _ x ss (hx.sv.old [.cells [.str a, .str b, .str c, x] 24 .rw]) (by omega) hf
    simp only at hL hlent
    have ry : ∀ M k, callK Tryd.prog 10 [.agg [.str a, .str b, .str c, y]] (H ++ .cells [.str a, .str b, .str c, x] 24 .rw :: (L ++ M)) k = k (.tuple [.str (packP a b c ss).1, .int .i64 (packP a b c ss).2], H ++ .cells [.str a, .str b, .str c, x] 24 .rw :: (L ++ M), z0) :=
      fun M k => pack10 a b c _ k y ss (by have := hL.sw.old M; simpa using this) (ht.old _) hw
    have rx : ∀ M k, callK Tryd.prog 11 [.agg [.str a, .str b, .str c, x]] (H ++ M) k = k (.tuple [.str (packP a b c ss).1, .int .i64 (packP a b c ss).2], H ++ M, z0) :=
      fun M k => pack11 a b c _ k x ss (hx.old M) hw
    have rn : ∀ M k, callK Tryd.prog 10 [.agg [.str [], .str [], .str [], .nils]] (H ++ M) k = k (.tuple [.str [], .int .i64 210], H ++ M, z0) := by
      intro M k
      have := pack10 [] [] [] (H ++ M) k .nils [] (.inl ⟨rfl, rfl⟩) (ht.old _) ⟨by simp, by simp⟩
      rw [packP_nil] at this
      exact this
    have rc : ∀ M k, callK Tryd.prog 12 [.agg [.str a, .str b, .str c, y]] (H ++ .cells [.str a, .str b, .str c, x] 24 .rw :: (L ++ M)) k = k (.int .i64 (packP a b c ss).2, H ++ .cells [.str a, .str b, .str c, x] 24 .rw :: (L ++ M), z0) :=
      fun M k => check12 a b c _ k y ss (by have := hL.sw.old M; simpa using this) (ht.old _) hw
    have rk : ∀ M k, callK Tryd.prog 13 [.agg [.str a, .str b, .str c, y], .agg [.str a, .str b, .str c, x]] (H ++ .cells [.str a, .str b, .str c, x] 24 .rw :: (L ++ M)) k = k (.bool true, H ++ .cells [.str a, .str b, .str c, x] 24 .rw :: (L ++ M), z0) :=
      fun M k => kept_eq a b c _ k y x ss (by obtain ⟨q, rfl, hq⟩ := hL; exact ⟨q, rfl, by have := hp_old (l := M) hq; simpa using this⟩) (hx.sv.old _) (by omega)
    obtain ⟨q, rfl, hq⟩ := hL
    simp only [go_sem, simprocAttr, hl, h0, hlent, ry, rx, rn, rc, rk, build_nil]
end Go.Proofs.YtjemmehgfheflaaDoor.V
