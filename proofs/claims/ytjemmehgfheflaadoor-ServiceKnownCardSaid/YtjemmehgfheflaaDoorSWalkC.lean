/- The service chapter: which metas may be, as 'V' runs the two functions that tell. No conditions. -/
import Derived.Test.YtjemmehgfheflaaDoorSWalkB
namespace Go.Proofs.YtjemmehgfheflaaDoor.V
open Go
set_option linter.unusedSimpArgs false
set_option linter.unusedVariables false
attribute [local irreducible] go goOps goD opK callK callT stepK leaveTo nextK

/-- May the i-th service be? -/
def svcOk (ss : List Svc) (i : Nat) (s : Svc) : Prop := hostP s.label = true ∧ s.text.length ≤ 255 ∧ ∀ (j : Nat) t, j < i → ss[j]? = some t → ¬ (t.label = s.label ∧ t.dg = s.dg)
/-- May a meta be? -/
def mayQ (a b c : List UInt8) (ss : List Svc) : Prop := (hostP a = true ∧ (b.length = 0 ∨ b.length = 4) ∧ (c.length = 0 ∨ c.length = 16)) ∧ ∀ (i : Nat) s, ss[i]? = some s → svcOk ss i s
noncomputable def mayP (a b c : List UInt8) (ss : List Svc) : Bool := @decide (mayQ a b c ss) (Classical.propDecidable _)
theorem mayP_iff {a b c : List UInt8} {ss : List Svc} : mayP a b c ss = true ↔ mayQ a b c ss := by unfold mayP; exact @decide_eq_true_iff _ (Classical.propDecidable _)

theorem sfind_iff {ss : List Svc} {l : List UInt8} {d : Bool} : (sfind ss l d).2 = true ↔ ∃ (j : Nat) (t : Svc), j < ss.length ∧ ss[j]? = some t ∧ t.label = l ∧ t.dg = d := by
  constructor
  · intro h
    by_cases hn : ∀ j, j < ss.length → ∀ s, ss[j]? = some s → (s.label == l && s.dg == d) = false
    · rw [sfind_no hn] at h; cases h
    · simp only [Classical.not_forall, Bool.not_eq_false, Bool.and_eq_true, beq_iff_eq] at hn
      obtain ⟨j, hj, t, ht, h1, h2⟩ := hn
      exact ⟨j, t, hj, ht, h1, h2⟩
  · rintro ⟨j, t, hj, ht, rfl, rfl⟩
    induction ss generalizing j with
    | nil => simp at ht
    | cons x ss ih =>
      unfold sfind
      split
      · rfl
      · rename_i hx
        cases j with
        | zero => simp only [List.getElem?_cons_zero, Option.some.injEq] at ht; subst ht; simp at hx
        | succ j => exact ih j (by simpa using hj) (by simpa using ht)

theorem dup_of {ss : List Svc} {i : Nat} {l : List UInt8} {d : Bool} (h : (sfind (ss.take i) l d).2 = true) : ∃ (j : Nat) (t : Svc), j < i ∧ ss[j]? = some t ∧ t.label = l ∧ t.dg = d := by
  obtain ⟨j, t, hj, ht, h1, h2⟩ := sfind_iff.1 h
  rw [List.length_take] at hj
  rw [List.getElem?_take_of_lt (by omega)] at ht
  exact ⟨j, t, by omega, ht, h1, h2⟩
theorem nodup_of {ss : List Svc} {i : Nat} {l : List UInt8} {d : Bool} (h : (sfind (ss.take i) l d).2 = false) : ∀ (j : Nat) t, j < i → ss[j]? = some t → ¬ (t.label = l ∧ t.dg = d) := by
  intro j t hj ht hh
  have := (List.getElem?_eq_some_iff.1 ht).1
  have : (sfind (ss.take i) l d).2 = true := sfind_iff.2 ⟨j, t, by rw [List.length_take]; omega, by rw [List.getElem?_take_of_lt hj]; exact ht, hh.1, hh.2⟩
  rw [h] at this; cases this
theorem ok_step {ss : List Svc} {i : Nat} {s : Svc} (hs : ss[i]? = some s) (h : svcOk ss i s) (hno : ∀ j, j < i → ∀ s, ss[j]? = some s → svcOk ss j s) : ∀ j, j < i + 1 → ∀ s, ss[j]? = some s → svcOk ss j s := by
  intro j hj t ht
  by_cases hji : j = i
  · subst hji; rw [hs] at ht; cases ht; exact h
  · exact hno j (by omega) t ht

/-- A value that reads as a row of services and can be cut. -/
def Sw (H : Hp) (x : AV) (ss : List Svc) : Prop := (x = .nils ∧ ss = []) ∨ (∃ b c cs e k, x = .slice b 0 ss.length (.ex c) ∧ ss.length ≤ c ∧ H[b]? = some (.cells (sflat ss ++ cs) e k)) ∨ ∃ b cs fz st, x = .slice b 0 ss.length (.op 0) ∧ H[b]? = some (.cells (sflat ss ++ cs) 41 (.op fz st))
theorem Sw.sv {H : Hp} {x : AV} {ss : List Svc} (h : Sw H x ss) : Sv H x ss := by
  obtain h | ⟨b, c, cs, e, k, rfl, _, hb⟩ | ⟨b, cs, fz, st, rfl, hb⟩ := h
  · exact .inl h
  · exact .inr ⟨b, _, cs, e, k, rfl, hb⟩
  · exact .inr ⟨b, _, cs, _, _, rfl, hb⟩
theorem Sw.old {H : Hp} {x : AV} {ss : List Svc} (h : Sw H x ss) (l : Hp) : Sw (H ++ l) x ss := by
  obtain h | ⟨b, c, cs, e, k, rfl, hn, hb⟩ | ⟨b, cs, fz, st, rfl, hb⟩ := h
  · exact .inl h
  · exact .inr (.inl ⟨b, c, cs, e, k, rfl, hn, hp_old hb⟩)
  · exact .inr (.inr ⟨b, cs, fz, st, rfl, hp_old hb⟩)
theorem Lent.sw {H : Hp} {x : AV} {ss : List Svc} (h : Lent H x ss) : Sw H x ss := by
  obtain ⟨b, rfl, hb⟩ := h
  exact .inr (.inr ⟨b, _, _, _, rfl, hb⟩)
theorem sflat_cut (ss : List Svc) (i : Nat) (cs : List AV) : sflat ss ++ cs = sflat (ss.take i) ++ (sflat (ss.drop i) ++ cs) := by
  rw [← List.append_assoc]
  congr 1
  unfold sflat
  rw [← List.flatMap_append, List.take_append_drop]
theorem Sw.cut {H : Hp} {x : AV} {ss : List Svc} (h : Sw H x ss) {i : Nat} (hi : i ≤ ss.length) : ∃ y, (∀ l : Hp, evSlice Tryd.prog 22 x none (some (.int .i64 (i : Nat))) none (H ++ l) = some y) ∧ flat y = flat x ∧ Sw H y (ss.take i) := by
  have hl : (ss.take i).length = i := by rw [List.length_take]; omega
  obtain ⟨rfl, rfl⟩ | ⟨b, c, cs, e, k, rfl, hn, hb⟩ | ⟨b, cs, fz, st, rfl, hb⟩ := h
  · simp only [List.length_nil, Nat.le_zero] at hi
    subst hi
    refine ⟨.nils, fun l => ?_, rfl, .inl ⟨rfl, rfl⟩⟩
    simp only [evSlice, tsh_22]; rfl
  · refine ⟨.slice b 0 i (.ex c), fun l => ?_, by simp only [flat], .inr (.inl ⟨b, c, sflat (ss.drop i) ++ cs, e, k, by rw [hl], by omega, by rw [hb, ← sflat_cut]⟩)⟩
    simp only [evSlice, tsh_22, bnd]
    rw [if_pos ⟨by omega, by omega⟩]
    simp
  · refine ⟨.slice b 0 i (.op 0), fun l => ?_, by simp only [flat], .inr (.inr ⟨b, sflat (ss.drop i) ++ cs, fz, st, by rw [hl], by rw [hb, ← sflat_cut]⟩)⟩
    have hk : known (H ++ l) b 0 0 6 41 = some ((sflat ss ++ cs).length / 6) := by
      simp only [known, hp_old hb]
      rw [if_pos ⟨trivial, by decide, by decide⟩]
      rfl
    have hq : i ≤ (sflat ss ++ cs).length / 6 := by rw [List.length_append, sflat_len]; omega
    simp only [evSlice, tsh_22, hk, Option.bind_some, bnd]
    rw [if_pos ⟨by omega, by omega⟩]
    simp

theorem svc_l0 (s : Svc) {e : TypeId} {k : Kd} : ldC 0 1 false (.cells s.cells e k) = some (.str s.label) := rfl
theorem svc_l1 (s : Svc) {e : TypeId} {k : Kd} : ldC 1 1 false (.cells s.cells e k) = some (.bool s.dg) := rfl
theorem svc_l2 (s : Svc) {e : TypeId} {k : Kd} : ldC 2 1 false (.cells s.cells e k) = some (.int .u16 s.port) := rfl
theorem svc_l3 (s : Svc) {e : TypeId} {k : Kd} : ldC 3 1 false (.cells s.cells e k) = some (.int .u16 s.prio) := rfl
theorem svc_l4 (s : Svc) {e : TypeId} {k : Kd} : ldC 4 1 false (.cells s.cells e k) = some (.int .u16 s.weight) := rfl
theorem svc_l5 (s : Svc) {e : TypeId} {k : Kd} : ldC 5 1 false (.cells s.cells e k) = some (.str s.text) := rfl
theorem svc_z (t : Svc) : splice [.str [], .bool false, .int .u16 0, .int .u16 0, .int .u16 0, .str []] 0 t.cells = t.cells := rfl
attribute [go_sem] svc_len svc_scal svc_flat svc_put svc_ld svc_l0 svc_l1 svc_l2 svc_l3 svc_l4 svc_l5 svc_z build41

theorem build_meta (v : AV) (h : scal v = true) : evBuild Tryd.prog 24 [(3, v)] = some (.agg [.str [], .str [], .str [], v]) := by
  have : vcells v = [v] := by cases v <;> first | rfl | cases h
  simp only [evBuild, tsh_24, tzero_24, tplaces_24, Option.bind_some, fillA, this]
  rfl

set_option maxRecDepth 20000 in
theorem may19 (a b c : List UInt8) (H k x ss) (hx : Sw H x ss) (hn : ss.length ≤ 9223372036854775807) (ha : a.length ≤ 9223372036854775807) (hb : b.length ≤ 9223372036854775807) (hc : c.length ≤ 9223372036854775807)
    (hs : ∀ s ∈ ss, s.label.length ≤ 9223372036854775807) : callK Tryd.prog 19 [.agg [.str a, .str b, .str c, x]] H k = k (.bool (mayP a b c ss), H, z0) := by
  refine callK_eq (r := (.bool (mayP a b c ss), H, z0)) ?_ k
  refine callK_start (n := 68) (rs := [.tmp 2]) Tryd.func19 rfl rfl rfl ?_
  intro σ hl ha0
  have h0 := ha0 0 (by simp)
  clear ha0
  have xl := hx.sv.len
  have hh := fun H k => host32 a H k ha
  simp only [Option.getD_some, List.getElem?_cons_zero, List.getElem?_cons_succ] at h0
  repeat' first
    | refine guardK_split (fun hb => ?_) (fun hb => ?_)
    | refine condK_split (fun hb => ?_) (fun hb => ?_)
    | simp only [go_sem, simprocAttr, hl, h0, xl, hh, *]
  all_goals first
    | (have hbad : ¬ mayQ a b c ss := by
         rintro ⟨⟨q1, q2, q3⟩, _⟩
         simp only [decide_eq_true_eq, decide_eq_false_iff_not, beq_iff_eq, beq_eq_false_iff_ne, bne_iff_ne, bne_eq_false_iff_eq, ne_eq, Bool.not_true, Bool.not_false, ge_iff_le, gt_iff_lt, eq_self, true_iff, iff_true, false_iff, iff_false, Bool.false_eq_true, Decidable.not_not, Bool.not_eq_true', Bool.not_eq_false', Bool.not_not] at *
         first | omega | simp_all
       refine ret_b ?_
       rw [mayP_iff]
       simp only [Bool.false_eq_true, false_iff]
       exact hbad)
    | skip
  all_goals
    have hgood : hostP a = true ∧ (b.length = 0 ∨ b.length = 4) ∧ (c.length = 0 ∨ c.length = 16) := by
      simp only [decide_eq_true_eq, decide_eq_false_iff_not, beq_iff_eq, beq_eq_false_iff_ne, bne_iff_ne, bne_eq_false_iff_eq, ne_eq, Bool.not_true, Bool.not_false, ge_iff_le, gt_iff_lt, eq_self, true_iff, iff_true, false_iff, iff_false, Bool.false_eq_true, Decidable.not_not, Bool.not_eq_true', Bool.not_eq_false', Bool.not_not] at *
      exact ⟨by assumption, by omega, by omega⟩
    refine go_rounds (fun n st => ∃ σ i e l', n + i = ss.length ∧ (∀ j, j < i → ∀ s, ss[j]? = some s → svcOk ss j s) ∧ st = ⟨σ, H ++ (.cells [.str a, .str b, .str c, x] 24 .rw :: l'), e⟩ ∧ clean H.length e ∧ σ.length = 68 ∧ fr σ 1 = .ptr H.length 0 ∧ fr σ 36 = x ∧ fr σ 37 = .int .i64 ss.length ∧ fr σ 38 = .int .i64 (i : Nat)) ss.length
      ⟨_, 0, _, [], rfl, fun j hj => absurd hj (Nat.not_lt_zero j), rfl, ⟨rfl, rfl⟩, by simp only [go_sem, simprocAttr, hl]⟩ ?_
    rintro n _ ⟨σ, i, e, l', hi, hno, rfl, he, hl, h1, h36, h37, h38⟩
    by_cases hlt : i < ss.length
    · obtain ⟨s, hss⟩ : ∃ s, ss[i]? = some s := ⟨_, List.getElem?_eq_getElem hlt⟩
      obtain ⟨bx, csx, ex, kx, xa, xb⟩ := hx.sv.at hss
      have lx := sflat_ld ss i csx (e := ex) (k := kx) hss
      have hw := wrap_succ (show i < 9223372036854775807 by omega)
      have hh2 := fun H k => host32 s.label H k (hs s (List.mem_of_getElem? hss))
      obtain ⟨y, hy, hyf, hys⟩ := hx.cut (Nat.le_of_lt hlt)
      have hbm := build_meta y hys.sv.scal
      have hf := fun M k => find33 [] [] [] s.label s.dg (H ++ M) k y (ss.take i) (hys.sv.old M) (by rw [List.length_take]; omega)
      clear hyf
      repeat' first
        | refine guardK_split (fun hb => ?_) (fun hb => ?_)
        | refine condK_split (fun hb => ?_) (fun hb => ?_)
        | refine go_drawF tFollows (by kernel_rfl) ?_
        | simp only [go_sem, simprocAttr, hl, he, h1, h36, h37, h38, xl, hlt, xa, xb, lx, hw, hh2, hy, hbm, hf, *]
      all_goals first
        | (refine ⟨(by kernel_rfl : effOk _ _ = true), ?_⟩
           repeat' first
             | refine condK_split (fun hb => ?_) (fun hb => ?_)
             | simp only [go_sem, simprocAttr, hl, he, h1, h36, h37, h38, xl, hlt, xa, xb, lx, hw, hh2, hy, hbm, hf, *]
           · have hdup := dup_of hb
             refine ret_b ?_
             rw [mayP_iff]
             simp only [Bool.false_eq_true, false_iff]
             rintro ⟨_, q⟩
             obtain ⟨j, t, hj, ht, h⟩ := hdup
             exact (q i s hss).2.2 j t hj ht h
           · have hnd := nodup_of hb
             have hok : svcOk ss i s := ⟨by simp only [decide_eq_true_eq, decide_eq_false_iff_not, beq_iff_eq, beq_eq_false_iff_ne, bne_iff_ne, bne_eq_false_iff_eq, ne_eq, Bool.not_true, Bool.not_false, ge_iff_le, gt_iff_lt, eq_self, true_iff, iff_true, false_iff, iff_false, Bool.false_eq_true, Decidable.not_not, Bool.not_eq_true', Bool.not_eq_false', Bool.not_not] at *; assumption, by simp only [decide_eq_true_eq, decide_eq_false_iff_not, beq_iff_eq, beq_eq_false_iff_ne, bne_iff_ne, bne_eq_false_iff_eq, ne_eq, Bool.not_true, Bool.not_false, ge_iff_le, gt_iff_lt, eq_self, true_iff, iff_true, false_iff, iff_false, Bool.false_eq_true, Decidable.not_not, Bool.not_eq_true', Bool.not_eq_false', Bool.not_not] at *; omega, hnd⟩
             exact ⟨n - 1, by omega, _, i + 1, _, _, by omega, ok_step hss hok hno, rfl, by simp only [go_sem, simprocAttr, hl, he, h1, h36, h37, h38]⟩)
        | (have hbad : ¬ svcOk ss i s := by
             rintro ⟨q1, q2, q3⟩
             simp only [decide_eq_true_eq, decide_eq_false_iff_not, beq_iff_eq, beq_eq_false_iff_ne, bne_iff_ne, bne_eq_false_iff_eq, ne_eq, Bool.not_true, Bool.not_false, ge_iff_le, gt_iff_lt, eq_self, true_iff, iff_true, false_iff, iff_false, Bool.false_eq_true, Decidable.not_not, Bool.not_eq_true', Bool.not_eq_false', Bool.not_not] at *
             first | omega | simp_all
           refine ret_b ?_
           rw [mayP_iff]
           simp only [Bool.false_eq_true, false_iff]
           exact fun q => hbad (q.2 i s hss))
    · simp only [go_sem, simprocAttr, hl, he, h1, h36, h37, h38, hlt]
      refine ret_b ?_
      rw [mayP_iff]
      exact ⟨fun _ => ⟨hgood, fun j s hj => hno j (by have := (List.getElem?_eq_some_iff.1 hj).1; omega) s hj⟩, fun _ => rfl⟩

set_option maxRecDepth 20000 in
theorem may21 (a b c : List UInt8) (H k x ss) (hx : Sw H x ss) (hn : ss.length ≤ 9223372036854775807) (ha : a.length ≤ 9223372036854775807) (hb : b.length ≤ 9223372036854775807) (hc : c.length ≤ 9223372036854775807)
    (hs : ∀ s ∈ ss, s.label.length ≤ 9223372036854775807) : callK Tryd.prog 21 [.agg [.str a, .str b, .str c, x]] H k = k (.bool (mayP a b c ss), H, z0) := by
  refine callK_eq (r := (.bool (mayP a b c ss), H, z0)) ?_ k
  refine callK_start (n := 81) (rs := [.tmp 2]) Tryd.func21 rfl rfl rfl ?_
  intro σ hl ha0
  have h0 := ha0 0 (by simp)
  clear ha0
  have xl := hx.sv.len
  have hh := fun H k => host40 a H k ha
  simp only [Option.getD_some, List.getElem?_cons_zero, List.getElem?_cons_succ] at h0
  repeat' first
    | refine guardK_split (fun hb => ?_) (fun hb => ?_)
    | refine condK_split (fun hb => ?_) (fun hb => ?_)
    | simp only [go_sem, simprocAttr, hl, h0, xl, hh, *]
  all_goals first
    | (have hbad : ¬ mayQ a b c ss := by
         rintro ⟨⟨q1, q2, q3⟩, _⟩
         simp only [decide_eq_true_eq, decide_eq_false_iff_not, beq_iff_eq, beq_eq_false_iff_ne, bne_iff_ne, bne_eq_false_iff_eq, ne_eq, Bool.not_true, Bool.not_false, ge_iff_le, gt_iff_lt, eq_self, true_iff, iff_true, false_iff, iff_false, Bool.false_eq_true, Decidable.not_not, Bool.not_eq_true', Bool.not_eq_false', Bool.not_not] at *
         first | omega | simp_all
       refine ret_b ?_
       rw [mayP_iff]
       simp only [Bool.false_eq_true, false_iff]
       exact hbad)
    | skip
  all_goals
    have hgood : hostP a = true ∧ (b.length = 0 ∨ b.length = 4) ∧ (c.length = 0 ∨ c.length = 16) := by
      simp only [decide_eq_true_eq, decide_eq_false_iff_not, beq_iff_eq, beq_eq_false_iff_ne, bne_iff_ne, bne_eq_false_iff_eq, ne_eq, Bool.not_true, Bool.not_false, ge_iff_le, gt_iff_lt, eq_self, true_iff, iff_true, false_iff, iff_false, Bool.false_eq_true, Decidable.not_not, Bool.not_eq_true', Bool.not_eq_false', Bool.not_not] at *
      exact ⟨by assumption, by omega, by omega⟩
    refine go_rounds (fun n st => ∃ σ i e l', n + i = ss.length ∧ (∀ j, j < i → ∀ s, ss[j]? = some s → svcOk ss j s) ∧ st = ⟨σ, H ++ (.cells [.str a, .str b, .str c, x] 24 .rw :: l'), e⟩ ∧ clean H.length e ∧ σ.length = 81 ∧ fr σ 1 = .ptr H.length 0 ∧ fr σ 3 = .int .i64 (i : Nat)) ss.length
      ⟨_, 0, _, [], rfl, fun j hj => absurd hj (Nat.not_lt_zero j), rfl, ⟨rfl, rfl⟩, by simp only [go_sem, simprocAttr, hl]⟩ ?_
    rintro n _ ⟨σ, i, e, l', hi, hno, rfl, he, hl, h1, h3⟩
    by_cases hlt : i < ss.length
    · obtain ⟨s, hss⟩ : ∃ s, ss[i]? = some s := ⟨_, List.getElem?_eq_getElem hlt⟩
      obtain ⟨bx, csx, ex, kx, xa, xb⟩ := hx.sv.at hss
      have lx := sflat_ld ss i csx (e := ex) (k := kx) hss
      have hw := wrap_succ (show i < 9223372036854775807 by omega)
      have hh2 := fun H k => host40 s.label H k (hs s (List.mem_of_getElem? hss))
      repeat' first
        | refine guardK_split (fun hb => ?_) (fun hb => ?_)
        | refine condK_split (fun hb => ?_) (fun hb => ?_)
        | simp only [go_sem, simprocAttr, hl, he, h1, h3, xl, hlt, xa, xb, lx, hh2, *]
      all_goals first
        | (have hbad : ¬ svcOk ss i s := by
             rintro ⟨q1, q2, q3⟩
             simp only [decide_eq_true_eq, decide_eq_false_iff_not, beq_iff_eq, beq_eq_false_iff_ne, bne_iff_ne, bne_eq_false_iff_eq, ne_eq, Bool.not_true, Bool.not_false, ge_iff_le, gt_iff_lt, eq_self, true_iff, iff_true, false_iff, iff_false, Bool.false_eq_true, Decidable.not_not, Bool.not_eq_true', Bool.not_eq_false', Bool.not_not] at *
             first | omega | simp_all
           refine ret_b ?_
           rw [mayP_iff]
           simp only [Bool.false_eq_true, false_iff]
           exact fun q => hbad (q.2 i s hss))
        | (have hgo : hostP s.label = true ∧ s.text.length ≤ 255 := by
             simp only [decide_eq_true_eq, decide_eq_false_iff_not, beq_iff_eq, beq_eq_false_iff_ne, bne_iff_ne, bne_eq_false_iff_eq, ne_eq, Bool.not_true, Bool.not_false, ge_iff_le, gt_iff_lt, eq_self, true_iff, iff_true, false_iff, iff_false, Bool.false_eq_true, Decidable.not_not, Bool.not_eq_true', Bool.not_eq_false', Bool.not_not] at *
             exact ⟨by assumption, by omega⟩
           refine go_rounds (fun m st => ∃ σ j e, m + j = i ∧ (∀ q, q < j → ∀ t, ss[q]? = some t → ¬ (t.label = s.label ∧ t.dg = s.dg)) ∧ st = ⟨σ, H ++ (.cells [.str a, .str b, .str c, x] 24 .rw :: (l' ++ [.cells s.cells 41 .rw])), e⟩ ∧ clean H.length e ∧ σ.length = 81 ∧ fr σ 1 = .ptr H.length 0 ∧ fr σ 3 = .int .i64 (i : Nat) ∧ fr σ 4 = .ptr (H.length + (l'.length + 1)) 0 ∧ fr σ 5 = .int .i64 (j : Nat)) i
             ⟨_, 0, _, rfl, fun j hj => absurd hj (Nat.not_lt_zero j), rfl, by simp only [go_sem, simprocAttr, he], by simp only [go_sem, simprocAttr, hl, h1, h3]⟩ ?_
           rintro m _ ⟨σ, j, e, hj, hne, rfl, he, hl, h1, h3, h4, h5⟩
           by_cases hjlt : j < i
           · obtain ⟨t, hts⟩ : ∃ t, ss[j]? = some t := ⟨_, List.getElem?_eq_getElem (by omega)⟩
             obtain ⟨bt, cst, et, kt, ta, tb⟩ := hx.sv.at hts
             have l0 := sflat_f ss j 0 cst (e := et) (k := kt) hts (by decide)
             have l1 := sflat_f ss j 1 cst (e := et) (k := kt) hts (by decide)
             have hwj := wrap_succ (show j < 9223372036854775807 by omega)
             simp only [Svc.cells, List.getElem?_cons_zero, List.getElem?_cons_succ, Nat.add_zero] at l0 l1
             simp only [go_sem, simprocAttr, hl, he, h1, h3, h4, h5, xl, hjlt]
             refine go_drawF tFollows (by kernel_rfl) ?_
             repeat' first
               | refine guardK_split (fun hb => ?_) (fun hb => ?_)
               | refine condK_split (fun hb => ?_) (fun hb => ?_)
               | simp only [go_sem, simprocAttr, hl, he, h1, h3, h4, h5, xl, ta, tb, l0, l1, hwj, *]
             all_goals first
               | (have hdup : t.label = s.label ∧ t.dg = s.dg := by
                    simp only [decide_eq_true_eq, decide_eq_false_iff_not, beq_iff_eq, beq_eq_false_iff_ne, bne_iff_ne, bne_eq_false_iff_eq, ne_eq, Bool.not_true, Bool.not_false, ge_iff_le, gt_iff_lt, eq_self, true_iff, iff_true, false_iff, iff_false, Bool.false_eq_true, Decidable.not_not, Bool.not_eq_true', Bool.not_eq_false', Bool.not_not] at *
                    exact ⟨by assumption, by assumption⟩
                  refine ret_b ?_
                  rw [mayP_iff]
                  simp only [Bool.false_eq_true, false_iff]
                  exact fun q => (q.2 i s hss).2.2 j t hjlt hts hdup)
               | (have hdis : ¬ (t.label = s.label ∧ t.dg = s.dg) := by
                    rintro ⟨q1, q2⟩
                    simp_all
                  have hne' : ∀ q, q < j + 1 → ∀ t, ss[q]? = some t → ¬ (t.label = s.label ∧ t.dg = s.dg) := by
                    intro q hq u hu
                    by_cases hqj : q = j
                    · subst hqj; rw [hts] at hu; cases hu; exact hdis
                    · exact hne q (by omega) u hu
                  exact ⟨m - 1, by omega, _, j + 1, _, by omega, hne', rfl, he, by simp only [go_sem, simprocAttr, hl, h1, h3, h4]⟩)
           · have hij : j = i := by omega
             subst hij
             have hok : svcOk ss j s := ⟨hgo.1, hgo.2, fun q t hq ht => hne q hq t ht⟩
             simp only [go_sem, simprocAttr, hl, he, h1, h3, h4, h5, hjlt, hw]
             exact ⟨n - 1, by omega, _, j + 1, _, _, by omega, ok_step hss hok hno, rfl, he, by simp only [go_sem, simprocAttr, hl, h1]⟩)
    · simp only [go_sem, simprocAttr, hl, he, h1, h3, xl, hlt]
      refine ret_b ?_
      rw [mayP_iff]
      exact ⟨fun _ => ⟨hgood, fun j s hj => hno j (by have := (List.getElem?_eq_some_iff.1 hj).1; omega) s hj⟩, fun _ => rfl⟩
end Go.Proofs.YtjemmehgfheflaaDoor.V
