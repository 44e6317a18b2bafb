/- Operations of 'V' on values: what they answer the machine answers. No conditions. -/
import Derived.Test.YtgkpgpdkolpfkaaDoorVMem
import Derived.Laws.StructEq
import Derived.ChangeKeysEq
import Derived.Laws.Strings
import Derived.LaidEql
namespace Go.Proofs.YtgkpgpdkolpfkaaDoor.V
open Go
set_option linter.unusedSimpArgs false
set_option linter.unusedVariables false

section
variable {P : Program} {μ : Mu} {w : World}

theorem ba_toList (s : List UInt8) : (⟨s.toArray⟩ : ByteArray).toList = s := by
  rw [ByteArray.toList_eq]

theorem evInt_ok {op : BinOp} {t : TypeId} {k : IntKind} {x y : Int} {v : AV} (h : evInt op k x y = some v) :
    ∃ v', (Go.binOp op t (.int k x) (.int k y)).run P w = .ok v' w ∧ conc μ v = some v' := by
  unfold evInt at h
  cases op <;> simp only [Option.some.injEq] at h <;>
    first
      | (subst h; exact ⟨_, by simp [Go.binOp, Op.intArith, Op.intBits, Op.intCmp], rfl⟩)
      | (split at h
         · cases h
         · rename_i hy
           simp only [Option.some.injEq] at h
           subst h
           exact ⟨_, by simp [Go.binOp, Op.intDiv, hy], rfl⟩)
      | (cases h; done)

theorem evShift_ok {op : BinOp} {t : TypeId} {k k' : IntKind} {x y : Int} {v : AV} (h : evShift op k x y = some v) :
    ∃ v', (Go.binOp op t (.int k x) (.int k' y)).run P w = .ok v' w ∧ conc μ v = some v' := by
  unfold evShift at h
  split at h
  · cases h
  · rename_i hy
    cases op <;> simp only [Option.some.injEq] at h <;>
      first
        | (cases h; done)
        | (subst h; exact ⟨_, by simp [Go.binOp, Op.shift, hy], rfl⟩)

theorem evStr_ok {op : BinOp} {t : TypeId} {x y : List UInt8} {v : AV} (h : evStr op x y = some v) :
    ∃ v', (Go.binOp op t (.string ⟨x.toArray⟩) (.string ⟨y.toArray⟩)).run P w = .ok v' w ∧ conc μ v = some v' := by
  unfold evStr at h
  cases op <;> simp only [Option.some.injEq] at h <;>
    first
      | (cases h; done)
      | (subst h; exact ⟨_, by simp [Go.binOp, Op.stringOp, ba_toList], rfl⟩)
      | (split at h
         · rename_i hl
           simp only [Option.some.injEq] at h
           subst h
           refine ⟨_, ?_, rfl⟩
           have h1 : ¬ ((((⟨x.toArray⟩ : ByteArray).size + (⟨y.toArray⟩ : ByteArray).size : Nat) : Int) > IntKind.i64.max) := by
             have e1 : (⟨x.toArray⟩ : ByteArray).size = x.length := by simp [ByteArray.size]
             have e2 : (⟨y.toArray⟩ : ByteArray).size = y.length := by simp [ByteArray.size]
             have e3 : IntKind.i64.max = 9223372036854775807 := by decide
             rw [e1, e2, e3]
             simp only [maxI] at hl
             omega
           have h2 : (⟨x.toArray⟩ : ByteArray) ++ ⟨y.toArray⟩ = ⟨(x ++ y).toArray⟩ := by
             apply ByteArray.ext
             simp
           simp only [Go.binOp, Op.stringOp]
           rw [if_neg h1, h2]
           rfl
         · cases h)

theorem isAgg_ok {t : TypeId} {b : Bool} (h : tagg P t = some b) : (isAgg t).run P w = .ok b w := by
  unfold tagg at h
  unfold isAgg
  rw [Sem.run_bind]
  split at h
  · rename_i u; cases h; rw [run_underlying u]; rfl
  · rename_i u; cases h; rw [run_underlying u]; rfl
  · rename_i d hs ha u
    cases h
    rw [run_underlying u]
    cases d <;> first | rfl | (exact absurd rfl (hs _)) | (exact absurd rfl (ha _ _))
  · cases h

theorem tagg_desc {t : TypeId} {b : Bool} (h : tagg P t = some b) : ∃ d, P.underlying t = some d ∧ d.isRow = b := by
  unfold tagg at h
  split at h
  · rename_i u; cases h; exact ⟨_, u, rfl⟩
  · rename_i u; cases h; exact ⟨_, u, rfl⟩
  · rename_i d hs ha u
    cases h
    refine ⟨d, u, ?_⟩
    cases d <;> first | rfl | (exact absurd rfl (hs _)) | (exact absurd rfl (ha _ _))
  · cases h

theorem sizeOf_ok {t : TypeId} {n : Nat} (h : tsize P t = some n) : (sizeOf t).run P w = .ok n w := by
  unfold tsize at h
  cases hi : P.info? t with
  | none => simp [hi] at h
  | some i => simp [hi] at h; simp [sizeOf, typeInfo, hi, h]

theorem part_ok {t : TypeId} {cs : List AV} {xs : List Value} {o : Nat} {v : AV} (hc : concs μ cs = some xs) (h : partA P t cs o = some v) :
    ∃ v', (part t xs.toArray o).run P w = .ok v' w ∧ conc μ v = some v' := by
  unfold partA at h
  split at h
  · rename_i ht
    simp only [Option.bind_eq_some_iff] at h
    obtain ⟨n, hn, h⟩ := h
    split at h
    · cases h
      refine ⟨.agg ((xs.drop o).take n).toArray, ?_, by simp [conc, concs_take (concs_drop hc o) n]⟩
      simp only [part, Sem.run_bind, isAgg_ok (w := w) ht, sizeOf_ok (w := w) hn, Result.andThen_ok, if_true, Sem.run_pure]
      congr 2
      apply Array.ext'
      simp [List.extract_eq_take_drop]
    · cases h
  · rename_i ht
    have hg := concs_get hc o
    rw [h] at hg
    simp only [Option.bind_some] at hg
    have hlt : o < cs.length := (List.getElem?_eq_some_iff.1 h).1
    have hlen := concs_length hc
    rw [List.getElem?_eq_getElem (by omega)] at hg
    refine ⟨_, ?_, hg.symm⟩
    simp only [part, Sem.run_bind, isAgg_ok (w := w) ht, Result.andThen_ok]
    simp [List.getElem?_eq_getElem (show o < xs.length by omega)]
  · cases h

theorem eqParts_ok {D : Nat} {eq : TypeId → AV → AV → Option Bool} (heq : ∀ {t : TypeId} {x y : AV} {r : Bool} {x' y' : Value}, eq t x y = some r → conc μ x = some x' → conc μ y = some y' → (Op.equalIn D t x' y').run P w = .ok r w)
    {xs ys : List AV} {a b : List Value} (ha : concs μ xs = some a) (hb : concs μ ys = some b) : ∀ (l : List Field) {r : Bool}, eqParts P eq l xs ys = some r → (Op.eqFields D a.toArray b.toArray l).run P w = .ok r w
  | [], r, h => by simp only [eqParts] at h; cases h; rfl
  | f :: l, r, h => by
    simp only [eqParts] at h
    simp only [Op.eqFields]
    split at h
    · rename_i hn
      simp only [hn, ne_eq, not_true_eq_false, if_false]
      exact eqParts_ok heq ha hb l h
    · rename_i hn
      simp only [Option.bind_eq_some_iff] at h
      obtain ⟨x1, hx1, y1, hy1, r1, hr1, h⟩ := h
      obtain ⟨x2, ex, cx⟩ := part_ok (w := w) ha hx1
      obtain ⟨y2, ey, cy⟩ := part_ok (w := w) hb hy1
      have e1 := heq hr1 cx cy
      simp only [ne_eq, hn, not_false_eq_true, if_true, Sem.run_bind, ex, ey, e1, Result.andThen_ok]
      cases r1
      · simp at h; subst h; simp
      · simp at h
        simpa using eqParts_ok heq ha hb l h

theorem eqElems_ok {D n : Nat} {e : TypeId} {eq : TypeId → AV → AV → Option Bool} (heq : ∀ {t : TypeId} {x y : AV} {r : Bool} {x' y' : Value}, eq t x y = some r → conc μ x = some x' → conc μ y = some y' → (Op.equalIn D t x' y').run P w = .ok r w)
    {xs ys : List AV} {a b : List Value} (ha : concs μ xs = some a) (hb : concs μ ys = some b) : ∀ (l : List Nat) {r : Bool}, eqElems P eq e n xs ys l = some r → (Op.eqItems D e n a.toArray b.toArray l).run P w = .ok r w
  | [], r, h => by simp only [eqElems] at h; cases h; rfl
  | i :: l, r, h => by
    simp only [eqElems, Option.bind_eq_some_iff] at h
    obtain ⟨x1, hx1, y1, hy1, r1, hr1, h⟩ := h
    obtain ⟨x2, ex, cx⟩ := part_ok (w := w) ha hx1
    obtain ⟨y2, ey, cy⟩ := part_ok (w := w) hb hy1
    have e1 := heq hr1 cx cy
    simp only [Op.eqItems, Sem.run_bind, ex, ey, e1, Result.andThen_ok]
    cases r1
    · simp at h; subst h; simp
    · simp at h
      simpa using eqElems_ok heq ha hb l h

set_option maxHeartbeats 2000000 in
theorem evEq_ok (d : Nat) : ∀ {t : TypeId} {x y : AV} {r : Bool} {x' y' : Value}, evEq P d t x y = some r → conc μ x = some x' → conc μ y = some y' → ∀ D, d ≤ D → (Op.equalIn D t x' y').run P w = .ok r w := by
  induction d with
  | zero => intro _ _ _ _ _ _ h; simp [evEq] at h
  | succ d ih =>
    intro t x y r x' y' h hx hy D hD
    obtain ⟨D, rfl⟩ : ∃ m, D = m + 1 := ⟨D - 1, by omega⟩
    have hD' : d ≤ D := by omega
    simp only [evEq] at h
    split at h
    case h_10 tx vx ty vy u =>
      simp only [conc, Option.map_eq_some_iff] at hx hy
      obtain ⟨a, ha, rfl⟩ := hx
      obtain ⟨b, hb, rfl⟩ := hy
      split at h
      · cases h
        simp [Op.equalIn, run_underlying u, *]
      · rename_i he
        split at h
        · rename_i i hi
          split at h
          · rename_i hcmp
            have ih' := ih h ha hb D hD'
            have he' : tx = ty := by simpa using he
            subst he'
            simp [Op.equalIn, run_underlying u, typeInfo, hi, hcmp, ih']
          · cases h
        · cases h
    case h_11 fs xs ys u =>
      simp only [conc, Option.map_eq_some_iff] at hx hy
      obtain ⟨a, ha, rfl⟩ := hx
      obtain ⟨b, hb, rfl⟩ := hy
      split at h
      · cases h
      · rename_i hsi
        have hfo : P.fieldsOf t = fs := by simp [Program.fieldsOf, u]
        rw [run_equalIn_struct w D t a.toArray b.toArray (by rw [hfo]; exact u) (by simpa using hsi), hfo]
        exact eqParts_ok (fun h1 h2 h3 => ih h1 h2 h3 D hD') ha hb _ h
    case h_1 u => cases hx; cases hy; cases h; simp [Op.equalIn, run_underlying u]
    case h_2 u =>
      cases hx; cases hy
      split at h
      · rename_i hk; cases h; simp [Op.equalIn, run_underlying u, hk]
      · cases h
    case h_3 u => cases hx; cases hy; cases h; simp [Op.equalIn, run_underlying u, beq_toListBytes, ba_toList]
    case h_4 u => cases hx; cases hy; cases h; simp [Op.equalIn, run_underlying u]
    case h_7 u => cases hx; cases hy; cases h; simp [Op.equalIn, run_underlying u]
    case h_12 l e xs ys u =>
      simp only [conc, Option.map_eq_some_iff] at hx hy
      obtain ⟨a, ha, rfl⟩ := hx
      obtain ⟨b, hb, rfl⟩ := hy
      simp only [Option.bind_eq_some_iff] at h
      obtain ⟨n, hn, h⟩ := h
      unfold tsize at hn
      cases hi : P.info? e with
      | none => rw [hi] at hn; cases hn
      | some i =>
        rw [hi] at hn
        simp only [Option.map_some, Option.some.injEq] at hn
        rw [run_equalIn_array (w := w) D a.toArray b.toArray u hi]
        have hc : P.cellsOf e = n := by simp [Program.cellsOf, hi, hn]
        rw [hc]
        exact eqElems_ok (fun h1 h2 h3 => ih h1 h2 h3 D hD') ha hb _ h
    case h_13 u => cases hx; cases hy; cases h; simp [Op.equalIn, run_underlying u]
    case h_16 u => cases hx; cases hy; cases h; simp [Op.equalIn, run_underlying u]
    case h_19 u => cases hx; cases hy; cases h; simp [Op.equalIn, run_underlying u]
    case h_22 e b o b' o' u =>
      split at h
      · rename_i hh
        obtain ⟨rfl, rfl, hi⟩ := hh
        cases h
        rw [hx] at hy
        cases hy
        simp only [conc, Option.map_eq_some_iff] at hx
        obtain ⟨l, hl, rfl⟩ := hx
        obtain ⟨j, hj⟩ := Option.isSome_iff_exists.1 hi
        simp [Op.equalIn, run_underlying u, sizeOf, typeInfo, hj, run_sameAddr_same]
      · cases h
    case h_23 => cases h
    all_goals
      rename_i u
      cases h
      first
        | (cases hx
           simp only [conc, Option.map_eq_some_iff, Option.bind_eq_some_iff] at hy
           first | (obtain ⟨_, _, rfl⟩ := hy; simp [Op.equalIn, run_underlying u]; done) | (obtain ⟨_, _, _, _, rfl⟩ := hy; simp [Op.equalIn, run_underlying u]; done))
        | (cases hy
           simp only [conc, Option.map_eq_some_iff, Option.bind_eq_some_iff] at hx
           first | (obtain ⟨_, _, rfl⟩ := hx; simp [Op.equalIn, run_underlying u]; done) | (obtain ⟨_, _, _, _, rfl⟩ := hx; simp [Op.equalIn, run_underlying u]; done))
end
end Go.Proofs.YtgkpgpdkolpfkaaDoor.V
