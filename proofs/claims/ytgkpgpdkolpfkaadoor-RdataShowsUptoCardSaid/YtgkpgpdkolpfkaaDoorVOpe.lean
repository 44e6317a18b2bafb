/- Operations of 'V': copy, make, literals, conversions, builtins. No conditions. -/
import Derived.Test.YtgkpgpdkolpfkaaDoorVOpd
import Derived.Laws.Tables
import Derived.Laws.BytesString
namespace Go.Proofs.YtgkpgpdkolpfkaaDoor.V
open Go
set_option linter.unusedSimpArgs false
set_option linter.unusedVariables false

section
variable {P : Program} {g : Gh} {μ : Mu} {H : Hp} {w : World}

theorem copy_ok (h : HRel P g μ H w) {t u ty : TypeId} {d x : AV} {d' x' : Value} {r : AV × Hp × Ef} (hr : evCopy P t d x H = some r) (hd : conc μ d = some d') (hx : conc μ x = some x') :
    Yields P g μ H w (Builtin.copy_ #[t, u] ty #[d', x']) r := by
  unfold evCopy at hr
  split at hr
  · rename_i e z by_ ht
    obtain ⟨un, inf, hinf, hsz, _⟩ := tsh_slice ht
    subst hsz
    simp only [Option.bind_eq_some_iff] at hr
    obtain ⟨a, ha, hr⟩ := hr
    obtain ⟨vs, hvs, hvl, hlen, hfirst⟩ := appended_ok h ha hx
    split at hr
    · cases hr; cases hd
      refine Yields.pure h ⟨goInt 0, ?_, rfl⟩
      have hf := hfirst 0 (Nat.zero_le _) w rfl
      simp [Builtin.copy_, run_underlying un, sizeOf, typeInfo, hinf, hlen, hf]
    · rename_i b o n c
      simp only [Option.map_eq_some_iff] at hr
      obtain ⟨q, hq, rfl⟩ := hr
      simp only [conc, Option.map_eq_some_iff] at hd
      obtain ⟨l, hl, rfl⟩ := hd
      obtain ⟨w', hst, hrel⟩ := h.wr hl (concs_take hvs _) hq
      have hf := hfirst (min a.2 n) (Nat.min_le_left _ _) w rfl
      refine ⟨μ, _, w', ?_, Le.refl μ, hrel, rfl, by rw [wr_len hq]; exact Nat.le_refl _, Inv.wr hq, fun _ _ => rfl⟩
      have hm : Nat.min a.2 n = min a.2 n := rfl
      simp only [Builtin.copy_, List.getElem?_toArray, List.getElem?_cons_zero, List.getElem?_cons_succ, Sem.run_bind, run_underlying un, Result.andThen_ok, sizeOf, typeInfo, run_program, hinf, Sem.run_pure, hlen, hm, hf, hst]
      rfl
    · cases hr
  · cases hr

theorem rep_range (z : List Value) (n : Nat) : (List.range (n * z.length)).map (fun i => z[i % z.length]!) = (List.replicate n z).flatten := by
  induction n with
  | zero => simp
  | succ n ih =>
    have e1 : (n + 1) * z.length = z.length + n * z.length := by rw [Nat.add_mul, Nat.one_mul, Nat.add_comm]
    rw [e1, List.range_add, List.map_append, List.map_map, List.replicate_succ, List.flatten_cons]
    congr 1
    · apply List.ext_getElem
      · simp
      · intro i h1 h2
        simp only [List.length_map, List.length_range] at h1
        simp only [List.getElem_map, List.getElem_range]
        rw [Nat.mod_eq_of_lt h1, getElem!_pos z i h1]
    · rw [← ih]
      apply List.map_congr_left
      intro i _
      simp

theorem rep_conc {z : List AV} {zs : List Value} (hz : concs μ z = some zs) (n : Nat) : concs μ (rep z n) = some (List.replicate n zs).flatten := by
  induction n with
  | zero => rfl
  | succ n ih =>
    rw [rep, List.replicate_succ, List.flatten_cons]
    exact concs_append_some hz ih

theorem rep_len (z : List AV) (n : Nat) : (rep z n).length = n * z.length := by
  induction n with
  | zero => simp [rep]
  | succ n ih => rw [rep, List.length_append, ih, Nat.add_mul]; omega

theorem zeros_ok {e n : Nat} {z : List AV} (hz : tzero P e = some z) (hn : z.length = n) (k : Nat) : ∃ zv : Value, (zeroValue e).run P w = .ok zv w ∧ concs μ (rep z k) = some ((Array.range (k * n)).map (zv.cells[· % zv.cells.size]!)).toList := by
  obtain ⟨v, h1, h2⟩ := zero_ok (w := w) (μ := μ) hz
  refine ⟨v, h1, ?_⟩
  rw [rep_conc h2]
  have hl := concs_length h2
  have hs : v.cells.size = n := by rw [← Array.length_toList]; omega
  have := rep_range v.cells.toList k
  rw [← this]
  congr 1
  simp only [Array.length_toList, hs, Array.toList_map, Array.toList_range]
  apply List.map_congr_left
  intro i _
  simp [getElem!_def]

theorem make_ok (h : HRel P g μ H w) {t : TypeId} {len cap : AV} {len' cap' : Value} {r : AV × Hp} (hr : evMake P t len cap H = some r) (hl : conc μ len = some len') (hc : conc μ cap = some cap') :
    Yields P g μ H w (Instr.makeSlice t len' cap') (r.1, r.2, z0) := by
  unfold evMake at hr
  split at hr
  · rename_i e n b k1 lv k2 cv ht
    obtain ⟨un, inf, hinf, hsz, hby⟩ := tsh_slice ht
    subst hsz; subst hby
    cases hl; cases hc
    split at hr
    · rename_i hcnd
      obtain ⟨c1, c2, c3, c4⟩ := hcnd
      simp only [Option.bind_eq_some_iff] at hr
      obtain ⟨z, hz, hr⟩ := hr
      split at hr
      · rename_i hzl
        cases hr
        obtain ⟨zv, e1, e2⟩ := zeros_ok (w := w) (μ := μ) hz hzl cv.toNat
        have h64 : (2 : Int) ^ 46 = 70368744177664 := by decide
        have h48 : (2 : Nat) ^ 48 = 281474976710656 := by decide
        have wl : IntKind.i64.wrap lv = lv := by unfold IntKind.wrap; simp [IntKind.bits, IntKind.signed]; omega
        have wc : IntKind.i64.wrap cv = cv := by unfold IntKind.wrap; simp [IntKind.bits, IntKind.signed]; omega
        have hlt : ¬ ((cv < 0 ∨ (281474976710656 : Int) < (inf.bytes : Int) * cv) ∨ lv < 0) := by
          have : cv * ((inf.bytes : Int) + 1) = (inf.bytes : Int) * cv + cv := by rw [Int.mul_add, Int.mul_comm]; omega
          omega
        have hle : ¬ cv < lv := by omega
        have hrel := newRow_ok h e (c := rep z cv.toNat) e2 0
        refine ⟨_, .slice (some ⟨w.heap.size, 0, none⟩) lv.toNat cv.toNat, _, ?_, h.le_upd _, hrel, ?_, by simp, Inv.snoc, upd_dom⟩
        · by_cases h0 : cv.toNat * inf.size = 0
          · simp [Instr.makeSlice, run_underlying un, typeInfo, hinf, asInt, asIntOf, wl, wc, hlt, hle, sizeOf, h0, newRow]
            rw [Array.range_zero', Array.map_empty]
          · simp [Instr.makeSlice, run_underlying un, typeInfo, hinf, asInt, asIntOf, wl, wc, hlt, hle, sizeOf, h0, newRow, e1]
            congr 2
            apply Array.ext'
            simp
        · simp [conc, upd_same]
      · cases hr
    · cases hr
  · cases hr
/-- The machine's way of filling in a part is a splice. -/
theorem fill_splice (xs : List Value) : ∀ (k : Nat) (c : Array Value) (o : Nat), o + k + xs.length ≤ c.size →
    ((xs.zipIdx k).foldl (fun cs (p : Value × Nat) => cs.setIfInBounds (o + p.2) p.1) c).toList = c.toList.take (o + k) ++ xs ++ c.toList.drop (o + k + xs.length) := by
  induction xs with
  | nil => intro k c o _; simp
  | cons x xs ih =>
    intro k c o h
    simp only [List.length_cons] at h
    rw [List.zipIdx_cons, List.foldl_cons, ih (k + 1) _ o (by simp; omega)]
    have e := list_seg_step c.toList (o + k) x xs (by simp; omega)
    simpa [Array.toList_setIfInBounds, Nat.add_assoc] using e

theorem fill_ok {place : Nat → Option (Nat × Nat)} : ∀ (parts : List (Nat × AV)) (parts' : List (Nat × Value)) {c c' : List AV} {cs : Array Value}, fillA place c parts = some c' → concs μ c = some cs.toList →
    parts'.map (·.1) = parts.map (·.1) → concs μ (parts.map (·.2)) = some (parts'.map (·.2)) → ∃ cs' : Array Value, Instr.fill place cs parts' = some cs' ∧ concs μ c' = some cs'.toList
  | [], parts', c, c', cs, h, hc, h1, _ => by
    cases parts' with
    | nil => simp only [fillA] at h; cases h; exact ⟨cs, rfl, hc⟩
    | cons _ _ => simp at h1
  | (i, v) :: rest, parts', c, c', cs, h, hc, h1, h2 => by
    cases parts' with
    | nil => simp at h1
    | cons p parts' =>
      obtain ⟨i', v'⟩ := p
      simp only [List.map_cons, List.cons.injEq] at h1 h2
      obtain ⟨rfl, h1⟩ := h1
      simp only [concs, Option.bind_eq_some_iff, Option.map_eq_some_iff, List.cons.injEq] at h2
      obtain ⟨x, hx, xs, hxs, rfl, rfl⟩ := h2
      simp only [fillA, Option.bind_eq_some_iff] at h
      obtain ⟨⟨o, n⟩, hp, h⟩ := h
      split at h
      · rename_i hcnd
        obtain ⟨hn, hle⟩ := hcnd
        have hv := vcells_conc hx
        have hvl := concs_length hv
        have hcl := concs_length hc
        simp only [Array.length_toList] at hvl hcl
        have hsz : x.cells.size = n := by omega
        have hsp : concs μ (splice c o (vcells v)) = some ((x.cells.zipIdx.foldl (fun cs (p : Value × Nat) => cs.setIfInBounds (o + p.2) p.1) cs)).toList := by
          rw [concs_splice hc hv o]
          have := fill_splice x.cells.toList 0 cs o (by simp; omega)
          simp only [Nat.add_zero] at this
          rw [← this]
          congr 2
          rw [← Array.foldl_toList]
          simp
        obtain ⟨cs', e1, e2⟩ := fill_ok rest parts' h hsp h1 hxs
        refine ⟨cs', ?_, e2⟩
        simp only [Instr.fill, hp]
        rw [if_neg (by simp [hsz]; omega)]
        exact e1
      · cases h

theorem build_ok {t : TypeId} {parts : List (Nat × AV)} {parts' : List (Nat × Value)} {v : AV} (h : evBuild P t parts = some v) (h1 : parts'.map (·.1) = parts.map (·.1)) (h2 : concs μ (parts.map (·.2)) = some (parts'.map (·.2))) :
    ∃ v', (Instr.build t parts'.toArray).run P w = .ok v' w ∧ conc μ v = some v' := by
  unfold evBuild at h
  split at h
  · rename_i ht
    simp only [Option.bind_eq_some_iff, Option.map_eq_some_iff] at h
    obtain ⟨z, hz, ps, hps, c, hc, rfl⟩ := h
    have hz0 := hz
    unfold tzero at hz
    simp only [Option.bind_eq_some_iff] at hz
    obtain ⟨zv, ⟨i, hi, hzi⟩, hzv⟩ := hz
    have hzc := concs_abs μ _ hzv
    obtain ⟨cs', e1, e2⟩ := fill_ok parts parts' hc hzc h1 h2
    refine ⟨.agg cs', run_build w t _ cs' ?_, by simp [conc, e2]⟩
    unfold tplaces at hps
    split at hps
    · rename_i fs u
      unfold Program.built
      simp only [hi, u, hzi, hps]
      simpa using e1
    · cases hps
  · rename_i l e n ht
    obtain ⟨u, inf, hinf, hn⟩ := tsh_array ht
    simp only [Option.bind_eq_some_iff, Option.map_eq_some_iff] at h
    obtain ⟨z, hz, c, hc, rfl⟩ := h
    unfold tzero at hz
    simp only [Option.bind_eq_some_iff] at hz
    obtain ⟨zv, ⟨i, hi, hzi⟩, hzv⟩ := hz
    have hzc := concs_abs μ _ hzv
    obtain ⟨cs', e1, e2⟩ := fill_ok parts parts' hc hzc h1 h2
    refine ⟨.agg cs', run_build w t _ cs' ?_, by simp [conc, e2]⟩
    unfold Program.built
    subst hn
    simp only [hi, u, hzi, hinf]
    simpa using e1
  · cases h

theorem buildSlice_ok (h : HRel P g μ H w) {t : TypeId} {n : Nat} {parts : List (Nat × AV)} {parts' : List (Nat × Value)} {r : AV × Hp} (hr : evBuildSlice P t n parts H = some r) (h1 : parts'.map (·.1) = parts.map (·.1)) (h2 : concs μ (parts.map (·.2)) = some (parts'.map (·.2))) :
    Yields P g μ H w (Instr.buildSlice t n parts'.toArray) (r.1, r.2, z0) := by
  unfold evBuildSlice at hr
  split at hr
  · rename_i e z b ht
    obtain ⟨un, inf, hinf, hsz, hby⟩ := tsh_slice ht
    subst hsz
    split at hr
    · rename_i hle
      simp only [Option.bind_eq_some_iff] at hr
      obtain ⟨zs, hz, hr⟩ := hr
      split at hr
      · rename_i hzl
        simp only [Option.map_eq_some_iff] at hr
        obtain ⟨c, hc, rfl⟩ := hr
        obtain ⟨zv, e1, e2⟩ := zeros_ok (w := w) (μ := μ) hz hzl n
        obtain ⟨cs', f1, f2⟩ := fill_ok parts parts' hc e2 h1 h2
        have hrel := newRow_ok h e f2 0
        have hsm : ¬ n * inf.size > 2 ^ 24 := by omega
        refine ⟨_, .slice (some ⟨w.heap.size, 0, none⟩) n n, _, ?_, h.le_upd _, hrel, by simp [conc, upd_same], by simp, Inv.snoc, upd_dom⟩
        by_cases h0 : n * inf.size = 0
        · have f1' : Instr.fill (fun i => some (i * inf.size, inf.size)) #[] parts' = some cs' := by
            rw [h0, Array.range_zero', Array.map_empty] at f1
            exact f1
          simp [Instr.buildSlice, run_underlying un, sizeOf, typeInfo, hinf, hsm, h0, newRow, f1', Array.range_zero']
        · simp [Instr.buildSlice, run_underlying un, sizeOf, typeInfo, hinf, hsm, h0, newRow, e1, f1]
      · cases hr
    · cases hr
  · cases hr

theorem len_ok (h : HRel P g μ H w) {t ty : TypeId} {x v : AV} {x' : Value} (hv : evLen P t x H = some v) (hx : conc μ x = some x') : ∃ v', (Builtin.len_ #[t] ty #[x']).run P w = .ok v' w ∧ conc μ v = some v' := by
  unfold evLen at hv
  split at hv
  · rename_i s ht
    cases hv; cases hx
    refine ⟨goInt s.length, ?_, rfl⟩
    have hs : (⟨s.toArray⟩ : ByteArray).size = s.length := by simp [ByteArray.size]
    simp only [Builtin.len_, List.getElem?_toArray, List.getElem?_cons_zero, Sem.run_bind, run_underlying (tsh_str ht), Result.andThen_ok, Sem.run_pure, hs]
  · rename_i n e z ht
    cases hv
    exact ⟨goInt n, by simp [Builtin.len_, run_underlying (tsh_array ht).1], rfl⟩
  · rename_i e z b bl o n c ht
    cases hv
    simp only [conc, Option.map_eq_some_iff] at hx
    obtain ⟨l, hl, rfl⟩ := hx
    exact ⟨goInt n, by simp [Builtin.len_, run_underlying (tsh_slice ht).1], rfl⟩
  · rename_i e z b ht
    cases hv; cases hx
    exact ⟨goInt 0, by simp [Builtin.len_, run_underlying (tsh_slice ht).1], rfl⟩
  · rename_i k e ht
    cases hv; cases hx
    exact ⟨goInt 0, by simp [Builtin.len_, run_underlying (tsh_map ht)], rfl⟩
  · rename_i k e r ht
    split at hv
    · rename_i es hb
      cases hv
      simp only [conc, Option.map_eq_some_iff] at hx
      obtain ⟨l, hl, rfl⟩ := hx
      obtain ⟨ms, ck, h1, h2, h3⟩ := h.blk r l _ hl hb
      have hlen := concs_length h2
      simp only [List.length_map, Array.length_toList] at hlen
      refine ⟨goInt es.length, ?_, rfl⟩
      have hg : (getObj l.blk).run P w = .ok (.map ms ck) w := by simp [getObj, Sem.run, h1]
      simp [Builtin.len_, run_underlying (tsh_map ht), hg, hlen]
    · cases hv
  · cases hv

theorem cap_ok {t ty : TypeId} {x v : AV} {x' : Value} (hv : evCap P t x = some v) (hx : conc μ x = some x') : ∃ v', (Builtin.cap_ #[t] ty #[x']).run P w = .ok v' w ∧ conc μ v = some v' := by
  unfold evCap at hv
  split at hv
  · rename_i e z b bl o n c ht
    cases hv
    simp only [conc, Option.map_eq_some_iff] at hx
    obtain ⟨l, hl, rfl⟩ := hx
    exact ⟨goInt c, by simp [Builtin.cap_, run_underlying (tsh_slice ht).1], rfl⟩
  · rename_i e z b ht
    cases hv; cases hx
    exact ⟨goInt 0, by simp [Builtin.cap_, run_underlying (tsh_slice ht).1], rfl⟩
  · cases hv

theorem min_ok {ts : Array TypeId} {ty : TypeId} {x y v : AV} {x' y' : Value} (hv : evMin2 x y = some v) (hx : conc μ x = some x') (hy : conc μ y = some y') : ∃ v', (Builtin.min_ ts ty #[x', y']).run P w = .ok v' w ∧ conc μ v = some v' := by
  unfold evMin2 at hv
  split at hv
  · cases hv; cases hx; cases hy
    exact ⟨_, by simp [Builtin.min_, Builtin.min2, List.foldlM_cons], rfl⟩
  · cases hv
theorem max_ok {ts : Array TypeId} {ty : TypeId} {x y v : AV} {x' y' : Value} (hv : evMax2 x y = some v) (hx : conc μ x = some x') (hy : conc μ y = some y') : ∃ v', (Builtin.max_ ts ty #[x', y']).run P w = .ok v' w ∧ conc μ v = some v' := by
  unfold evMax2 at hv
  split at hv
  · cases hv; cases hx; cases hy
    exact ⟨_, by simp [Builtin.max_, Builtin.max2, List.foldlM_cons], rfl⟩
  · cases hv
end
end Go.Proofs.YtgkpgpdkolpfkaaDoor.V
