/- Operations of 'V': maps, strings gone through. No conditions. -/
import Derived.Test.YtgkpgpdkolpfkaaDoorVOpf
namespace Go.Proofs.YtgkpgpdkolpfkaaDoor.V
open Go
set_option linter.unusedSimpArgs false
set_option linter.unusedVariables false

inductive ShD : Sh → TypeDesc → Prop
  | int (k) : ShD (.int k) (.int k)
  | str : ShD .str .string
  | bool : ShD .bool .bool

section
variable {P : Program} {g : Gh} {μ : Mu} {H : Hp} {w : World}

theorem mapSh_ok {t : TypeId} {m : Sh × TypeId} (h : mapSh P t = some m) : ∃ kt d, P.underlying t = some (.map kt m.2) ∧ P.underlying kt = some d ∧ ShD m.1 d := by
  unfold mapSh at h
  split at h
  · rename_i kt et ht
    split at h
    · rename_i hk; cases h; exact ⟨kt, _, tsh_map ht, tsh_int hk, .int _⟩
    · rename_i hk; cases h; exact ⟨kt, _, tsh_map ht, tsh_str hk, .str⟩
    · rename_i hk; cases h; exact ⟨kt, _, tsh_map ht, tsh_bool hk, .bool⟩
    · cases h
  · cases h

theorem checkKey_at {s : Sh} {kt : TypeId} {d : TypeDesc} (hk : P.underlying kt = some d) (hd : ShD s d) (b : Bool) (v : Value) (n : Nat) : (Instr.checkKey b (n + 1) kt v).run P w = .ok () w := by
  simp only [Instr.checkKey, Sem.run_bind, run_underlying hk, Result.andThen_ok]
  cases hd <;> cases v <;> rfl
theorem checkKey_ok {s : Sh} {kt : TypeId} {d : TypeDesc} (hk : P.underlying kt = some d) (hd : ShD s d) (b : Bool) (v : Value) : (Instr.checkKey b 10000 kt v).run P w = .ok () w := checkKey_at hk hd b v 9999

theorem map_eraseIdx {α β : Type} (f : α → β) : ∀ (l : List α) (i : Nat), (l.eraseIdx i).map f = (l.map f).eraseIdx i
  | [], _ => rfl
  | _ :: _, 0 => rfl
  | a :: l, i + 1 => by simp [map_eraseIdx f l i]

theorem sameKey_ok {s : Sh} {d : TypeDesc} (hd : ShD s d) {a b : AV} {a' b' : Value} {r : Bool} (h : sameKey s a b = some r) (ha : conc μ a = some a') (hb : conc μ b = some b') : Instr.sameNow d a' b' = some r := by
  unfold sameKey at h
  split at h
  · cases hd; cases ha; cases hb
    split at h
    · rename_i hk; cases h; simp [Instr.sameNow, hk]
    · cases h
  · cases hd; cases ha; cases hb; cases h
    simp only [Instr.sameNow]
    rw [beq_toListBytes, ba_toList, ba_toList]
  · cases hd; cases ha; cases hb; cases h; rfl
  · cases h

theorem sameKey_true {s : Sh} {a b : AV} {a' b' : Value} (h : sameKey s a b = some true) (ha : conc μ a = some a') (hb : conc μ b = some b') : Instr.sameBits 10000 b' a' = true := by
  unfold sameKey at h
  split at h
  · cases ha; cases hb
    split at h
    · rename_i hk; subst hk
      simp only [Option.some.injEq, beq_iff_eq] at h
      subst h
      simp [Instr.sameBits]
    · cases h
  · cases ha; cases hb
    simp only [Option.some.injEq, beq_iff_eq] at h
    subst h
    simp only [Instr.sameBits]
    rw [beq_toListBytes]; simp
  · cases ha; cases hb
    simp only [Option.some.injEq, beq_iff_eq] at h
    subst h
    simp [Instr.sameBits]
  · cases h

theorem findK_ok {s : Sh} {d : TypeDesc} (hd : ShD s d) {k : AV} {k' : Value} (hk : conc μ k = some k') : ∀ (es : List (AV × AV)) (ms : List MapEntry) (i : Nat) {r : Option (Nat × AV)}, findK s k es i = some r →
    concs μ (es.map (·.1)) = some (ms.map (·.key)) → concs μ (es.map (·.2)) = some (ms.map (·.val)) →
    match r with
    | none => Instr.findNow d k' ms i = some none
    | some y => ∃ v', conc μ y.2 = some v' ∧ Instr.findNow d k' ms i = some (some (y.1, v')) ∧ i ≤ y.1 ∧ ∃ e, ms[y.1 - i]? = some e ∧ Instr.sameBits 10000 e.key k' = true
  | [], ms, i, r, h, h1, h2 => by
    simp only [findK] at h; cases h
    cases ms with
    | nil => rfl
    | cons m ms => simp [concs] at h1
  | e :: es, ms, i, r, h, h1, h2 => by
    cases ms with
    | nil => simp [concs, Option.bind_eq_some_iff] at h1
    | cons m ms =>
      simp only [List.map_cons, concs, Option.bind_eq_some_iff, Option.map_eq_some_iff, List.cons.injEq] at h1 h2
      obtain ⟨a, ha, as, has, rfl, hrest⟩ := h1
      obtain ⟨b, hb, bs, hbs, rfl, hrest2⟩ := h2
      subst hrest; subst hrest2
      simp only [findK] at h
      split at h
      · rename_i hs
        cases h
        have e1 := sameKey_ok hd hs hk ha
        exact ⟨_, hb, by simp [Instr.findNow, e1], Nat.le_refl _, m, by simp, sameKey_true hs hk ha⟩
      · rename_i hs
        have e1 := sameKey_ok hd hs hk ha
        have ih := findK_ok hd hk es ms (i + 1) h has hbs
        cases r with
        | none => simpa [Instr.findNow, e1] using ih
        | some y =>
          obtain ⟨v', i1, i2, i3, e, i4, i5⟩ := ih
          refine ⟨v', i1, by simpa [Instr.findNow, e1] using i2, by omega, e, ?_, i5⟩
          rw [show y.1 - i = (y.1 - (i + 1)) + 1 by omega]
          simpa using i4
      · cases h

theorem findKey_ok {s : Sh} {d : TypeDesc} {kt : TypeId} (hkt : P.underlying kt = some d) {k' : Value} {ms : List MapEntry} {r : Option (Nat × Value)} (h : Instr.findNow d k' ms 0 = some r) : (Instr.findKey kt k' ms).run P w = .ok r w := by
  simp only [Instr.findKey, Sem.run_bind, run_underlying hkt, Result.andThen_ok, h, Sem.run_pure]

theorem getMap_ok {r : Nat} {ms : Array MapEntry} {ck : Nat} (h : w.heap[r]? = some (.map ms ck)) : (getObj r).run P w = .ok (.map ms ck) w := by simp [getObj, Sem.run, h]

theorem lookup_ok (h : HRel P g μ H w) {t : TypeId} {x i v : AV} {ok : Bool} {x' i' : Value} (hv : evLookup P t x i ok H = some v) (hx : conc μ x = some x') (hi : conc μ i = some i') :
    ∃ v', (Instr.lookup t x' i' ok).run P w = .ok v' w ∧ conc μ v = some v' := by
  unfold evLookup at hv
  simp only [Option.bind_eq_some_iff] at hv
  obtain ⟨m, hm, es, hes, r, hr, hv⟩ := hv
  obtain ⟨kt, d, u1, u2, hd⟩ := mapSh_ok hm
  -- the entries, there
  obtain ⟨ms, hms, k1, k2⟩ : ∃ ms : Array MapEntry, ((x' = .map none ∧ ms = #[]) ∨ ∃ l ck, x' = .map (some l) ∧ w.heap[l]? = some (.map ms ck)) ∧
      concs μ (es.map (·.1)) = some (ms.toList.map (·.key)) ∧ concs μ (es.map (·.2)) = some (ms.toList.map (·.val)) := by
    split at hes
    · cases hes; cases hx
      exact ⟨#[], .inl ⟨rfl, rfl⟩, rfl, rfl⟩
    · rename_i q
      split at hes
      · rename_i es' hb
        cases hes
        simp only [conc, Option.map_eq_some_iff] at hx
        obtain ⟨l, hl, rfl⟩ := hx
        obtain ⟨ms, ck, h1, h2, h3⟩ := h.blk q l _ hl hb
        exact ⟨ms, .inr ⟨_, ck, rfl, h1⟩, h2, h3⟩
      · cases hes
    · cases hes
  have hf := findK_ok hd hi es ms.toList 0 hr k1 k2
  cases r with
  | none =>
    simp only [Option.map_eq_some_iff] at hv
    obtain ⟨z, hz, rfl⟩ := hv
    obtain ⟨zv, e1, e2⟩ := zeroV_ok (w := w) (μ := μ) hz
    refine ⟨if ok then .tuple #[zv, .bool false] else zv, ?_, by cases ok <;> simp [conc, concs, e2]⟩
    rcases hms with ⟨rfl, rfl⟩ | ⟨l, ck, rfl, hg⟩
    · have f0 := findKey_ok (P := P) (w := w) (s := m.1) u2 hf
      simp only [Instr.lookup, Sem.run_bind, run_underlying u1, Result.andThen_ok, Sem.run_pure, checkKey_ok u2 hd, f0, e1]
    · simp only [Instr.lookup, Sem.run_bind, run_underlying u1, Result.andThen_ok, Sem.run_pure, getMap_ok hg, checkKey_ok u2 hd, findKey_ok (s := m.1) u2 hf, e1]
  | some y =>
    obtain ⟨v', f1, f2, _⟩ := hf
    simp only [Option.some.injEq] at hv
    subst hv
    refine ⟨if ok then .tuple #[v', .bool true] else v', ?_, by cases ok <;> simp [conc, concs, f1]⟩
    rcases hms with ⟨rfl, rfl⟩ | ⟨l, ck, rfl, hg⟩
    · have f0 := findKey_ok (P := P) (w := w) (s := m.1) u2 f2
      simp only [Instr.lookup, Sem.run_bind, run_underlying u1, Result.andThen_ok, Sem.run_pure, checkKey_ok u2 hd, f0]
    · simp only [Instr.lookup, Sem.run_bind, run_underlying u1, Result.andThen_ok, Sem.run_pure, getMap_ok hg, checkKey_ok u2 hd, findKey_ok (s := m.1) u2 f2]

theorem setObj_ok {r : Nat} {o o' : Obj} (h : w.heap[r]? = some o') (hm : ∀ c e f, o' ≠ .cells c e f) : (setObj r o).run P w = .ok () { w with heap := w.heap.setIfInBounds r o } := by
  simp only [setObj, Sem.run, h]

theorem setHeap_other (w : World) (r k : Nat) (o : Obj) (h : k ≠ r) : ({ w with heap := w.heap.setIfInBounds r o } : World).heap[k]? = w.heap[k]? := by
  simp [Array.getElem?_setIfInBounds, Ne.symm h]
theorem setHeap_same (w : World) (r : Nat) (o o' : Obj) (h : w.heap[r]? = some o') : ({ w with heap := w.heap.setIfInBounds r o } : World).heap[r]? = some o := by
  have : r < w.heap.size := (Array.getElem?_eq_some_iff.1 h).1
  simp [Array.getElem?_setIfInBounds, this]

theorem mapSet_ok (h : HRel P g μ H w) {t : TypeId} {m k v : AV} {m' k' v' : Value} {r : Hp × Ef} (hr : evMapSet P t m k v H = some r) (hm : conc μ m = some m') (hk : conc μ k = some k') (hv : conc μ v = some v') :
    Does P g μ H w (Instr.mapUpdate t m' k' v') (undefA, r.1, r.2) := by
  unfold evMapSet at hr
  simp only [Option.bind_eq_some_iff] at hr
  obtain ⟨s, hs, hr⟩ := hr
  obtain ⟨kt, d, u1, u2, hd⟩ := mapSh_ok hs
  split at hr
  · rename_i q
    split at hr
    · rename_i es hb
      simp only [Option.map_eq_some_iff] at hr
      obtain ⟨x, hx, rfl⟩ := hr
      simp only [conc, Option.map_eq_some_iff] at hm
      obtain ⟨l, hl, rfl⟩ := hm
      obtain ⟨ms, ck, h1, h2, h3⟩ := h.blk q l _ hl hb
      have hf := findK_ok hd hk es ms.toList 0 hx h2 h3
      have hinv : ∀ y : List (AV × AV), (∀ p ∈ y, p ∈ es ∨ p = (k, v)) → Inv H.length H (H.set q (.map y)) ⟨if (flat k && flat v) = true then none else some q, some q⟩ := by
        intro y hy
        refine Inv.set hb ?_ rfl
        by_cases hfl : (flat k && flat v) = true
        · right
          rw [Bool.and_eq_true] at hfl
          intro u hu
          simp only [cont, List.mem_append, List.mem_map] at hu ⊢
          rcases hu with ⟨p, hp, rfl⟩ | ⟨p, hp, rfl⟩
          · rcases hy p hp with hp | rfl
            · exact .inl (.inl ⟨p, hp, rfl⟩)
            · exact .inr hfl.1
          · rcases hy p hp with hp | rfl
            · exact .inl (.inr ⟨p, hp, rfl⟩)
            · exact .inr hfl.2
        · left; simp [hfl]
      cases x with
      | none =>
        refine ⟨μ, _, ?_, Le.refl μ, h.change hl hb rfl (fun j hj => setHeap_other w l.blk j (.map (ms.push { key := k', val := v', born := ck }) (ck + 1)) hj) (by simp) rfl rfl rfl ⟨_, _, setHeap_same w l.blk _ _ h1, ?_, ?_⟩, rfl, by simp, hinv _ (fun p hp => by simpa using hp), fun _ _ => rfl⟩
        · simp only [Instr.mapUpdate, Sem.run_bind, run_underlying u1, Result.andThen_ok, getMap_ok h1, checkKey_ok u2 hd, findKey_ok (s := s.1) u2 hf]
          exact setObj_ok h1 (by simp)
        · simp only [List.map_append, List.map_cons, List.map_nil, Array.toList_push]
          exact concs_append_some h2 (by simp [concs, hk])
        · simp only [List.map_append, List.map_cons, List.map_nil, Array.toList_push]
          exact concs_append_some h3 (by simp [concs, hv])
      | some y =>
        obtain ⟨v0, f1, f2, _, e, f4, f5⟩ := hf
        simp only [Nat.sub_zero] at f4
        have hlt : y.1 < ms.size := by simpa using (List.getElem?_eq_some_iff.1 f4).1
        have hge : ms[y.1]? = some e := by simpa using f4
        have hmod : (ms.modify y.1 fun e => { e with key := k', val := v' }).toList = ms.toList.modify y.1 fun e => { e with key := k', val := v' } := by simp
        refine ⟨μ, _, ?_, Le.refl μ, h.change hl hb rfl (fun j hj => setHeap_other w l.blk j (.map (ms.modify y.1 fun e => { e with key := k', val := v' }) ck) hj) (by simp) rfl rfl rfl ⟨_, _, setHeap_same w l.blk _ _ h1, ?_, ?_⟩, rfl, by simp, hinv _ (fun p hp => (List.mem_or_eq_of_mem_set hp)), fun _ _ => rfl⟩
        · simp only [Instr.mapUpdate, Sem.run_bind, run_underlying u1, Result.andThen_ok, getMap_ok h1, checkKey_ok u2 hd, findKey_ok (s := s.1) u2 f2, hge, Option.map_some, Option.getD_some, Instr.keyThatStays, f5, if_true, Sem.run_pure]
          exact setObj_ok h1 (by simp)
        · rw [hmod]
          have := concs_set y.1 h2 hk
          rw [List.map_set] 
          rw [this]
          congr 1
          apply List.ext_getElem?
          intro j
          simp only [List.getElem?_set, List.getElem?_map, List.getElem?_modify]
          by_cases hj : y.1 = j
          · subst hj; simp [hlt]
          · simp [hj]
        · rw [hmod]
          have := concs_set y.1 h3 hv
          rw [List.map_set]
          rw [this]
          congr 1
          apply List.ext_getElem?
          intro j
          simp only [List.getElem?_set, List.getElem?_map, List.getElem?_modify]
          by_cases hj : y.1 = j
          · subst hj; simp [hlt]
          · simp [hj]
    · cases hr
  · cases hr

theorem concs_eraseIdx : ∀ {a : List AV} {x : List Value} (d : Nat), concs μ a = some x → concs μ (a.eraseIdx d) = some (x.eraseIdx d)
  | [], x, d, e => by cases e; simp [concs]
  | u :: us, x, d, e => by
    simp only [concs, Option.bind_eq_some_iff, Option.map_eq_some_iff] at e
    obtain ⟨z, hz, zs, hzs, rfl⟩ := e
    cases d with
    | zero => simpa using hzs
    | succ d => simp [concs, hz, concs_eraseIdx d hzs]

theorem delete_ok (h : HRel P g μ H w) {t : TypeId} {ts : Array TypeId} {ty : TypeId} {m k : AV} {m' k' : Value} {r : Hp × Ef} (hr : evDelete P t m k H = some r) (hm : conc μ m = some m') (hk : conc μ k = some k') (hts : ts[0]? = some t) :
    Yields P g μ H w (Builtin.delete_ ts ty #[m', k']) (undefA, r.1, r.2) := by
  unfold evDelete at hr
  simp only [Option.bind_eq_some_iff] at hr
  obtain ⟨s, hs, hr⟩ := hr
  obtain ⟨kt, d, u1, u2, hd⟩ := mapSh_ok hs
  split at hr
  · cases hr; cases hm
    refine Yields.pure h ⟨undef, ?_, rfl⟩
    simp only [Builtin.delete_, hts, List.getElem?_toArray, List.getElem?_cons_zero, List.getElem?_cons_succ, Sem.run_bind, run_underlying u1, Result.andThen_ok, checkKey_ok u2 hd, Sem.run_pure]
    rfl
  · rename_i q
    split at hr
    · rename_i es hb
      simp only [Option.map_eq_some_iff] at hr
      obtain ⟨x, hx, rfl⟩ := hr
      simp only [conc, Option.map_eq_some_iff] at hm
      obtain ⟨l, hl, rfl⟩ := hm
      obtain ⟨ms, ck, h1, h2, h3⟩ := h.blk q l _ hl hb
      have hf := findK_ok hd hk es ms.toList 0 hx h2 h3
      have hinv : ∀ y : List (AV × AV), (∀ p ∈ y, p ∈ es) → Inv H.length H (H.set q (.map y)) ⟨none, some q⟩ := by
        intro y hy
        refine Inv.set hb (.inr fun u hu => ?_) rfl
        simp only [cont, List.mem_append, List.mem_map] at hu ⊢
        rcases hu with ⟨p, hp, rfl⟩ | ⟨p, hp, rfl⟩
        · exact .inl (.inl ⟨p, hy p hp, rfl⟩)
        · exact .inl (.inr ⟨p, hy p hp, rfl⟩)
      cases x with
      | none =>
        refine ⟨μ, undef, _, ?_, Le.refl μ, h.change hl hb rfl (fun j hj => setHeap_other w l.blk j (.map ms ck) hj) (by simp) rfl rfl rfl ⟨_, _, setHeap_same w l.blk _ _ h1, h2, h3⟩, rfl, by simp, hinv _ (fun p hp => hp), fun _ _ => rfl⟩
        simp only [Builtin.delete_, hts, List.getElem?_toArray, List.getElem?_cons_zero, List.getElem?_cons_succ, Sem.run_bind, run_underlying u1, Result.andThen_ok, getMap_ok h1, checkKey_ok u2 hd, findKey_ok (s := s.1) u2 hf, setObj_ok h1 (by simp : ∀ c e f, Obj.map ms ck ≠ .cells c e f), Sem.run_pure]
        rfl
      | some y =>
        obtain ⟨v0, f1, f2, _, e, f4, f5⟩ := hf
        have hera : (ms.eraseIdxIfInBounds y.1).toList = ms.toList.eraseIdx y.1 := by simp
        refine ⟨μ, undef, _, ?_, Le.refl μ, h.change hl hb rfl (fun j hj => setHeap_other w l.blk j (.map (ms.eraseIdxIfInBounds y.1) ck) hj) (by simp) rfl rfl rfl ⟨_, _, setHeap_same w l.blk _ _ h1, ?_, ?_⟩, rfl, by simp, hinv _ (fun p hp => List.mem_of_mem_eraseIdx hp), fun _ _ => rfl⟩
        · simp only [Builtin.delete_, hts, List.getElem?_toArray, List.getElem?_cons_zero, List.getElem?_cons_succ, Sem.run_bind, run_underlying u1, Result.andThen_ok, getMap_ok h1, checkKey_ok u2 hd, findKey_ok (s := s.1) u2 f2, setObj_ok h1 (by simp : ∀ c e f, Obj.map ms ck ≠ .cells c e f), Sem.run_pure]
          rfl
        · rw [hera]
          have := concs_eraseIdx y.1 h2
          simpa only [map_eraseIdx] using this
        · rw [hera]
          have := concs_eraseIdx y.1 h3
          simpa only [map_eraseIdx] using this
    · cases hr
  · cases hr

theorem makeMap_ok (h : HRel P g μ H w) {t k e : TypeId} (ht : tsh P t = some (.map k e)) (rv : Option Value) (hrv : ∀ v, rv = some v → ∃ kk n, v = .int kk n) : Yields P g μ H w (Instr.makeMap t rv) (.map H.length, H ++ [.map []], z0) := by
  have hrel := h.new (.map #[] 0) (.map []) 0 ⟨#[], 0, heap_alloc_new w _, rfl, rfl⟩
  refine ⟨_, .map (some w.heap.size), _, ?_, h.le_upd _, hrel, by simp [conc, upd_same], by simp, Inv.snoc, upd_dom⟩
  cases rv with
  | none => simp [Instr.makeMap]
  | some v =>
    obtain ⟨kk, n, rfl⟩ := hrv v rfl
    simp [Instr.makeMap, run_underlying (tsh_map ht), asInt, asIntOf]

theorem range_ok (h : HRel P g μ H w) {t : TypeId} {s : List UInt8} (ht : tsh P t = some .str) : Yields P g μ H w (Instr.range t (.string ⟨s.toArray⟩)) (.ptr H.length 0, H ++ [.iter s 0], z0) := by
  have hrel := h.new (.stringIter ⟨s.toArray⟩ 0) (.iter s 0) 0 ⟨heap_alloc_new w _, rfl⟩
  refine ⟨_, .pointer (some ⟨w.heap.size, 0, none⟩), _, ?_, h.le_upd _, hrel, by simp [conc, upd_same], by simp, Inv.snoc, upd_dom⟩
  simp [Instr.range, run_underlying (tsh_str ht)]

theorem next_ok (h : HRel P g μ H w) {b : Nat} {s : List UInt8} {p : Nat} {ty : TypeId} {x' : Value} (hb : H[b]? = some (.iter s p)) (hx : conc μ (.ptr b 0) = some x') :
    Yields P g μ H w (Instr.next x' true ty) ((strIter s p).1, H.set b (.iter s (strIter s p).2), ⟨none, some b⟩) := by
  simp only [conc, Option.map_eq_some_iff] at hx
  obtain ⟨l, hl, rfl⟩ := hx
  obtain ⟨h1, h2⟩ := h.blk b l _ hl hb
  have hss : (⟨s.toArray⟩ : ByteArray).size = s.length := by simp [ByteArray.size]
  have hg : (getObj l.blk).run P w = .ok (.stringIter ⟨s.toArray⟩ p) w := by simp [getObj, Sem.run, h1]
  by_cases hp : p < s.length
  · have e0 : strIter s p = (.tuple [.bool true, .int .i64 p, .int .i32 (Utf8.decode ⟨s.toArray⟩ p).1], p + (Utf8.decode ⟨s.toArray⟩ p).2) := by simp [strIter, hp]
    rw [e0]
    refine ⟨μ, .tuple #[.bool true, goInt p, .int .i32 (Utf8.decode ⟨s.toArray⟩ p).1], _, ?_, Le.refl μ, h.change hl hb rfl (fun j hj => setHeap_other w l.blk j (.stringIter ⟨s.toArray⟩ (p + (Utf8.decode ⟨s.toArray⟩ p).2)) hj) (by simp) rfl rfl rfl ⟨setHeap_same w l.blk _ _ h1, h2⟩, by simp [conc, concs, goInt], by simp, Inv.set hb (.inr (by simp [cont])) rfl, fun _ _ => rfl⟩
    rw [h2]
    simp only [Instr.next, Nat.add_zero, Sem.run_bind, hg, Result.andThen_ok, hss, hp, if_true, setObj_ok h1 (by simp : ∀ c e f, Obj.stringIter ⟨s.toArray⟩ p ≠ .cells c e f), Sem.run_pure]
  · have e0 : strIter s p = (.tuple [.bool false], p) := by simp [strIter, hp]
    rw [e0]
    have hset : H.set b (.iter s p) = H := by
      apply List.ext_getElem?
      intro j
      rw [List.getElem?_set]
      have hlt : b < H.length := (List.getElem?_eq_some_iff.1 hb).1
      by_cases hj : b = j
      · subst hj; simp only [if_true, hlt]; exact hb.symm
      · simp [hj]
    rw [show (AV.tuple [AV.bool false], p).2 = p from rfl, hset]
    refine ⟨μ, .tuple #[.bool false], w, ?_, Le.refl μ, h, by simp [conc, concs], Nat.le_refl _, Inv.refl _ _ _, fun _ _ => rfl⟩
    rw [h2]
    simp only [Instr.next, Nat.add_zero, Sem.run_bind, hg, Result.andThen_ok, hss, hp, if_false, Sem.run_pure]
end
end Go.Proofs.YtgkpgpdkolpfkaaDoor.V
