/- A region of 'V' whose order is open, third part: whatever order is drawn. No conditions. -/
import Derived.Test.YtgkpgpdkolpfkaaDoorVDrawb
namespace Go.Proofs.YtgkpgpdkolpfkaaDoor.V
open Go
set_option linter.unusedSimpArgs false
set_option linter.unusedVariables false

theorem num_get (ops : List Oper) {i : Nat} {o : Oper} (h : (i, o) ∈ num ops) : ops[i]? = some o := by
  simp only [num, List.mem_map, Prod.mk.injEq, Prod.exists] at h
  obtain ⟨o', i', h, rfl, rfl⟩ := h
  have := List.mem_zipIdx h
  simp only [Nat.zero_add] at this
  obtain ⟨_, h2, h3⟩ := this
  rw [List.getElem?_eq_getElem (by omega)]
  simp [h3]
theorem num_mem (ops : List Oper) {i : Nat} {o : Oper} (h : ops[i]? = some o) : (i, o) ∈ num ops := by
  simp only [num, List.mem_map, Prod.mk.injEq, Prod.exists]
  refine ⟨o, i, ?_, rfl, rfl⟩
  rw [List.mem_zipIdx_iff_getElem?]
  exact h
theorem num_sorted (ops : List Oper) : (num ops).Pairwise (fun x y => x.1 < y.1) := by
  have : ∀ (l : List Oper) (k : Nat), ((l.zipIdx k).map fun (o, i) => (i, o)).Pairwise (fun x y => x.1 < y.1) := by
    intro l
    induction l with
    | nil => intro k; simp
    | cons o l ih =>
      intro k
      rw [List.zipIdx_cons, List.map_cons, List.pairwise_cons]
      refine ⟨?_, ih (k + 1)⟩
      intro p hp
      simp only [List.mem_map, Prod.exists] at hp
      obtain ⟨o', i', h, rfl⟩ := hp
      have := List.mem_zipIdx h
      simp only; omega
  exact this ops 0

/-- What the free allocations come to. -/
theorem Tr.frees {P : Program} {C : CallO} {ops : List Oper} : ∀ {rs : List Rec} {s s' : St}, Tr P C ops s rs s' → (∀ r ∈ rs, isFree r.o = true) →
    ∃ zs : List (List AV × TypeId), s'.H = s.H ++ zs.map (fun z => ABlk.cells z.1 z.2 .rw) ∧ s'.ef = s.ef ∧ zs.length = rs.length ∧
      ∀ (k : Nat) (r : Rec), rs[k]? = some r → ∃ z : List AV × TypeId, zs[k]? = some z ∧ r.o.op = .alloc z.2 ∧ tzero P z.2 = some z.1 ∧ r.v = .ptr (s.H.length + k) 0
  | [], s, s', h, _ => by
    cases h
    exact ⟨[], by simp, rfl, rfl, fun k r h => by simp at h⟩
  | r :: rs, s, s', h, hf => by
    have hfr := hf r (by simp)
    cases h with
    | @run _ _ i o q _ h1 h2 h3 h4 h5 =>
      have hfo : isFree o = true := hfr
      unfold isFree at hfo
      split at hfo
      · rename_i e he
        rw [he] at h2
        simp only [evOp, Option.map_eq_some_iff] at h2
        obtain ⟨z, hz, rfl⟩ := h2
        obtain ⟨zs, k1, k2, k3, k4⟩ := h5.frees (fun r' hr' => hf r' (by simp [hr']))
        refine ⟨(z, e) :: zs, ?_, ?_, by simp [k3], ?_⟩
        · rw [k1]; simp
        · rw [k2]; exact Ef.and_z0 _
        · intro k r' hk
          cases k with
          | zero =>
            simp only [List.getElem?_cons_zero, Option.some.injEq] at hk
            subst hk
            exact ⟨(z, e), rfl, he, hz, rfl⟩
          | succ k =>
            simp only [List.getElem?_cons_succ] at hk
            obtain ⟨y, y1, y2, y3, y4⟩ := k4 k r' hk
            refine ⟨y, by simpa using y1, y2, y3, ?_⟩
            rw [y4]
            simp only [List.length_append, List.length_singleton]
            congr 1
            omega
      · cases hfo
    | @skip _ _ i o _ h1 h2 =>
      have hfo : isFree o = true := hfr
      unfold isFree at hfo
      split at hfo
      · simp only [Bool.and_eq_true, Option.isNone_iff_eq_none] at hfo
        unfold wantedA at h1
        rw [hfo.2] at h1
        cases h1
      · cases hfo

/-- All that is known of a region and of its run in the order of the text. -/
structure Plan (P : Program) (C : CallO) (l : List Oper) (s sm s' : St) (fr ot : List Rec) : Prop where
  tr1 : Tr P C l s fr sm
  tr2 : Tr P C l sm ot s'
  free : ∀ r ∈ fr, isFree r.o = true
  nonf : ∀ r ∈ ot, isFree r.o = false
  at_ : ∀ r ∈ fr ++ ot, l[r.i]? = some r.o
  all_ : ∀ i o, l[i]? = some o → ∃ r ∈ fr ++ ot, r.i = i
  uniq : ∀ r ∈ fr ++ ot, ∀ r' ∈ fr ++ ot, r.i = r'.i → r = r'
  ord : ot.Pairwise (fun x y => x.i < y.i)
  dst : ∀ r ∈ fr ++ ot, ∀ r' ∈ fr ++ ot, ∀ t, r.o.dst = some t → r'.o.dst = some t → r = r'
  edges : ∀ i o, l[i]? = some o → ∀ e ∈ o.after.toList, Region.binds .any e = true → e.on < i
  reads : ∀ r ∈ fr ++ ot, ∀ t ∈ readsT l r.o, ∀ r' ∈ fr ++ ot, r'.o.dst = some t → r'.i = r.i ∨ (r'.i < r.i ∧ anc (masks l []) r'.i r.i = true) ∨ (r.i < r'.i ∧ anc (masks l []) r.i r'.i = true)
  effs : ∀ e ∈ ot, e.eff = true → ∀ r ∈ fr ++ ot, r.i = e.i ∨ pureOp r.o.op = true ∨ (r.i < e.i ∧ anc (masks l []) r.i e.i = true) ∨ (e.i < r.i ∧ anc (masks l []) e.i r.i = true) ∨ (monoOp r.o.op = true ∧ e.ef = z0)

/-- No two of a list without repeats name the same. -/
theorem nodup_filterMap {α β : Type} [DecidableEq β] (f : α → Option β) : ∀ (l : List α), (l.filterMap f).Nodup → ∀ (i j : Nat) (x y : α) (b : β), l[i]? = some x → l[j]? = some y → f x = some b → f y = some b → i = j
  | [], _, i, j, x, y, b, h, _, _, _ => by simp at h
  | a :: l, hn, i, j, x, y, b, hi, hj, hx, hy => by
    have hn' : (l.filterMap f).Nodup := by
      rw [List.filterMap_cons] at hn
      split at hn
      · exact hn
      · exact (List.nodup_cons.1 hn).2
    cases i with
    | zero =>
      cases j with
      | zero => rfl
      | succ j =>
        simp only [List.getElem?_cons_zero, Option.some.injEq] at hi
        simp only [List.getElem?_cons_succ] at hj
        subst hi
        rw [List.filterMap_cons, hx] at hn
        exact absurd (List.mem_filterMap.2 ⟨y, List.mem_of_getElem? hj, hy⟩) (List.nodup_cons.1 hn).1
    | succ i =>
      cases j with
      | zero =>
        simp only [List.getElem?_cons_zero, Option.some.injEq] at hj
        simp only [List.getElem?_cons_succ] at hi
        subst hj
        rw [List.filterMap_cons, hy] at hn
        exact absurd (List.mem_filterMap.2 ⟨x, List.mem_of_getElem? hi, hx⟩) (List.nodup_cons.1 hn).1
      | succ j =>
        simp only [List.getElem?_cons_succ] at hi hj
        rw [nodup_filterMap f l hn' i j x y b hi hj hx hy]

theorem tg_half (i : Nat) (e : Ef) : tg i e / 2 = i := by
  unfold tg; split <;> omega
theorem tg_odd {i : Nat} {e : Ef} (h : tg i e % 2 = 1) : e = z0 := by
  unfold tg at h
  split at h
  · rename_i hc
    obtain ⟨a, b⟩ := e
    simp only [Bool.and_eq_true, Option.isNone_iff_eq_none] at hc
    obtain ⟨rfl, rfl⟩ := hc
    rfl
  · omega
theorem plan_ok {P : Program} {C : CallO} (hC : CallsOk P C) {l : List Oper} {s s' : St} (h : evDraw P C l s = some s') {g : Gh} {μ : Mu} {w : World} {a : Act} (hr : SRel P g μ s w a) : ∃ sm fr ot, Plan P C l s sm s' fr ot := by
  unfold evDraw at h
  simp only [Option.bind_eq_some_iff] at h
  obtain ⟨⟨s1, effs⟩, hD, h⟩ := h
  split at h
  · rename_i hok
    obtain ⟨hst, hef⟩ := hok
    cases h
    obtain ⟨rs, t1, t2, t3⟩ := evD_tr hC _ hD hr
    -- the two parts
    unfold order at t2
    obtain ⟨fr, ot, rfl, hfr, hot⟩ := List.map_eq_append_iff.1 t2
    obtain ⟨sm, tr1, tr2⟩ := t1.split
    have hfree : ∀ r ∈ fr, isFree r.o = true := by
      intro r hrm
      have : (r.i, r.o) ∈ (num l).filter (fun p => isFree p.2) := by rw [← hfr]; exact List.mem_map.2 ⟨r, hrm, rfl⟩
      exact (List.mem_filter.1 this).2
    have hnonf : ∀ r ∈ ot, isFree r.o = false := by
      intro r hrm
      have : (r.i, r.o) ∈ (num l).filter (fun p => !isFree p.2) := by rw [← hot]; exact List.mem_map.2 ⟨r, hrm, rfl⟩
      simpa using (List.mem_filter.1 this).2
    have hat : ∀ r ∈ fr ++ ot, l[r.i]? = some r.o := by
      intro r hrm
      rcases List.mem_append.1 hrm with hrm | hrm
      · have : (r.i, r.o) ∈ (num l).filter (fun p => isFree p.2) := by rw [← hfr]; exact List.mem_map.2 ⟨r, hrm, rfl⟩
        exact num_get l (List.mem_filter.1 this).1
      · have : (r.i, r.o) ∈ (num l).filter (fun p => !isFree p.2) := by rw [← hot]; exact List.mem_map.2 ⟨r, hrm, rfl⟩
        exact num_get l (List.mem_filter.1 this).1
    have hsf : (fr.map fun r => (r.i, r.o)).Pairwise (fun x y => x.1 < y.1) := by rw [hfr]; exact (num_sorted l).filter _
    have hso : (ot.map fun r => (r.i, r.o)).Pairwise (fun x y => x.1 < y.1) := by rw [hot]; exact (num_sorted l).filter _
    have hsf' : fr.Pairwise (fun x y => x.i < y.i) := by rw [List.pairwise_map] at hsf; exact hsf
    have hso' : ot.Pairwise (fun x y => x.i < y.i) := by rw [List.pairwise_map] at hso; exact hso
    have huniq1 : ∀ {q : List Rec}, q.Pairwise (fun x y => x.i < y.i) → ∀ r ∈ q, ∀ r' ∈ q, r.i = r'.i → r = r' := by
      intro q hq
      induction q with
      | nil => intro r hr; cases hr
      | cons x q ih =>
        rw [List.pairwise_cons] at hq
        intro r hr r' hr' he
        rcases List.mem_cons.1 hr with h1 | h1 <;> rcases List.mem_cons.1 hr' with h2 | h2
        · rw [h1, h2]
        · subst h1; have := hq.1 r' h2; omega
        · subst h2; have := hq.1 r h1; omega
        · exact ih hq.2 r h1 r' h2 he
    have huniq : ∀ r ∈ fr ++ ot, ∀ r' ∈ fr ++ ot, r.i = r'.i → r = r' := by
      intro r hr r' hr' he
      have e1 := hat r hr
      have e2 := hat r' hr'
      rw [he, e2] at e1
      have heq : r'.o = r.o := Option.some.inj e1
      rcases List.mem_append.1 hr with hr1 | hr1 <;> rcases List.mem_append.1 hr' with hr2 | hr2
      · exact huniq1 hsf' r hr1 r' hr2 he
      · have h1 := hfree r hr1; have h2 := hnonf r' hr2; rw [← heq, h2] at h1; cases h1
      · have h1 := hfree r' hr2; have h2 := hnonf r hr1; rw [heq, h2] at h1; cases h1
      · exact huniq1 hso' r hr1 r' hr2 he
    unfold statOk at hst
    simp only [Bool.and_eq_true, decide_eq_true_eq, List.all_eq_true] at hst
    obtain ⟨hnd, hst⟩ := hst
    refine ⟨sm, fr, ot, tr1, tr2, hfree, hnonf, hat, ?_, huniq, hso', ?_, ?_, ?_, ?_⟩
    · intro i o ho
      have hm := num_mem l ho
      by_cases hf : isFree o = true
      · have : (i, o) ∈ fr.map fun r => (r.i, r.o) := by rw [hfr]; exact List.mem_filter.2 ⟨hm, hf⟩
        obtain ⟨r, hr, he⟩ := List.mem_map.1 this
        cases he
        exact ⟨r, List.mem_append_left _ hr, rfl⟩
      · have : (i, o) ∈ ot.map fun r => (r.i, r.o) := by rw [hot]; exact List.mem_filter.2 ⟨hm, by simpa using hf⟩
        obtain ⟨r, hr, he⟩ := List.mem_map.1 this
        cases he
        exact ⟨r, List.mem_append_right _ hr, rfl⟩
    · intro r hr r' hr' t ht ht'
      exact huniq r hr r' hr' (nodup_filterMap _ l hnd r.i r'.i r.o r'.o t (hat r hr) (hat r' hr') ht ht')
    · intro i o ho e he hb
      have := (hst (i, o) (num_mem l ho)).1 e he
      simpa [hb] using this
    · intro r hr t ht r' hr' hd
      have := (hst (r.i, r.o) (num_mem l (hat r hr))).2 t ht (r'.i, r'.o) (num_mem l (hat r' hr'))
      simp only [Bool.or_eq_true, bne_iff_ne, ne_eq, beq_iff_eq, Bool.and_eq_true, decide_eq_true_eq] at this
      rcases this with ((h1 | h1) | h1) | h1
      · exact absurd hd h1
      · exact .inl h1
      · exact .inr (.inl h1)
      · exact .inr (.inr h1)
    · intro e he heff r hr
      unfold effOk at hef
      simp only [List.all_eq_true] at hef
      have hmem : tg e.i e.ef ∈ effs := by
        rw [t3]
        exact List.mem_map.2 ⟨e, List.mem_filter.2 ⟨List.mem_append_right _ he, heff⟩, rfl⟩
      have := hef _ hmem (r.i, r.o) (num_mem l (hat r hr))
      rw [tg_half] at this
      simp only [Bool.or_eq_true, beq_iff_eq, Bool.and_eq_true, decide_eq_true_eq] at this
      rcases this with (((h1 | h1) | h1) | h1) | h1
      · exact .inl h1
      · exact .inr (.inl h1)
      · exact .inr (.inr (.inl h1))
      · exact .inr (.inr (.inr (.inl h1)))
      · exact .inr (.inr (.inr (.inr ⟨h1.1, tg_odd h1.2⟩)))
  · cases h
end Go.Proofs.YtgkpgpdkolpfkaaDoor.V
