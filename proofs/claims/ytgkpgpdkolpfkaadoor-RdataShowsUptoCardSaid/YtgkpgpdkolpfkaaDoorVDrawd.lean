/- A region of 'V' whose order is open, last part: the induction on what has been done. No conditions. -/
import Derived.Test.YtgkpgpdkolpfkaaDoorVDrawc
namespace Go.Proofs.YtgkpgpdkolpfkaaDoor.V
open Go
set_option linter.unusedSimpArgs false
set_option linter.unusedVariables false

def dn (listed : Array Bool) : Nat → Bool := fun i => listed.getD i false

structure DI (P : Program) (g : Gh) (μ0 : Mu) (l : List Oper) (s sm : St) (fr ot : List Rec) (listed : Array Bool) (μ : Mu) (a : Act) (w : World) : Prop where
  sz : listed.size = l.length
  cl : Closed l (dn listed)
  tm : concs μ (fD (dn listed) s.σ (fr ++ ot)) = some a.tmps.toList
  df : Marks g a.defers
  rel : HRel P g μ (hp (dn listed) sm.H ot) w
  le : Le μ0 μ
  dom : ∀ b, b < s.H.length → μ b = μ0 b
  fre : ∀ (k : Nat) (r : Rec), fr[k]? = some r → dn listed r.i = false → μ (s.H.length + k) = none
  inv : Inv s.H.length s.H (hp (dn listed) sm.H ot) (efs (dn listed) z0 ot)
  len : sm.H.length ≤ (hp (dn listed) sm.H ot).length

theorem dn_set {listed : Array Bool} {i : Nat} (h : i < listed.size) (j : Nat) : dn (listed.setIfInBounds i true) j = if j = i then true else dn listed j := by
  unfold dn
  simp only [Array.getD_eq_getD_getElem?, Array.getElem?_setIfInBounds]
  by_cases hj : i = j
  · subst hj; simp [h]
  · simp [hj, Ne.symm hj]

theorem fD_append (D : Nat → Bool) (σ : List AV) (a b : List Rec) : fD D σ (a ++ b) = fD D (fD D σ a) b := by simp [fD]

theorem fD_add {D D' : Nat → Bool} {rs : List Rec} {σ : List AV} {r : Rec} (hr : r ∈ rs) (hu : ∀ x ∈ rs, ∀ y ∈ rs, x.i = y.i → x = y) (hd : ∀ x ∈ rs, ∀ y ∈ rs, ∀ t, x.o.dst = some t → y.o.dst = some t → x = y)
    (h0 : D r.i = false) (h1 : ∀ j, D' j = if j = r.i then true else D j) : fD D' σ rs = put (fD D σ rs) r.o.dst r.v := by
  have hDr : D' r.i = true := by rw [h1]; simp
  apply List.ext_getElem?
  intro t
  by_cases ht : r.o.dst = some t
  · rw [fD_some rs σ r hr hDr ht (fun r' hr' he => hd r' hr' r hr t he ht), ht]
    simp only [put, List.getElem?_set_self']
    rw [← fD_len D rs σ]
    by_cases hl : t < (fD D σ rs).length
    · simp [hl]
    · simp [hl]
  · rw [put_get_other ht]
    by_cases hex : ∃ r' ∈ rs, r'.o.dst = some t
    · obtain ⟨r', hr', ht'⟩ := hex
      have hne : r'.i ≠ r.i := by
        intro e
        have := hu r' hr' r hr e
        subst this
        exact ht ht'
      have he : D' r'.i = D r'.i := by rw [h1]; simp [hne]
      cases hDr' : D r'.i with
      | true =>
        rw [fD_some rs σ r' hr' (by rw [he]; exact hDr') ht' (fun x hx hxe => hd x hx r' hr' t hxe ht'), fD_some rs σ r' hr' hDr' ht' (fun x hx hxe => hd x hx r' hr' t hxe ht')]
      | false =>
        rw [fD_none, fD_none]
        · intro x hx hDx hxe
          have := hd x hx r' hr' t hxe ht'
          subst this; rw [hDr'] at hDx; cases hDx
        · intro x hx hDx hxe
          have := hd x hx r' hr' t hxe ht'
          subst this; rw [he, hDr'] at hDx; cases hDx
    · rw [fD_none, fD_none]
      · intro x hx _ hxe; exact hex ⟨x, hx, hxe⟩
      · intro x hx _ hxe; exact hex ⟨x, hx, hxe⟩

section
variable {P : Program} {C : CallO} {l : List Oper} {s sm s' : St} {fr ot : List Rec} {g : Gh} {μ0 : Mu}

/-- The frame, as far as an operation that could be next reads it. -/
theorem Plan.frame_eq (pl : Plan P C l s sm s' fr ot) {D : Nat → Bool} (hcl : Closed l D) {pre post : List Rec} {r : Rec} (hs : ot = pre ++ r :: post) {m : St} (hm : Tr P C l sm pre m)
    (hr : ∀ e ∈ r.o.after.toList, Region.binds .any e = true → D e.on = true) (h0 : D r.i = false) : ∀ t ∈ readsT l r.o, (fD D s.σ (fr ++ ot))[t]? = m.σ[t]? := by
  intro t ht
  have hrot : r ∈ ot := by rw [hs]; simp
  have hrin : r ∈ fr ++ ot := List.mem_append_right _ hrot
  have hmσ : m.σ = fD (fun _ => true) s.σ (fr ++ pre) := by rw [fD_append, ← pl.tr1.frame]; exact hm.frame
  have hlr := pl.at_ r hrin
  have hord := pl.ord
  rw [hs, List.pairwise_append, List.pairwise_cons] at hord
  have hpre : ∀ x ∈ pre, x.i < r.i := fun x hx => hord.2.2 x hx r (by simp)
  have hpost : ∀ x ∈ post, r.i < x.i := hord.2.1.1
  have hsub : ∀ x ∈ fr ++ pre, x ∈ fr ++ ot := by
    intro x hx
    rcases List.mem_append.1 hx with hx | hx
    · exact List.mem_append_left _ hx
    · exact List.mem_append_right _ (by rw [hs]; exact List.mem_append_left _ hx)
  rw [hmσ]
  by_cases hex : ∃ r' ∈ fr ++ ot, r'.o.dst = some t
  · obtain ⟨r', hr', ht'⟩ := hex
    have huq : ∀ x ∈ fr ++ ot, x.o.dst = some t → x = r' := fun x hx hxe => pl.dst x hx r' hr' t hxe ht'
    rcases pl.reads r hrin t ht r' hr' ht' with he | ⟨h1, h2⟩ | ⟨h1, h2⟩
    · have := pl.uniq r' hr' r hrin he
      subst this
      rw [fD_none, fD_none]
      · intro x hx _ hxe
        have := huq x (hsub x hx) hxe
        subst this
        rcases List.mem_append.1 hx with hx | hx
        · have h3 := pl.free _ hx; have h4 := pl.nonf _ hrot; rw [h4] at h3; cases h3
        · have := hpre _ hx; omega
      · intro x hx hDx hxe
        have := huq x hx hxe
        subst this
        rw [h0] at hDx; cases hDx
    · have hD := anc_next hcl hlr hr h2 (by omega)
      rw [fD_some _ _ r' hr' hD ht' huq]
      have hin : r' ∈ fr ++ pre := by
        rcases List.mem_append.1 hr' with hx | hx
        · exact List.mem_append_left _ hx
        · rw [hs] at hx
          rcases List.mem_append.1 hx with hx | hx
          · exact List.mem_append_right _ hx
          · rcases List.mem_cons.1 hx with hx | hx
            · subst hx; omega
            · have := hpost _ hx; omega
      rw [fD_some _ _ r' hin rfl ht' (fun x hx hxe => huq x (hsub x hx) hxe)]
    · have hD : D r'.i = false := by
        cases hDr : D r'.i with
        | false => rfl
        | true => have := anc_sound hcl h2 hDr; rw [h0] at this; cases this
      rw [fD_none, fD_none]
      · intro x hx _ hxe
        have := huq x (hsub x hx) hxe
        subst this
        rcases List.mem_append.1 hx with hx | hx
        · have := anc_free (j := r.i) (pl.at_ x hr') (pl.free x hx)
          rw [this] at h2; cases h2
        · have := hpre _ hx; omega
      · intro x hx hDx hxe
        have := huq x hx hxe
        subst this
        rw [hD] at hDx; cases hDx
  · rw [fD_none, fD_none]
    · intro x hx _ hxe; exact hex ⟨x, hsub x hx, hxe⟩
    · intro x hx _ hxe; exact hex ⟨x, hx, hxe⟩

/-- What stands ahead of, and behind, an operation that looks at memory. -/
theorem Plan.around (pl : Plan P C l s sm s' fr ot) {D : Nat → Bool} (hcl : Closed l D) {pre post : List Rec} {r : Rec} (hs : ot = pre ++ r :: post)
    (hr : ∀ e ∈ r.o.after.toList, Region.binds .any e = true → D e.on = true) (h0 : D r.i = false) (hp : pureOp r.o.op = false) :
    (∀ x ∈ pre, x.eff = true → D x.i = true ∨ (monoOp r.o.op = true ∧ x.ef = z0)) ∧ ∀ x ∈ post, x.eff = true → D x.i = false ∨ (monoOp r.o.op = true ∧ x.ef = z0) := by
  have hrot : r ∈ ot := by rw [hs]; simp
  have hrin : r ∈ fr ++ ot := List.mem_append_right _ hrot
  have hlr := pl.at_ r hrin
  have hord := pl.ord
  rw [hs, List.pairwise_append, List.pairwise_cons] at hord
  constructor
  · intro x hx he
    have hlt : x.i < r.i := hord.2.2 x hx r (by simp)
    rcases pl.effs x (by rw [hs]; exact List.mem_append_left _ hx) he r hrin with h1 | h1 | h1 | h1 | h1
    · omega
    · rw [hp] at h1; cases h1
    · omega
    · exact .inl (anc_next hcl hlr hr h1.2 (by omega))
    · exact .inr h1
  · intro x hx he
    have hlt : r.i < x.i := hord.2.1.1 x hx
    rcases pl.effs x (by rw [hs]; simp [hx]) he r hrin with h1 | h1 | h1 | h1 | h1
    · omega
    · rw [hp] at h1; cases h1
    · cases hD : D x.i with
      | false => exact .inl rfl
      | true => have := anc_sound hcl h1.2 hD; rw [h0] at this; cases this
    · omega
    · exact .inr h1

/-- What does not look at memory, or only reads it, is no change. -/
theorem Tr.calm {P : Program} {C : CallO} {ops : List Oper} : ∀ {rs : List Rec} {s s' : St}, Tr P C ops s rs s' → ∀ r ∈ rs, pureOp r.o.op = true ∨ monoOp r.o.op = true → r.eff = false
  | [], s, s', h, r, hr, _ => by cases hr
  | r0 :: rs, s, s', h, r, hr, hq => by
    cases h with
    | @run _ _ i o q _ h1 h2 h3 h4 h5 =>
      rcases List.mem_cons.1 hr with rfl | hr
      · have : q = (q.1, s.H, z0) := by
          rcases hq with hq | hq
          · exact (evOp_pure hq h2).1
          · exact (evOp_load hq h2).1
        have : quiet q s.H = true := by rw [this]; simp [quiet, z0]
        simp [this]
      · exact h5.calm r hr hq
    | @skip _ _ i o _ h1 h2 =>
      rcases List.mem_cons.1 hr with rfl | hr
      · rfl
      · exact h2.calm r hr hq

/-- Behind an operation: what has been done there only laid blocks. -/
theorem grown_post {P : Program} {C : CallO} {ops : List Oper} {D : Nat → Bool} : ∀ {rs : List Rec} {s s' : St}, Tr P C ops s rs s' → (∀ r ∈ rs, isFree r.o = false) → (∀ r ∈ rs, r.eff = true → D r.i = true → r.ef = z0) →
    rs.Pairwise (fun x y => x.eff = true → y.eff = true → D y.i = true → D x.i = true) → ∃ X, hp D s.H rs = s.H ++ X
  | [], s, s', h, _, _, _ => ⟨[], by simp [hp]⟩
  | r :: rs, s, s', h, hf, hg, hpw => by
    rw [List.pairwise_cons] at hpw
    by_cases hd : r.eff = true ∧ D r.i = false
    · refine ⟨[], ?_⟩
      rw [hp_cons, if_neg (by rw [hd.2]; rintro ⟨h1, _⟩; cases h1), List.append_nil]
      refine hp_none rs _ (fun x hx he => ?_)
      cases hDx : D x.i with
      | false => rfl
      | true => have := hpw.1 x hx hd.1 he hDx; rw [hd.2] at this; cases this
    · cases h with
      | @run _ _ i o q _ h1 h2 h3 h4 h5 =>
        obtain ⟨X, hX⟩ := grown_post (D := D) h5 (fun r hr => hf r (by simp [hr])) (fun r hr => hg r (by simp [hr])) hpw.2
        by_cases he : (!(isFree o || quiet q s.H)) = true
        · have hDi : D i = true := by
            cases hDi : D i with
            | true => rfl
            | false => exact absurd ⟨he, hDi⟩ hd
          have hz : q.2.2 = z0 := hg _ List.mem_cons_self he hDi
          rw [hz] at h3
          obtain ⟨Y, hY⟩ := h3.grown rfl h4
          refine ⟨Y ++ X, ?_⟩
          rw [hp_cons, if_pos ⟨hDi, he⟩]
          show hp D q.2.1 rs = _
          have hX' : hp D q.2.1 rs = q.2.1 ++ X := hX
          rw [hX', hY, List.append_assoc]
        · have hfo : isFree o = false := hf _ List.mem_cons_self
          have hq : quiet q s.H = true := by simpa [hfo] using he
          obtain ⟨e1, e2⟩ := quiet_same hq h3
          refine ⟨X, ?_⟩
          rw [hp_cons, if_neg (by rintro ⟨_, h⟩; exact he h)]
          have hX' : hp D q.2.1 rs = q.2.1 ++ X := hX
          rw [e1] at hX'
          exact hX'
      | @skip _ _ i o _ h1 h2 =>
        obtain ⟨X, hX⟩ := grown_post (D := D) h2 (fun r hr => hf r (by simp [hr])) (fun r hr => hg r (by simp [hr])) hpw.2
        exact ⟨X, by rw [hp_cons, if_neg (by rintro ⟨_, h⟩; cases h)]; exact hX⟩

/-- Ahead of an operation: what has not been done there only laid blocks. -/
theorem grown_pre {P : Program} {C : CallO} {ops : List Oper} {D : Nat → Bool} : ∀ {rs : List Rec} {s s' : St}, Tr P C ops s rs s' → (∀ r ∈ rs, isFree r.o = false) → (∀ r ∈ rs, r.eff = true → D r.i = false → r.ef = z0) →
    rs.Pairwise (fun x y => x.eff = true → y.eff = true → D y.i = true → D x.i = true) → ∃ X, s'.H = hp D s.H rs ++ X
  | [], s, s', h, _, _, _ => by cases h; exact ⟨[], by simp [hp]⟩
  | r :: rs, s, s', h, hf, hg, hpw => by
    have hheap := (h.heap hf).1
    rw [List.pairwise_cons] at hpw
    by_cases hd : r.eff = true ∧ D r.i = false
    · have hnone : ∀ x ∈ rs, x.eff = true → D x.i = false := by
        intro x hx he
        cases hDx : D x.i with
        | false => rfl
        | true => have := hpw.1 x hx hd.1 he hDx; rw [hd.2] at this; cases this
      have e1 : hp D s.H (r :: rs) = s.H := by
        rw [hp_cons, if_neg (by rw [hd.2]; rintro ⟨h1, _⟩; cases h1)]
        exact hp_none rs _ hnone
      rw [e1, hheap]
      refine grown_post (D := fun _ => true) h hf (fun x hx he _ => ?_) ?_
      · rcases List.mem_cons.1 hx with rfl | hx'
        · exact hg _ (by simp) hd.1 hd.2
        · exact hg _ (by simp [hx']) he (hnone x hx' he)
      · exact List.pairwise_of_forall (fun _ _ _ _ _ => rfl)
    · cases h with
      | @run _ _ i o q _ h1 h2 h3 h4 h5 =>
        obtain ⟨X, hX⟩ := grown_pre (D := D) h5 (fun r hr => hf r (by simp [hr])) (fun r hr => hg r (by simp [hr])) hpw.2
        refine ⟨X, ?_⟩
        rw [hX, hp_cons]
        by_cases he : (!(isFree o || quiet q s.H)) = true
        · have hDi : D i = true := by
            cases hDi : D i with
            | true => rfl
            | false => exact absurd ⟨he, hDi⟩ hd
          rw [if_pos ⟨hDi, he⟩]
        · have hfo : isFree o = false := hf _ List.mem_cons_self
          have hq : quiet q s.H = true := by simpa [hfo] using he
          obtain ⟨e1, e2⟩ := quiet_same hq h3
          rw [if_neg (by rintro ⟨_, h⟩; exact he h)]
          simp only [e1]
      | @skip _ _ i o _ h1 h2 =>
        obtain ⟨X, hX⟩ := grown_pre (D := D) h2 (fun r hr => hf r (by simp [hr])) (fun r hr => hg r (by simp [hr])) hpw.2
        exact ⟨X, by rw [hX, hp_cons, if_neg (by rintro ⟨_, h⟩; cases h)]⟩

/-- Of two changes the later was not done ahead of the earlier. -/
theorem Plan.chain (pl : Plan P C l s sm s' fr ot) {D : Nat → Bool} (hcl : Closed l D) : ot.Pairwise (fun x y => x.eff = true → y.eff = true → D y.i = true → D x.i = true) := by
  have hcalm := pl.tr2.calm
  refine List.Pairwise.imp_of_mem (fun {x y} hx hy hlt he1 he2 hD => ?_) pl.ord
  rcases pl.effs y hy he2 x (List.mem_append_right _ hx) with h1 | h1 | h1 | h1 | h1
  · omega
  · have := hcalm x hx (.inl h1); rw [he1] at this; cases this
  · exact anc_sound hcl h1.2 hD
  · omega
  · have := hcalm x hx (.inr h1.1); rw [he1] at this; cases this

theorem wpOpIn_of {ro : Option Nat} {n : Nat} {P : Program} {ops : Array Oper} {Q : Exit → Act → World → Prop} {i : Nat} {o : Oper} {K : Act → World → Prop} {a : Act} {w : World} (ho : ops[i]? = some o)
    (h1 : Region.wanted o (yielded ops a.tmps) = true → o.wpIn (Fr ro) n P a w K Q) (h2 : Region.wanted o (yielded ops a.tmps) = false → K (a.put o.dst undef) w) : wpOpIn (Fr ro) n P ops Q i K a w := by
  unfold wpOpIn
  rw [ho]
  simp only
  by_cases h : Region.wanted o (yielded ops a.tmps) = true
  · rw [if_pos h]; exact h1 h
  · rw [if_neg h]; exact ⟨fun _ _ => trivial, h2 (by simpa using h)⟩

/-- One operation more. -/
theorem DI.step {ro : Option Nat} {n : Nat} (hC : CallsOk P C) {ops : Array Oper} (hl : l = ops.toList) (pl : Plan P C l s sm s' fr ot) {listed : Array Bool} {μ : Mu} {a : Act} {w : World} (di : DI P g μ0 l s sm fr ot listed μ a w)
    {Q : Exit → Act → World → Prop} {K : Act → World → Prop} {i : Nat} {o : Oper} (ho : l[i]? = some o) (h0 : dn listed i = false) (hr : ∀ e ∈ o.after.toList, Region.binds .any e = true → dn listed e.on = true)
    (hK : ∀ μ' a' w', DI P g μ0 l s sm fr ot (listed.setIfInBounds i true) μ' a' w' → K a' w') : wpOpIn (Fr ro) n P ops Q i K a w := by
  have hi : i < listed.size := by rw [di.sz]; exact (List.getElem?_eq_some_iff.1 ho).1
  have hD' := dn_set hi
  obtain ⟨r, hrin, hri⟩ := pl.all_ i o ho
  subst hri
  have hro : r.o = o := by have := pl.at_ r hrin; rw [ho] at this; exact (Option.some.inj this).symm
  subst hro
  have hoa : ops[r.i]? = some r.o := by rw [← Array.getElem?_toList, ← hl]; exact ho
  have hcl' : Closed l (dn (listed.setIfInBounds r.i true)) := by
    intro k o' hk hd e he hb
    rw [hD'] at hd ⊢
    by_cases hkr : k = r.i
    · subst hkr
      rw [ho] at hk; cases hk
      rw [hr e he hb]; simp
    · rw [if_neg hkr] at hd
      rw [di.cl k o' hk hd e he hb]; simp
  have hfa : ∀ σ, fD (dn (listed.setIfInBounds r.i true)) σ (fr ++ ot) = put (fD (dn listed) σ (fr ++ ot)) r.o.dst r.v := fun σ => fD_add hrin pl.uniq pl.dst h0 hD'
  have hkeep : r.eff = false ∨ r ∈ fr → hp (dn (listed.setIfInBounds r.i true)) sm.H ot = hp (dn listed) sm.H ot ∧ efs (dn (listed.setIfInBounds r.i true)) z0 ot = efs (dn listed) z0 ot := by
    intro hq
    have : ∀ x ∈ ot, x.eff = true → dn (listed.setIfInBounds r.i true) x.i = dn listed x.i := by
      intro x hx he
      rw [hD']
      have hne : x.i ≠ r.i := by
        intro e
        have hxr := pl.uniq x (List.mem_append_right _ hx) r hrin e
        subst hxr
        rcases hq with hq | hq
        · rw [he] at hq; cases hq
        · have h1 := pl.free x hq; have h2 := pl.nonf x hx; rw [h1] at h2; cases h2
      simp [hne]
    exact ⟨hp_congr ot _ this, efs_congr ot _ this⟩
  rcases List.mem_append.1 hrin with hrf | hrot
  · -- a free allocation
    obtain ⟨k, hk, hkr⟩ := List.mem_iff_getElem.1 hrf
    have hkr' : fr[k]? = some r := by rw [List.getElem?_eq_getElem hk, hkr]
    obtain ⟨zs, z1, z2, z3, z4⟩ := pl.tr1.frees pl.free
    obtain ⟨z, hz, hop, hzero, hv⟩ := z4 k r hkr'
    have hX : hp (dn listed) sm.H ot = sm.H := by
      refine hp_none ot _ (fun x hx he => ?_)
      cases hD : dn listed x.i with
      | false => rfl
      | true =>
        rcases pl.effs x hx he r hrin with h1 | h1 | h1 | h1 | h1
        · have := pl.uniq r hrin x (List.mem_append_right _ hx) h1
          subst this
          have h1 := pl.free r hrf; have h2 := pl.nonf r hx; rw [h1] at h2; cases h2
        · rw [hop] at h1; simp [pureOp] at h1
        · have := anc_sound di.cl h1.2 hD; rw [h0] at this; cases this
        · have := anc_free (j := x.i) ho (pl.free r hrf); rw [this] at h1; cases h1.2
        · rw [hop] at h1; simp [monoOp] at h1
    have hblk : sm.H[s.H.length + k]? = some (.cells z.1 z.2 .rw) := by
      rw [z1, List.getElem?_append_right (by omega)]
      simp [hz]
    have hmk := di.fre k r hkr' h0
    have hw : Region.wanted r.o (yielded ops a.tmps) = true := by
      have hf := pl.free r hrf
      unfold isFree at hf
      rw [hop] at hf
      simp only [Bool.and_eq_true, Option.isNone_iff_eq_none] at hf
      simp [Region.wanted, hf.2]
    refine wpOpIn_of hoa (fun _ => ?_) (fun h => by rw [hw] at h; cases h)
    obtain ⟨zv, e1, e2⟩ := zero_ok (w := w) (μ := μ) hzero
    have hrel := di.rel
    rw [hX] at hrel
    have hzl : z.1.length = zv.cells.size := by rw [← Array.length_toList]; exact (concs_length e2).symm
    have hnew := hrel.newAt (.cells zv.cells z.2) hblk hmk ⟨zv.cells, (0, 0), _, heap_alloc_new w _, e2, by simp [hzl], fun j v hv => by simpa using hv, rfl, hzl.symm, rfl⟩
    refine wpIn_of_wp (by rw [hop]; intro c h; cases h) ?_
    unfold Oper.wp
    have hrun : (execOp a.eval r.o).run P w = .ok (.value (.pointer (some ⟨w.heap.size, 0, none⟩))) (w.alloc (.cells zv.cells z.2)) := by
      unfold execOp
      simp only [hop]
      simp [Instr.alloc, e1, newVar, newRow]
    rw [hrun]
    have hle : Le μ (upd μ (s.H.length + k) ⟨w.heap.size, 0, 0⟩) := by
      intro c q e
      rw [upd_other]
      · exact e
      · rintro rfl; rw [hmk] at e; cases e
    refine hK (upd μ (s.H.length + k) ⟨w.heap.size, 0, 0⟩) _ _ ⟨by simpa using di.sz, hcl', ?_, by rw [put_defers]; exact di.df, ?_, di.le.trans hle, ?_, ?_, ?_, ?_⟩
    · rw [hfa]
      refine put_conc _ (concs_le hle _ di.tm) ?_
      rw [hv]
      simp [conc, upd_same]
    · rw [(hkeep (.inr hrf)).1, hX]
      exact hnew
    · intro b hb
      rw [upd_other _ _ (by omega)]
      exact di.dom b hb
    · intro k' r' hk' hd'
      rw [hD'] at hd'
      have hne : k' ≠ k := by
        rintro rfl
        rw [hkr'] at hk'; cases hk'
        simp at hd'
      rw [upd_other _ _ (by omega)]
      refine di.fre k' r' hk' ?_
      split at hd'
      · cases hd'
      · exact hd'
    · rw [(hkeep (.inr hrf)).1, (hkeep (.inr hrf)).2]; exact di.inv
    · rw [(hkeep (.inr hrf)).1]; exact di.len
  · -- any other
    have hnf := pl.nonf r hrot
    obtain ⟨pre, post, hs⟩ := List.append_of_mem hrot
    have htr := pl.tr2
    rw [hs] at htr
    obtain ⟨m, hm, htr2⟩ := htr.split
    have hfe := pl.frame_eq di.cl hs hm hr h0
    have hwc : Region.wanted r.o (yielded ops a.tmps) = wantedA l m.σ r.o := by
      rw [wanted_ok di.tm r.o, ← hl]
      exact wantedA_congr hfe
    have hargs : ∀ x ∈ r.o.op.operands, evArg P (fD (dn listed) s.σ (fr ++ ot)) x = evArg P m.σ x := by
      intro x hx
      refine evArg_congr (fun t ht => hfe t ?_)
      subst ht
      simp only [readsT, List.mem_append, List.mem_filterMap]
      exact .inl ⟨_, by simpa using hx, rfl⟩
    have hmheap := (hm.heap (fun x hx => pl.nonf x (by rw [hs]; exact List.mem_append_left _ hx))).1
    cases htr2 with
    | @skip _ _ i' o' _ h1 h2 =>
      refine wpOpIn_of hoa (fun h => by rw [hwc] at h; rw [h1] at h; cases h) (fun _ => ?_)
      have hk := hkeep (.inl rfl)
      refine hK μ _ _ ⟨by simpa using di.sz, hcl', ?_, by rw [put_defers]; exact di.df, by rw [hk.1]; exact di.rel, di.le, di.dom, ?_, by rw [hk.1, hk.2]; exact di.inv, by rw [hk.1]; exact di.len⟩
      · rw [hfa]; exact put_conc _ di.tm rfl
      · intro k' r' hk' hd'
        refine di.fre k' r' hk' ?_
        rw [hD'] at hd'
        split at hd'
        · cases hd'
        · exact hd'
    | @run _ _ i' o' q _ h1 h2 h3 h4 h5 =>
      refine wpOpIn_of hoa (fun _ => ?_) (fun h => by rw [hwc] at h; rw [h1] at h; cases h)
      have h2' : evOp P C (fD (dn listed) s.σ (fr ++ ot)) m.H o'.op = some q := by rw [evOp_congr hargs]; exact h2
      -- what is left to show, once the operation has been done
      have fin : ∀ {X' : Hp} {e' : Ef}, hp (dn (listed.setIfInBounds i' true)) sm.H ot = X' → efs (dn (listed.setIfInBounds i' true)) z0 ot = (efs (dn listed) z0 ot).and e' →
          ∀ μ' v' w', Ok P g μ (hp (dn listed) sm.H ot) (q.1, X', e') μ' v' w' → K (a.put o'.dst v') w' := by
        intro X' e' hX' hE' μ' v' w' hok
        refine hK μ' _ _ ⟨by simpa using di.sz, hcl', ?_, by rw [put_defers]; exact di.df, by rw [hX']; exact hok.rel, di.le.trans hok.le, ?_, ?_, ?_, ?_⟩
        · rw [hfa]; exact put_conc _ (concs_le hok.le _ di.tm) hok.val
        · intro b hb
          have hls : s.H.length ≤ sm.H.length := by
            obtain ⟨zs, z1, _⟩ := pl.tr1.frees pl.free
            rw [z1]; simp
          have := di.len
          rw [hok.dom b (by omega)]
          exact di.dom b hb
        · intro k' r' hk' hd'
          have hkl : s.H.length + k' < sm.H.length := by
            obtain ⟨zs, z1, _, z3, _⟩ := pl.tr1.frees pl.free
            have : k' < fr.length := (List.getElem?_eq_some_iff.1 hk').1
            rw [z1]; simp; omega
          have := di.len
          rw [hok.dom _ (by omega)]
          refine di.fre k' r' hk' ?_
          rw [hD'] at hd'
          split at hd'
          · cases hd'
          · exact hd'
        · rw [hX', hE']
          have hls : s.H.length ≤ sm.H.length := by
            obtain ⟨zs, z1, _⟩ := pl.tr1.frees pl.free
            rw [z1]; simp
          exact di.inv.trans hok.inv (Nat.le_trans hls di.len)
        · rw [hX']
          exact Nat.le_trans di.len hok.len
      by_cases hp' : pureOp o'.op = true
      · obtain ⟨hq, hall⟩ := evOp_pure hp' h2'
        have hqz : quiet q m.H = true := by rw [hq]; simp [quiet, z0]
        have hk := hkeep (.inl (by simp [hqz]))
        have hok := op_in hC di.rel di.tm (hall (hp (dn listed) sm.H ot))
        exact hok ro n K Q (fin hk.1 (by rw [hk.2, Ef.and_z0]))
      · have hp0 : pureOp o'.op = false := by simpa using hp'
        obtain ⟨ar1', ar2'⟩ := pl.around di.cl hs hr h0 hp0
        by_cases hmo : monoOp o'.op = true
        · have hh0 : dn listed i' = false := h0
          have hch := pl.chain di.cl
          rw [hs, List.pairwise_append, List.pairwise_cons] at hch
          have hqz : quiet q m.H = true := by rw [(evOp_load hmo h2).1]; simp [quiet, z0]
          obtain ⟨e1, e2⟩ := quiet_same hqz h3
          by_cases hall : ∀ x ∈ pre, x.eff = true → dn listed x.i = true
          · obtain ⟨X, hX⟩ := grown_post (D := dn listed) h5 (fun x hx => pl.nonf x (by rw [hs]; simp [hx])) (fun x hx he hD => by
              rcases ar2' x hx he with h1 | h1
              · rw [hD] at h1; cases h1
              · exact h1.2) hch.2.1.2
            have hXm : hp (dn listed) sm.H ot = m.H ++ X := by
              rw [hmheap, hs, hp_append, hp_cons]
              rw [hp_congr (D' := fun _ => true) pre sm.H (fun x hx he => hall x hx he), ← hmheap]
              simp only [hh0, Bool.false_eq_true, false_and, if_false]
              have hX' : hp (dn listed) q.2.1 post = q.2.1 ++ X := hX
              rw [e1] at hX'
              exact hX'
            have h2m := (evOp_load hmo h2').2 X
            rw [← hXm] at h2m
            have hok := op_in hC di.rel di.tm (o := o') h2m
            have hk := hkeep (.inl (by simp [hqz]))
            exact hok ro n K Q (fun μ' v' w' hok' => fin (X' := hp (dn listed) sm.H ot) (e' := z0) hk.1 (by rw [hk.2, Ef.and_z0]) μ' v' w' hok')
          · -- something ahead of it that lays blocks has not been done
            obtain ⟨x0, hx0, he0, hd0⟩ : ∃ x ∈ pre, x.eff = true ∧ dn listed x.i = false := by
              apply Classical.byContradiction
              intro hno
              refine hall (fun x hx he => ?_)
              cases hD : dn listed x.i with
              | true => rfl
              | false => exact absurd ⟨x, hx, he, hD⟩ hno
            have hpn : ∀ x ∈ post, x.eff = true → dn listed x.i = false := by
              intro x hx he
              cases hD : dn listed x.i with
              | false => rfl
              | true => have := hch.2.2 x0 hx0 x (by simp [hx]) he0 he hD; rw [hd0] at this; cases this
            obtain ⟨X, hX⟩ := grown_pre (D := dn listed) hm (fun x hx => pl.nonf x (by rw [hs]; exact List.mem_append_left _ hx)) (fun x hx he hD => by
              rcases ar1' x hx he with h1 | h1
              · rw [hD] at h1; cases h1
              · exact h1.2) hch.1
            have hXm : m.H = hp (dn listed) sm.H ot ++ X := by
              rw [hX, hs, hp_append, hp_cons]
              simp only [hh0, Bool.false_eq_true, false_and, if_false]
              rw [hp_none post _ hpn]
            rw [hXm] at h2'
            have h2m := evOp_back hmo h2' (fun x _ v hv => ⟨_, arg_ok di.rel di.tm hv⟩) di.rel.dom
            have hok := op_in hC di.rel di.tm (o := o') h2m
            have hk := hkeep (.inl (by simp [hqz]))
            exact hok ro n K Q (fun μ' v' w' hok' => fin (X' := hp (dn listed) sm.H ot) (e' := z0) hk.1 (by rw [hk.2, Ef.and_z0]) μ' v' w' hok')
        have ar1 : ∀ x ∈ pre, x.eff = true → dn listed x.i = true := fun x hx he => (ar1' x hx he).resolve_right (fun h => hmo h.1)
        have ar2 : ∀ x ∈ post, x.eff = true → dn listed x.i = false := fun x hx he => (ar2' x hx he).resolve_right (fun h => hmo h.1)
        have hXm : hp (dn listed) sm.H ot = m.H := by
          rw [hmheap, hs, hp_append, hp_cons]
          rw [hp_congr (D' := fun _ => true) pre sm.H (fun x hx he => ar1 x hx he)]
          have h0' : dn listed i' = false := h0
          simp only [h0', Bool.false_eq_true, false_and, if_false]
          exact hp_none post _ ar2
        have hok := op_in hC di.rel di.tm (o := o') (by rw [hXm]; exact h2')
        by_cases hqz : quiet q m.H = true
        · obtain ⟨q1, q2⟩ := quiet_same hqz h3
          have hk := hkeep (.inl (by simp [hqz]))
          refine hok ro n K Q (fun μ' v' w' hok' => fin (X' := q.2.1) (e' := q.2.2) (by rw [hk.1, hXm, q1]) (by rw [hk.2, q2, Ef.and_z0]) μ' v' w' hok')
        · have hqf : quiet q m.H = false := by simpa using hqz
          have heff : (!(isFree o' || quiet q m.H)) = true := by
            have : isFree o' = false := hnf
            rw [this, hqf]; rfl
          have hpre' : ∀ x ∈ pre, x.eff = true → dn (listed.setIfInBounds i' true) x.i = dn listed x.i := by
            intro x hx he
            rw [hD', ar1 x hx he]; simp
          have hpost' : ∀ x ∈ post, x.eff = true → dn (listed.setIfInBounds i' true) x.i = false := by
            intro x hx he
            rw [hD', ar2 x hx he]
            have hord := pl.ord
            rw [hs, List.pairwise_append, List.pairwise_cons] at hord
            have := hord.2.1.1 x hx
            simp only at this
            simp; omega
          have h0' : dn listed i' = false := h0
          have hDi : dn (listed.setIfInBounds i' true) i' = true := by rw [hD']; simp
          refine hok ro n K Q (fun μ' v' w' hok' => fin (X' := q.2.1) (e' := q.2.2) ?_ ?_ μ' v' w' hok')
          · rw [hs, hp_append, hp_cons]
            simp only [hDi, heff, and_self, if_true]
            exact hp_none post _ hpost'
          · rw [hs, efs_append, efs_cons, efs_append, efs_cons]
            simp only [hDi, heff, and_self, if_true, h0', Bool.false_eq_true, false_and, if_false]
            rw [efs_none post _ hpost', efs_none post _ ar2, efs_congr pre z0 hpre']
end
end Go.Proofs.YtgkpgpdkolpfkaaDoor.V
