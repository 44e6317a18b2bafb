/- A region of 'V' whose order is open: whatever order is drawn, the machine comes to what the order of the text comes to. No conditions. -/
import Derived.Test.YtgkpgpdkolpfkaaDoorVIn
import Derived.Orders
namespace Go.Proofs.YtgkpgpdkolpfkaaDoor.V
open Go
set_option linter.unusedSimpArgs false
set_option linter.unusedVariables false

/-! ### the bits -/
theorem masks_append : ∀ (ops : List Oper) (acc : List Nat), ∃ r, masks ops acc = acc ++ r ∧ r.length = ops.length
  | [], acc => ⟨[], by simp [masks], rfl⟩
  | o :: ops, acc => by
    obtain ⟨r, hr, hl⟩ := masks_append ops (acc ++ [o.after.toList.foldl (fun s e => if Region.binds .any e = true then s ||| (2 ^ e.on ||| (acc[e.on]?).getD 0) else s) 0])
    exact ⟨_ :: r, by rw [masks, hr, List.append_assoc]; rfl, by simp [hl]⟩

/-- D holds of whatever a member's edges name. -/
def Closed (ops : List Oper) (D : Nat → Bool) : Prop := ∀ i o, ops[i]? = some o → D i = true → ∀ e ∈ o.after.toList, Region.binds .any e = true → D e.on = true

theorem fold_bit (es : List Edge) (acc : List Nat) (j : Nat) : ∀ s : Nat, (es.foldl (fun s e => if Region.binds .any e = true then s ||| (2 ^ e.on ||| (acc[e.on]?).getD 0) else s) s).testBit j = true →
    s.testBit j = true ∨ ∃ e ∈ es, Region.binds .any e = true ∧ (e.on = j ∨ ((acc[e.on]?).getD 0).testBit j = true) := by
  induction es with
  | nil => intro s h; exact .inl h
  | cons e es ih =>
    intro s h
    rw [List.foldl_cons] at h
    rcases ih _ h with h | ⟨e', he', hb, hh⟩
    · by_cases hb : Region.binds .any e = true
      · rw [if_pos hb, Nat.testBit_or, Nat.testBit_or, Bool.or_eq_true, Bool.or_eq_true] at h
        rcases h with h | h | h
        · exact .inl h
        · rw [Nat.testBit_two_pow] at h
          simp at h
          exact .inr ⟨e, by simp, hb, .inl h⟩
        · exact .inr ⟨e, by simp, hb, .inr h⟩
      · rw [if_neg hb] at h
        exact .inl h
    · exact .inr ⟨e', by simp [he'], hb, hh⟩

theorem masks_sound (all : List Oper) (D : Nat → Bool) (hD : Closed all D) : ∀ (ops : List Oper) (acc : List Nat), (∀ k, ops[k]? = all[acc.length + k]?) →
    (∀ i j, i < acc.length → ((acc[i]?).getD 0).testBit j = true → D i = true → D j = true) → ∀ i j, (((masks ops acc)[i]?).getD 0).testBit j = true → D i = true → D j = true
  | [], acc, _, hacc, i, j, h, hi => by
    rw [masks] at h
    by_cases hl : i < acc.length
    · exact hacc i j hl h hi
    · rw [List.getElem?_eq_none (by omega)] at h
      simp at h
  | o :: ops, acc, hops, hacc, i, j, h, hi => by
    rw [masks] at h
    refine masks_sound all D hD ops _ (fun k => ?_) (fun i j hl hb hi => ?_) i j h hi
    · have := hops (k + 1)
      simpa [Nat.add_assoc, Nat.add_comm 1 k] using this
    · rw [List.length_append, List.length_singleton] at hl
      by_cases hl' : i < acc.length
      · rw [List.getElem?_append_left hl'] at hb
        exact hacc i j hl' hb hi
      · have : i = acc.length := by omega
        subst this
        rw [List.getElem?_append_right (Nat.le_refl _)] at hb
        simp only [Nat.sub_self, List.getElem?_cons_zero, Option.getD_some] at hb
        have ho : all[acc.length]? = some o := by have := hops 0; simpa using this.symm
        rcases fold_bit _ _ _ _ hb with hb | ⟨e, he, hbe, hh⟩
        · simp at hb
        · have hde := hD _ o ho hi e he hbe
          rcases hh with rfl | hh
          · exact hde
          · by_cases hle : e.on < acc.length
            · exact hacc e.on j hle hh hde
            · rw [List.getElem?_eq_none (by omega)] at hh
              simp at hh

theorem anc_sound {ops : List Oper} {D : Nat → Bool} (hD : Closed ops D) {i j : Nat} (h : anc (masks ops []) j i = true) (hi : D i = true) : D j = true :=
  masks_sound ops D hD ops [] (fun k => by simp) (fun i j hl => by simp at hl) i j h hi

/-- The same of an operation that could be next. -/
theorem anc_next {ops : List Oper} {D : Nat → Bool} (hD : Closed ops D) {i j : Nat} {o : Oper} (ho : ops[i]? = some o) (hr : ∀ e ∈ o.after.toList, Region.binds .any e = true → D e.on = true) (h : anc (masks ops []) j i = true) (hij : j ≠ i) : D j = true := by
  have := anc_sound (D := fun k => D k || k == i) (fun k o' ho' hk e he hb => by
    simp only [Bool.or_eq_true, beq_iff_eq] at hk ⊢
    rcases hk with hk | rfl
    · exact .inl (hD k o' ho' hk e he hb)
    · rw [ho] at ho'; cases ho'
      exact .inl (hr e he hb)) h (by simp)
  simpa [hij] using this

theorem anc_free {ops : List Oper} {i j : Nat} {o : Oper} (ho : ops[i]? = some o) (hf : isFree o = true) : anc (masks ops []) j i = false := by
  cases h : anc (masks ops []) j i with
  | false => rfl
  | true =>
    have hemp : o.after.toList = [] := by
      unfold isFree at hf
      split at hf
      · simp only [Bool.and_eq_true, List.isEmpty_iff] at hf
        exact hf.1
      · cases hf
    by_cases hij : j = i
    · subst hij
      have := anc_sound (D := fun k => decide (k < j)) (ops := ops) (i := j) (j := j)
      exfalso
      -- no edge: the mask is nought
      have h0 : ∀ (l : List Oper) (acc : List Nat), l[j - acc.length]? = some o → acc.length ≤ j → (((masks l acc)[j]?).getD 0).testBit j = false := by
        intro l
        induction l with
        | nil => intro acc hl; simp at hl
        | cons x l ih =>
          intro acc hl hle
          rw [masks]
          by_cases hj : j = acc.length
          · rw [hj] at hl
            simp at hl
            subst hl
            obtain ⟨r, hr, _⟩ := masks_append l (acc ++ [x.after.toList.foldl (fun s e => if Region.binds .any e = true then s ||| (2 ^ e.on ||| (acc[e.on]?).getD 0) else s) 0])
            rw [hr, List.append_assoc, List.getElem?_append_right (by omega), hj]
            simp [hemp]
          · refine ih _ ?_ (by simp; omega)
            rw [show j - acc.length = (j - (acc ++ [x.after.toList.foldl (fun s e => if Region.binds .any e = true then s ||| (2 ^ e.on ||| (acc[e.on]?).getD 0) else s) 0]).length) + 1 by simp; omega] at hl
            simpa using hl
      have := h0 ops [] (by simpa using ho) (Nat.zero_le _)
      unfold anc at h
      rw [this] at h
      cases h
    · have := anc_next (D := fun _ => false) (fun _ _ _ hk => by cases hk) ho (fun e he => by rw [hemp] at he; cases he) h hij
      cases this

/-! ### the order of the text, step by step -/
structure Rec where
  i : Nat
  o : Oper
  v : AV
  eff : Bool
  H : Hp
  ef : Ef

inductive Tr (P : Program) (C : CallO) (ops : List Oper) : St → List Rec → St → Prop
  | nil (s : St) : Tr P C ops s [] s
  | run {s s' : St} {i : Nat} {o : Oper} {q : AV × Hp × Ef} {rs : List Rec} : wantedA ops s.σ o = true → evOp P C s.σ s.H o.op = some q → Inv s.H.length s.H q.2.1 q.2.2 → s.H.length ≤ q.2.1.length →
      Tr P C ops ⟨put s.σ o.dst q.1, q.2.1, s.ef.and q.2.2⟩ rs s' → Tr P C ops s (⟨i, o, q.1, !(isFree o || quiet q s.H), q.2.1, q.2.2⟩ :: rs) s'
  | skip {s s' : St} {i : Nat} {o : Oper} {rs : List Rec} : wantedA ops s.σ o = false → Tr P C ops ⟨put s.σ o.dst undefA, s.H, s.ef⟩ rs s' → Tr P C ops s (⟨i, o, undefA, false, s.H, z0⟩ :: rs) s'

structure SRel (P : Program) (g : Gh) (μ : Mu) (s : St) (w : World) (a : Act) : Prop where
  rel : HRel P g μ s.H w
  tm : concs μ s.σ = some a.tmps.toList
  df : Marks g a.defers

theorem put_conc {μ : Mu} {σ : List AV} {a : Act} {v : AV} {v' : Value} (dst : Option Tmp) (h : concs μ σ = some a.tmps.toList) (hv : conc μ v = some v') : concs μ (put σ dst v) = some (a.put dst v').tmps.toList := by
  cases dst with
  | none => exact h
  | some d =>
    have := concs_set d h hv
    simpa [put, Act.put] using this
theorem put_defers (a : Act) (dst : Option Tmp) (v : Value) : (a.put dst v).defers = a.defers := by cases dst <;> rfl

theorem SRel.step {P : Program} {g : Gh} {μ μ' : Mu} {s : St} {w w' : World} {a : Act} {r : AV × Hp × Ef} {v' : Value} (h : SRel P g μ s w a) (dst : Option Tmp) (k : Ok P g μ s.H r μ' v' w') (e : Ef) : SRel P g μ' ⟨put s.σ dst r.1, r.2.1, e⟩ w' (a.put dst v') :=
  ⟨k.rel, put_conc dst (concs_le k.le _ h.tm) k.val, by rw [put_defers]; exact h.df⟩

theorem SRel.undef {P : Program} {g : Gh} {μ : Mu} {s : St} {w : World} {a : Act} (h : SRel P g μ s w a) (dst : Option Tmp) (e : Ef) : SRel P g μ ⟨put s.σ dst undefA, s.H, e⟩ w (a.put dst undef) :=
  ⟨h.rel, put_conc dst h.tm rfl, by rw [put_defers]; exact h.df⟩

theorem evD_tr {P : Program} {C : CallO} (hC : CallsOk P C) {ops : List Oper} : ∀ (l : List (Nat × Oper)) {s s' : St} {effs : List Nat}, evD P C ops l s = some (s', effs) → ∀ {g : Gh} {μ : Mu} {w : World} {a : Act}, SRel P g μ s w a →
    ∃ rs, Tr P C ops s rs s' ∧ rs.map (fun r => (r.i, r.o)) = l ∧ effs = (rs.filter (·.eff)).map (fun r => tg r.i r.ef)
  | [], s, s', effs, h, g, μ, w, a, hr => by
    simp only [evD, Option.some.injEq, Prod.mk.injEq] at h
    obtain ⟨rfl, rfl⟩ := h
    exact ⟨[], .nil _, rfl, rfl⟩
  | (i, o) :: l, s, s', effs, h, g, μ, w, a, hr => by
    simp only [evD] at h
    split at h
    · rename_i hw
      simp only [Option.bind_eq_some_iff, Option.map_eq_some_iff] at h
      obtain ⟨q, hq, ⟨s1, e1⟩, h1, h⟩ := h
      simp only [Prod.mk.injEq] at h
      obtain ⟨rfl, rfl⟩ := h
      obtain ⟨μ', v', w', hok⟩ := (op_in hC hr.rel hr.tm hq).ex
      obtain ⟨rs, t1, t2, t3⟩ := evD_tr hC l h1 (hr.step o.dst hok _)
      refine ⟨_ :: rs, .run (i := i) hw hq hok.inv hok.len t1, by simp [t2], ?_⟩
      subst t3
      cases hb : (isFree o || quiet q s.H) <;> simp [hb]
    · rename_i hw
      obtain ⟨rs, t1, t2, t3⟩ := evD_tr hC l h (hr.undef o.dst s.ef)
      exact ⟨_ :: rs, .skip (i := i) (by simpa using hw) t1, by simp [t2], by simp [t3]⟩

/-! ### frames and heaps by what has been done -/
def fD (D : Nat → Bool) (σ : List AV) (rs : List Rec) : List AV := rs.foldl (fun σ r => if D r.i = true then put σ r.o.dst r.v else σ) σ
def hp (D : Nat → Bool) (X : Hp) (rs : List Rec) : Hp := rs.foldl (fun X r => if D r.i = true ∧ r.eff = true then r.H else X) X
def efs (D : Nat → Bool) (e : Ef) (rs : List Rec) : Ef := rs.foldl (fun e r => if D r.i = true ∧ r.eff = true then e.and r.ef else e) e

theorem put_len (σ : List AV) (d : Option Tmp) (v : AV) : (put σ d v).length = σ.length := by cases d <;> simp [put]
theorem fD_len (D : Nat → Bool) (rs : List Rec) : ∀ σ, (fD D σ rs).length = σ.length := by
  induction rs with
  | nil => intro σ; rfl
  | cons r rs ih =>
    intro σ
    show (fD D (if D r.i = true then put σ r.o.dst r.v else σ) rs).length = _
    rw [ih]
    split
    · exact put_len _ _ _
    · rfl

theorem put_get_other {σ : List AV} {d : Option Tmp} {v : AV} {t : Nat} (h : d ≠ some t) : (put σ d v)[t]? = σ[t]? := by
  cases d with
  | none => rfl
  | some d => simp only [put]; rw [List.getElem?_set_ne]; rintro rfl; exact h rfl

theorem fD_none {D : Nat → Bool} {t : Nat} : ∀ (rs : List Rec) (σ : List AV), (∀ r ∈ rs, D r.i = true → r.o.dst ≠ some t) → (fD D σ rs)[t]? = σ[t]?
  | [], σ, _ => rfl
  | r :: rs, σ, h => by
    show (fD D (if D r.i = true then put σ r.o.dst r.v else σ) rs)[t]? = _
    rw [fD_none rs _ (fun r' hr' => h r' (by simp [hr']))]
    split
    · rename_i hd
      exact put_get_other (h r (by simp) hd)
    · rfl

theorem fD_some {D : Nat → Bool} {t : Nat} : ∀ (rs : List Rec) (σ : List AV) (r : Rec), r ∈ rs → D r.i = true → r.o.dst = some t → (∀ r' ∈ rs, r'.o.dst = some t → r' = r) → (fD D σ rs)[t]? = if t < σ.length then some r.v else none
  | [], _, _, h, _, _, _ => by cases h
  | r0 :: rs, σ, r, h, hd, ht, hu => by
    show (fD D (if D r0.i = true then put σ r0.o.dst r0.v else σ) rs)[t]? = _
    by_cases hin : r ∈ rs
    · rw [fD_some rs _ r hin hd ht (fun r' hr' => hu r' (by simp [hr']))]
      split <;> simp [put_len]
    · have h0 : r0 = r := by
        rcases List.mem_cons.1 h with h | h
        · exact h.symm
        · exact absurd h hin
      subst h0
      rw [if_pos hd, fD_none]
      · rw [ht]
        simp only [put, List.getElem?_set_self']
        by_cases hl : t < σ.length
        · simp [hl]
        · simp [hl]
      · intro r' hr' _ he
        have := hu r' (by simp [hr']) he
        subst this
        exact hin hr'

theorem hp_none {D : Nat → Bool} : ∀ (rs : List Rec) (X : Hp), (∀ r ∈ rs, r.eff = true → D r.i = false) → hp D X rs = X
  | [], _, _ => rfl
  | r :: rs, X, h => by
    show hp D (if D r.i = true ∧ r.eff = true then r.H else X) rs = X
    rw [if_neg (by rintro ⟨h1, h2⟩; rw [h r (by simp) h2] at h1; cases h1)]
    exact hp_none rs X (fun r' hr' => h r' (by simp [hr']))
theorem hp_congr {D D' : Nat → Bool} : ∀ (rs : List Rec) (X : Hp), (∀ r ∈ rs, r.eff = true → D r.i = D' r.i) → hp D X rs = hp D' X rs
  | [], _, _ => rfl
  | r :: rs, X, h => by
    show hp D (if D r.i = true ∧ r.eff = true then r.H else X) rs = hp D' (if D' r.i = true ∧ r.eff = true then r.H else X) rs
    by_cases he : r.eff = true
    · rw [h r (by simp) he]; exact hp_congr rs _ (fun r' hr' => h r' (by simp [hr']))
    · simp only [he, and_false, if_false, Bool.false_eq_true]; exact hp_congr rs _ (fun r' hr' => h r' (by simp [hr']))
theorem hp_append (D : Nat → Bool) (X : Hp) (a b : List Rec) : hp D X (a ++ b) = hp D (hp D X a) b := by simp [hp]
theorem hp_cons (D : Nat → Bool) (X : Hp) (r : Rec) (rs : List Rec) : hp D X (r :: rs) = hp D (if D r.i = true ∧ r.eff = true then r.H else X) rs := rfl
theorem efs_none {D : Nat → Bool} : ∀ (rs : List Rec) (e : Ef), (∀ r ∈ rs, r.eff = true → D r.i = false) → efs D e rs = e
  | [], _, _ => rfl
  | r :: rs, e, h => by
    show efs D (if D r.i = true ∧ r.eff = true then e.and r.ef else e) rs = e
    rw [if_neg (by rintro ⟨h1, h2⟩; rw [h r (by simp) h2] at h1; cases h1)]
    exact efs_none rs e (fun r' hr' => h r' (by simp [hr']))
theorem efs_congr {D D' : Nat → Bool} : ∀ (rs : List Rec) (e : Ef), (∀ r ∈ rs, r.eff = true → D r.i = D' r.i) → efs D e rs = efs D' e rs
  | [], _, _ => rfl
  | r :: rs, e, h => by
    show efs D (if D r.i = true ∧ r.eff = true then e.and r.ef else e) rs = efs D' (if D' r.i = true ∧ r.eff = true then e.and r.ef else e) rs
    by_cases he : r.eff = true
    · rw [h r (by simp) he]; exact efs_congr rs _ (fun r' hr' => h r' (by simp [hr']))
    · simp only [he, and_false, if_false, Bool.false_eq_true]; exact efs_congr rs _ (fun r' hr' => h r' (by simp [hr']))
theorem efs_cons (D : Nat → Bool) (e : Ef) (r : Rec) (rs : List Rec) : efs D e (r :: rs) = efs D (if D r.i = true ∧ r.eff = true then e.and r.ef else e) rs := rfl
theorem efs_append (D : Nat → Bool) (e : Ef) (a b : List Rec) : efs D e (a ++ b) = efs D (efs D e a) b := by simp [efs]

theorem quiet_same {q : AV × Hp × Ef} {H : Hp} (h : quiet q H = true) (hi : Inv H.length H q.2.1 q.2.2) : q.2.1 = H ∧ q.2.2 = z0 := by
  unfold quiet at h
  simp only [Bool.and_eq_true, Option.isNone_iff_eq_none, beq_iff_eq] at h
  obtain ⟨⟨h1, h2⟩, h3⟩ := h
  constructor
  · apply List.ext_getElem?
    intro b
    by_cases hb : b < H.length
    · exact hi.wi b hb (fun e he => by rw [h2] at he; cases he)
    · rw [List.getElem?_eq_none (by omega), List.getElem?_eq_none (by omega)]
  · cases hq : q.2.2 with
    | mk es ws =>
      rw [hq] at h1 h2
      simp only at h1 h2
      subst h1; subst h2; rfl

theorem Ef.and_z0 (e : Ef) : e.and z0 = e := by
  cases e with
  | mk a b => cases a <;> cases b <;> rfl
theorem Ef.z0_and (e : Ef) : z0.and e = e := by
  cases e with
  | mk a b => cases a <;> cases b <;> rfl
theorem omin_assoc (a b c : Option Nat) : omin (omin a b) c = omin a (omin b c) := by
  cases a <;> cases b <;> cases c <;> simp [omin, Nat.min_assoc]
theorem Ef.and_assoc (a b c : Ef) : (a.and b).and c = a.and (b.and c) := by
  simp [Ef.and, omin_assoc]

/-- Where the trace stands behind a part of it. -/
theorem Tr.split {P : Program} {C : CallO} {ops : List Oper} : ∀ {pre : List Rec} {s s' : St} {post : List Rec}, Tr P C ops s (pre ++ post) s' → ∃ m, Tr P C ops s pre m ∧ Tr P C ops m post s'
  | [], s, s', post, h => ⟨s, .nil s, h⟩
  | r :: pre, s, s', post, h => by
    cases h with
    | run h1 h2 h3 h4 h5 =>
      obtain ⟨m, m1, m2⟩ := Tr.split h5
      exact ⟨m, .run h1 h2 h3 h4 m1, m2⟩
    | skip h1 h2 =>
      obtain ⟨m, m1, m2⟩ := Tr.split h2
      exact ⟨m, .skip h1 m1, m2⟩

theorem Tr.frame {P : Program} {C : CallO} {ops : List Oper} : ∀ {rs : List Rec} {s s' : St}, Tr P C ops s rs s' → s'.σ = fD (fun _ => true) s.σ rs
  | [], s, s', h => by cases h; rfl
  | r :: rs, s, s', h => by
    cases h with
    | run h1 h2 h3 h4 h5 => exact h5.frame
    | skip h1 h2 => exact h2.frame

theorem Tr.heap {P : Program} {C : CallO} {ops : List Oper} : ∀ {rs : List Rec} {s s' : St}, Tr P C ops s rs s' → (∀ r ∈ rs, isFree r.o = false) → s'.H = hp (fun _ => true) s.H rs ∧ s'.ef = s.ef.and (efs (fun _ => true) z0 rs)
  | [], s, s', h, _ => by cases h; exact ⟨rfl, (Ef.and_z0 _).symm⟩
  | r :: rs, s, s', h, hf => by
    have key : ∀ (rs : List Rec) (e f : Ef), efs (fun _ => true) (e.and f) rs = e.and (efs (fun _ => true) f rs) := by
      intro rs
      induction rs with
      | nil => intro e f; rfl
      | cons r rs ih =>
        intro e f
        rw [efs_cons, efs_cons]
        by_cases he : r.eff = true
        · simp only [he, and_self, if_true, Ef.and_assoc]; exact ih _ _
        · simp only [he, and_false, if_false, Bool.false_eq_true]; exact ih _ _
    cases h with
    | @run _ _ i o q _ h1 h2 h3 h4 h5 =>
      obtain ⟨k1, k2⟩ := h5.heap (fun r hr => hf r (by simp [hr]))
      have hfo : isFree o = false := hf _ List.mem_cons_self
      by_cases hq : quiet q s.H = true
      · obtain ⟨e1, e2⟩ := quiet_same hq h3
        constructor
        · rw [k1, hp_cons]
          simp [hfo, hq, e1]
        · rw [k2, efs_cons]
          simp [hfo, hq, e2, Ef.and_z0]
      · have hq' : quiet q s.H = false := by simpa using hq
        constructor
        · rw [k1, hp_cons]
          simp [hfo, hq']
        · rw [k2, efs_cons]
          simp only [hfo, hq', Bool.or_self, Bool.not_false, and_self, if_true, Ef.z0_and]
          rw [Ef.and_assoc, ← key, Ef.and_z0]
    | skip h1 h2 =>
      obtain ⟨k1, k2⟩ := h2.heap (fun r hr => hf r (by simp [hr]))
      constructor
      · rw [k1]
        rfl
      · rw [k2]
        rfl
end Go.Proofs.YtgkpgpdkolpfkaaDoor.V
