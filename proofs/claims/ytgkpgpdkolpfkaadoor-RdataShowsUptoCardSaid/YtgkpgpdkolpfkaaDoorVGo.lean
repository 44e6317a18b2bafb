/- Reasoning about the evaluator 'V': what a run comes to, step by step, without counting rounds. No conditions. -/
import Derived.Test.YtgkpgpdkolpfkaaDoorVCall
namespace Go.Proofs.YtgkpgpdkolpfkaaDoor.V
open Go
set_option linter.unusedSimpArgs false
set_option linter.unusedVariables false

/-! ### more rounds answer the same -/
def CLe (C C' : CallO) : Prop := ∀ f a H r, C f a H = some r → C' f a H = some r

section
variable {P : Program} {C C' : CallO}

theorem evCall_mono (h : CLe C C') {σ : List AV} {H : Hp} {c : Call} {r : AV × Hp × Ef} (hr : evCall P C σ H c = some r) : evCall P C' σ H c = some r := by
  unfold evCall at hr ⊢
  split at hr
  · simp only [Option.bind_eq_some_iff] at hr ⊢
    obtain ⟨f, hf, as, has, hr⟩ := hr
    refine ⟨f, hf, as, has, ?_⟩
    split at hr
    · split at hr
      · rename_i hb; simp only [hb, if_true]; exact h _ _ _ _ hr
      · rename_i hb; rw [if_neg hb]; exact hr
    · exact h _ _ _ _ hr
    · cases hr
  · exact hr
  · exact hr

theorem evOp_mono (h : CLe C C') {σ : List AV} {H : Hp} {op : Op} {r : AV × Hp × Ef} (hr : evOp P C σ H op = some r) : evOp P C' σ H op = some r := by
  cases op
  case call c => exact evCall_mono h hr
  case makeMap t x => cases x <;> exact hr
  case next it b => cases b <;> exact hr
  all_goals exact hr

theorem evOps_mono (h : CLe C C') {ops : List Oper} : ∀ {l : List Oper} {s s' : St}, evOps P C ops l s = some s' → evOps P C' ops l s = some s'
  | [], _, _, hr => hr
  | o :: l, s, s', hr => by
    simp only [evOps] at hr ⊢
    split at hr
    · rename_i hw
      simp only [hw, if_true]
      simp only [Option.bind_eq_some_iff] at hr ⊢
      obtain ⟨q, hq, hr⟩ := hr
      exact ⟨q, evOp_mono h hq, evOps_mono h hr⟩
    · rename_i hw
      simp only [hw, if_false, Bool.false_eq_true]
      exact evOps_mono h hr

theorem evD_mono (h : CLe C C') {ops : List Oper} : ∀ {l : List (Nat × Oper)} {s : St} {q : St × List Nat}, evD P C ops l s = some q → evD P C' ops l s = some q
  | [], _, _, hr => hr
  | (i, o) :: l, s, q, hr => by
    simp only [evD] at hr ⊢
    split at hr
    · rename_i hw
      simp only [hw, if_true]
      simp only [Option.bind_eq_some_iff, Option.map_eq_some_iff] at hr ⊢
      obtain ⟨r, hr1, q1, hq1, hr⟩ := hr
      exact ⟨r, evOp_mono h hr1, q1, evD_mono h hq1, hr⟩
    · rename_i hw
      simp only [hw, if_false, Bool.false_eq_true]
      exact evD_mono h hr

theorem evRegion_mono (h : CLe C C') {ops : List Oper} {d : Bool} {s s' : St} (hr : evRegion P C ops d s = some s') : evRegion P C' ops d s = some s' := by
  unfold evRegion at hr ⊢
  cases d with
  | false => exact evOps_mono h hr
  | true =>
    simp only [if_true] at hr ⊢
    split at hr
    · rename_i hm
      simp only [hm, if_true]
      unfold evDraw at hr ⊢
      simp only [Option.bind_eq_some_iff] at hr ⊢
      obtain ⟨q, hq, hr⟩ := hr
      exact ⟨q, evD_mono h hq, hr⟩
    · cases hr

theorem iter_mono {f f' : St → Rc} (h : ∀ s r, f s = some r → f' s = some r) : ∀ {n n' : Nat} {s : St} {r : Ex × St}, n ≤ n' → iter f n s = some r → iter f' n' s = some r
  | 0, _, _, _, _, hr => by simp [iter] at hr
  | n + 1, 0, _, _, hn, _ => by omega
  | n + 1, n' + 1, s, r, hn, hr => by
    simp only [iter] at hr ⊢
    split at hr
    · rename_i s1 h1
      rw [h _ _ h1]
      exact iter_mono h (by omega) hr
    · rename_i hne
      rw [h _ _ hr]
      obtain ⟨ex, s'⟩ := r
      cases ex <;> first | (exact (hne _ hr).elim) | rfl

def asFun : AV → Option (FuncId × List AV × List AV)
  | .func (.func g) a b => some (g, a, b)
  | _ => none
/-- How a range ends. -/
def asEnd : Option ABlk → Option Ex
  | some (.loop _ _ _ _ .ready) => some .normal
  | some (.loop _ _ _ _ (.done e)) => some e
  | _ => none
theorem evRange_eq {C : CallO} {f : Operand} {ps : List Tmp} {as bd : Code} {s : St} : evRange P C f ps as bd s = (evArg P s.σ f).bind fun v => (asFun v).bind fun x =>
    if hasBody P x.1 = true then (C x.1 (x.2.1 ++ [.yld s.H.length] ++ x.2.2) (s.H ++ [.loop s.σ ps as bd .ready])).bind fun r => (asEnd (r.2.1[s.H.length]?)).map fun ex => (ex, ⟨s.σ, r.2.1.set s.H.length .dead, s.ef.and (r.2.2.and ⟨none, some s.H.length⟩)⟩) else none := by
  unfold evRange
  cases hv : evArg P s.σ f with
  | none => rfl
  | some v =>
    simp only [Option.bind_some]
    unfold asFun
    split
    · rename_i g a b hh
      cases hh
      simp only [Option.bind_some]
      split
      · congr 1
        funext r
        unfold asEnd
        split <;> simp_all
      · rfl
    · rename_i hne
      split
      · rename_i g a b; exact absurd rfl (hne g a b)
      · rfl
theorem evCode_mono (h : CLe C C') {n n' : Nat} (hn : n ≤ n') : ∀ {c : Code} {s : St} {r : Ex × St}, evCode P C n c s = some r → evCode P C' n' c s = some r := by
  intro c
  induction c with
  | skip => intro s r hr; exact hr
  | region id ops d =>
    intro s r hr
    simp only [evCode, Option.map_eq_some_iff] at hr ⊢
    obtain ⟨s1, h1, hr⟩ := hr
    exact ⟨s1, evRegion_mono h h1, hr⟩
  | seq x y ihx ihy =>
    intro s r hr
    simp only [evCode] at hr ⊢
    split at hr
    · rename_i s1 h1
      rw [ihx h1]
      exact ihy hr
    · rename_i hne
      rw [ihx hr]
      obtain ⟨ex, s'⟩ := r
      cases ex <;> first | (exact (hne _ hr).elim) | rfl
  | cond c x y ihx ihy =>
    intro s r hr
    simp only [evCode] at hr ⊢
    split at hr
    · exact ihx hr
    · exact ihy hr
    · cases hr
  | block id c ih =>
    intro s r hr
    simp only [evCode] at hr ⊢
    split at hr
    · rename_i i s1 h1
      rw [ih h1]
      exact hr
    · rename_i hne
      rw [ih hr]
      obtain ⟨ex, s'⟩ := r
      cases ex <;> first | (exact (hne _ _ hr).elim) | rfl
  | loop c ih =>
    intro s r hr
    simp only [evCode] at hr ⊢
    exact iter_mono (fun s r => ih) hn hr
  | rangeFunc f ps as bd ih1 ih2 =>
    intro s r hr
    simp only [evCode] at hr ⊢
    rw [evRange_eq] at hr ⊢
    simp only [Option.bind_eq_some_iff] at hr ⊢
    obtain ⟨v, hv, x, hx, hr⟩ := hr
    refine ⟨v, hv, x, hx, ?_⟩
    split at hr
    · rename_i hb
      rw [if_pos hb]
      simp only [Option.bind_eq_some_iff] at hr ⊢
      obtain ⟨q, hq, hr⟩ := hr
      exact ⟨q, h _ _ _ _ hq, hr⟩
    · cases hr
  | _ => intro s r hr; exact hr

theorem evRound_mono (h : CLe C C') {n n' : Nat} (hn : n ≤ n') {b : Nat} {args : List AV} {H : Hp} {r : AV × Hp × Ef} (hr : evRound P C n b args H = some r) : evRound P C' n' b args H = some r := by
  unfold evRound at hr ⊢
  split at hr
  · rename_i σ ps as bd hb
    split at hr
    · rename_i hl
      rw [if_pos hl]
      split at hr
      · rename_i s1 h1
        rw [evCode_mono h hn h1]
        split at hr
        · rename_i σ' ps' as' bd' hb1
          show (match s1.H[b]? with | some (.loop σ' ps' as' bd' .ready) => _ | _ => none) = _
          rw [hb1]
          split at hr
          · rename_i e s2 h2
            show (match evCode P C' n' bd ⟨s1.σ, s1.H.set b (.loop σ' ps' as' bd' .busy), s1.ef.and ⟨none, some b⟩⟩ with | some (e, s2) => _ | none => none) = _
            rw [evCode_mono h hn h2]
            exact hr
          · cases hr
        · cases hr
      · cases hr
    · cases hr
  · cases hr

theorem evFun_mono (h : CLe C C') {n n' : Nat} (hn : n ≤ n') : CLe (evFun P C n) (evFun P C' n') := by
  intro f a H r hr
  unfold evFun at hr ⊢
  split at hr
  · rename_i fn hfn
    split at hr
    · rename_i c hc
      split at hr
      · rename_i e s hcode
        simp only [hfn, hc, evCode_mono h hn hcode]
        exact hr
      · cases hr
    · cases hr
  · exact evRound_mono h hn hr

theorem evN_succ : ∀ n, CLe (evN P n) (evN P (n + 1))
  | 0 => fun f a H r h => by simp [evN] at h
  | n + 1 => evFun_mono (evN_succ n) (Nat.le_succ _)
theorem evN_mono {n m : Nat} (h : n ≤ m) : CLe (evN P n) (evN P m) := by
  induction m with
  | zero => have : n = 0 := by omega
            subst this; exact fun _ _ _ _ h => h
  | succ m ih =>
    by_cases hm : n ≤ m
    · exact fun f a H r hr => evN_succ m f a H r (ih hm f a H r hr)
    · have : n = m + 1 := by omega
      subst this; exact fun _ _ _ _ h => h
end

/-! ### runs -/
/-- Nothing: it keeps rewriting out of what its type names. -/
structure Ph {α : Type} (a : α) : Type where
  mk ::

section
variable (P : Program)

/-- A call comes to something of which k holds. -/
def callK (f : FuncId) (args : List AV) (H : Hp) (k : AV × Hp × Ef → Prop) (_ : Ph k := ⟨⟩) : Prop := ∃ n r, evN P n f args H = some r ∧ k r

def goOps (ops : List Oper) (K : St → Prop) (l : List Oper) (s : St) (_ : Ph (ops, K, l) := ⟨⟩) : Prop := ∃ n s', evOps P (evN P n) ops l s = some s' ∧ K s'
def goD (ops : List Oper) (K : St → List Nat → Prop) (l : List (Nat × Oper)) (s : St) (_ : Ph (ops, K, l) := ⟨⟩) : Prop := ∃ n s' es, evD P (evN P n) ops l s = some (s', es) ∧ K s' es
def goCode (c : Code) (Q : Ex → St → Prop) (s : St) : Prop := ∃ n ex s', evCode P (evN P n) n c s = some (ex, s') ∧ Q ex s'

def stepK (r : Rs) (k : AV × Hp × Ef → Prop) (_ : Ph k := ⟨⟩) : Prop :=
  match r with
  | some r => k r
  | none => False

/-- No calls. -/
def noC : CallO := fun _ _ _ => none
def nextK (ops : List Oper) (K : St → Prop) (l : List Oper) (σ : List AV) (e : Ef) (dst : Option Tmp) : AV × Hp × Ef → Prop := fun r => goOps P ops K l ⟨put σ dst r.1, r.2.1, e.and r.2.2⟩
def nextD (ops : List Oper) (K : St → List Nat → Prop) (l : List (Nat × Oper)) (σ : List AV) (H : Hp) (e : Ef) (i : Nat) (o : Oper) : AV × Hp × Ef → Prop :=
  fun r => goD P ops (fun s es => K s (if isFree o || quiet r H then es else tg i r.2.2 :: es)) l ⟨put σ o.dst r.1, r.2.1, e.and r.2.2⟩

/-- What is called: a function, a yield. -/
inductive Tg where
  | fn (g : FuncId) (as : List AV)
  | yl (b : Nat) (as : List AV)
/-- A call's function and arguments. -/
def target (σ : List AV) (f : Operand) (args : List Operand) : Option Tg :=
  (evArg P σ f).bind fun f => (evArgs P σ args).bind fun as =>
    match f with
    | .func (.func g) first captured => some (.fn g (first ++ as ++ captured))
    | .yld b => some (.yl b as)
    | _ => none
/-- A call of a function with a body or of one that is known. -/
def callX (g : FuncId) (as : List AV) (H : Hp) (k : AV × Hp × Ef → Prop) (_ : Ph k := ⟨⟩) : Prop :=
  if hasBody P g = true then callK P g as H k else stepK (evX P g as H) k
def callT (t : Option Tg) (H : Hp) (k : AV × Hp × Ef → Prop) (_ : Ph k := ⟨⟩) : Prop :=
  match t with
  | some (.fn g as) => callX P g as H k
  | some (.yl b as) => callK P (P.funcs.size + b) as H k
  | none => False

/-- An operation comes to something of which k holds. -/
def opK (σ : List AV) (H : Hp) (op : Op) (k : AV × Hp × Ef → Prop) (_ : Ph (op, k) := ⟨⟩) : Prop :=
  match op with
  | .call c => match c.callee with
    | .value f => callT P (target P σ f c.args.toList) H k
    | _ => stepK (evOp P noC σ H op) k
  | _ => stepK (evOp P noC σ H op) k
end

section
variable {P : Program}

theorem noC_le (C : CallO) : CLe noC C := fun _ _ _ _ h => by cases h

theorem opK_iff {σ : List AV} {H : Hp} {op : Op} {k : AV × Hp × Ef → Prop} : opK P σ H op k ↔ ∃ n r, evOp P (evN P n) σ H op = some r ∧ k r := by
  have key : ∀ op : Op, (∀ c, op = .call c → ∀ f, c.callee ≠ .value f) → (stepK (evOp P noC σ H op) k ↔ ∃ n r, evOp P (evN P n) σ H op = some r ∧ k r) := by
    intro op hop
    have same : ∀ n, evOp P (evN P n) σ H op = evOp P noC σ H op := by
      intro n
      cases op
      case call c =>
        show evCall P (evN P n) σ H c = evCall P noC σ H c
        unfold evCall
        split
        · rename_i f hf; exact absurd hf (hop c rfl f)
        · rfl
        · rfl
      case makeMap t x => cases x <;> rfl
      case next it b => cases b <;> rfl
      all_goals rfl
    constructor
    · intro h
      unfold stepK at h
      split at h
      · rename_i r hr; exact ⟨0, r, by rw [same]; exact hr, h⟩
      · exact h.elim
    · rintro ⟨n, r, hr, hk⟩
      rw [same] at hr
      rw [hr]; exact hk
  unfold opK
  split
  · rename_i c
    split
    · rename_i f hf
      simp only [evOp, evCall, hf]
      unfold callT target
      constructor
      · intro h
        split at h
        · rename_i g as ht
          simp only [Option.bind_eq_some_iff] at ht
          obtain ⟨fv, hfv, av, hav, ht⟩ := ht
          unfold callX at h
          split at ht
          · simp only [Option.some.injEq, Tg.fn.injEq] at ht
            obtain ⟨rfl, rfl⟩ := ht
            split at h
            · rename_i hb
              obtain ⟨n, r, hn, hk⟩ := h
              refine ⟨n, r, ?_, hk⟩
              rw [hfv, hav]
              simp only [Option.bind_some, hb, if_true]
              exact hn
            · rename_i hb
              unfold stepK at h
              split at h
              · rename_i r hr
                refine ⟨0, r, ?_, h⟩
                rw [hfv, hav]
                simp only [Option.bind_some]
                rw [if_neg hb]
                exact hr
              · exact h.elim
          · cases ht
          · cases ht
        · rename_i b as ht
          simp only [Option.bind_eq_some_iff] at ht
          obtain ⟨fv, hfv, av, hav, ht⟩ := ht
          split at ht
          · cases ht
          · simp only [Option.some.injEq, Tg.yl.injEq] at ht
            obtain ⟨rfl, rfl⟩ := ht
            obtain ⟨n, r, hn, hk⟩ := h
            refine ⟨n, r, ?_, hk⟩
            rw [hfv, hav]
            simp only [Option.bind_some]
            exact hn
          · cases ht
        · exact h.elim
      · rintro ⟨n, r, hr, hk⟩
        simp only [Option.bind_eq_some_iff] at hr
        obtain ⟨fv, hfv, av, hav, hr⟩ := hr
        rw [hfv, hav]
        simp only [Option.bind_some]
        split at hr
        · show callX P _ _ H k
          unfold callX
          split at hr
          · rename_i hb
            rw [if_pos hb]
            exact ⟨n, r, hr, hk⟩
          · rename_i hb
            rw [if_neg hb, hr]
            exact hk
        · exact ⟨n, r, hr, hk⟩
        · cases hr
    · rename_i hne
      refine key _ (fun c' hc f hf => ?_)
      cases hc
      exact hne f hf
  · rename_i hne
    exact key _ (fun c hc => by subst hc; first | exact (hne _ _ rfl HEq.rfl).elim | exact (hne _ ⟨⟩ rfl HEq.rfl).elim | exact (hne _ rfl).elim)

theorem callK_iff_of {f : FuncId} {args : List AV} {H : Hp} {n : Nat} {r : AV × Hp × Ef} (h : evN P n f args H = some r) {k : AV × Hp × Ef → Prop} : callK P f args H k ↔ k r := by
  constructor
  · rintro ⟨m, q, hq, hk⟩
    have h1 := evN_mono (P := P) (Nat.le_max_left n m) _ _ _ _ h
    have h2 := evN_mono (P := P) (Nat.le_max_right n m) _ _ _ _ hq
    rw [h1] at h2
    cases h2
    exact hk
  · intro hk; exact ⟨n, r, h, hk⟩

/-- A call that comes to r: whatever is asked of it is asked of r. -/
theorem callK_eq {f : FuncId} {args : List AV} {H : Hp} {r : AV × Hp × Ef} (h : callK P f args H (fun q => q = r)) (k : AV × Hp × Ef → Prop) : callK P f args H k = k r := by
  obtain ⟨n, q, hq, rfl⟩ := h
  exact propext (callK_iff_of hq)

theorem callK_mono {f : FuncId} {args : List AV} {H : Hp} {k k' : AV × Hp × Ef → Prop} (h : callK P f args H k) (hk : ∀ r, k r → k' r) : callK P f args H k' :=
  let ⟨n, r, hn, hr⟩ := h
  ⟨n, r, hn, hk r hr⟩

theorem goOps_nil {ops : List Oper} {K : St → Prop} {σ : List AV} {H : Hp} {e : Ef} : goOps P ops K [] ⟨σ, H, e⟩ = K ⟨σ, H, e⟩ := by
  apply propext
  constructor
  · rintro ⟨n, s', h, hk⟩; simp only [evOps] at h; cases h; exact hk
  · intro h; exact ⟨0, _, rfl, h⟩

theorem goOps_want {ops : List Oper} {K : St → Prop} {o : Oper} {l : List Oper} {σ : List AV} {H : Hp} {e : Ef} (hw : wantedA ops σ o = true) :
    goOps P ops K (o :: l) ⟨σ, H, e⟩ = opK P σ H o.op (nextK P ops K l σ e o.dst) := by
  apply propext
  rw [opK_iff]
  constructor
  · rintro ⟨n, s', h, hk⟩
    simp only [evOps, hw, if_true, Option.bind_eq_some_iff] at h
    obtain ⟨r, hr, h⟩ := h
    exact ⟨n, r, hr, n, s', h, hk⟩
  · rintro ⟨n, r, hr, m, s', h, hk⟩
    refine ⟨max n m, s', ?_, hk⟩
    simp only [evOps, hw, if_true, Option.bind_eq_some_iff]
    exact ⟨r, evOp_mono (evN_mono (Nat.le_max_left n m)) hr, evOps_mono (evN_mono (Nat.le_max_right n m)) h⟩

theorem goOps_skip {ops : List Oper} {K : St → Prop} {o : Oper} {l : List Oper} {σ : List AV} {H : Hp} {e : Ef} (hw : wantedA ops σ o = false) :
    goOps P ops K (o :: l) ⟨σ, H, e⟩ = goOps P ops K l ⟨put σ o.dst undefA, H, e⟩ := by
  apply propext
  constructor
  · rintro ⟨n, s', h, hk⟩
    simp only [evOps, hw, Bool.false_eq_true, if_false] at h
    exact ⟨n, s', h, hk⟩
  · rintro ⟨n, s', h, hk⟩
    exact ⟨n, s', by simp only [evOps, hw, Bool.false_eq_true, if_false]; exact h, hk⟩

theorem goD_nil {ops : List Oper} {K : St → List Nat → Prop} {σ : List AV} {H : Hp} {e : Ef} : goD P ops K [] ⟨σ, H, e⟩ = K ⟨σ, H, e⟩ [] := by
  apply propext
  constructor
  · rintro ⟨n, s', es, h, hk⟩; simp only [evD] at h; cases h; exact hk
  · intro h; exact ⟨0, _, _, rfl, h⟩

theorem goD_want {ops : List Oper} {K : St → List Nat → Prop} {i : Nat} {o : Oper} {l : List (Nat × Oper)} {σ : List AV} {H : Hp} {e : Ef} (hw : wantedA ops σ o = true) :
    goD P ops K ((i, o) :: l) ⟨σ, H, e⟩ = opK P σ H o.op (nextD P ops K l σ H e i o) := by
  apply propext
  rw [opK_iff]
  constructor
  · rintro ⟨n, s', es, h, hk⟩
    simp only [evD, hw, if_true, Option.bind_eq_some_iff, Option.map_eq_some_iff, Prod.mk.injEq] at h
    obtain ⟨r, hr, ⟨s1, es1⟩, h, rfl, rfl⟩ := h
    exact ⟨n, r, hr, n, _, es1, h, hk⟩
  · rintro ⟨n, r, hr, m, s', es, h, hk⟩
    refine ⟨max n m, s', _, ?_, hk⟩
    simp only [evD, hw, if_true, Option.bind_eq_some_iff, Option.map_eq_some_iff, Prod.mk.injEq]
    exact ⟨r, evOp_mono (evN_mono (Nat.le_max_left n m)) hr, (s', es), evD_mono (evN_mono (Nat.le_max_right n m)) h, rfl, rfl⟩

theorem goD_skip {ops : List Oper} {K : St → List Nat → Prop} {i : Nat} {o : Oper} {l : List (Nat × Oper)} {σ : List AV} {H : Hp} {e : Ef} (hw : wantedA ops σ o = false) :
    goD P ops K ((i, o) :: l) ⟨σ, H, e⟩ = goD P ops K l ⟨put σ o.dst undefA, H, e⟩ := by
  apply propext
  constructor
  · rintro ⟨n, s', es, h, hk⟩
    simp only [evD, hw, Bool.false_eq_true, if_false] at h
    exact ⟨n, s', es, h, hk⟩
  · rintro ⟨n, s', es, h, hk⟩
    exact ⟨n, s', es, by simp only [evD, hw, Bool.false_eq_true, if_false]; exact h, hk⟩

theorem goCode_iff {c : Code} {Q : Ex → St → Prop} {s : St} {n : Nat} {ex : Ex} {s' : St} (h : evCode P (evN P n) n c s = some (ex, s')) : goCode P c Q s ↔ Q ex s' := by
  constructor
  · rintro ⟨m, ex2, s2, h2, hq⟩
    have h3 := evCode_mono (evN_mono (Nat.le_max_left n m)) (Nat.le_max_left n m) h
    have h4 := evCode_mono (evN_mono (Nat.le_max_right n m)) (Nat.le_max_right n m) h2
    rw [h3] at h4
    cases h4
    exact hq
  · intro hq; exact ⟨n, ex, s', h, hq⟩

theorem goCode_mono {c : Code} {Q Q' : Ex → St → Prop} {s : St} (h : goCode P c Q s) (hq : ∀ ex s, Q ex s → Q' ex s) : goCode P c Q' s :=
  let ⟨n, ex, s', hn, hs⟩ := h
  ⟨n, ex, s', hn, hq _ _ hs⟩

def thenQ (P : Program) (c : Code) (Q : Ex → St → Prop) : Ex → St → Prop
  | .normal, s => goCode P c Q s
  | ex, s => Q ex s
def blockQ (id : Nat) (Q : Ex → St → Prop) : Ex → St → Prop
  | .exit i, s => if i = id then Q .normal s else Q (.exit i) s
  | ex, s => Q ex s

theorem goCode_seq {a b : Code} {Q : Ex → St → Prop} {s : St} : goCode P (.seq a b) Q s ↔ goCode P a (thenQ P b Q) s := by
  constructor
  · rintro ⟨n, ex, s', h, hq⟩
    simp only [evCode] at h
    split at h
    · rename_i s1 h1
      exact ⟨n, .normal, s1, h1, n, ex, s', h, hq⟩
    · rename_i hne
      refine ⟨n, ex, s', h, ?_⟩
      cases ex <;> first | (exact (hne _ h).elim) | exact hq
  · rintro ⟨n, ex, s', h, hq⟩
    cases ex with
    | normal =>
      obtain ⟨m, ex2, s2, h2, hq⟩ := hq
      refine ⟨max n m, ex2, s2, ?_, hq⟩
      simp only [evCode, evCode_mono (evN_mono (Nat.le_max_left n m)) (Nat.le_max_left n m) h]
      exact evCode_mono (evN_mono (Nat.le_max_right n m)) (Nat.le_max_right n m) h2
    | exit i => exact ⟨n, .exit i, s', by simp only [evCode, h], hq⟩
    | goto l => exact ⟨n, .goto l, s', by simp only [evCode, h], hq⟩
    | ret => exact ⟨n, .ret, s', by simp only [evCode, h], hq⟩

theorem goCode_block {id : Nat} {c : Code} {Q : Ex → St → Prop} {s : St} : goCode P (.block id c) Q s ↔ goCode P c (blockQ id Q) s := by
  constructor
  · rintro ⟨n, ex, s', h, hq⟩
    simp only [evCode] at h
    split at h
    · rename_i i s1 h1
      refine ⟨n, .exit i, s1, h1, ?_⟩
      show (if i = id then Q .normal s1 else Q (.exit i) s1)
      split at h
      · rename_i hi; cases h; rw [if_pos hi]; exact hq
      · rename_i hi; cases h; rw [if_neg hi]; exact hq
    · rename_i hne
      refine ⟨n, ex, s', h, ?_⟩
      cases ex <;> first | (exact (hne _ _ h).elim) | exact hq
  · rintro ⟨n, ex, s', h, hq⟩
    cases ex with
    | exit i =>
      have hq : (if i = id then Q .normal s' else Q (.exit i) s') := hq
      by_cases hi : i = id
      · rw [if_pos hi] at hq; exact ⟨n, .normal, s', by simp only [evCode, h, hi, if_true], hq⟩
      · rw [if_neg hi] at hq; exact ⟨n, .exit i, s', by simp only [evCode, h, hi, if_false], hq⟩
    | normal => exact ⟨n, .normal, s', by simp only [evCode, h], hq⟩
    | goto l => exact ⟨n, .goto l, s', by simp only [evCode, h], hq⟩
    | ret => exact ⟨n, .ret, s', by simp only [evCode, h], hq⟩

theorem goCode_loop {c : Code} {Q : Ex → St → Prop} {s : St} : goCode P (.loop c) Q s ↔ goCode P c (thenQ P (.loop c) Q) s := by
  constructor
  · rintro ⟨n, ex, s', h, hq⟩
    simp only [evCode] at h
    cases n with
    | zero => simp [iter] at h
    | succ n =>
      simp only [iter] at h
      split at h
      · rename_i s1 h1
        refine ⟨n + 1, .normal, s1, h1, n + 1, ex, s', ?_, hq⟩
        simp only [evCode]
        exact iter_mono (fun _ _ h => h) (Nat.le_succ n) h
      · rename_i hne
        refine ⟨n + 1, ex, s', h, ?_⟩
        cases ex <;> first | (exact (hne _ h).elim) | exact hq
  · rintro ⟨n, ex, s', h, hq⟩
    have up : ∀ m, n ≤ m → evCode P (evN P m) m c s = some (ex, s') := fun m hm => evCode_mono (evN_mono hm) hm h
    cases ex with
    | normal =>
      obtain ⟨m, ex2, s2, h2, hq⟩ := hq
      refine ⟨max n m + 1, ex2, s2, ?_, hq⟩
      simp only [evCode, iter, up (max n m + 1) (by omega)]
      have h3 := evCode_mono (P := P) (evN_mono (show m ≤ max n m + 1 by omega)) (show m ≤ max n m by omega) h2
      simp only [evCode] at h3
      refine iter_mono (fun s r hr => ?_) (Nat.le_refl _) h3
      exact evCode_mono (fun _ _ _ _ h => h) (Nat.le_succ _) hr
    | exit i => exact ⟨n + 1, .exit i, s', by simp only [evCode, iter, up (n + 1) (by omega)], hq⟩
    | goto l => exact ⟨n + 1, .goto l, s', by simp only [evCode, iter, up (n + 1) (by omega)], hq⟩
    | ret => exact ⟨n + 1, .ret, s', by simp only [evCode, iter, up (n + 1) (by omega)], hq⟩

theorem goCode_region {id : Nat} {ops : Array Oper} {Q : Ex → St → Prop} {s : St} : goCode P (.region id ops false) Q s ↔ goOps P ops.toList (Q .normal) ops.toList s := by
  constructor
  · rintro ⟨n, ex, s', h, hq⟩
    simp only [evCode, Option.map_eq_some_iff, Prod.mk.injEq] at h
    obtain ⟨s1, h1, rfl, rfl⟩ := h
    exact ⟨n, s1, h1, hq⟩
  · rintro ⟨n, s', h, hq⟩
    exact ⟨n, .normal, s', by simp only [evCode, Option.map_eq_some_iff, Prod.mk.injEq]; exact ⟨s', h, trivial, rfl⟩, hq⟩

def drawQ (P : Program) (ops : List Oper) (Q : Ex → St → Prop) : St → List Nat → Prop := fun s es => effOk P ops es = true ∧ Q .normal s

theorem goCode_draw {id : Nat} {ops : Array Oper} {Q : Ex → St → Prop} {s : St} (hm : P.follows .mixedOrders = true) (hs : statOk ops.toList = true) : goCode P (.region id ops true) Q s ↔ goD P ops.toList (drawQ P ops.toList Q) (order ops.toList) s := by
  constructor
  · rintro ⟨n, ex, s', h, hq⟩
    simp only [evCode, Option.map_eq_some_iff, Prod.mk.injEq, evRegion, hm, if_true, evDraw, Option.bind_eq_some_iff] at h
    obtain ⟨s1, ⟨q, hq1, h1⟩, rfl, rfl⟩ := h
    split at h1
    · rename_i hok
      cases h1
      exact ⟨n, q.1, q.2, hq1, hok.2, hq⟩
    · cases h1
  · rintro ⟨n, s', es, h, he, hq⟩
    refine ⟨n, .normal, s', ?_, hq⟩
    simp only [evCode, Option.map_eq_some_iff, Prod.mk.injEq, evRegion, hm, if_true, evDraw, Option.bind_eq_some_iff]
    exact ⟨s', ⟨(s', es), h, by rw [if_pos ⟨hs, he⟩]⟩, trivial, rfl⟩

theorem goCode_at {c : Code} {Q : Ex → St → Prop} {s : St} {ex : Ex} (h : ∀ n, evCode P (evN P n) n c s = some (ex, s)) : goCode P c Q s ↔ Q ex s := goCode_iff (h 0)

/-! ### what is still to be done, as a list -/
inductive It where
  | code (c : Code)
  | inBlock (id : Nat)

def contQ (P : Program) (Q : Ex → St → Prop) : List It → Ex → St → Prop
  | [] => Q
  | .code c :: k => thenQ P c (contQ P Q k)
  | .inBlock id :: k => blockQ id (contQ P Q k)

/-- All of it comes to an end of which Q holds. -/
def go (P : Program) (Q : Ex → St → Prop) (k : List It) (s : St) (_ : Ph (P, Q, k) := ⟨⟩) : Prop := contQ P Q k .normal s
/-- A block is left. -/
def leaveTo (P : Program) (Q : Ex → St → Prop) (id : Nat) (k : List It) (s : St) (_ : Ph (P, Q, k) := ⟨⟩) : Prop := contQ P Q k (.exit id) s

variable {Q : Ex → St → Prop} {k : List It} {σ : List AV} {H : Hp} {e : Ef}

theorem go_nil : go P Q [] ⟨σ, H, e⟩ = Q .normal ⟨σ, H, e⟩ := rfl
theorem go_skip : go P Q (.code .skip :: k) ⟨σ, H, e⟩ = go P Q k ⟨σ, H, e⟩ := propext (goCode_at (fun _ => rfl))
theorem go_label {l : Nat} : go P Q (.code (.label l) :: k) ⟨σ, H, e⟩ = go P Q k ⟨σ, H, e⟩ := propext (goCode_at (fun _ => rfl))
theorem go_seq {a b : Code} : go P Q (.code (.seq a b) :: k) ⟨σ, H, e⟩ = go P Q (.code a :: .code b :: k) ⟨σ, H, e⟩ := propext goCode_seq
theorem go_block {id : Nat} {c : Code} : go P Q (.code (.block id c) :: k) ⟨σ, H, e⟩ = go P Q (.code c :: .inBlock id :: k) ⟨σ, H, e⟩ := propext goCode_block
theorem go_inBlock {id : Nat} : go P Q (.inBlock id :: k) ⟨σ, H, e⟩ = go P Q k ⟨σ, H, e⟩ := rfl
theorem go_exit {id : Nat} : go P Q (.code (.exit id) :: k) ⟨σ, H, e⟩ = leaveTo P Q id k ⟨σ, H, e⟩ := propext (goCode_at (fun _ => rfl))
theorem leaveTo_code {id : Nat} {c : Code} : leaveTo P Q id (.code c :: k) ⟨σ, H, e⟩ = leaveTo P Q id k ⟨σ, H, e⟩ := rfl
theorem leaveTo_this {id : Nat} : leaveTo P Q id (.inBlock id :: k) ⟨σ, H, e⟩ = go P Q k ⟨σ, H, e⟩ := by
  show (if id = id then _ else _) = _
  rw [if_pos rfl]; rfl
theorem leaveTo_other {id j : Nat} (h : id ≠ j) : leaveTo P Q id (.inBlock j :: k) ⟨σ, H, e⟩ = leaveTo P Q id k ⟨σ, H, e⟩ := by
  show (if id = j then _ else _) = _
  rw [if_neg h]; rfl
theorem contQ_ret : ∀ (k : List It) (s : St), contQ P Q k .ret s = Q .ret s
  | [], _ => rfl
  | .code _ :: k, s => contQ_ret k s
  | .inBlock _ :: k, s => contQ_ret k s
theorem go_ret : go P Q (.code .ret :: k) ⟨σ, H, e⟩ = Q .ret ⟨σ, H, e⟩ := by
  rw [← contQ_ret (P := P) (Q := Q) k]
  exact propext (goCode_at (fun _ => rfl))
theorem go_loop {c : Code} : go P Q (.code (.loop c) :: k) ⟨σ, H, e⟩ = go P Q (.code c :: .code (.loop c) :: k) ⟨σ, H, e⟩ := propext goCode_loop
theorem go_region {id : Nat} {ops : Array Oper} : go P Q (.code (.region id ops false) :: k) ⟨σ, H, e⟩ = goOps P ops.toList (fun s => go P Q k s) ops.toList ⟨σ, H, e⟩ := propext goCode_region
def goDr (P : Program) (ops : List Oper) (Q : Ex → St → Prop) (k : List It) : St → List Nat → Prop := fun s es => effOk P ops es = true ∧ go P Q k s
theorem go_draw {id : Nat} {ops : Array Oper} (hm : P.follows .mixedOrders = true) (hs : statOk ops.toList = true) : go P Q (.code (.region id ops true) :: k) ⟨σ, H, e⟩ = goD P ops.toList (goDr P ops.toList Q k) (order ops.toList) ⟨σ, H, e⟩ := propext (goCode_draw hm hs)

theorem go_true {c : Operand} {a b : Code} (h : evArg P σ c = some (.bool true)) : go P Q (.code (.cond c a b) :: k) ⟨σ, H, e⟩ = go P Q (.code a :: k) ⟨σ, H, e⟩ := by
  apply propext
  constructor
  · rintro ⟨n, ex, s', hs, hq⟩
    simp only [evCode, h] at hs
    exact ⟨n, ex, s', hs, hq⟩
  · rintro ⟨n, ex, s', hs, hq⟩
    exact ⟨n, ex, s', by simp only [evCode, h]; exact hs, hq⟩
theorem go_false {c : Operand} {a b : Code} (h : evArg P σ c = some (.bool false)) : go P Q (.code (.cond c a b) :: k) ⟨σ, H, e⟩ = go P Q (.code b :: k) ⟨σ, H, e⟩ := by
  apply propext
  constructor
  · rintro ⟨n, ex, s', hs, hq⟩
    simp only [evCode, h] at hs
    exact ⟨n, ex, s', hs, hq⟩
  · rintro ⟨n, ex, s', hs, hq⟩
    exact ⟨n, ex, s', by simp only [evCode, h]; exact hs, hq⟩
theorem go_split {c : Operand} {a b : Code} {t : Bool} (h : evArg P σ c = some (.bool t)) (h1 : t = true → go P Q (.code a :: k) ⟨σ, H, e⟩) (h2 : t = false → go P Q (.code b :: k) ⟨σ, H, e⟩) : go P Q (.code (.cond c a b) :: k) ⟨σ, H, e⟩ := by
  cases t with
  | true => rw [go_true h]; exact h1 rfl
  | false => rw [go_false h]; exact h2 rfl

/-- A loop by what holds at every round's head, and a number that every round lowers. -/
theorem go_while {c : Code} (I : Nat → St → Prop) (n : Nat) {s : St} (h0 : I n s) (round : ∀ n s, I n s → goCode P c (fun ex s' => match ex with | .normal => ∃ m, m < n ∧ I m s' | ex => contQ P Q k ex s') s) : go P Q (.code (.loop c) :: k) s := by
  induction n using Nat.strongRecOn generalizing s with
  | _ n ih =>
    show goCode P (.loop c) (contQ P Q k) s
    rw [goCode_loop]
    refine goCode_mono (round n s h0) (fun ex s' hq => ?_)
    cases ex with
    | normal =>
      obtain ⟨m, hm, hi⟩ := hq
      exact ih m hm hi
    | _ => exact hq

/-- A function's end. -/
def endF (P : Program) (fn : Func) (n : Nat) (k : AV × Hp × Ef → Prop) : Ex → St → Prop := fun ex s =>
  (ex = .normal ∨ ex = .ret) ∧ match evRes P s fn.results.toList with
    | some vs => k (leave n (pack vs) s.H s.ef)
    | none => False

theorem callK_body {f : FuncId} {fn : Func} {c : Code} {args : List AV} {H : Hp} {kk : AV × Hp × Ef → Prop} (hf : P.funcs[f]? = some fn) (hb : fn.body = some c) :
    callK P f args H kk = go P (endF P fn H.length kk) [.code c] ⟨args ++ List.replicate (fn.ntmps - args.length) undefA, H, z0⟩ := by
  apply propext
  constructor
  · rintro ⟨n, r, hr, hk⟩
    cases n with
    | zero => simp [evN] at hr
    | succ n =>
      simp only [evN, evFun, hf, hb] at hr
      split at hr
      · rename_i ex s hc
        split at hr
        · rename_i hex
          simp only [Option.map_eq_some_iff] at hr
          obtain ⟨vs, hvs, rfl⟩ := hr
          refine ⟨n + 1, ex, s, evCode_mono (evN_mono (Nat.le_succ n)) (Nat.le_refl _) hc, ?_⟩
          show endF P fn H.length kk ex s
          exact ⟨hex, by rw [hvs]; exact hk⟩
        · cases hr
      · cases hr
  · rintro ⟨n, ex, s, hc, hq⟩
    have hq' : endF P fn H.length kk ex s := by cases ex <;> exact hq
    obtain ⟨hex, hq2⟩ := hq'
    cases hvs : evRes P s fn.results.toList with
    | none => rw [hvs] at hq2; exact hq2.elim
    | some vs =>
      rw [hvs] at hq2
      refine ⟨n + 1, _, ?_, hq2⟩
      simp only [evN, evFun, hf, hb, evCode_mono (fun _ _ _ _ h => h) (Nat.le_succ n) hc, if_pos hex, hvs, Option.map_some]

/-! ### ranges over functions -/
def rngK (P : Program) (Q : Ex → St → Prop) (k : List It) (σ : List AV) (n : Nat) (e : Ef) : AV × Hp × Ef → Prop := fun r =>
  match asEnd (r.2.1[n]?) with
  | some ex => contQ P Q k ex ⟨σ, r.2.1.set n .dead, e.and (r.2.2.and ⟨none, some n⟩)⟩
  | none => False
theorem go_range {f : Operand} {ps : Array Tmp} {as bd : Code} {v : AV} {x : FuncId × List AV × List AV} (hf : evArg P σ f = some v) (hv : asFun v = some x) (hb : hasBody P x.1 = true) :
    go P Q (.code (.rangeFunc f ps as bd) :: k) ⟨σ, H, e⟩ = callK P x.1 (x.2.1 ++ [.yld H.length] ++ x.2.2) (H ++ [.loop σ ps.toList as bd .ready]) (rngK P Q k σ H.length e) := by
  apply propext
  constructor
  · rintro ⟨n, ex, s', hc, hq⟩
    simp only [evCode, evRange_eq, hf, hv, Option.bind_some, hb, if_true, Option.bind_eq_some_iff, Option.map_eq_some_iff, Prod.mk.injEq] at hc
    obtain ⟨r, hr, ex', hex, rfl, rfl⟩ := hc
    refine ⟨n, r, hr, ?_⟩
    unfold rngK
    rw [hex]
    exact hq
  · rintro ⟨n, r, hr, hq⟩
    unfold rngK at hq
    cases hex : asEnd (r.2.1[H.length]?) with
    | none => rw [hex] at hq; exact hq.elim
    | some ex =>
      rw [hex] at hq
      refine ⟨n, ex, _, ?_, hq⟩
      simp only [evCode, evRange_eq, hf, hv, Option.bind_some, hb, if_true, Option.bind_eq_some_iff, Option.map_eq_some_iff, Prod.mk.injEq]
      exact ⟨r, hr, ex, hex, rfl, rfl⟩

structure Lp where
  σ : List AV
  ps : List Tmp
  as : Code
  bd : Code
def asReady : Option ABlk → Option Lp
  | some (.loop σ ps as bd .ready) => some ⟨σ, ps, as, bd⟩
  | _ => none
def asBusy : Option ABlk → Option Lp
  | some (.loop σ ps as bd .busy) => some ⟨σ, ps, as, bd⟩
  | _ => none
/-- A round's end. -/
def reQ (b n : Nat) (k : AV × Hp × Ef → Prop) : Ex → St → Prop := fun ex s =>
  match asBusy (s.H[b]?) with
  | some L => k (leave n (.bool (decide (ex = .normal))) (s.H.set b (.loop L.σ L.ps L.as L.bd (if ex = .normal then .ready else .done ex))) (s.ef.and ⟨none, some b⟩))
  | none => False
/-- Behind a round's assignment. -/
def rdQ (P : Program) (b n : Nat) (bd : Code) (k : AV × Hp × Ef → Prop) : Ex → St → Prop := fun ex s =>
  ex = .normal ∧ match asReady (s.H[b]?) with
  | some L => go P (reQ b n k) [.code bd] ⟨s.σ, s.H.set b (.loop L.σ L.ps L.as L.bd .busy), s.ef.and ⟨none, some b⟩⟩
  | none => False

/-- A yield's call: a round. -/
theorem callK_yl {b : Nat} {args σ : List AV} {ps : List Tmp} {as bd : Code} {H : Hp} {kk : AV × Hp × Ef → Prop} (hb : H[b]? = some (.loop σ ps as bd .ready)) (hl : args.length = ps.length) (hn : noRange as = true) :
    callK P (P.funcs.size + b) args H kk = go P (rdQ P b H.length bd kk) [.code as] ⟨putAll σ ps args, H, z0⟩ := by
  have hf : P.funcs[P.funcs.size + b]? = none := by simp
  have hev : ∀ n, evN P (n + 1) (P.funcs.size + b) args H = evRound P (evN P n) (n + 1) b args H := by
    intro n
    simp only [evN, evFun]
    rw [hf]
    simp only [Nat.add_sub_cancel_left]
  apply propext
  constructor
  · rintro ⟨n, r, hr, hk⟩
    cases n with
    | zero => simp [evN] at hr
    | succ n =>
      rw [hev] at hr
      unfold evRound at hr
      rw [hb] at hr
      simp only [hl, hn, and_self, if_true] at hr
      split at hr
      · rename_i s1 h1
        split at hr
        · rename_i σ' ps' as' bd' hb1
          split at hr
          · rename_i e s2 h2
            split at hr
            · rename_i σ2 ps2 as2 bd2 hb2
              cases hr
              refine ⟨n + 1, .normal, s1, evCode_mono (evN_mono (Nat.le_succ n)) (Nat.le_refl _) h1, ?_⟩
              show rdQ P b H.length bd kk .normal s1
              refine ⟨rfl, ?_⟩
              rw [hb1]
              refine ⟨n + 1, e, s2, evCode_mono (evN_mono (Nat.le_succ n)) (Nat.le_refl _) h2, ?_⟩
              have : reQ b H.length kk e s2 := by
                unfold reQ
                rw [hb2]
                exact hk
              cases e <;> exact this
            · cases hr
          · cases hr
        · cases hr
      · cases hr
  · rintro ⟨n, ex, s1, h1, hq⟩
    have hq' : rdQ P b H.length bd kk ex s1 := by cases ex <;> exact hq
    obtain ⟨rfl, hq'⟩ := hq'
    cases hb1 : s1.H[b]? with
    | none => rw [hb1] at hq'; exact hq'.elim
    | some x =>
      rw [hb1] at hq'
      cases hx : asReady (some x) with
      | none => rw [hx] at hq'; exact hq'.elim
      | some L =>
        have hL : x = .loop L.σ L.ps L.as L.bd .ready := by
          unfold asReady at hx
          split at hx
          · rename_i heq; cases heq; cases hx; rfl
          · cases hx
        subst hL
        rw [hx] at hq'
        obtain ⟨m, e, s2, h2, hk⟩ := hq'
        have hk' : reQ b H.length kk e s2 := by cases e <;> exact hk
        unfold reQ at hk'
        cases hb2 : s2.H[b]? with
        | none => rw [hb2] at hk'; exact hk'.elim
        | some y =>
          rw [hb2] at hk'
          cases hy : asBusy (some y) with
          | none => rw [hy] at hk'; exact hk'.elim
          | some M =>
            have hM : y = .loop M.σ M.ps M.as M.bd .busy := by
              unfold asBusy at hy
              split at hy
              · rename_i heq; cases heq; cases hy; rfl
              · cases hy
            subst hM
            rw [hy] at hk'
            refine ⟨max n m + 1, _, ?_, hk'⟩
            rw [hev]
            unfold evRound
            rw [hb]
            simp only [hl, hn, and_self, if_true]
            rw [evCode_mono (evN_mono (Nat.le_max_left n m)) (Nat.le_succ_of_le (Nat.le_max_left n m)) h1]
            simp only [hb1]
            rw [evCode_mono (evN_mono (Nat.le_max_right n m)) (Nat.le_succ_of_le (Nat.le_max_right n m)) h2]
            simp only [hb2]
end
end Go.Proofs.YtgkpgpdkolpfkaaDoor.V
