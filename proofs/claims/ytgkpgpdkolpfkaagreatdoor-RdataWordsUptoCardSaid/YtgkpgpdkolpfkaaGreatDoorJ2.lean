/- Joined by mkclaim.py: VGo VSim VPan. No conditions. -/
import Derived.Test.YtgkpgpdkolpfkaaGreatDoorJ1
import Derived.KernelRfl
import Derived.Laws.RangeString
set_option linter.unusedSimpArgs false
set_option linter.unusedVariables false
namespace Go.Proofs.YtgkpgpdkolpfkaaGreatDoor.V
open Go

def CLe (C C' : CallO) : Prop := ∀ f a H r, C f a H = some r → C' f a H = some r

section
variable {P : Program} {C C' : CallO}

theorem evCall_mono (h : CLe C C') {σ : List AV} {H : Hp} {c : Call} {r : AV × Hp × Ef} (hr : evCall P C σ H c = some r) : evCall P C' σ H c = some r := by
  unfold evCall at hr ⊢
  split at hr
  · simp only [Option.bind_eq_some_iff] at hr ⊢
    obtain ⟨f, hf, az, has, hr⟩ := hr
    refine ⟨f, hf, az, has, ?_⟩
    split at hr
    · split at hr
      · rename_i hb; simp only [hb, if_true]; exact h _ _ _ _ hr
      · rename_i hb; rw [if_neg hb]; exact hr
    · exact h _ _ _ _ hr
    · cases hr
  · exact hr
  · exact hr

theorem evOp_mono (h : CLe C C') {σ : List AV} {H : Hp} {op : Op} {r : AV × Hp × Ef} (hr : evOp P C σ H op = some r) : evOp P C' σ H op = some r := by
  cases op
  case call c => exact evCall_mono h hr
  case makeMap t x => cases x <;> exact hr
  case next it b => cases b <;> exact hr
  case typeAssert x xt t ok => cases ok <;> exact hr
  all_goals exact hr

theorem evOps_mono (h : CLe C C') {ops : List Oper} : ∀ {l : List Oper} {s s' : St}, evOps P C ops l s = some s' → evOps P C' ops l s = some s'
  | [], _, _, hr => hr
  | o :: l, s, s', hr => by
    simp only [evOps] at hr ⊢
    split at hr
    · rename_i hw
      simp only [hw, if_true]
      simp only [Option.bind_eq_some_iff] at hr ⊢
      obtain ⟨q, hq, hr⟩ := hr
      exact ⟨q, evOp_mono h hq, evOps_mono h hr⟩
    · rename_i hw
      simp only [hw, if_false, Bool.false_eq_true]
      exact evOps_mono h hr

theorem evD_mono (h : CLe C C') {ops : List Oper} : ∀ {l : List (Nat × Oper)} {s : St} {q : St × List Nat}, evD P C ops l s = some q → evD P C' ops l s = some q
  | [], _, _, hr => hr
  | (i, o) :: l, s, q, hr => by
    simp only [evD] at hr ⊢
    split at hr
    · rename_i hw
      simp only [hw, if_true]
      simp only [Option.bind_eq_some_iff, Option.map_eq_some_iff] at hr ⊢
      obtain ⟨r, hr1, q1, hq1, hr⟩ := hr
      exact ⟨r, evOp_mono h hr1, q1, evD_mono h hq1, hr⟩
    · rename_i hw
      simp only [hw, if_false, Bool.false_eq_true]
      exact evD_mono h hr

theorem evRegion_mono (h : CLe C C') {ops : List Oper} {d : Bool} {s s' : St} (hr : evRegion P C ops d s = some s') : evRegion P C' ops d s = some s' := by
  unfold evRegion at hr ⊢
  cases d with
  | false => exact evOps_mono h hr
  | true =>
    simp only [if_true] at hr ⊢
    split at hr
    · rename_i hm
      simp only [hm, if_true]
      unfold evDraw at hr ⊢
      simp only [Option.bind_eq_some_iff] at hr ⊢
      obtain ⟨q, hq, hr⟩ := hr
      exact ⟨q, evD_mono h hq, hr⟩
    · cases hr

def Excl (C' C : CallO) : Prop := ∀ f a H r, C' f a H = some r → C f a H = none

theorem evPanOp_mono (h : CLe C C') {σ : List AV} {H : Hp} {op : Op} {r : AV × Hp × Ef} (hr : evPanOp P C σ H op = some r) : evPanOp P C' σ H op = some r := by
  unfold evPanOp at hr ⊢
  split at hr
  · exact hr
  · split at hr
    · simp only [Option.bind_eq_some_iff] at hr ⊢
      obtain ⟨f, hf, az, has, hr⟩ := hr
      refine ⟨f, hf, az, has, ?_⟩
      split at hr
      · split at hr
        · rename_i hb; simp only [hb, if_true]; exact h _ _ _ _ hr
        · cases hr
      · cases hr
    · cases hr
  · cases hr

theorem evPanOp_none (hx : Excl C' C) {σ : List AV} {H : Hp} {op : Op} {r : AV × Hp × Ef} (hr : evPanOp P C' σ H op = some r) : evOp P C σ H op = none := by
  unfold evPanOp at hr
  split at hr
  · rfl
  · rename_i c
    split at hr
    · rename_i f hf
      simp only [Option.bind_eq_some_iff] at hr
      obtain ⟨fv, hfv, az, has, hr⟩ := hr
      split at hr
      · split at hr
        · rename_i hb
          simp only [evOp, evCall, hf, hfv, has, Option.bind_some, hb, if_true]
          exact hx _ _ _ _ hr
        · cases hr
      · cases hr
    · cases hr
  · cases hr

variable {D D' : CallO}
theorem evOpsP_mono (h : CLe C D) (h' : CLe C' D') (hx : Excl D' D) {ops : List Oper} : ∀ {l : List Oper} {s s' : St}, evOpsP P C C' ops l s = some s' → evOpsP P D D' ops l s = some s'
  | [], _, _, hr => hr
  | o :: l, s, s', hr => by
    simp only [evOpsP] at hr ⊢
    split at hr
    · rename_i hw
      rw [if_pos hw]
      split at hr
      · rename_i r h1
        rw [evPanOp_mono h' h1]
        exact hr
      · simp only [Option.bind_eq_some_iff] at hr
        obtain ⟨q, hq, hr⟩ := hr
        have h2 := evOp_mono h hq
        have h3 : evPanOp P D' s.σ s.H o.op = none := by
          cases hp : evPanOp P D' s.σ s.H o.op with
          | none => rfl
          | some r => rw [evPanOp_none hx hp] at h2; cases h2
        rw [h3]
        simp only [Option.bind_eq_some_iff]
        exact ⟨q, h2, evOpsP_mono h h' hx hr⟩
    · rename_i hw
      rw [if_neg hw]
      exact evOpsP_mono h h' hx hr

theorem evOpsP_none (hx : Excl C' C) {ops : List Oper} : ∀ {l : List Oper} {s s' : St}, evOpsP P C C' ops l s = some s' → evOps P C ops l s = none
  | [], _, _, hr => by simp [evOpsP] at hr
  | o :: l, s, s', hr => by
    simp only [evOpsP] at hr
    simp only [evOps]
    split at hr
    · rename_i hw
      rw [if_pos hw]
      split at hr
      · rename_i r h1
        rw [evPanOp_none hx h1]
        rfl
      · simp only [Option.bind_eq_some_iff] at hr
        obtain ⟨q, hq, hr⟩ := hr
        rw [hq, Option.bind_some]
        exact evOpsP_none hx hr
    · rename_i hw
      rw [if_neg hw]
      exact evOpsP_none hx hr

theorem evReg_mono (h : CLe C D) (h' : CLe C' D') (hx : Excl D' D) {ops : List Oper} {d : Bool} {s : St} {r : Ex × St} (hr : evReg P C C' ops d s = some r) : evReg P D D' ops d s = some r := by
  unfold evReg at hr ⊢
  split at hr
  · rename_i s1 h1
    rw [evRegion_mono h h1]
    exact hr
  · split at hr
    · cases hr
    · rename_i hd
      simp only [Option.map_eq_some_iff] at hr
      obtain ⟨s1, h1, rfl⟩ := hr
      have h2 := evOpsP_mono h h' hx h1
      have hd' : d = false := by simpa using hd
      subst hd'
      have h3 : evRegion P D ops false s = none := evOpsP_none hx h2
      rw [h3]
      simp only [Bool.false_eq_true, if_false, h2, Option.map_some]

theorem iter_mono {f f' : St → Rc} (h : ∀ s r, f s = some r → f' s = some r) : ∀ {n n' : Nat} {s : St} {r : Ex × St}, n ≤ n' → iter f n s = some r → iter f' n' s = some r
  | 0, _, _, _, _, hr => by simp [iter] at hr
  | n + 1, 0, _, _, hn, _ => by omega
  | n + 1, n' + 1, s, r, hn, hr => by
    simp only [iter] at hr ⊢
    split at hr
    · rename_i s1 h1
      rw [h _ _ h1]
      exact iter_mono h (by omega) hr
    · rename_i hne
      rw [h _ _ hr]
      obtain ⟨ex, s'⟩ := r
      cases ex <;> first | (exact (hne _ hr).elim) | rfl

def asFun : AV → Option (FuncId × List AV × List AV)
  | .func (.func g) a b => some (g, a, b)
  | _ => none
def asEnd : Option ABlk → Option Ex
  | some (.loop _ _ _ _ .ready) => some .normal
  | some (.loop _ _ _ _ (.done e)) => if e = .pan then none else some e
  | _ => none
theorem evRange_eq {C : CallO} {f : Operand} {ps : List Tmp} {az bd : Code} {s : St} : evRange P C f ps az bd s = (evArg P s.σ f).bind fun v => (asFun v).bind fun x =>
    if hasBody P x.1 = true then (C x.1 (x.2.1 ++ [.yld s.H.length] ++ x.2.2) (s.H ++ [.loop s.σ ps az bd .ready])).bind fun r => (asEnd (r.2.1[s.H.length]?)).map fun ex => (ex, ⟨s.σ, r.2.1.set s.H.length .dead, s.ef.and (r.2.2.and ⟨none, some s.H.length⟩)⟩) else none := by
  unfold evRange
  cases hv : evArg P s.σ f with
  | none => rfl
  | some v =>
    simp only [Option.bind_some]
    unfold asFun
    split
    · rename_i g a b hh
      cases hh
      simp only [Option.bind_some]
      split
      · congr 1
        funext r
        generalize r.2.1[s.H.length]? = y
        cases y with
        | none => rfl
        | some x =>
          cases x <;> try rfl
          rename_i md
          cases md <;> try rfl
          rename_i e
          cases e <;> rfl
      · rfl
    · rename_i hne
      split
      · rename_i g a b; exact absurd rfl (hne g a b)
      · rfl
theorem evCode_mono (h : CLe C D) (h' : CLe C' D') (hx : Excl D' D) {n n' : Nat} (hn : n ≤ n') : ∀ {c : Code} {s : St} {r : Ex × St}, evCode P C C' n c s = some r → evCode P D D' n' c s = some r := by
  intro c
  induction c with
  | skip => intro s r hr; exact hr
  | region id ops d =>
    intro s r hr
    simp only [evCode] at hr ⊢
    exact evReg_mono h h' hx hr
  | seq x y ihx ihy =>
    intro s r hr
    simp only [evCode] at hr ⊢
    split at hr
    · rename_i s1 h1
      rw [ihx h1]
      exact ihy hr
    · rename_i hne
      rw [ihx hr]
      obtain ⟨ex, s'⟩ := r
      cases ex <;> first | (exact (hne _ hr).elim) | rfl
  | cond c x y ihx ihy =>
    intro s r hr
    simp only [evCode] at hr ⊢
    split at hr
    · exact ihx hr
    · exact ihy hr
    · cases hr
  | block id c ih =>
    intro s r hr
    simp only [evCode] at hr ⊢
    split at hr
    · rename_i i s1 h1
      rw [ih h1]
      exact hr
    · rename_i hne
      rw [ih hr]
      obtain ⟨ex, s'⟩ := r
      cases ex <;> first | (exact (hne _ _ hr).elim) | rfl
  | loop c ih =>
    intro s r hr
    simp only [evCode] at hr ⊢
    exact iter_mono (fun s r => ih) hn hr
  | rangeFunc f ps az bd ih1 ih2 =>
    intro s r hr
    simp only [evCode] at hr ⊢
    rw [evRange_eq] at hr ⊢
    simp only [Option.bind_eq_some_iff] at hr ⊢
    obtain ⟨v, hv, x, hx, hr⟩ := hr
    refine ⟨v, hv, x, hx, ?_⟩
    split at hr
    · rename_i hb
      rw [if_pos hb]
      simp only [Option.bind_eq_some_iff] at hr ⊢
      obtain ⟨q, hq, hr⟩ := hr
      exact ⟨q, h _ _ _ _ hq, hr⟩
    · cases hr
  | _ => intro s r hr; exact hr

theorem evRound_mono (h : CLe C D) (h' : CLe C' D') (hx : Excl D' D) {n n' : Nat} (hn : n ≤ n') {b : Nat} {args : List AV} {H : Hp} {r : AV × Hp × Ef} (hr : evRound P C C' n b args H = some r) : evRound P D D' n' b args H = some r := by
  unfold evRound at hr ⊢
  split at hr
  · rename_i σ ps az bd hb
    split at hr
    · rename_i hl
      rw [if_pos hl]
      split at hr
      · rename_i s1 h1
        rw [evCode_mono h h' hx hn h1]
        split at hr
        · rename_i σ' ps' as' bd' hb1
          show (match s1.H[b]? with | some (.loop σ' ps' as' bd' .ready) => _ | _ => none) = _
          rw [hb1]
          split at hr
          · rename_i e s2 h2
            show (match evCode P D D' n' bd ⟨s1.σ, s1.H.set b (.loop σ' ps' as' bd' .busy), s1.ef.and ⟨none, some b⟩⟩ with | some (e, s2) => _ | none => none) = _
            rw [evCode_mono h h' hx hn h2]
            exact hr
          · cases hr
        · cases hr
      · cases hr
    · cases hr
  · cases hr

theorem evSeqs_mono (h : CLe C D) (h' : CLe C' D') (hx : Excl D' D) {n n' : Nat} (hn : n ≤ n') : ∀ {l : List Code} {s : St} {r : Ex × St}, evSeqs P C C' n l s = some r → evSeqs P D D' n' l s = some r
  | [], s, r, hr => hr
  | c :: l, s, r, hr => by
    simp only [evSeqs] at hr ⊢
    split at hr
    · rename_i s1 h1
      rw [evCode_mono h h' hx hn h1]
      exact evSeqs_mono h h' hx hn hr
    · rename_i hne
      rw [evCode_mono h h' hx hn hr]
      obtain ⟨ex, s'⟩ := r
      cases ex <;> first | (exact (hne _ hr).elim) | rfl

theorem evDef_mono (h : CLe C D) (h' : CLe C' D') (hx : Excl D' D) {n n' : Nat} (hn : n ≤ n') {d : Dc} {u : Option AV} {H : Hp} {r : Hp × Ef} (hr : evDef P C C' n d u H = some r) : evDef P D D' n' d u H = some r := by
  unfold evDef at hr ⊢
  split at hr
  · rename_i gg first captured hd
    split at hr
    · rename_i fn hfn
      split at hr
      · cases hr
      rename_i hnm
      split at hr
      · rename_i c hb
        split at hr
        · rename_i o l b hc
          split at hr
          · rename_i hrs
            simp only [Option.bind_eq_some_iff] at hr
            obtain ⟨s1, h1, hr⟩ := hr
            split at hr
            · rename_i ex s2 h2
              simp only [hd, hfn, hnm, hb, hc, hrs, if_true, Bool.false_eq_true, if_false, evOps_mono h h1, Option.bind_some, evCode_mono h h' hx hn h2]
              exact hr
            · cases hr
          · cases hr
        · cases hr
      · cases hr
    · cases hr
  · cases hr

theorem evTail_mono (h : CLe C D) (h' : CLe C' D') (hx : Excl D' D) {n n' : Nat} (hn : n ≤ n') {fn : Func} {m : Nat} {d : Dc} {b : Code} {s : St} {r : AV × Hp × Ef} (hr : evTail P C C' n fn m d b s = some r) : evTail P D D' n' fn m d b s = some r := by
  unfold evTail at hr ⊢
  split at hr
  · rename_i s2 h2
    rw [evCode_mono h h' hx hn h2]
    split at hr
    · rename_i v σ hσ
      simp only [hσ, Option.bind_eq_some_iff] at hr ⊢
      obtain ⟨q, hq, hr⟩ := hr
      exact ⟨q, evDef_mono h h' hx hn hq, hr⟩
    · cases hr
  · rename_i ex s2 hne h2
    rw [evCode_mono h h' hx hn h2]
    split at hr
    · rename_i hex
      simp only [Option.bind_eq_some_iff] at hr
      obtain ⟨q, hq, hr⟩ := hr
      cases ex <;> first
        | (rcases hex with hh | hh <;> cases hh; done)
        | (simp only [true_or, or_true, if_true, Option.bind_eq_some_iff]; exact ⟨q, evDef_mono h h' hx hn hq, hr⟩)
    · cases hr
  · cases hr

theorem evBody_mono (h : CLe C D) (h' : CLe C' D') (hx : Excl D' D) {n n' : Nat} (hn : n ≤ n') {fn : Func} {c : Code} {s : St} {t : Bool} {r : AV × Hp × Ef} (hr : evBody P C C' n fn c s = (t, some r)) : evBody P D D' n' fn c s = (t, some r) := by
  unfold evBody at hr ⊢
  split at hr
  · rename_i hcut
    cases hev : evCode P C C' n c s with
    | none => rw [hev] at hr; simp [evEnd] at hr
    | some q =>
      rw [hev] at hr
      rw [evCode_mono h h' hx hn hev]
      exact hr
  · rename_i l o b hcut
    split at hr
    · rename_i s1 hs1
      simp only [evSeqs_mono h h' hx hn hs1]
      split at hr
      · rename_i k hop
        split at hr
        · rename_i f hcal
          simp only [hop, hcal, Prod.mk.injEq, Option.bind_eq_some_iff] at hr ⊢
          obtain ⟨ht, fv, hf, az, ha, hr⟩ := hr
          exact ⟨ht, fv, hf, az, ha, evTail_mono h h' hx hn hr⟩
        · simp at hr
      · simp at hr
    · rename_i q hne
      cases hev : evSeqs P C C' n l s with
      | none => rw [hev] at hr; simp [evEnd] at hr
      | some q0 =>
        rw [hev] at hr
        simp only [evSeqs_mono h h' hx hn hev]
        obtain ⟨ex, s'⟩ := q0
        cases ex <;> first | (exact (hne _ hev).elim) | exact hr

theorem evFun_mono (h : CLe C D) (h' : CLe C' D') (hx : Excl D' D) {n n' : Nat} (hn : n ≤ n') (pan : Bool) : CLe (evFun P C C' n pan) (evFun P D D' n' pan) := by
  intro f a H r hr
  unfold evFun at hr ⊢
  split at hr
  · rename_i fn hfn
    split at hr
    · rename_i c hc
      split at hr
      rename_i t q hq
      split at hr
      · cases hr
      · rename_i ht
        subst hr
        simp only [hfn, hc, evBody_mono h h' hx hn hq, if_neg ht]
    · cases hr
  · split at hr
    · cases hr
    · rename_i hp
      simp only [if_neg hp]
      exact evRound_mono h h' hx hn hr

theorem evFun_excl (C C' : CallO) (n : Nat) : Excl (evFun P C C' n true) (evFun P C C' n false) := by
  intro f a H r hr
  unfold evFun at hr ⊢
  split at hr
  · rename_i fn hfn
    split at hr
    · rename_i c hc
      split at hr
      rename_i t q hq
      split at hr
      · cases hr
      · rename_i ht
        have : t = false := by simpa using ht
        subst this
        simp only [hfn, hc, hq, if_true]
    · cases hr
  · simp at hr

theorem evN_excl : ∀ n, Excl (evNP P n) (evN P n)
  | 0 => fun f a H r h => rfl
  | n + 1 => evFun_excl _ _ _
theorem evNN_succ : ∀ n, CLe (evN P n) (evN P (n + 1)) ∧ CLe (evNP P n) (evNP P (n + 1))
  | 0 => ⟨fun f a H r h => by simp [evN, evNN] at h, fun f a H r h => by simp [evNP, evNN] at h⟩
  | n + 1 => ⟨evFun_mono (evNN_succ n).1 (evNN_succ n).2 (evN_excl (n + 1)) (Nat.le_succ _) _, evFun_mono (evNN_succ n).1 (evNN_succ n).2 (evN_excl (n + 1)) (Nat.le_succ _) _⟩
theorem evNN_mono {n m : Nat} (h : n ≤ m) : CLe (evN P n) (evN P m) ∧ CLe (evNP P n) (evNP P m) := by
  induction m with
  | zero => have : n = 0 := by omega
            subst this; exact ⟨fun _ _ _ _ h => h, fun _ _ _ _ h => h⟩
  | succ m ih =>
    by_cases hm : n ≤ m
    · exact ⟨fun f a H r hr => (evNN_succ m).1 f a H r ((ih hm).1 f a H r hr), fun f a H r hr => (evNN_succ m).2 f a H r ((ih hm).2 f a H r hr)⟩
    · have : n = m + 1 := by omega
      subst this; exact ⟨fun _ _ _ _ h => h, fun _ _ _ _ h => h⟩
theorem evN_mono {n m : Nat} (h : n ≤ m) : CLe (evN P n) (evN P m) := (evNN_mono h).1
theorem evNP_mono {n m : Nat} (h : n ≤ m) : CLe (evNP P n) (evNP P m) := (evNN_mono h).2
theorem ev_up {n m : Nat} (h : n ≤ m) {c : Code} {s : St} {r : Ex × St} (hr : evCode P (evN P n) (evNP P n) n c s = some r) : evCode P (evN P m) (evNP P m) m c s = some r :=
  evCode_mono (evN_mono h) (evNP_mono h) (evN_excl m) h hr
theorem evNP_not {n m : Nat} {f : FuncId} {a : List AV} {H : Hp} {r q : AV × Hp × Ef} (h : evNP P n f a H = some r) (k : evN P m f a H = some q) : False := by
  have h1 := evNP_mono (Nat.le_max_left n m) _ _ _ _ h
  have h2 := evN_mono (Nat.le_max_right n m) _ _ _ _ k
  rw [evN_excl _ _ _ _ _ h1] at h2
  cases h2
end

structure Ph {α : Type} (a : α) : Type where
  mk ::

section
variable (P : Program)

def callK (f : FuncId) (args : List AV) (H : Hp) (k : AV × Hp × Ef → Prop) (_ : Ph k := ⟨⟩) : Prop := ∃ n r, evN P n f args H = some r ∧ k r

def goOps (ops : List Oper) (K : St → Prop) (l : List Oper) (s : St) (_ : Ph (ops, K, l) := ⟨⟩) : Prop := ∃ n s', evOps P (evN P n) ops l s = some s' ∧ K s'
def goD (ops : List Oper) (K : St → List Nat → Prop) (l : List (Nat × Oper)) (s : St) (_ : Ph (ops, K, l) := ⟨⟩) : Prop := ∃ n s' es, evD P (evN P n) ops l s = some (s', es) ∧ K s' es
def goCode (c : Code) (Q : Ex → St → Prop) (s : St) : Prop := ∃ n ex s', evCode P (evN P n) (evNP P n) n c s = some (ex, s') ∧ Q ex s'

def stepK (r : Rs) (k : AV × Hp × Ef → Prop) (_ : Ph k := ⟨⟩) : Prop :=
  match r with
  | some r => k r
  | none => False

def noC : CallO := fun _ _ _ => none
def nextK (ops : List Oper) (K : St → Prop) (l : List Oper) (σ : List AV) (e : Ef) (dst : Option Tmp) : AV × Hp × Ef → Prop := fun r => goOps P ops K l ⟨put σ dst r.1, r.2.1, e.and r.2.2⟩
def nextD (ops : List Oper) (K : St → List Nat → Prop) (l : List (Nat × Oper)) (σ : List AV) (H : Hp) (e : Ef) (i : Nat) (o : Oper) : AV × Hp × Ef → Prop :=
  fun r => goD P ops (fun s es => K s (if isFree o || quiet r H then es else tg i r.2.2 :: es)) l ⟨put σ o.dst r.1, r.2.1, e.and r.2.2⟩

inductive Tg where
  | fn (g : FuncId) (az : List AV)
  | yl (b : Nat) (az : List AV)
def target (σ : List AV) (f : Operand) (args : List Operand) : Option Tg :=
  (evArg P σ f).bind fun f => (evArgs P σ args).bind fun az =>
    match f with
    | .func (.func g) first captured => some (.fn g (first ++ az ++ captured))
    | .yld b => some (.yl b az)
    | _ => none
def callX (g : FuncId) (az : List AV) (H : Hp) (k : AV × Hp × Ef → Prop) (_ : Ph k := ⟨⟩) : Prop :=
  if hasBody P g = true then callK P g az H k else stepK (evX P g az H) k
def callT (t : Option Tg) (H : Hp) (k : AV × Hp × Ef → Prop) (_ : Ph k := ⟨⟩) : Prop :=
  match t with
  | some (.fn g az) => callX P g az H k
  | some (.yl b az) => callK P (P.funcs.size + b) az H k
  | none => False

def opK (σ : List AV) (H : Hp) (op : Op) (k : AV × Hp × Ef → Prop) (_ : Ph (op, k) := ⟨⟩) : Prop :=
  match op with
  | .call c => match c.callee with
    | .value f => callT P (target P σ f c.args.toList) H k
    | _ => stepK (evOp P noC σ H op) k
  | _ => stepK (evOp P noC σ H op) k
end

section
variable {P : Program}

theorem opK_iff {σ : List AV} {H : Hp} {op : Op} {k : AV × Hp × Ef → Prop} : opK P σ H op k ↔ ∃ n r, evOp P (evN P n) σ H op = some r ∧ k r := by
  have key : ∀ op : Op, (∀ c, op = .call c → ∀ f, c.callee ≠ .value f) → (stepK (evOp P noC σ H op) k ↔ ∃ n r, evOp P (evN P n) σ H op = some r ∧ k r) := by
    intro op hop
    have same : ∀ n, evOp P (evN P n) σ H op = evOp P noC σ H op := by
      intro n
      cases op
      case call c =>
        show evCall P (evN P n) σ H c = evCall P noC σ H c
        unfold evCall
        split
        · rename_i f hf; exact absurd hf (hop c rfl f)
        · rfl
        · rfl
      case makeMap t x => cases x <;> rfl
      case next it b => cases b <;> rfl
      case typeAssert x xt t ok => cases ok <;> rfl
      all_goals rfl
    constructor
    · intro h
      unfold stepK at h
      split at h
      · rename_i r hr; exact ⟨0, r, by rw [same]; exact hr, h⟩
      · exact h.elim
    · rintro ⟨n, r, hr, hk⟩
      rw [same] at hr
      rw [hr]; exact hk
  unfold opK
  split
  · rename_i c
    split
    · rename_i f hf
      simp only [evOp, evCall, hf]
      unfold callT target
      constructor
      · intro h
        split at h
        · rename_i g az ht
          simp only [Option.bind_eq_some_iff] at ht
          obtain ⟨fv, hfv, av, hav, ht⟩ := ht
          unfold callX at h
          split at ht
          · simp only [Option.some.injEq, Tg.fn.injEq] at ht
            obtain ⟨rfl, rfl⟩ := ht
            split at h
            · rename_i hb
              obtain ⟨n, r, hn, hk⟩ := h
              refine ⟨n, r, ?_, hk⟩
              rw [hfv, hav]
              simp only [Option.bind_some, hb, if_true]
              exact hn
            · rename_i hb
              unfold stepK at h
              split at h
              · rename_i r hr
                refine ⟨0, r, ?_, h⟩
                rw [hfv, hav]
                simp only [Option.bind_some]
                rw [if_neg hb]
                exact hr
              · exact h.elim
          · cases ht
          · cases ht
        · rename_i b az ht
          simp only [Option.bind_eq_some_iff] at ht
          obtain ⟨fv, hfv, av, hav, ht⟩ := ht
          split at ht
          · cases ht
          · simp only [Option.some.injEq, Tg.yl.injEq] at ht
            obtain ⟨rfl, rfl⟩ := ht
            obtain ⟨n, r, hn, hk⟩ := h
            refine ⟨n, r, ?_, hk⟩
            rw [hfv, hav]
            simp only [Option.bind_some]
            exact hn
          · cases ht
        · exact h.elim
      · rintro ⟨n, r, hr, hk⟩
        simp only [Option.bind_eq_some_iff] at hr
        obtain ⟨fv, hfv, av, hav, hr⟩ := hr
        rw [hfv, hav]
        simp only [Option.bind_some]
        split at hr
        · show callX P _ _ H k
          unfold callX
          split at hr
          · rename_i hb
            rw [if_pos hb]
            exact ⟨n, r, hr, hk⟩
          · rename_i hb
            rw [if_neg hb, hr]
            exact hk
        · exact ⟨n, r, hr, hk⟩
        · cases hr
    · rename_i hne
      refine key _ (fun c' hc f hf => ?_)
      cases hc
      exact hne f hf
  · rename_i hne
    exact key _ (fun c hc => by subst hc; first | exact (hne _ _ rfl HEq.rfl).elim | exact (hne _ ⟨⟩ rfl HEq.rfl).elim | exact (hne _ rfl).elim)

theorem callK_iff_of {f : FuncId} {args : List AV} {H : Hp} {n : Nat} {r : AV × Hp × Ef} (h : evN P n f args H = some r) {k : AV × Hp × Ef → Prop} : callK P f args H k ↔ k r := by
  constructor
  · rintro ⟨m, q, hq, hk⟩
    have h1 := evN_mono (P := P) (Nat.le_max_left n m) _ _ _ _ h
    have h2 := evN_mono (P := P) (Nat.le_max_right n m) _ _ _ _ hq
    rw [h1] at h2
    cases h2
    exact hk
  · intro hk; exact ⟨n, r, h, hk⟩

theorem callK_eq {f : FuncId} {args : List AV} {H : Hp} {r : AV × Hp × Ef} (h : callK P f args H (fun q => q = r)) (k : AV × Hp × Ef → Prop) : callK P f args H k = k r := by
  obtain ⟨n, q, hq, rfl⟩ := h
  exact propext (callK_iff_of hq)

theorem callK_mono {f : FuncId} {args : List AV} {H : Hp} {k k' : AV × Hp × Ef → Prop} (h : callK P f args H k) (hk : ∀ r, k r → k' r) : callK P f args H k' :=
  let ⟨n, r, hn, hr⟩ := h
  ⟨n, r, hn, hk r hr⟩

theorem goOps_nil {ops : List Oper} {K : St → Prop} {σ : List AV} {H : Hp} {e : Ef} : goOps P ops K [] ⟨σ, H, e⟩ = K ⟨σ, H, e⟩ := by
  apply propext
  constructor
  · rintro ⟨n, s', h, hk⟩; simp only [evOps] at h; cases h; exact hk
  · intro h; exact ⟨0, _, rfl, h⟩

theorem goOps_want {ops : List Oper} {K : St → Prop} {o : Oper} {l : List Oper} {σ : List AV} {H : Hp} {e : Ef} (hw : wantedA ops σ o = true) :
    goOps P ops K (o :: l) ⟨σ, H, e⟩ = opK P σ H o.op (nextK P ops K l σ e o.dst) := by
  apply propext
  rw [opK_iff]
  constructor
  · rintro ⟨n, s', h, hk⟩
    simp only [evOps, hw, if_true, Option.bind_eq_some_iff] at h
    obtain ⟨r, hr, h⟩ := h
    exact ⟨n, r, hr, n, s', h, hk⟩
  · rintro ⟨n, r, hr, m, s', h, hk⟩
    refine ⟨max n m, s', ?_, hk⟩
    simp only [evOps, hw, if_true, Option.bind_eq_some_iff]
    exact ⟨r, evOp_mono (evN_mono (Nat.le_max_left n m)) hr, evOps_mono (evN_mono (Nat.le_max_right n m)) h⟩

theorem goOps_skip {ops : List Oper} {K : St → Prop} {o : Oper} {l : List Oper} {σ : List AV} {H : Hp} {e : Ef} (hw : wantedA ops σ o = false) :
    goOps P ops K (o :: l) ⟨σ, H, e⟩ = goOps P ops K l ⟨put σ o.dst undefA, H, e⟩ := by
  apply propext
  constructor
  · rintro ⟨n, s', h, hk⟩
    simp only [evOps, hw, Bool.false_eq_true, if_false] at h
    exact ⟨n, s', h, hk⟩
  · rintro ⟨n, s', h, hk⟩
    exact ⟨n, s', by simp only [evOps, hw, Bool.false_eq_true, if_false]; exact h, hk⟩

theorem goD_nil {ops : List Oper} {K : St → List Nat → Prop} {σ : List AV} {H : Hp} {e : Ef} : goD P ops K [] ⟨σ, H, e⟩ = K ⟨σ, H, e⟩ [] := by
  apply propext
  constructor
  · rintro ⟨n, s', es, h, hk⟩; simp only [evD] at h; cases h; exact hk
  · intro h; exact ⟨0, _, _, rfl, h⟩

theorem goD_want {ops : List Oper} {K : St → List Nat → Prop} {i : Nat} {o : Oper} {l : List (Nat × Oper)} {σ : List AV} {H : Hp} {e : Ef} (hw : wantedA ops σ o = true) :
    goD P ops K ((i, o) :: l) ⟨σ, H, e⟩ = opK P σ H o.op (nextD P ops K l σ H e i o) := by
  apply propext
  rw [opK_iff]
  constructor
  · rintro ⟨n, s', es, h, hk⟩
    simp only [evD, hw, if_true, Option.bind_eq_some_iff, Option.map_eq_some_iff, Prod.mk.injEq] at h
    obtain ⟨r, hr, ⟨s1, es1⟩, h, rfl, rfl⟩ := h
    exact ⟨n, r, hr, n, _, es1, h, hk⟩
  · rintro ⟨n, r, hr, m, s', es, h, hk⟩
    refine ⟨max n m, s', _, ?_, hk⟩
    simp only [evD, hw, if_true, Option.bind_eq_some_iff, Option.map_eq_some_iff, Prod.mk.injEq]
    exact ⟨r, evOp_mono (evN_mono (Nat.le_max_left n m)) hr, (s', es), evD_mono (evN_mono (Nat.le_max_right n m)) h, rfl, rfl⟩

theorem goD_skip {ops : List Oper} {K : St → List Nat → Prop} {i : Nat} {o : Oper} {l : List (Nat × Oper)} {σ : List AV} {H : Hp} {e : Ef} (hw : wantedA ops σ o = false) :
    goD P ops K ((i, o) :: l) ⟨σ, H, e⟩ = goD P ops K l ⟨put σ o.dst undefA, H, e⟩ := by
  apply propext
  constructor
  · rintro ⟨n, s', es, h, hk⟩
    simp only [evD, hw, Bool.false_eq_true, if_false] at h
    exact ⟨n, s', es, h, hk⟩
  · rintro ⟨n, s', es, h, hk⟩
    exact ⟨n, s', es, by simp only [evD, hw, Bool.false_eq_true, if_false]; exact h, hk⟩

theorem goCode_iff {c : Code} {Q : Ex → St → Prop} {s : St} {n : Nat} {ex : Ex} {s' : St} (h : evCode P (evN P n) (evNP P n) n c s = some (ex, s')) : goCode P c Q s ↔ Q ex s' := by
  constructor
  · rintro ⟨m, ex2, s2, h2, hq⟩
    have h3 := ev_up (Nat.le_max_left n m) h
    have h4 := ev_up (Nat.le_max_right n m) h2
    rw [h3] at h4
    cases h4
    exact hq
  · intro hq; exact ⟨n, ex, s', h, hq⟩

theorem goCode_mono {c : Code} {Q Q' : Ex → St → Prop} {s : St} (h : goCode P c Q s) (hq : ∀ ex s, Q ex s → Q' ex s) : goCode P c Q' s :=
  let ⟨n, ex, s', hn, hs⟩ := h
  ⟨n, ex, s', hn, hq _ _ hs⟩

def thenQ (P : Program) (c : Code) (Q : Ex → St → Prop) : Ex → St → Prop
  | .normal, s => goCode P c Q s
  | ex, s => Q ex s
def blockQ (id : Nat) (Q : Ex → St → Prop) : Ex → St → Prop
  | .exit i, s => if i = id then Q .normal s else Q (.exit i) s
  | ex, s => Q ex s

theorem goCode_seq {a b : Code} {Q : Ex → St → Prop} {s : St} : goCode P (.seq a b) Q s ↔ goCode P a (thenQ P b Q) s := by
  constructor
  · rintro ⟨n, ex, s', h, hq⟩
    simp only [evCode] at h
    split at h
    · rename_i s1 h1
      exact ⟨n, .normal, s1, h1, n, ex, s', h, hq⟩
    · rename_i hne
      refine ⟨n, ex, s', h, ?_⟩
      cases ex <;> first | (exact (hne _ h).elim) | exact hq
  · rintro ⟨n, ex, s', h, hq⟩
    cases ex with
    | normal =>
      obtain ⟨m, ex2, s2, h2, hq⟩ := hq
      refine ⟨max n m, ex2, s2, ?_, hq⟩
      simp only [evCode, ev_up (Nat.le_max_left n m) h]
      exact ev_up (Nat.le_max_right n m) h2
    | exit i => exact ⟨n, .exit i, s', by simp only [evCode, h], hq⟩
    | goto l => exact ⟨n, .goto l, s', by simp only [evCode, h], hq⟩
    | ret => exact ⟨n, .ret, s', by simp only [evCode, h], hq⟩
    | pan => exact ⟨n, .pan, s', by simp only [evCode, h], hq⟩

theorem goCode_block {id : Nat} {c : Code} {Q : Ex → St → Prop} {s : St} : goCode P (.block id c) Q s ↔ goCode P c (blockQ id Q) s := by
  constructor
  · rintro ⟨n, ex, s', h, hq⟩
    simp only [evCode] at h
    split at h
    · rename_i i s1 h1
      refine ⟨n, .exit i, s1, h1, ?_⟩
      show (if i = id then Q .normal s1 else Q (.exit i) s1)
      split at h
      · rename_i hi; cases h; rw [if_pos hi]; exact hq
      · rename_i hi; cases h; rw [if_neg hi]; exact hq
    · rename_i hne
      refine ⟨n, ex, s', h, ?_⟩
      cases ex <;> first | (exact (hne _ _ h).elim) | exact hq
  · rintro ⟨n, ex, s', h, hq⟩
    cases ex with
    | exit i =>
      have hq : (if i = id then Q .normal s' else Q (.exit i) s') := hq
      by_cases hi : i = id
      · rw [if_pos hi] at hq; exact ⟨n, .normal, s', by simp only [evCode, h, hi, if_true], hq⟩
      · rw [if_neg hi] at hq; exact ⟨n, .exit i, s', by simp only [evCode, h, hi, if_false], hq⟩
    | normal => exact ⟨n, .normal, s', by simp only [evCode, h], hq⟩
    | goto l => exact ⟨n, .goto l, s', by simp only [evCode, h], hq⟩
    | ret => exact ⟨n, .ret, s', by simp only [evCode, h], hq⟩
    | pan => exact ⟨n, .pan, s', by simp only [evCode, h], hq⟩

theorem goCode_loop {c : Code} {Q : Ex → St → Prop} {s : St} : goCode P (.loop c) Q s ↔ goCode P c (thenQ P (.loop c) Q) s := by
  constructor
  · rintro ⟨n, ex, s', h, hq⟩
    simp only [evCode] at h
    cases n with
    | zero => simp [iter] at h
    | succ n =>
      simp only [iter] at h
      split at h
      · rename_i s1 h1
        refine ⟨n + 1, .normal, s1, h1, n + 1, ex, s', ?_, hq⟩
        simp only [evCode]
        exact iter_mono (fun _ _ h => h) (Nat.le_succ n) h
      · rename_i hne
        refine ⟨n + 1, ex, s', h, ?_⟩
        cases ex <;> first | (exact (hne _ h).elim) | exact hq
  · rintro ⟨n, ex, s', h, hq⟩
    have up : ∀ m, n ≤ m → evCode P (evN P m) (evNP P m) m c s = some (ex, s') := fun m hm => ev_up hm h
    cases ex with
    | normal =>
      obtain ⟨m, ex2, s2, h2, hq⟩ := hq
      refine ⟨max n m + 1, ex2, s2, ?_, hq⟩
      simp only [evCode, iter, up (max n m + 1) (by omega)]
      have h3 := evCode_mono (P := P) (evN_mono (show m ≤ max n m + 1 by omega)) (evNP_mono (show m ≤ max n m + 1 by omega)) (evN_excl _) (show m ≤ max n m by omega) h2
      simp only [evCode] at h3
      refine iter_mono (fun s r hr => ?_) (Nat.le_refl _) h3
      exact evCode_mono (fun _ _ _ _ h => h) (fun _ _ _ _ h => h) (evN_excl _) (Nat.le_succ _) hr
    | exit i => exact ⟨n + 1, .exit i, s', by simp only [evCode, iter, up (n + 1) (by omega)], hq⟩
    | goto l => exact ⟨n + 1, .goto l, s', by simp only [evCode, iter, up (n + 1) (by omega)], hq⟩
    | ret => exact ⟨n + 1, .ret, s', by simp only [evCode, iter, up (n + 1) (by omega)], hq⟩
    | pan => exact ⟨n + 1, .pan, s', by simp only [evCode, iter, up (n + 1) (by omega)], hq⟩

class Calm (Q : Ex → St → Prop) : Prop where
  no : ∀ s, ¬ Q .pan s
def goOpsP (P : Program) (ops : List Oper) (K KP : St → Prop) (l : List Oper) (s : St) (_ : Ph (ops, K, KP, l) := ⟨⟩) : Prop := goOps P ops K l s ∨ ∃ n s', evOpsP P (evN P n) (evNP P n) ops l s = some s' ∧ KP s'

theorem goCode_regionP {id : Nat} {ops : Array Oper} {Q : Ex → St → Prop} {s : St} : goCode P (.region id ops false) Q s ↔ goOpsP P ops.toList (Q .normal) (Q .pan) ops.toList s := by
  constructor
  · rintro ⟨n, ex, s', h, hq⟩
    simp only [evCode, evReg] at h
    split at h
    · rename_i s1 h1
      cases h
      exact .inl ⟨n, _, h1, hq⟩
    · simp only [Bool.false_eq_true, if_false, Option.map_eq_some_iff, Prod.mk.injEq] at h
      obtain ⟨s1, h1, rfl, rfl⟩ := h
      exact .inr ⟨n, s1, h1, hq⟩
  · rintro (⟨n, s', h, hq⟩ | ⟨n, s', h, hq⟩)
    · refine ⟨n, .normal, s', ?_, hq⟩
      simp only [evCode, evReg, evRegion, Bool.false_eq_true, if_false]
      rw [h]
    · refine ⟨n, .pan, s', ?_, hq⟩
      simp only [evCode, evReg, evRegion, Bool.false_eq_true, if_false]
      rw [evOpsP_none (evN_excl n) h]
      simp only [h, Option.map_some]

theorem goCode_region {id : Nat} {ops : Array Oper} {Q : Ex → St → Prop} {s : St} (hc : ∀ s, ¬ Q .pan s) : goCode P (.region id ops false) Q s ↔ goOps P ops.toList (Q .normal) ops.toList s := by
  rw [goCode_regionP]
  constructor
  · rintro (h | ⟨n, s', h, hq⟩)
    · exact h
    · exact absurd hq (hc _)
  · exact .inl

def drawQ (P : Program) (ops : List Oper) (Q : Ex → St → Prop) : St → List Nat → Prop := fun s es => effOk P ops es = true ∧ Q .normal s

theorem goCode_draw {id : Nat} {ops : Array Oper} {Q : Ex → St → Prop} {s : St} (hm : P.follows .mixedOrders = true) (hs : statOk ops.toList = true) : goCode P (.region id ops true) Q s ↔ goD P ops.toList (drawQ P ops.toList Q) (order ops.toList) s := by
  have key : ∀ n, evCode P (evN P n) (evNP P n) n (.region id ops true) s = (evRegion P (evN P n) ops.toList true s).map fun s' => (.normal, s') := by
    intro n
    simp only [evCode, evReg]
    cases evRegion P (evN P n) ops.toList true s <;> rfl
  constructor
  · rintro ⟨n, ex, s', h, hq⟩
    rw [key] at h
    simp only [Option.map_eq_some_iff, Prod.mk.injEq, evRegion, hm, if_true, evDraw, Option.bind_eq_some_iff] at h
    obtain ⟨s1, ⟨q, hq1, h1⟩, rfl, rfl⟩ := h
    split at h1
    · rename_i hok
      cases h1
      exact ⟨n, q.1, q.2, hq1, hok.2, hq⟩
    · cases h1
  · rintro ⟨n, s', es, h, he, hq⟩
    refine ⟨n, .normal, s', ?_, hq⟩
    rw [key]
    simp only [Option.map_eq_some_iff, Prod.mk.injEq, evRegion, hm, if_true, evDraw, Option.bind_eq_some_iff]
    exact ⟨s', ⟨(s', es), h, by rw [if_pos ⟨hs, he⟩]⟩, trivial, rfl⟩

theorem goCode_at {c : Code} {Q : Ex → St → Prop} {s : St} {ex : Ex} (h : ∀ n, evCode P (evN P n) (evNP P n) n c s = some (ex, s)) : goCode P c Q s ↔ Q ex s := goCode_iff (h 0)

inductive It where
  | code (c : Code)
  | inBlock (id : Nat)

def contQ (P : Program) (Q : Ex → St → Prop) : List It → Ex → St → Prop
  | [] => Q
  | .code c :: k => thenQ P c (contQ P Q k)
  | .inBlock id :: k => blockQ id (contQ P Q k)

def go (P : Program) (Q : Ex → St → Prop) (k : List It) (s : St) (_ : Ph (P, Q, k) := ⟨⟩) : Prop := contQ P Q k .normal s
def leaveTo (P : Program) (Q : Ex → St → Prop) (id : Nat) (k : List It) (s : St) (_ : Ph (P, Q, k) := ⟨⟩) : Prop := contQ P Q k (.exit id) s

variable {Q : Ex → St → Prop} {k : List It} {σ : List AV} {H : Hp} {e : Ef}

theorem go_nil : go P Q [] ⟨σ, H, e⟩ = Q .normal ⟨σ, H, e⟩ := rfl
theorem go_skip : go P Q (.code .skip :: k) ⟨σ, H, e⟩ = go P Q k ⟨σ, H, e⟩ := propext (goCode_at (fun _ => rfl))
theorem go_label {l : Nat} : go P Q (.code (.label l) :: k) ⟨σ, H, e⟩ = go P Q k ⟨σ, H, e⟩ := propext (goCode_at (fun _ => rfl))
theorem go_seq {a b : Code} : go P Q (.code (.seq a b) :: k) ⟨σ, H, e⟩ = go P Q (.code a :: .code b :: k) ⟨σ, H, e⟩ := propext goCode_seq
theorem go_block {id : Nat} {c : Code} : go P Q (.code (.block id c) :: k) ⟨σ, H, e⟩ = go P Q (.code c :: .inBlock id :: k) ⟨σ, H, e⟩ := propext goCode_block
theorem go_inBlock {id : Nat} : go P Q (.inBlock id :: k) ⟨σ, H, e⟩ = go P Q k ⟨σ, H, e⟩ := rfl
theorem go_exit {id : Nat} : go P Q (.code (.exit id) :: k) ⟨σ, H, e⟩ = leaveTo P Q id k ⟨σ, H, e⟩ := propext (goCode_at (fun _ => rfl))
theorem leaveTo_code {id : Nat} {c : Code} : leaveTo P Q id (.code c :: k) ⟨σ, H, e⟩ = leaveTo P Q id k ⟨σ, H, e⟩ := rfl
theorem leaveTo_this {id : Nat} : leaveTo P Q id (.inBlock id :: k) ⟨σ, H, e⟩ = go P Q k ⟨σ, H, e⟩ := by
  show (if id = id then _ else _) = _
  rw [if_pos rfl]; rfl
theorem leaveTo_other {id j : Nat} (h : id ≠ j) : leaveTo P Q id (.inBlock j :: k) ⟨σ, H, e⟩ = leaveTo P Q id k ⟨σ, H, e⟩ := by
  show (if id = j then _ else _) = _
  rw [if_neg h]; rfl
theorem contQ_ret : ∀ (k : List It) (s : St), contQ P Q k .ret s = Q .ret s
  | [], _ => rfl
  | .code _ :: k, s => contQ_ret k s
  | .inBlock _ :: k, s => contQ_ret k s
theorem go_ret : go P Q (.code .ret :: k) ⟨σ, H, e⟩ = Q .ret ⟨σ, H, e⟩ := by
  rw [← contQ_ret (P := P) (Q := Q) k]
  exact propext (goCode_at (fun _ => rfl))
theorem go_loop {c : Code} : go P Q (.code (.loop c) :: k) ⟨σ, H, e⟩ = go P Q (.code c :: .code (.loop c) :: k) ⟨σ, H, e⟩ := propext goCode_loop
theorem contQ_pan : ∀ (k : List It) (s : St), contQ P Q k .pan s = Q .pan s
  | [], _ => rfl
  | .code _ :: k, s => contQ_pan k s
  | .inBlock _ :: k, s => contQ_pan k s
theorem go_region [hc : Calm Q] {id : Nat} {ops : Array Oper} : go P Q (.code (.region id ops false) :: k) ⟨σ, H, e⟩ = goOps P ops.toList (fun s => go P Q k s) ops.toList ⟨σ, H, e⟩ :=
  propext (goCode_region (Q := contQ P Q k) (fun s h => hc.no s ((contQ_pan (P := P) (Q := Q) k s) ▸ h)))
theorem go_regionP {id : Nat} {ops : Array Oper} : go P Q (.code (.region id ops false) :: k) ⟨σ, H, e⟩ = goOpsP P ops.toList (fun s => go P Q k s) (fun s => Q .pan s) ops.toList ⟨σ, H, e⟩ := by
  refine (propext (goCode_regionP (Q := contQ P Q k))).trans ?_
  have : (contQ P Q k .pan) = fun s => Q .pan s := funext (contQ_pan k)
  rw [this]
  rfl
def goDr (P : Program) (ops : List Oper) (Q : Ex → St → Prop) (k : List It) : St → List Nat → Prop := fun s es => effOk P ops es = true ∧ go P Q k s
theorem go_draw {id : Nat} {ops : Array Oper} (hm : P.follows .mixedOrders = true) (hs : statOk ops.toList = true) : go P Q (.code (.region id ops true) :: k) ⟨σ, H, e⟩ = goD P ops.toList (goDr P ops.toList Q k) (order ops.toList) ⟨σ, H, e⟩ := propext (goCode_draw hm hs)

theorem go_true {c : Operand} {a b : Code} (h : evArg P σ c = some (.bool true)) : go P Q (.code (.cond c a b) :: k) ⟨σ, H, e⟩ = go P Q (.code a :: k) ⟨σ, H, e⟩ := by
  apply propext
  constructor
  · rintro ⟨n, ex, s', hs, hq⟩
    simp only [evCode, h] at hs
    exact ⟨n, ex, s', hs, hq⟩
  · rintro ⟨n, ex, s', hs, hq⟩
    exact ⟨n, ex, s', by simp only [evCode, h]; exact hs, hq⟩
theorem go_false {c : Operand} {a b : Code} (h : evArg P σ c = some (.bool false)) : go P Q (.code (.cond c a b) :: k) ⟨σ, H, e⟩ = go P Q (.code b :: k) ⟨σ, H, e⟩ := by
  apply propext
  constructor
  · rintro ⟨n, ex, s', hs, hq⟩
    simp only [evCode, h] at hs
    exact ⟨n, ex, s', hs, hq⟩
  · rintro ⟨n, ex, s', hs, hq⟩
    exact ⟨n, ex, s', by simp only [evCode, h]; exact hs, hq⟩
theorem go_while {c : Code} (I : Nat → St → Prop) (n : Nat) {s : St} (h0 : I n s) (round : ∀ n s, I n s → goCode P c (fun ex s' => match ex with | .normal => ∃ m, m < n ∧ I m s' | ex => contQ P Q k ex s') s) : go P Q (.code (.loop c) :: k) s := by
  induction n using Nat.strongRecOn generalizing s with
  | _ n ih =>
    show goCode P (.loop c) (contQ P Q k) s
    rw [goCode_loop]
    refine goCode_mono (round n s h0) (fun ex s' hq => ?_)
    cases ex with
    | normal =>
      obtain ⟨m, hm, hi⟩ := hq
      exact ih m hm hi
    | _ => exact hq

def endF (P : Program) (fn : Func) (n : Nat) (k : AV × Hp × Ef → Prop) : Ex → St → Prop := fun ex s =>
  (ex = .normal ∨ ex = .ret) ∧ match evRes P s fn.results.toList with
    | some vs => k (leave n (pack vs) s.H s.ef)
    | none => False
instance {fn : Func} {n : Nat} {k : AV × Hp × Ef → Prop} : Calm (endF P fn n k) := ⟨fun _ h => by rcases h.1 with h | h <;> cases h⟩

theorem callK_body {f : FuncId} {fn : Func} {c : Code} {args : List AV} {H : Hp} {kk : AV × Hp × Ef → Prop} (hf : P.funcs[f]? = some fn) (hb : fn.body = some c) (hd : cutD c = none) :
    callK P f args H kk = go P (endF P fn H.length kk) [.code c] ⟨args ++ List.replicate (fn.ntmps - args.length) undefA, H, z0⟩ := by
  apply propext
  have key : ∀ n, evN P (n + 1) f args H = (evFun P (evN P n) (evNP P n) (n + 1) false) f args H := fun _ => rfl
  constructor
  · rintro ⟨n, r, hr, hk⟩
    cases n with
    | zero => simp [evN, evNN] at hr
    | succ n =>
      rw [key] at hr
      simp only [evFun, hf, hb, evBody, hd] at hr
      cases hc : evCode P (evN P n) (evNP P n) (n + 1) c ⟨args ++ List.replicate (fn.ntmps - args.length) undefA, H, z0⟩ with
      | none => rw [hc] at hr; simp [evEnd] at hr
      | some q =>
        obtain ⟨ex, s⟩ := q
        simp only [hc] at hr
        by_cases hex : ex = .normal ∨ ex = .ret
        · simp only [evEnd, if_pos hex, Bool.true_eq_false, if_false, Option.map_eq_some_iff] at hr
          obtain ⟨vs, hvs, rfl⟩ := hr
          refine ⟨n + 1, ex, s, evCode_mono (evN_mono (Nat.le_succ n)) (evNP_mono (Nat.le_succ n)) (evN_excl _) (Nat.le_refl _) hc, ?_⟩
          show endF P fn H.length kk ex s
          exact ⟨hex, by rw [hvs]; exact hk⟩
        · by_cases hp : ex = .pan
          · subst hp
            simp only [evEnd, if_neg hex, if_true] at hr
            cases hσ : s.σ <;> simp [hσ] at hr
          · simp [evEnd, if_neg hex, if_neg hp] at hr
  · rintro ⟨n, ex, s, hc, hq⟩
    have hq' : endF P fn H.length kk ex s := by cases ex <;> exact hq
    obtain ⟨hex, hq2⟩ := hq'
    cases hvs : evRes P s fn.results.toList with
    | none => rw [hvs] at hq2; exact hq2.elim
    | some vs =>
      rw [hvs] at hq2
      refine ⟨n + 1, _, ?_, hq2⟩
      rw [key]
      simp only [evFun, hf, hb, evBody, hd, evCode_mono (fun _ _ _ _ h => h) (fun _ _ _ _ h => h) (evN_excl _) (Nat.le_succ n) hc, evEnd, if_pos hex, hvs, Option.map_some, Bool.true_eq_false, if_false]

def rngK (P : Program) (Q : Ex → St → Prop) (k : List It) (σ : List AV) (n : Nat) (e : Ef) : AV × Hp × Ef → Prop := fun r =>
  match asEnd (r.2.1[n]?) with
  | some ex => contQ P Q k ex ⟨σ, r.2.1.set n .dead, e.and (r.2.2.and ⟨none, some n⟩)⟩
  | none => False
theorem go_range {f : Operand} {ps : Array Tmp} {az bd : Code} {v : AV} {x : FuncId × List AV × List AV} (hf : evArg P σ f = some v) (hv : asFun v = some x) (hb : hasBody P x.1 = true) :
    go P Q (.code (.rangeFunc f ps az bd) :: k) ⟨σ, H, e⟩ = callK P x.1 (x.2.1 ++ [.yld H.length] ++ x.2.2) (H ++ [.loop σ ps.toList az bd .ready]) (rngK P Q k σ H.length e) := by
  apply propext
  constructor
  · rintro ⟨n, ex, s', hc, hq⟩
    simp only [evCode, evRange_eq, hf, hv, Option.bind_some, hb, if_true, Option.bind_eq_some_iff, Option.map_eq_some_iff, Prod.mk.injEq] at hc
    obtain ⟨r, hr, ex', hex, rfl, rfl⟩ := hc
    refine ⟨n, r, hr, ?_⟩
    unfold rngK
    rw [hex]
    exact hq
  · rintro ⟨n, r, hr, hq⟩
    unfold rngK at hq
    cases hex : asEnd (r.2.1[H.length]?) with
    | none => rw [hex] at hq; exact hq.elim
    | some ex =>
      rw [hex] at hq
      refine ⟨n, ex, _, ?_, hq⟩
      simp only [evCode, evRange_eq, hf, hv, Option.bind_some, hb, if_true, Option.bind_eq_some_iff, Option.map_eq_some_iff, Prod.mk.injEq]
      exact ⟨r, hr, ex, hex, rfl, rfl⟩

structure Lp where
  σ : List AV
  ps : List Tmp
  az : Code
  bd : Code
def asReady : Option ABlk → Option Lp
  | some (.loop σ ps az bd .ready) => some ⟨σ, ps, az, bd⟩
  | _ => none
def asBusy : Option ABlk → Option Lp
  | some (.loop σ ps az bd .busy) => some ⟨σ, ps, az, bd⟩
  | _ => none
def reQ (b n : Nat) (k : AV × Hp × Ef → Prop) : Ex → St → Prop := fun ex s =>
  if ex = .pan then False else match asBusy (s.H[b]?) with
  | some L => k (leave n (.bool (decide (ex = .normal))) (s.H.set b (.loop L.σ L.ps L.az L.bd (if ex = .normal then .ready else .done ex))) (s.ef.and ⟨none, some b⟩))
  | none => False
instance {b n : Nat} {k : AV × Hp × Ef → Prop} : Calm (reQ b n k) := ⟨fun _ h => h⟩
def rdQ (P : Program) (b n : Nat) (bd : Code) (k : AV × Hp × Ef → Prop) : Ex → St → Prop := fun ex s =>
  ex = .normal ∧ match asReady (s.H[b]?) with
  | some L => go P (reQ b n k) [.code bd] ⟨s.σ, s.H.set b (.loop L.σ L.ps L.az L.bd .busy), s.ef.and ⟨none, some b⟩⟩
  | none => False

instance {b n : Nat} {bd : Code} {k : AV × Hp × Ef → Prop} : Calm (rdQ P b n bd k) := ⟨fun _ h => by cases h.1⟩

theorem callK_yl {b : Nat} {args σ : List AV} {ps : List Tmp} {az bd : Code} {H : Hp} {kk : AV × Hp × Ef → Prop} (hb : H[b]? = some (.loop σ ps az bd .ready)) (hl : args.length = ps.length) (hn : noRange az = true) :
    callK P (P.funcs.size + b) args H kk = go P (rdQ P b H.length bd kk) [.code az] ⟨putAll σ ps args, H, z0⟩ := by
  have hf : P.funcs[P.funcs.size + b]? = none := by simp
  have hev : ∀ n, evN P (n + 1) (P.funcs.size + b) args H = evRound P (evN P n) (evNP P n) (n + 1) b args H := by
    intro n
    show evFun P (evN P n) (evNP P n) (n + 1) false (P.funcs.size + b) args H = _
    simp only [evFun]
    rw [hf]
    simp only [Nat.add_sub_cancel_left, Bool.false_eq_true, if_false]
  apply propext
  constructor
  · rintro ⟨n, r, hr, hk⟩
    cases n with
    | zero => simp [evN, evNN] at hr
    | succ n =>
      rw [hev] at hr
      unfold evRound at hr
      rw [hb] at hr
      simp only [hl, hn, and_self, if_true] at hr
      split at hr
      · rename_i s1 h1
        split at hr
        · rename_i σ' ps' as' bd' hb1
          split at hr
          · rename_i e s2 h2
            split at hr
            · rename_i σ2 ps2 as2 bd2 hb2
              split at hr
              · cases hr
              rename_i hep
              cases hr
              refine ⟨n + 1, .normal, s1, evCode_mono (evN_mono (Nat.le_succ n)) (evNP_mono (Nat.le_succ n)) (evN_excl _) (Nat.le_refl _) h1, ?_⟩
              show rdQ P b H.length bd kk .normal s1
              refine ⟨rfl, ?_⟩
              rw [hb1]
              refine ⟨n + 1, e, s2, evCode_mono (evN_mono (Nat.le_succ n)) (evNP_mono (Nat.le_succ n)) (evN_excl _) (Nat.le_refl _) h2, ?_⟩
              have : reQ b H.length kk e s2 := by
                unfold reQ
                rw [if_neg hep, hb2]
                exact hk
              cases e <;> exact this
            · cases hr
          · cases hr
        · cases hr
      · cases hr
  · rintro ⟨n, ex, s1, h1, hq⟩
    have hq' : rdQ P b H.length bd kk ex s1 := by cases ex <;> exact hq
    obtain ⟨rfl, hq'⟩ := hq'
    cases hb1 : s1.H[b]? with
    | none => rw [hb1] at hq'; exact hq'.elim
    | some x =>
      rw [hb1] at hq'
      cases hx : asReady (some x) with
      | none => rw [hx] at hq'; exact hq'.elim
      | some L =>
        have hL : x = .loop L.σ L.ps L.az L.bd .ready := by
          unfold asReady at hx
          split at hx
          · rename_i heq; cases heq; cases hx; rfl
          · cases hx
        subst hL
        rw [hx] at hq'
        obtain ⟨m, e, s2, h2, hk⟩ := hq'
        have hk' : reQ b H.length kk e s2 := by cases e <;> exact hk
        unfold reQ at hk'
        split at hk'
        · exact hk'.elim
        rename_i hep
        cases hb2 : s2.H[b]? with
        | none => rw [hb2] at hk'; exact hk'.elim
        | some y =>
          rw [hb2] at hk'
          cases hy : asBusy (some y) with
          | none => rw [hy] at hk'; exact hk'.elim
          | some M =>
            have hM : y = .loop M.σ M.ps M.az M.bd .busy := by
              unfold asBusy at hy
              split at hy
              · rename_i heq; cases heq; cases hy; rfl
              · cases hy
            subst hM
            rw [hy] at hk'
            refine ⟨max n m + 1, _, ?_, hk'⟩
            rw [hev]
            unfold evRound
            rw [hb]
            simp only [hl, hn, and_self, if_true]
            rw [evCode_mono (evN_mono (Nat.le_max_left n m)) (evNP_mono (Nat.le_max_left n m)) (evN_excl _) (Nat.le_succ_of_le (Nat.le_max_left n m)) h1]
            simp only [hb1]
            rw [evCode_mono (evN_mono (Nat.le_max_right n m)) (evNP_mono (Nat.le_max_right n m)) (evN_excl _) (Nat.le_succ_of_le (Nat.le_max_right n m)) h2]
            simp only [hb2, if_neg hep]
end
end Go.Proofs.YtgkpgpdkolpfkaaGreatDoor.V
namespace Go.Proofs.YtgkpgpdkolpfkaaGreatDoor.V
open Go

def bindK {α : Type} (o : Option α) (f : α → Prop) (_ : Ph f := ⟨⟩) : Prop :=
  match o with
  | some a => f a
  | none => False
theorem bindK_some {α : Type} {a : α} {f : α → Prop} : bindK (some a) f = f a := rfl
def fr (σ : List AV) (t : Nat) : AV := (σ[t]?).getD undefA
def guardK (v : AV) (w : Bool) (A B : Prop) (_ : Ph (A, B) := ⟨⟩) : Prop :=
  match v with
  | .bool b => if (b == w) = true then A else B
  | _ => B
theorem guardK_tt {A B : Prop} : guardK (.bool true) true A B = A := rfl
theorem guardK_tf {A B : Prop} : guardK (.bool true) false A B = B := rfl
theorem guardK_ft {A B : Prop} : guardK (.bool false) true A B = B := rfl
theorem guardK_ff {A B : Prop} : guardK (.bool false) false A B = A := rfl
theorem guardK_u {w : Bool} {A B : Prop} : guardK undefA w A B = B := rfl
attribute [go_sem ↓] guardK_u
def condK (v : Option AV) (A B : Prop) (_ : Ph (A, B) := ⟨⟩) : Prop :=
  match v with
  | some (.bool true) => A
  | some (.bool false) => B
  | _ => False
theorem condK_t {A B : Prop} : condK (some (.bool true)) A B = A := rfl
theorem condK_f {A B : Prop} : condK (some (.bool false)) A B = B := rfl
section
variable {P : Program} {Q : Ex → St → Prop} {k : List It} {σ : List AV} {H : Hp} {e : Ef} {ops : List Oper} {K : St → Prop} {l : List Oper}

theorem leaveTo_ne {id j : Nat} (h : (id == j) = false) : leaveTo P Q id (.inBlock j :: k) ⟨σ, H, e⟩ = leaveTo P Q id k ⟨σ, H, e⟩ := leaveTo_other (by simpa using h)
attribute [go_sem ↓] go_nil go_skip go_label go_seq go_block go_inBlock go_exit leaveTo_code leaveTo_this leaveTo_ne go_ret go_region goOps_nil goD_nil
attribute [go_sem] Ef.and_z0 Ef.z0_and

theorem leaveTo_nil {id : Nat} : leaveTo P Q id [] ⟨σ, H, e⟩ = Q (.exit id) ⟨σ, H, e⟩ := rfl
theorem fr_ne {d t : Nat} {v : AV} (h : (d == t) = false) : fr (σ.set d v) t = fr σ t := by
  unfold fr; rw [List.getElem?_set_ne (by simpa using h)]
theorem fr_eq {d : Nat} {v : AV} (h : decide (d < σ.length) = true) : fr (σ.set d v) d = v := by
  unfold fr; rw [List.getElem?_set_self (by simpa using h)]; rfl
attribute [go_sem] fr_ne fr_eq List.length_set bindK_some guardK_tt guardK_tf guardK_ft guardK_ff condK_t condK_f
attribute [go_sem ↓] leaveTo_nil bindK_some guardK_tt guardK_tf guardK_ft guardK_ff condK_t condK_f

theorem go_if {c : Operand} {a b : Code} : go P Q (.code (.cond c a b) :: k) ⟨σ, H, e⟩ = condK (evArg P σ c) (go P Q (.code a :: k) ⟨σ, H, e⟩) (go P Q (.code b :: k) ⟨σ, H, e⟩) := by
  by_cases ht : evArg P σ c = some (.bool true)
  · rw [go_true ht, ht]; rfl
  by_cases hf : evArg P σ c = some (.bool false)
  · rw [go_false hf, hf]; rfl
  apply propext
  constructor
  · rintro ⟨n, ex, s', hs, hq⟩
    have : evCode P (evN P n) (evNP P n) n (.cond c a b) ⟨σ, H, e⟩ = none := by
      show (match evArg P σ c with | some (.bool true) => _ | some (.bool false) => _ | _ => none) = none
      split
      · exact absurd ‹_› ht
      · exact absurd ‹_› hf
      · rfl
    rw [this] at hs; cases hs
  · intro h
    unfold condK at h
    split at h
    · exact absurd ‹_› ht
    · exact absurd ‹_› hf
    · exact h.elim

theorem go_op {dst : Option Tmp} {op : Op} {ty : TypeId} {pos : String} {af : Array Edge} : goOps P ops K (⟨dst, op, ty, pos, af, none⟩ :: l) ⟨σ, H, e⟩ = opK P σ H op (nextK P ops K l σ e dst) := goOps_want rfl
def gdst (ops : List Oper) (j : Nat) : Option Nat := (ops[j]?).bind (·.dst)
theorem gdst_z {o : Oper} {l : List Oper} : gdst (o :: l) 0 = o.dst := rfl
theorem gdst_s {o : Oper} {l : List Oper} {j : Nat} : gdst (o :: l) (j + 1) = gdst l j := rfl
def gvalO (σ : List AV) : Option Nat → AV
  | some d => fr σ d
  | none => undefA
theorem gvalO_s {d : Nat} : gvalO σ (some d) = fr σ d := rfl
theorem go_opg {dst : Option Tmp} {op : Op} {ty : TypeId} {pos : String} {af : Array Edge} {j : Nat} {w : Bool} :
    goOps P ops K (⟨dst, op, ty, pos, af, some (j, w)⟩ :: l) ⟨σ, H, e⟩ = guardK (gvalO σ (gdst ops j)) w (opK P σ H op (nextK P ops K l σ e dst)) (goOps P ops K l ⟨put σ dst undefA, H, e⟩) := by
  cases hw : wantedA ops σ ⟨dst, op, ty, pos, af, some (j, w)⟩ with
  | true =>
    rw [goOps_want hw]
    unfold wantedA at hw
    simp only at hw
    unfold gvalO gdst
    split at hw
    · rename_i d hd
      rw [hd]
      split at hw
      · rename_i b hb
        unfold fr; simp only [hb, Option.getD_some, guardK]; rw [if_pos hw]
      · cases hw
    · cases hw
  | false =>
    rw [goOps_skip hw]
    unfold wantedA at hw
    simp only at hw
    unfold gvalO gdst
    split at hw
    · rename_i d hd
      rw [hd]
      split at hw
      · rename_i b hb
        unfold fr; simp only [hb, Option.getD_some, guardK]; rw [if_neg (by rw [hw]; exact Bool.false_ne_true)]
      · rename_i hne
        simp only
        unfold fr guardK
        split
        · rename_i b hb
          cases hd2 : σ[d]? with
          | none => rw [hd2] at hb; cases hb
          | some v => rw [hd2] at hb; simp only [Option.getD_some] at hb; rw [hb] at hd2; exact absurd hd2 (hne b)
        · rfl
    · rename_i hd
      rw [hd]; rfl

theorem goD_op {K : St → List Nat → Prop} {l : List (Nat × Oper)} {i : Nat} {dst : Option Tmp} {op : Op} {ty : TypeId} {pos : String} {af : Array Edge} : goD P ops K ((i, ⟨dst, op, ty, pos, af, none⟩) :: l) ⟨σ, H, e⟩ = opK P σ H op (nextD P ops K l σ H e i ⟨dst, op, ty, pos, af, none⟩) := goD_want rfl
theorem nextK_ap {dst : Option Tmp} {v : AV} {H' : Hp} {e' : Ef} : nextK P ops K l σ e dst (v, H', e') = goOps P ops K l ⟨put σ dst v, H', e.and e'⟩ := rfl
theorem stepK_some {r : AV × Hp × Ef} {kk : AV × Hp × Ef → Prop} : stepK (some r) kk = kk r := rfl
theorem callX_f {g : FuncId} {az : List AV} {kk : AV × Hp × Ef → Prop} (hb : hasBody P g = true) : callX P g az H kk = callK P g az H kk := if_pos hb
theorem callX_x {g : FuncId} {az : List AV} {kk : AV × Hp × Ef → Prop} (hb : hasBody P g = false) (hz : isNZ P g = none) : callX P g az H kk = bindK (isExt P g) fun x => bindK (evExtM P H x az) fun v => kk (v, H, z0) := by
  unfold callX evX
  rw [if_neg (by rw [hb]; exact Bool.false_ne_true), hz]
  cases isExt P g with
  | none => rfl
  | some x => cases h : evExtM P H x az <;> simp [stepK, ret, bindK, h]
theorem callX_z {g : FuncId} {n : Int} {kk : AV × Hp × Ef → Prop} (hb : hasBody P g = false) (hz : (isNZ P g).isSome = true) : callX P g [.int .i64 n] H kk = bindK (isNZ P g) fun e => ((0 ≤ n ∧ n ≤ 281474976710656) ∧ kk (.slice H.length 0 n.toNat (.op 0), H ++ [.cells [] e (.op 0 false)], z0)) := by
  obtain ⟨e, he⟩ := Option.isSome_iff_exists.1 hz
  unfold callX evX
  rw [if_neg (by rw [hb]; exact Bool.false_ne_true), he]
  simp only [evNZ, bindK]
  by_cases h : 0 ≤ n ∧ n ≤ 281474976710656
  · rw [if_pos h]; simp [stepK, h]
  · rw [if_neg h]; simp [stepK, h]
attribute [go_sem] Option.isSome_some
theorem callT_some {g : FuncId} {az : List AV} {kk : AV × Hp × Ef → Prop} : callT P (some (.fn g az)) H kk = callX P g az H kk := rfl
theorem callT_y {b : Nat} {az : List AV} {kk : AV × Hp × Ef → Prop} : callT P (some (.yl b az)) H kk = callK P (P.funcs.size + b) az H kk := rfl
theorem ext_same {x : AV} : evExtM P H .same [x] = some x := rfl
theorem ext_idxB {s : List UInt8} {c : Int} : evExtM P H .idxB [.str s, .int .u8 c] = some (.int .i64 (Lib.indexByte s c.toNat.toUInt8)) := rfl
theorem ext_cntB {s : List UInt8} {c : Int} : evExtM P H .cntB [.str s, .int .u8 c] = some (.int .i64 (Lib.countByte s c.toNat.toUInt8)) := rfl
theorem ext_cmp {a b : List UInt8} : evExtM P H .cmp [.str a, .str b] = some (.int .i64 (Lib.compareBytes a b)) := rfl
theorem ext_idxS {a b : List UInt8} {f : AV → Prop} : bindK (evExtM P H .idxS [.str a, .str b]) f = bindK (mxL P H) fun m => ((2 ≤ b.length ∧ (b.length : Int) ≤ m ∧ a.length < 4294967281) ∧ f (.int .i64 (Lib.index a b))) := by
  show bindK (Option.bind _ _) f = _
  cases mxL P H with
  | none => rfl
  | some m =>
    simp only [Option.bind_some, bindK_some]
    by_cases h : 2 ≤ b.length ∧ (b.length : Int) ≤ m ∧ a.length < 4294967281
    · rw [if_pos h]; simp [h, bindK_some]
    · rw [if_neg h]; simp [h, bindK]
attribute [go_sem] ext_same ext_idxB ext_cntB ext_cmp
attribute [go_sem ↓] ext_idxS
attribute [go_sem ↓] callX_f callX_x callX_z
theorem put_t {d : Tmp} {v : AV} : put σ (some d) v = σ.set d v := rfl
theorem put_n {v : AV} : put σ none v = σ := rfl
attribute [go_sem] gdst_z gdst_s gvalO_s put_t put_n stepK_some
attribute [go_sem ↓] go_if go_op go_opg nextK_ap stepK_some callT_some callT_y goD_op

theorem ret_s {v : AV} : ret H (some v) = some (v, H, z0) := rfl
theorem ret2_s {v : AV × Hp} : ret2 (some v) = some (v.1, v.2, z0) := rfl
attribute [go_sem] ret_s ret2_s

theorem arg_t {t : Nat} : evArg P σ (.tmp t) = some (fr σ t) := rfl
theorem arg_f {f : FuncId} : evArg P σ (.func f) = some (.func (.func f) [] []) := rfl
theorem arg_i {kk : IntKind} {n : Int} : evArg P σ (.const (.int kk n)) = some (.int kk n) := rfl
theorem arg_b {b : Bool} : evArg P σ (.const (.bool b)) = some (.bool b) := rfl
theorem arg_s {s : Array UInt8} : evArg P σ (.const (.string ⟨s⟩)) = some (.str s.toList) := rfl
theorem arg_nilp : evArg P σ (.const (.pointer none)) = some .nilp := rfl
theorem arg_nils : evArg P σ (.const (.slice none 0 0)) = some .nils := rfl
theorem arg_nilm : evArg P σ (.const (.map none)) = some .nilm := rfl
theorem arg_nili : evArg P σ (.const .nilIface) = some .nili := rfl
theorem args_nil : evArgs P σ [] = some [] := rfl
theorem args_cons {x : Operand} {xs : List Operand} : evArgs P σ (x :: xs) = (evArg P σ x).bind fun a => (evArgs P σ xs).map (a :: ·) := rfl
theorem parts_nil : evParts P σ [] = some [] := rfl
theorem parts_cons {i : Nat} {x : Operand} {xs : List (Nat × Operand)} : evParts P σ ((i, x) :: xs) = (evArg P σ x).bind fun a => (evParts P σ xs).map ((i, a) :: ·) := rfl
theorem opt_n : evOpt P σ none = some none := rfl
theorem opt_s {x : Operand} : evOpt P σ (some x) = (evArg P σ x).map some := rfl
attribute [go_sem] arg_t arg_f arg_i arg_b arg_s arg_nilp arg_nils arg_nilm arg_nili args_nil args_cons parts_nil parts_cons opt_n opt_s Option.bind_some Option.map_some

section
variable {kk : AV × Hp × Ef → Prop}
theorem bindK_ext {α : Type} {o : Option α} {f g : α → Prop} (h : ∀ a, f a = g a) : bindK o f = bindK o g := by
  cases o
  · rfl
  · exact h _
theorem stepK_ret {v : Option AV} : stepK (ret H v) kk = bindK v fun v => kk (v, H, z0) := by cases v <;> rfl
theorem stepK_ret2 {v : Option (AV × Hp)} : stepK (ret2 v) kk = bindK v fun v => kk (v.1, v.2, z0) := by cases v <;> rfl
theorem stepK_bind {α : Type} {o : Option α} {f : α → Rs} : stepK (o.bind f) kk = bindK o fun a => stepK (f a) kk := by cases o <;> rfl
theorem stepK_map {α : Type} {o : Option α} {f : α → AV × Hp × Ef} : stepK (o.map f) kk = bindK o fun a => kk (f a) := by cases o <;> rfl
theorem bindK_bind {α β : Type} {o : Option α} {f : α → Option β} {g : β → Prop} : bindK (o.bind f) g = bindK o fun a => bindK (f a) g := by cases o <;> rfl
theorem bindK_map {α β : Type} {o : Option α} {f : α → β} {g : β → Prop} : bindK (o.map f) g = bindK o fun a => g (f a) := by cases o <;> rfl
theorem bindK_ite {α : Type} {c : Prop} [Decidable c] {o : Option α} {g : α → Prop} : bindK (if c then o else none) g = (c ∧ bindK o g) := by
  split
  · rename_i h; simp [h]
  · rename_i h; simp [h, bindK]
attribute [go_sem] bindK_bind bindK_map bindK_ite
attribute [go_sem ↓] bindK_bind bindK_map

theorem k_move {x : Operand} : opK P σ H (.move x) kk = bindK (evArg P σ x) fun v => kk (v, H, z0) := stepK_ret
theorem k_assign {x : Operand} : opK P σ H (.assign x) kk = bindK (evArg P σ x) fun v => kk (v, H, z0) := stepK_ret
theorem k_pick {c x y : Operand} : opK P σ H (.pick c x y) kk = bindK (evArg P σ c) fun c => bindK (match c with | .bool t => if t then evArg P σ x else evArg P σ y | _ => none) fun v => kk (v, H, z0) := by
  show stepK _ _ = _
  simp only [evOp]
  rw [stepK_bind]
  refine bindK_ext fun c => ?_; cases c <;> first | rfl | exact stepK_ret
theorem k_alloc {t : TypeId} : opK P σ H (.alloc t) kk = bindK (tzero P t) fun z => kk (.ptr H.length 0, H ++ [.cells z t .rw], z0) := stepK_map
theorem k_box {t : TypeId} {x : Operand} : opK P σ H (.box t x) kk = bindK (evArg P σ x) fun v => kk (.ptr H.length 0, H ++ [.cells (vcells v) t .rw], z0) := stepK_map
def asPtr : AV → Option (Nat × Nat)
  | .ptr b o => some (b, o)
  | _ => none
theorem asPtr_p {b o : Nat} : asPtr (.ptr b o) = some (b, o) := rfl
theorem k_load {t : TypeId} {x : Operand} : opK P σ H (.load t x) kk = bindK (evArg P σ x) fun v => bindK (asPtr v) fun p => bindK (evLoad P H t p.1 p.2) fun v => kk (v, H, z0) := by
  show stepK _ _ = _
  simp only [evOp]
  rw [stepK_bind]
  refine bindK_ext fun c => ?_; cases c <;> first | rfl | exact stepK_ret
theorem k_store {t : TypeId} {x y : Operand} : opK P σ H (.store t x y) kk = bindK (evArg P σ x) fun p => bindK (evArg P σ y) fun v => bindK (asPtr p) fun p => bindK (evStore P H t p.1 p.2 v) fun r => kk (undefA, r.1, r.2) := by
  show stepK _ _ = _
  simp only [evOp]
  rw [stepK_bind]
  refine bindK_ext fun c => ?_
  rw [stepK_bind]
  refine bindK_ext fun v => ?_; cases c <;> first | rfl | exact stepK_map
def chkV : AV → Option AV
  | .ptr b o => some (.ptr b o)
  | .func (.func f) a b => some (.func (.func f) a b)
  | _ => none
theorem chkV_p {b o : Nat} : chkV (.ptr b o) = some (.ptr b o) := rfl
theorem chkV_f {f : FuncId} {a b : List AV} : chkV (.func (.func f) a b) = some (.func (.func f) a b) := rfl
theorem k_nilCheck {x : Operand} : opK P σ H (.nilCheck x) kk = bindK (evArg P σ x) fun v => bindK (chkV v) fun v => kk (v, H, z0) := by
  show stepK _ _ = _
  simp only [evOp]
  rw [stepK_bind]
  refine bindK_ext fun c => ?_
  cases c <;> try rfl
  rename_i f _ _
  cases f <;> rfl
theorem k_un {op : UnOp} {t : TypeId} {x : Operand} : opK P σ H (.unOp op t x) kk = bindK (evArg P σ x) fun v => bindK (evUn op v) fun v => kk (v, H, z0) := by
  show stepK _ _ = _
  simp only [evOp]
  rw [stepK_bind]
  refine bindK_ext fun c => ?_; exact stepK_ret
theorem k_conv {s d : TypeId} {x : Operand} : opK P σ H (.convert s d x) kk = bindK (evArg P σ x) fun v => bindK (evConv P s d v H) fun r => kk (r.1, r.2, z0) := by
  show stepK _ _ = _
  simp only [evOp]
  rw [stepK_bind]
  refine bindK_ext fun c => ?_; exact stepK_ret2
def fldA (b o : Nat) (x : Nat × Nat × Bool) : Option AV := if (x.2.1 == 0) = true then none else some (.ptr b (o + x.1))
theorem fldA_s {b o p n : Nat} {g : Bool} (h : (n == 0) = false) : fldA b o (p, n, g) = some (.ptr b (o + p)) := by simp [fldA, h]
theorem k_fieldAddr {t : TypeId} {x : Operand} {f : Nat} : opK P σ H (.fieldAddr t x f) kk = bindK (evArg P σ x) fun v => bindK (asPtr v) fun p => bindK (tfield P t f) fun x => bindK (fldA p.1 p.2 x) fun v => kk (v, H, z0) := by
  show stepK _ _ = _
  simp only [evOp]
  rw [stepK_bind]
  refine bindK_ext fun c => ?_
  cases c <;> try rfl
  show stepK (Option.bind _ _) _ = _
  rw [stepK_bind]
  show _ = bindK _ _
  refine bindK_ext fun x => ?_
  unfold fldA
  by_cases hx : x.2.1 = 0
  · simp [hx, stepK, bindK, asPtr]
  · simp [hx, stepK, bindK, asPtr]
def fldV (cs : List AV) (x : Nat × Nat × Bool) : Option AV := if x.2.2 = true then (if x.1 + x.2.1 ≤ cs.length then some (.agg ((cs.drop x.1).take x.2.1)) else none) else cs[x.1]?
theorem fldV_f {cs : List AV} {p n : Nat} : fldV cs (p, n, false) = cs[p]? := rfl
theorem fldV_t {cs : List AV} {p n : Nat} : fldV cs (p, n, true) = if p + n ≤ cs.length then some (.agg ((cs.drop p).take n)) else none := rfl
def asAgg : AV → Option (List AV)
  | .agg cs => some cs
  | _ => none
theorem asAgg_a {cs : List AV} : asAgg (.agg cs) = some cs := rfl
theorem k_field {t : TypeId} {x : Operand} {f : Nat} : opK P σ H (.field t x f) kk = bindK (evArg P σ x) fun v => bindK (asAgg v) fun cs => bindK (tfield P t f) fun x => bindK (fldV cs x) fun v => kk (v, H, z0) := by
  show stepK _ _ = _
  simp only [evOp]
  rw [stepK_bind]
  refine bindK_ext fun c => ?_
  cases c <;> try rfl
  show stepK (Option.bind _ _) _ = _
  rw [stepK_bind]
  show _ = bindK _ _
  refine bindK_ext fun x => ?_
  exact stepK_ret
theorem k_indexAddr {t : TypeId} {x i : Operand} : opK P σ H (.indexAddr t x i) kk = bindK (evArg P σ x) fun v => bindK (evArg P σ i) fun w => bindK (evIndexAddr P t v w) fun v => kk (v, H, z0) := by
  show stepK _ _ = _
  simp only [evOp]
  rw [stepK_bind]; refine bindK_ext fun c => ?_
  rw [stepK_bind]; refine bindK_ext fun c => ?_
  exact stepK_ret
theorem k_index {t : TypeId} {x i : Operand} : opK P σ H (.index t x i) kk = bindK (evArg P σ x) fun v => bindK (evArg P σ i) fun w => bindK (evIndex P t v w) fun v => kk (v, H, z0) := by
  show stepK _ _ = _
  simp only [evOp]
  rw [stepK_bind]; refine bindK_ext fun c => ?_
  rw [stepK_bind]; refine bindK_ext fun c => ?_
  exact stepK_ret
def asTup : AV → Option (List AV)
  | .tuple cs => some cs
  | _ => none
theorem asTup_a {cs : List AV} : asTup (.tuple cs) = some cs := rfl
theorem k_extract {x : Operand} {i : Nat} : opK P σ H (.extract x i) kk = bindK (evArg P σ x) fun v => bindK (asTup v) fun vs => bindK (vs[i]?) fun v => kk (v, H, z0) := by
  show stepK _ _ = _
  simp only [evOp]
  rw [stepK_bind]; refine bindK_ext fun c => ?_
  cases c <;> first | rfl | exact stepK_ret
theorem k_makeFunc {fn : Fn} {f c : Array Operand} : opK P σ H (.makeFunc fn f c) kk = bindK (evArgs P σ f.toList) fun fs => bindK (evArgs P σ c.toList) fun cs => kk (.func fn fs cs, H, z0) := by
  show stepK _ _ = _
  simp only [evOp]
  rw [stepK_bind]; refine bindK_ext fun c => ?_
  rw [stepK_bind]; rfl
def slK (P : Program) (t : TypeId) (v : AV) (lo hi mx : Option AV) (H : Hp) (kk : AV × Hp × Ef → Prop) (_ : Ph kk := ⟨⟩) : Prop :=
  match evSlice P t v lo hi mx H with
  | some v => kk (v, H, z0)
  | none => bindK (evSliceX P t v lo hi mx H) fun r => kk (r.1, r.2, z0)
theorem slK_of {t : TypeId} {v : AV} {lo hi mx : Option AV} (h : evSliceX P t v lo hi mx H = none) : slK P t v lo hi mx H kk = bindK (evSlice P t v lo hi mx H) fun v => kk (v, H, z0) := by
  unfold slK
  cases evSlice P t v lo hi mx H with
  | none => rw [h]; rfl
  | some v => rfl
theorem k_slice {t : TypeId} {x : Operand} {lo hi mx : Option Operand} : opK P σ H (.slice t x lo hi mx) kk = bindK (evArg P σ x) fun v => bindK (evOpt P σ lo) fun a => bindK (evOpt P σ hi) fun b => bindK (evOpt P σ mx) fun c => slK P t v a b c H kk := by
  show stepK _ _ = _
  simp only [evOp]
  rw [stepK_bind]; refine bindK_ext fun c => ?_
  rw [stepK_bind]; refine bindK_ext fun c => ?_
  rw [stepK_bind]; refine bindK_ext fun c => ?_
  rw [stepK_bind]; refine bindK_ext fun c => ?_
  unfold slK
  cases evSlice P t _ _ _ _ H with
  | some v => rfl
  | none => exact stepK_map
theorem k_build {t : TypeId} {ps : Array (Nat × Operand)} : opK P σ H (.build t ps) kk = bindK (evParts P σ ps.toList) fun vs => bindK (evBuild P t vs) fun v => kk (v, H, z0) := by
  show stepK _ _ = _
  simp only [evOp]
  rw [stepK_bind]; refine bindK_ext fun c => ?_
  exact stepK_ret
theorem k_buildSlice {t : TypeId} {n : Nat} {ps : Array (Nat × Operand)} : opK P σ H (.buildSlice t n ps) kk = bindK (evParts P σ ps.toList) fun vs => bindK (evBuildSlice P t n vs H) fun r => kk (r.1, r.2, z0) := by
  show stepK _ _ = _
  simp only [evOp]
  rw [stepK_bind]; refine bindK_ext fun c => ?_
  exact stepK_ret2
def ifaceV (P : Program) (t : TypeId) (v : AV) : Option AV :=
  match tsh P t with
  | some .iface => none
  | some _ => some (.iface t v)
  | none => none
theorem k_iface {t : TypeId} {x : Operand} : opK P σ H (.makeInterface t x) kk = bindK (evArg P σ x) fun v => bindK (ifaceV P t v) fun v => kk (v, H, z0) := by
  show stepK _ _ = _
  simp only [evOp]
  rw [stepK_bind]; refine bindK_ext fun c => ?_
  unfold ifaceV
  cases tsh P t with
  | none => rfl
  | some s => cases s <;> rfl
theorem k_assert {xt t : TypeId} {x : Operand} : opK P σ H (.typeAssert x xt t true) kk = bindK (evArg P σ x) fun v => bindK (evAssert P t v) fun v => kk (v, H, z0) := by
  show stepK _ _ = _
  simp only [evOp]
  rw [stepK_bind]; refine bindK_ext fun c => ?_
  exact stepK_ret
theorem as_hit {t : TypeId} {v : AV} (ht : (match tsh P t with | some .iface => false | some _ => true | none => false) = true) : evAssert P t (.iface t v) = some (.tuple [v, .bool true]) := by
  unfold evAssert
  split at ht
  · cases ht
  · rename_i s hs hne
    rw [hne]
    cases s <;> first | (exact (hs rfl).elim) | (simp; done)
  · cases ht
theorem as_miss {t u : TypeId} {v : AV} (ht : (match tsh P t with | some .iface => false | some _ => true | none => false) = true) (hu : (u == t) = false) : evAssert P t (.iface u v) = (tzeroV P t).map fun z => .tuple [z, .bool false] := by
  unfold evAssert
  have hu' : ¬ u = t := by simpa using hu
  split at ht
  · cases ht
  · rename_i s hs hne
    rw [hne]
    cases s <;> first | (exact (hs rfl).elim) | (simp [hu']; done)
  · cases ht
theorem as_nil {t : TypeId} (ht : (match tsh P t with | some .iface => false | some _ => true | none => false) = true) : evAssert P t .nili = (tzeroV P t).map fun z => .tuple [z, .bool false] := by
  unfold evAssert
  split at ht
  · cases ht
  · rename_i s hs hne
    rw [hne]
    cases s <;> first | (exact (hs rfl).elim) | rfl
  · cases ht
attribute [go_sem ↓] k_assert
attribute [go_sem] as_hit as_miss as_nil
theorem k_make {t : TypeId} {x y : Operand} : opK P σ H (.makeSlice t x y) kk = bindK (evArg P σ x) fun v => bindK (evArg P σ y) fun w => bindK (evMake P t v w H) fun r => kk (r.1, r.2, z0) := by
  show stepK _ _ = _
  simp only [evOp]
  rw [stepK_bind]; refine bindK_ext fun c => ?_
  rw [stepK_bind]; refine bindK_ext fun c => ?_
  exact stepK_ret2
theorem k_lookup {t : TypeId} {x i : Operand} {ok : Bool} : opK P σ H (.lookup t x i ok) kk = bindK (evArg P σ x) fun v => bindK (evArg P σ i) fun w => bindK (evLookup P t v w ok H) fun v => kk (v, H, z0) := by
  show stepK _ _ = _
  simp only [evOp]
  rw [stepK_bind]; refine bindK_ext fun c => ?_
  rw [stepK_bind]; refine bindK_ext fun c => ?_
  exact stepK_ret
theorem k_mapSet {t : TypeId} {m x y : Operand} : opK P σ H (.mapUpdate t m x y) kk = bindK (evArg P σ m) fun u => bindK (evArg P σ x) fun v => bindK (evArg P σ y) fun w => bindK (evMapSet P t u v w H) fun r => kk (undefA, r.1, r.2) := by
  show stepK _ _ = _
  simp only [evOp]
  rw [stepK_bind]; refine bindK_ext fun c => ?_
  rw [stepK_bind]; refine bindK_ext fun c => ?_
  rw [stepK_bind]; refine bindK_ext fun c => ?_
  exact stepK_map
def binV (P : Program) (op : BinOp) (t : TypeId) (a b : AV) (cst : Bool) : Option AV :=
  match a, b with
  | .nili, .nili => if cst = true then (match op with | .eql => (if (tsh P t matches some .iface) then some (.bool true) else none) | .neq => (if (tsh P t matches some .iface) then some (.bool false) else none) | _ => none) else none
  | a, b => evBin P op t a b
theorem k_bin {op : BinOp} {t u : TypeId} {x y : Operand} : opK P σ H (.binOp op t x y u) kk = bindK (evArg P σ x) fun a => bindK (evArg P σ y) fun b => bindK (binV P op t a b (evOp.isConst x || evOp.isConst y)) fun v => kk (v, H, z0) := by
  show stepK _ _ = _
  simp only [evOp]
  rw [stepK_bind]; refine bindK_ext fun a => ?_
  rw [stepK_bind]; refine bindK_ext fun b => ?_
  rw [← stepK_ret]
  unfold binV
  split
  · split
    · cases op <;> rfl
    · rfl
  · split
    · rename_i h; exact (h rfl rfl).elim
    · rfl
theorem k_call {f : Operand} {args : Array Operand} {ts : Array TypeId} : opK P σ H (.call ⟨.value f, args, ts⟩) kk = callT P (target P σ f args.toList) H kk := rfl
theorem k_callf {g : FuncId} {args : Array Operand} {ts : Array TypeId} : opK P σ H (.call ⟨.value (.func g), args, ts⟩) kk = bindK (evArgs P σ args.toList) fun az => callX P g az H kk := by
  rw [k_call]
  unfold target
  rw [arg_f]
  simp only [Option.bind_some, List.nil_append, List.append_nil]
  cases evArgs P σ args.toList <;> rfl
def apV (v : AV) (az : List AV) : Option Tg :=
  match v with
  | .func (.func g) first captured => some (.fn g (first ++ az ++ captured))
  | .yld b => some (.yl b az)
  | _ => none
theorem apV_s {g : FuncId} {az fs cs : List AV} : apV (.func (.func g) fs cs) az = some (.fn g (fs ++ az ++ cs)) := rfl
theorem apV_y {b : Nat} {az : List AV} : apV (.yld b) az = some (.yl b az) := rfl
theorem k_callv {t : Nat} {args : Array Operand} {ts : Array TypeId} : opK P σ H (.call ⟨.value (.tmp t), args, ts⟩) kk = bindK (evArgs P σ args.toList) fun az => callT P (apV (fr σ t) az) H kk := by
  rw [k_call]
  unfold target
  rw [arg_t]
  simp only [Option.bind_some]
  cases evArgs P σ args.toList with
  | none => rfl
  | some az => rfl
theorem k_len {t : TypeId} {ts : List TypeId} {x : Operand} : opK P σ H (.call ⟨.builtin .len, ⟨[x]⟩, ⟨t :: ts⟩⟩) kk = bindK (evArg P σ x) fun v => bindK (evLen P t v H) fun v => kk (v, H, z0) := by
  show stepK _ _ = _
  simp only [evOp, evCall, evArgs]
  cases evArg P σ x with
  | none => rfl
  | some v => exact stepK_ret
theorem k_append {t u : TypeId} {x y : Operand} (hu : srcOk P u = true) : opK P σ H (.call ⟨.builtin .append, ⟨[x, y]⟩, ⟨[t, u]⟩⟩) kk = bindK (evArg P σ x) fun v => bindK (evArg P σ y) fun w => stepK (evAppend P t v w H) kk := by
  show stepK _ _ = _
  simp only [evOp, evCall, evArgs]
  cases evArg P σ x with
  | none => rfl
  | some v =>
    cases evArg P σ y with
    | none => rfl
    | some w => show stepK (if srcOk P u = true then _ else _) kk = _; rw [if_pos hu]; rfl
theorem k_appendZ {t u : TypeId} {x y : Operand} (hu : srcOk P u = false) (hi : (match tsh P u with | some (.int _) => true | _ => false) = true) : opK P σ H (.call ⟨.builtin .append, ⟨[x, y]⟩, ⟨[t, u]⟩⟩) kk = bindK (evArg P σ x) fun v => bindK (evArg P σ y) fun w => stepK (evAppZ P t v w H) kk := by
  have hi : isIntT P u = true := hi
  show stepK _ _ = _
  simp only [evOp, evCall, evArgs]
  cases evArg P σ x with
  | none => rfl
  | some v =>
    cases evArg P σ y with
    | none => rfl
    | some w => show stepK (if srcOk P u = true then _ else _) kk = _; rw [if_neg (by rw [hu]; simp), if_pos hi]; rfl
theorem k_copy {t : TypeId} {ts : List TypeId} {x y : Operand} : opK P σ H (.call ⟨.builtin .copy, ⟨[x, y]⟩, ⟨t :: ts⟩⟩) kk = bindK (evArg P σ x) fun v => bindK (evArg P σ y) fun w => stepK (evCopy P t v w H) kk := by
  show stepK _ _ = _
  simp only [evOp, evCall, evArgs]
  cases evArg P σ x with
  | none => rfl
  | some v =>
    cases evArg P σ y with
    | none => rfl
    | some w => rfl
end
attribute [go_sem] asPtr_p chkV_p chkV_f fldA_s fldV_f fldV_t asAgg_a asTup_a apV_s apV_y
attribute [go_sem ↓] k_move k_assign k_pick k_alloc k_box k_load k_store k_nilCheck k_un k_conv k_fieldAddr k_field k_indexAddr k_index k_extract k_makeFunc k_slice k_build k_buildSlice k_iface k_make k_lookup k_mapSet k_bin k_callf k_callv k_len k_append k_appendZ k_copy

theorem b_int {op : BinOp} {t : TypeId} {kd : IntKind} {a b : Int} {c : Bool} (h1 : (match op with | .shl => true | .shr => true | _ => false) = false) : binV P op t (.int kd a) (.int kd b) c = evInt op kd a b := by
  cases op <;> first | (cases h1; done) | simp [binV, evBin]
theorem b_shl {t : TypeId} {kd kd' : IntKind} {a b : Int} {c : Bool} : binV P .shl t (.int kd a) (.int kd' b) c = evShift .shl kd a b := rfl
theorem b_shr {t : TypeId} {kd kd' : IntKind} {a b : Int} {c : Bool} : binV P .shr t (.int kd a) (.int kd' b) c = evShift .shr kd a b := rfl
theorem b_str {op : BinOp} {t : TypeId} {a b : List UInt8} {c : Bool} : binV P op t (.str a) (.str b) c = evStr op a b := by
  cases op <;> rfl
theorem b_eqb {t : TypeId} {a b : Bool} {c : Bool} (ht : P.underlying t = some .bool) : binV P .eql t (.bool a) (.bool b) c = some (.bool (a == b)) := by simp [binV, evBin, evEq, ht]
theorem b_neb {t : TypeId} {a b : Bool} {c : Bool} (ht : P.underlying t = some .bool) : binV P .neq t (.bool a) (.bool b) c = some (.bool (!(a == b))) := by simp [binV, evBin, evEq, ht]
theorem b_eqa {t : TypeId} {a b : List AV} {c : Bool} : binV P .eql t (.agg a) (.agg b) c = if (P.eqGuardType P.depth t) = true then none else (evEq P 20 t (.agg a) (.agg b)).map .bool := rfl
theorem b_nea {t : TypeId} {a b : List AV} {c : Bool} : binV P .neq t (.agg a) (.agg b) c = if (P.eqGuardType P.depth t) = true then none else (evEq P 20 t (.agg a) (.agg b)).map fun r => .bool !r := rfl
theorem i_add {kd : IntKind} {a b : Int} : evInt .add kd a b = some (.int kd (kd.wrap (a + b))) := rfl
theorem i_sub {kd : IntKind} {a b : Int} : evInt .sub kd a b = some (.int kd (kd.wrap (a - b))) := rfl
theorem i_mul {kd : IntKind} {a b : Int} : evInt .mul kd a b = some (.int kd (kd.wrap (a * b))) := rfl
theorem i_eql {kd : IntKind} {a b : Int} : evInt .eql kd a b = some (.bool (a == b)) := rfl
theorem i_neq {kd : IntKind} {a b : Int} : evInt .neq kd a b = some (.bool (a != b)) := rfl
theorem i_lss {kd : IntKind} {a b : Int} : evInt .lss kd a b = some (.bool (decide (a < b))) := rfl
theorem i_leq {kd : IntKind} {a b : Int} : evInt .leq kd a b = some (.bool (decide (a ≤ b))) := rfl
theorem i_gtr {kd : IntKind} {a b : Int} : evInt .gtr kd a b = some (.bool (decide (a > b))) := rfl
theorem i_geq {kd : IntKind} {a b : Int} : evInt .geq kd a b = some (.bool (decide (a ≥ b))) := rfl
theorem s_eql {a b : List UInt8} : evStr .eql a b = some (.bool (a == b)) := rfl
theorem s_neq {a b : List UInt8} : evStr .neq a b = some (.bool !(a == b)) := rfl
theorem s_add {a b : List UInt8} : evStr .add a b = if a.length + b.length ≤ maxI then some (.str (a ++ b)) else none := rfl
theorem u_not {b : Bool} : evUn .not (.bool b) = some (.bool !b) := rfl
theorem len_str {t : TypeId} {s : List UInt8} (h : tsh P t = some .str) : evLen P t (.str s) H = some (.int .i64 s.length) := by simp [evLen, h]
theorem len_sl {t : TypeId} {x o n : Nat} {c : Cap} (h : (match tsh P t with | some (.slice _ _ _) => true | _ => false) = true) : evLen P t (.slice x o n c) H = some (.int .i64 n) := by
  unfold evLen; split at h
  · rename_i ht; rw [ht]
  · cases h
theorem len_nils {t : TypeId} (h : (match tsh P t with | some (.slice _ _ _) => true | _ => false) = true) : evLen P t .nils H = some (.int .i64 0) := by
  unfold evLen; split at h
  · rename_i ht; rw [ht]
  · cases h
attribute [go_sem] b_int b_shl b_shr b_str b_eqb b_neb b_eqa b_nea i_add i_sub i_mul i_eql i_neq i_lss i_leq i_gtr i_geq s_eql s_neq s_add u_not len_str len_sl len_nils

theorem fl_b {b : Bool} : flat (.bool b) = true := by simp only [flat]
theorem fl_i {k : IntKind} {n : Int} : flat (.int k n) = true := by simp only [flat]
theorem fl_f {k : FloatKind} {n : Nat} : flat (.float k n) = true := by simp only [flat]
theorem fl_s {s : List UInt8} : flat (.str s) = true := by simp only [flat]
theorem fl_np : flat .nilp = true := by simp only [flat]
theorem fl_ns : flat .nils = true := by simp only [flat]
theorem fl_nm : flat .nilm = true := by simp only [flat]
theorem fl_nf : flat .nilf = true := by simp only [flat]
theorem fl_ni : flat .nili = true := by simp only [flat]
theorem fl_p {b o : Nat} : flat (.ptr b o) = false := by simp only [flat]
theorem fl_sl {b o n : Nat} {c : Cap} : flat (.slice b o n c) = false := by simp only [flat]
theorem fl_m {r : Nat} : flat (.map r) = false := by simp only [flat]
theorem fl_if {t : TypeId} {v : AV} : flat (.iface t v) = flat v := by simp only [flat]
theorem fl_a {cs : List AV} : flat (.agg cs) = flats cs := by simp only [flat]
theorem fl_t {cs : List AV} : flat (.tuple cs) = flats cs := by simp only [flat]
theorem fl_fn {f : Fn} {a b : List AV} : flat (.func f a b) = (flats a && flats b) := by simp only [flat]
theorem fls_n : flats [] = true := by simp only [flats]
theorem fls_c {v : AV} {vs : List AV} : flats (v :: vs) = (flat v && flats vs) := by simp only [flats]
theorem sc_b {b : Bool} : scal (.bool b) = true := by simp only [scal]
theorem sc_i {k : IntKind} {n : Int} : scal (.int k n) = true := by simp only [scal]
theorem sc_f {k : FloatKind} {n : Nat} : scal (.float k n) = true := by simp only [scal]
theorem sc_s {s : List UInt8} : scal (.str s) = true := by simp only [scal]
theorem sc_np : scal .nilp = true := by simp only [scal]
theorem sc_ns : scal .nils = true := by simp only [scal]
theorem sc_nm : scal .nilm = true := by simp only [scal]
theorem sc_nf : scal .nilf = true := by simp only [scal]
theorem sc_ni : scal .nili = true := by simp only [scal]
theorem sc_p {b o : Nat} : scal (.ptr b o) = true := by simp only [scal]
theorem sc_sl {b o n : Nat} {c : Cap} : scal (.slice b o n c) = true := by simp only [scal]
theorem sc_m {r : Nat} : scal (.map r) = true := by simp only [scal]
theorem sc_if {t : TypeId} {v : AV} : scal (.iface t v) = true := by simp only [scal]
theorem sc_fn {f : Fn} {a b : List AV} : scal (.func f a b) = true := by simp only [scal]
attribute [go_sem] fl_b fl_i fl_f fl_s fl_np fl_ns fl_nm fl_nf fl_ni fl_p fl_sl fl_m fl_if fl_a fl_t fl_fn fls_n fls_c sc_b sc_i sc_f sc_s sc_np sc_ns sc_nm sc_nf sc_ni sc_p sc_sl sc_m sc_if sc_fn

theorem hp_new {l : Hp} {i : Nat} : (H ++ l)[H.length + i]? = l[i]? := by rw [List.getElem?_append_right (by omega)]; congr 1; omega
theorem hp_new0 {l : Hp} : (H ++ l)[H.length]? = l[0]? := by rw [List.getElem?_append_right (by omega)]; congr 1; omega
theorem hp_old {l : Hp} {b : Nat} {x : ABlk} (h : H[b]? = some x) : (H ++ l)[b]? = some x := by rw [List.getElem?_append_left (List.getElem?_eq_some_iff.1 h).1]; exact h
theorem hp_set {l : Hp} {i : Nat} {v : ABlk} : (H ++ l).set (H.length + i) v = H ++ l.set i v := by
  rw [List.set_append_right _ _ (by omega)]; congr 2; omega
theorem hp_set0 {l : Hp} {v : ABlk} : (H ++ l).set H.length v = H ++ l.set 0 v := by
  rw [List.set_append_right _ _ (by omega)]; congr 2; omega
def ldC (o n : Nat) (g : Bool) : ABlk → Option AV
  | .cells c _ _ => if g = true then (if o + n ≤ c.length then some (.agg ((c.drop o).take n)) else none) else c[o]?
  | .void => if g = true then (if n = 0 then some (.agg []) else none) else none
  | _ => none
theorem ldC_f {c : List AV} {e : TypeId} {kd : Kd} {o n : Nat} : ldC o n false (.cells c e kd) = c[o]? := rfl
theorem ev_load {t b o : Nat} : evLoad P H t b o = (tagg P t).bind fun g => (if g = true then tsize P t else some 1).bind fun n => (H[b]?).bind (ldC o n g) := by
  unfold evLoad
  cases tagg P t with
  | none => rfl
  | some g =>
    cases g with
    | true =>
      simp only [Option.bind_some, if_true]
      congr 1; funext n
      unfold rd
      cases H[b]? with
      | none => rfl
      | some x =>
        cases x <;> try rfl
        all_goals
          show Option.map AV.agg (if _ then _ else _) = if _ then _ else _
          split <;> rfl
    | false =>
      simp only [Option.bind_some, Bool.false_eq_true, if_false]
      unfold rd
      cases H[b]? with
      | none => rfl
      | some x =>
        cases x <;> try rfl
        rename_i c e kd
        show Option.bind (if _ then _ else _) one = c[o]?
        split
        · rename_i h
          have : o < c.length := by omega
          rw [List.getElem?_eq_getElem this, List.drop_eq_getElem_cons this]
          rfl
        · rename_i h
          rw [List.getElem?_eq_none (by omega)]
          rfl
def szT (P : Program) (t : TypeId) (g : Bool) : Option Nat := if g = true then tsize P t else some 1
theorem szT_t {t : TypeId} : szT P t true = tsize P t := rfl
theorem szT_f {t : TypeId} : szT P t false = some 1 := rfl
theorem bind_load {t b o : Nat} {f : AV → Prop} : bindK (evLoad P H t b o) f = bindK (tagg P t) fun g => bindK (szT P t g) fun n => bindK (H[b]?) fun x => bindK (ldC o n g x) f := by
  rw [ev_load, bindK_bind]
  refine bindK_ext fun g => ?_
  rw [bindK_bind]
  refine bindK_ext fun n => ?_
  rw [bindK_bind]
def wrC (H : Hp) (b o : Nat) (xs : List AV) : ABlk → Option (Hp × Ef)
  | .cells c e k => if o + xs.length ≤ c.length ∧ canWr k o = true ∧ xs.all scal = true then some (H.set b (.cells (splice c o xs) e k), ⟨if flats xs = true then none else some b, some b⟩) else none
  | _ => none
theorem wrC_s {b o : Nat} {xs c : List AV} {e : TypeId} {k : Kd} : wrC H b o xs (.cells c e k) = if o + xs.length ≤ c.length ∧ canWr k o = true ∧ xs.all scal = true then some (H.set b (.cells (splice c o xs) e k), ⟨if flats xs = true then none else some b, some b⟩) else none := rfl
theorem ev_wr {b o : Nat} {xs : List AV} : wr H b o xs = (H[b]?).bind (wrC H b o xs) := by
  unfold wr
  cases H[b]? with
  | none => rfl
  | some x => cases x <;> rfl
theorem ev_store {t b o : Nat} {v : AV} : evStore P H t b o v = (tsize P t).bind fun n => if (vcells v).length = n then (H[b]?).bind (wrC H b o (vcells v)) else none := by
  unfold evStore
  cases tsize P t with
  | none => rfl
  | some n => simp only [Option.bind_some, ev_wr]
theorem bind_store {t b o : Nat} {v : AV} {f : Hp × Ef → Prop} : bindK (evStore P H t b o v) f = bindK (tsize P t) fun n => (vcells v).length = n ∧ bindK (H[b]?) fun x => bindK (wrC H b o (vcells v) x) f := by
  rw [ev_store, bindK_bind]
  refine bindK_ext fun n => ?_
  rw [bindK_ite, bindK_bind]
theorem vcells_a {cs : List AV} : vcells (.agg cs) = cs := rfl
theorem vcells_s {s : List UInt8} : vcells (.str s) = [.str s] := rfl
theorem vcells_i {kd : IntKind} {n : Int} : vcells (.int kd n) = [.int kd n] := rfl
theorem vcells_b {b : Bool} : vcells (.bool b) = [.bool b] := rfl
theorem vcells_p {b o : Nat} : vcells (.ptr b o) = [.ptr b o] := rfl
theorem vcells_np : vcells .nilp = [.nilp] := rfl
theorem vcells_sl {b o n : Nat} {c : Cap} : vcells (.slice b o n c) = [.slice b o n c] := rfl
theorem vcells_ns : vcells .nils = [.nils] := rfl
theorem vcells_m {r : Nat} : vcells (.map r) = [.map r] := rfl
theorem vcells_if {t : TypeId} {v : AV} : vcells (.iface t v) = [.iface t v] := rfl
theorem vcells_ni : vcells .nili = [.nili] := rfl
theorem splice_d {a x : AV} {c xs : List AV} {o : Nat} : splice (a :: c) o (x :: xs) = (a :: c).take o ++ (x :: xs) ++ (a :: c).drop (o + (x :: xs).length) := rfl
theorem ldC_fc {v : AV} {c : List AV} {e : TypeId} {kd : Kd} {o n : Nat} : ldC o n false (.cells (v :: c) e kd) = (v :: c)[o]? := rfl
theorem ldC_tc {v : AV} {c : List AV} {e : TypeId} {kd : Kd} {o n : Nat} : ldC o n true (.cells (v :: c) e kd) = if o + n ≤ (v :: c).length then some (.agg (((v :: c).drop o).take n)) else none := rfl
attribute [go_sem] ldC_fc ldC_tc splice_d
attribute [go_sem ↓] bind_load bind_store
attribute [go_sem] hp_new hp_new0 hp_set hp_set0 szT_t szT_f wrC_s ev_wr vcells_a vcells_s vcells_i vcells_b vcells_p vcells_np vcells_sl vcells_ns vcells_m vcells_if vcells_ni
attribute [go_sem] List.append_assoc List.cons_append List.nil_append List.length_append List.length_cons List.length_nil List.getElem?_cons_zero List.getElem?_cons_succ List.drop_zero List.drop_succ_cons List.take_zero List.take_succ_cons List.take_nil List.drop_nil List.set_cons_zero List.set_cons_succ Nat.zero_add Nat.add_zero if_true canWr List.all_cons List.all_nil Bool.and_true Bool.true_and Bool.and_self decide_true decide_false Nat.add_assoc true_and and_true eq_self Option.getD_some Bool.false_eq_true if_false Bool.or_false Bool.or_true Bool.false_or Bool.true_or
attribute [go_sem] Int.toNat_natCast Int.natCast_nonneg Int.ofNat_lt beq_self_eq_true bne_self_eq_false Bool.not_true Bool.not_false
attribute [go_sem] Nat.sub_zero true_or or_true Nat.zero_le

def rdC (o n : Nat) : ABlk → Option (List AV)
  | .cells c _ _ => if o + n ≤ c.length then some ((c.drop o).take n) else none
  | .void => if n = 0 then some [] else none
  | _ => none
theorem rdC_v {o : Nat} : rdC o 0 .void = some [] := rfl
attribute [go_sem] rdC_v
theorem rdC_c {o n : Nat} {c : List AV} {e : TypeId} {k : Kd} : rdC o n (.cells c e k) = if o + n ≤ c.length then some ((c.drop o).take n) else none := rfl
theorem bind_rd {b o n : Nat} {f : List AV → Prop} : bindK (rd H b o n) f = bindK (H[b]?) fun x => bindK (rdC o n x) f := by
  have : rd H b o n = (H[b]?).bind (rdC o n) := by
    unfold rd
    cases H[b]? with
    | none => rfl
    | some x => cases x <;> rfl
  rw [this, bindK_bind]
theorem ap_nils {z : Nat} {f : List AV × Nat → Prop} : bindK (appended H z .nils) f = f ([], 0) := rfl
theorem ap_sl {z b o n : Nat} {c : Cap} {f : List AV × Nat → Prop} : bindK (appended H z (.slice b o n c)) f = bindK (H[b]?) fun x => bindK (rdC o (n * z) x) fun l => f (l, n) := by
  show bindK ((rd H b o (n * z)).map _) f = _
  rw [bindK_map, bind_rd]
theorem ap_str {z : Nat} {s : List UInt8} {f : List AV × Nat → Prop} (h : (z == 1) = true) : bindK (appended H z (.str s)) f = f (s.map fun b => .int .u8 b.toNat, s.length) := by
  have : z = 1 := by simpa using h
  subst this; rfl
theorem shZ_s {e z b : Nat} : shZ (.slice e z b) = z := rfl
theorem ev_append {t : TypeId} {s x : AV} {kk : AV × Hp × Ef → Prop} : stepK (evAppend P t s x H) kk = bindK (tsh P t) fun sh => bindK (appended H (shZ sh) x) fun a => stepK (appTo P sh s a H) kk := by
  unfold evAppend
  cases tsh P t with
  | none => rfl
  | some sh =>
    cases sh <;> try (rw [bindK_some]; generalize appended H _ x = q; cases q <;> rfl)
    rename_i e z b
    simp only [bindK_some, shZ]
    by_cases hz : 0 < z ∧ zok P e z = true
    · rw [if_pos hz, stepK_bind]
      refine bindK_ext fun a => ?_
      simp only [appTo]
      rw [if_pos hz]
      try (cases s <;> rfl)
    · rw [if_neg hz]
      cases appended H z x with
      | none => rfl
      | some a =>
        rw [bindK_some]
        simp only [appTo]
        rw [if_neg hz]
def shB : Sh → Nat
  | .slice _ _ b => b
  | _ => 0
def shE : Sh → TypeId
  | .slice e _ _ => e
  | _ => 0
theorem shB_s {e z b : Nat} : shB (.slice e z b) = b := rfl
theorem shE_s {e z b : Nat} : shE (.slice e z b) = e := rfl
theorem ev_appz {t : TypeId} {s : AV} {k : IntKind} {n : Int} {kk : AV × Hp × Ef → Prop} : stepK (evAppZ P t s (.int k n) H) kk = bindK (tsh P t) fun sh => (0 ≤ n ∧ fits n.toNat (shB sh) = true) ∧ bindK (tzero P (shE sh)) fun zs => zs.length = shZ sh ∧ stepK (appTo P sh s (rep zs n.toNat, n.toNat) H) kk := by
  unfold evAppZ
  cases ht : tsh P t with
  | none => rfl
  | some sh =>
    cases sh with
    | slice e z b =>
      simp only [bindK_some, shB, shE, shZ]
      by_cases hc : 0 ≤ n ∧ fits n.toNat b = true
      · rw [if_pos hc]
        cases tzero P e with
        | none => simp [stepK, bindK]
        | some zs =>
          by_cases hz : zs.length = z
          · simp [hz, hc, bindK]
          · simp [hz, bindK, stepK]
      · rw [if_neg hc]; simp [hc, stepK]
    | _ => simp only [bindK_some]; simp [stepK, appTo, bindK]; intros; cases tzero P _ <;> simp
theorem stepK_if {p : Prop} [Decidable p] {r : Rs} {kk : AV × Hp × Ef → Prop} : stepK (if p then r else none) kk = (p ∧ stepK r kk) := by
  by_cases h : p
  · rw [if_pos h]; simp [h]
  · rw [if_neg h]; simp [h, stepK]
theorem stepK_ite {p : Prop} [Decidable p] {r q : Rs} {kk : AV × Hp × Ef → Prop} : stepK (if p then r else q) kk = guardK (.bool (decide p)) true (stepK r kk) (stepK q kk) := by
  by_cases h : p
  · rw [if_pos h]
    have : decide p = true := by simpa using h
    rw [this]; rfl
  · rw [if_neg h]
    have : decide p = false := by simpa using h
    rw [this]; rfl
theorem appTo_nils {e z b n : Nat} {cs : List AV} {kk : AV × Hp × Ef → Prop} (hz : decide (0 < z) = true) (hk : zok P e z = true) :
    stepK (appTo P (.slice e z b) .nils (cs, n) H) kk = guardK (.bool (decide (n = 0))) true (kk (.nils, H, z0)) (fits n b = true ∧ kk (.slice H.length 0 n (.op 0), H ++ [.cells cs e (.op 0 false)], z0)) := by
  simp only [appTo]
  rw [if_pos ⟨by simpa using hz, hk⟩, stepK_ite, stepK_if]
  rfl
def appO (H : Hp) (e z b bl o n k : Nat) (a : List AV × Nat) (kk : AV × Hp × Ef → Prop) : ABlk → Prop
  | .cells c e' (.op fz st) =>
    (e' = e ∧ o = k * z ∧ o + n * z ≤ c.length) ∧ guardK (.bool (decide (o + (n + a.2) * z ≤ c.length))) true
      (bindK (wr H bl (o + n * z) a.1) fun r => kk (.slice bl o (n + a.2) (.op k), r.1, r.2))
      ((fits (n + a.2) b = true ∧ fz ≤ o + n * z ∧ a.1.all scal = true) ∧
        kk (.slice H.length 0 (n + a.2) (.op 0), H.set bl .dead ++ [.cells ((c.drop o).take (n * z) ++ a.1) e (.op (fz - o) st)], ⟨none, some bl⟩))
  | _ => False
theorem appTo_op {e z b bl o n k : Nat} {a : List AV × Nat} {kk : AV × Hp × Ef → Prop} (hz : decide (0 < z) = true) (hk : zok P e z = true) :
    stepK (appTo P (.slice e z b) (.slice bl o n (.op k)) a H) kk = bindK (H[bl]?) (appO H e z b bl o n k a kk) := by
  simp only [appTo]
  rw [if_pos ⟨by simpa using hz, hk⟩]
  cases H[bl]? with
  | none => rfl
  | some x =>
    rw [bindK_some]
    cases x <;> try rfl
    rename_i c e' kd
    cases kd <;> try rfl
    rename_i fz st
    simp only [appO]
    rw [stepK_if, stepK_ite, stepK_if, stepK_map]
    rfl
theorem appO_c {e z b bl o n k fz : Nat} {st : Bool} {c : List AV} {e' : TypeId} {a : List AV × Nat} {kk : AV × Hp × Ef → Prop} :
    appO H e z b bl o n k a kk (.cells c e' (.op fz st)) = ((e' = e ∧ o = k * z ∧ o + n * z ≤ c.length) ∧ guardK (.bool (decide (o + (n + a.2) * z ≤ c.length))) true
      (bindK (wr H bl (o + n * z) a.1) fun r => kk (.slice bl o (n + a.2) (.op k), r.1, r.2))
      ((fits (n + a.2) b = true ∧ fz ≤ o + n * z ∧ a.1.all scal = true) ∧
        kk (.slice H.length 0 (n + a.2) (.op 0), H.set bl .dead ++ [.cells ((c.drop o).take (n * z) ++ a.1) e (.op (fz - o) st)], ⟨none, some bl⟩))) := rfl
theorem appTo_ex {e z b bl o n c : Nat} {a : List AV × Nat} {kk : AV × Hp × Ef → Prop} (hz : decide (0 < z) = true) (hk : zok P e z = true) :
    stepK (appTo P (.slice e z b) (.slice bl o n (.ex c)) a H) kk = guardK (.bool (decide (n + a.2 ≤ c))) true (bindK (wr H bl (o + n * z) a.1) fun r => kk (.slice bl o (n + a.2) (.ex c), r.1, r.2))
      (fits (n + a.2) b = true ∧ bindK (rd H bl o (n * z)) fun old => kk (.slice H.length 0 (n + a.2) (.op 0), H ++ [.cells (old ++ a.1) e (.op 0 false)], z0)) := by
  simp only [appTo]
  rw [if_pos ⟨by simpa using hz, hk⟩]
  rw [stepK_ite, stepK_if, stepK_map, stepK_map]
attribute [go_sem ↓] bind_rd ap_nils ap_sl ap_str ev_append ev_appz appTo_nils appTo_op appTo_ex
attribute [go_sem] shZ_s shB_s shE_s appO_c
theorem rdC_cc {o n : Nat} {v : AV} {c : List AV} {e : TypeId} {k : Kd} : rdC o n (.cells (v :: c) e k) = if o + n ≤ (v :: c).length then some (((v :: c).drop o).take n) else none := rfl
attribute [go_sem] rdC_cc

def knC (o k : Nat) (sh : Sh) : ABlk → Option Nat
  | .cells c e' (.op _ _) => match sh with
    | .slice e z _ => if e' = e ∧ 0 < z ∧ o = k * z then some ((c.length - o) / z) else none
    | _ => none
  | _ => none
theorem knC_c {o k e z b fz : Nat} {st : Bool} {c : List AV} {e' : TypeId} : knC o k (.slice e z b) (.cells c e' (.op fz st)) = if e' = e ∧ 0 < z ∧ o = k * z then some ((c.length - o) / z) else none := rfl
theorem bnd_nn {l c : Nat} {f : Nat × Nat → Prop} : bindK (bnd none none l c) f = f (0, l) := rfl
theorem bnd_nh {l c : Nat} {k : IntKind} {h : Int} {f : Nat × Nat → Prop} : bindK (bnd none (some (.int k h)) l c) f = ((0 ≤ h ∧ h ≤ c) ∧ f (0, h.toNat)) := by
  simp only [bnd, bindK_ite, bindK_some]
theorem bnd_ln {l c : Nat} {k : IntKind} {a : Int} {f : Nat × Nat → Prop} : bindK (bnd (some (.int k a)) none l c) f = ((0 ≤ a ∧ a ≤ l) ∧ f (a.toNat, l)) := by
  simp only [bnd, bindK_ite, bindK_some]
theorem bnd_lh {l c : Nat} {k k' : IntKind} {a h : Int} {f : Nat × Nat → Prop} : bindK (bnd (some (.int k a)) (some (.int k' h)) l c) f = ((0 ≤ h ∧ h ≤ c) ∧ (0 ≤ a ∧ a ≤ h) ∧ f (a.toNat, h.toNat)) := by
  simp only [bnd, bindK_ite, bindK_some]
section
variable {kk : AV × Hp × Ef → Prop}
theorem known_knC {b o k e z bb : Nat} : known H b o k z e = (H[b]?).bind (knC o k (.slice e z bb)) := by
  unfold known
  cases H[b]? with
  | none => rfl
  | some x =>
    cases x <;> try rfl
    rename_i c e' kd
    cases kd <;> rfl
def isSl : Option Sh → Bool
  | some (.slice _ _ _) => true
  | _ => false
theorem isSl_t {e z b : Nat} : isSl (some (.slice e z b)) = true := rfl
theorem isSl_ex {x : Option Sh} (h : isSl x = true) : ∃ e z b, x = some (.slice e z b) := by
  unfold isSl at h
  split at h
  · exact ⟨_, _, _, rfl⟩
  · cases h
theorem slK_op {t : TypeId} {b o n k : Nat} {lo hi : Option AV} (ht : isSl (tsh P t) = true) : slK P t (.slice b o n (.op k)) lo hi none H kk = bindK (tsh P t) fun sh => bindK (H[b]?) fun x => bindK (knC o k sh x) fun q => bindK (bnd lo hi n q) fun r =>
    guardK (.bool (decide (r.1 = 0 ∨ r.1 < q))) true (kk (.slice b (o + r.1 * shZ sh) (r.2 - r.1) (.op (k + r.1)), H, z0)) (r.1 = r.2 ∧ kk (.slice H.length 0 0 (.op 0), H ++ [.void], z0)) := by
  obtain ⟨e, z, bb, he⟩ := isSl_ex ht
  unfold slK
  simp only [evSlice, evSliceX, he, known_knC (bb := bb), bindK_some]
  cases hx : H[b]? with
  | none => rfl
  | some x =>
    simp only [Option.bind_some, bindK_some]
    cases hq : knC o k (.slice e z bb) x with
    | none => rfl
    | some q =>
      simp only [Option.bind_some, bindK_some]
      cases hr : bnd lo hi n q with
      | none => rfl
      | some r =>
        simp only [Option.bind_some, bindK_some, shZ]
        by_cases hc : r.1 = 0 ∨ r.1 < q
        · rw [if_pos hc, decide_eq_true hc]; rfl
        · rw [if_neg hc, decide_eq_false hc, guardK_ft]
          by_cases h2 : r.1 = r.2
          · rw [if_pos h2]; simp [h2, bindK_some]
          · rw [if_neg h2]; simp [h2]; exact fun h => h
theorem slK_op3 {t : TypeId} {b o n k : Nat} {lo hi : Option AV} {km : IntKind} {m : Int} (ht : isSl (tsh P t) = true) : slK P t (.slice b o n (.op k)) lo hi (some (.int km m)) H kk = bindK (tsh P t) fun sh => bindK (H[b]?) fun x => bindK (knC o k sh x) fun q =>
    (0 ≤ m ∧ m ≤ q ∧ hi.isSome = true) ∧ bindK (bnd lo hi n m.toNat) fun r => kk (.slice b (if m.toNat = r.1 then o else o + r.1 * shZ sh) (r.2 - r.1) (.ex (m.toNat - r.1)), H, z0) := by
  obtain ⟨e, z, bb, he⟩ := isSl_ex ht
  rw [slK_of (by simp [evSliceX])]
  simp only [evSlice, he, known_knC (bb := bb), bindK_some, bindK_bind]
  refine bindK_ext fun x => bindK_ext fun q => ?_
  rw [bindK_ite, bindK_map]
  rfl
theorem slK_ex {t : TypeId} {b o n c : Nat} {lo hi : Option AV} (ht : isSl (tsh P t) = true) : slK P t (.slice b o n (.ex c)) lo hi none H kk = bindK (tsh P t) fun sh => bindK (bnd lo hi n c) fun r => kk (.slice b (if c = r.1 then o else o + r.1 * shZ sh) (r.2 - r.1) (.ex (c - r.1)), H, z0) := by
  obtain ⟨e, z, bb, he⟩ := isSl_ex ht
  rw [slK_of (by simp [evSliceX])]
  simp only [evSlice, he, bindK_map, bindK_some, shZ]
theorem slK_ex3 {t : TypeId} {b o n c : Nat} {lo hi : Option AV} {km : IntKind} {m : Int} (ht : isSl (tsh P t) = true) : slK P t (.slice b o n (.ex c)) lo hi (some (.int km m)) H kk = bindK (tsh P t) fun sh =>
    (0 ≤ m ∧ m ≤ c ∧ hi.isSome = true) ∧ bindK (bnd lo hi n m.toNat) fun r => kk (.slice b (if m.toNat = r.1 then o else o + r.1 * shZ sh) (r.2 - r.1) (.ex (m.toNat - r.1)), H, z0) := by
  obtain ⟨e, z, bb, he⟩ := isSl_ex ht
  rw [slK_of (by simp [evSliceX])]
  simp only [evSlice, he, bindK_map, bindK_some, bindK_ite, shZ]
theorem slK_nils {t : TypeId} {lo hi : Option AV} (ht : isSl (tsh P t) = true) : slK P t .nils lo hi none H kk = bindK (bnd lo hi 0 0) fun _ => kk (.nils, H, z0) := by
  obtain ⟨e, z, bb, he⟩ := isSl_ex ht
  rw [slK_of (by simp [evSliceX])]
  simp only [evSlice, he, bindK_map]
theorem slK_nils3 {t : TypeId} {lo hi : Option AV} {km : IntKind} {m : Int} (ht : isSl (tsh P t) = true) : slK P t .nils lo hi (some (.int km m)) H kk = ((m = 0 ∧ hi.isSome = true) ∧ bindK (bnd lo hi 0 0) fun _ => kk (.nils, H, z0)) := by
  obtain ⟨e, z, bb, he⟩ := isSl_ex ht
  rw [slK_of (by simp [evSliceX])]
  simp only [evSlice, he, bindK_map, bindK_ite]
def isStr : Option Sh → Bool
  | some .str => true
  | _ => false
theorem slK_str {t : TypeId} {s : List UInt8} {lo hi : Option AV} (ht : isStr (tsh P t) = true) : slK P t (.str s) lo hi none H kk = bindK (bnd lo hi s.length s.length) fun r => kk (.str ((s.drop r.1).take (r.2 - r.1)), H, z0) := by
  have he : tsh P t = some .str := by
    unfold isStr at ht
    split at ht
    · assumption
    · cases ht
  rw [slK_of (by simp [evSliceX])]
  simp only [evSlice, he, bindK_map]
def shA : Sh → Nat × Nat
  | .array l _ z => (l, z)
  | _ => (0, 0)
theorem shA_a {l e z : Nat} : shA (.array l e z) = (l, z) := rfl
def isArr : Option Sh → Bool
  | some (.array _ _ _) => true
  | _ => false
theorem slK_arr {t : TypeId} {b o : Nat} {lo hi : Option AV} (ht : isArr (tsh P t) = true) :
    slK P t (.ptr b o) lo hi none H kk = bindK (tsh P t) fun sh => bindK (bnd lo hi (shA sh).1 (shA sh).1) fun r => kk (.slice b (if (shA sh).1 = r.1 then o else o + r.1 * (shA sh).2) (r.2 - r.1) (.ex ((shA sh).1 - r.1)), H, z0) := by
  unfold isArr at ht
  split at ht
  · rename_i e z w he
    rw [slK_of (by simp [evSliceX])]
    simp only [evSlice, he, bindK_map, bindK_some, shA]
    rfl
  · cases ht
end
theorem isStr_t : isStr (some .str) = true := rfl
theorem isArr_t {l e z : Nat} : isArr (some (.array l e z)) = true := rfl
attribute [go_sem] isSl_t isStr_t isArr_t shA_a
attribute [go_sem ↓] bnd_nn bnd_nh bnd_ln bnd_lh slK_op slK_op3 slK_ex slK_ex3 slK_nils slK_nils3 slK_str slK_arr
attribute [go_sem] knC_c
attribute [go_sem] Int.ofNat_le

def clean (n : Nat) (e : Ef) : Prop := low n e.es = none ∧ low n e.ws = none
theorem low_omin {n : Nat} {a b : Option Nat} (ha : low n a = none) (hb : low n b = none) : low n (omin a b) = none := by
  cases a with
  | none => cases b <;> exact hb
  | some a =>
    cases b with
    | none => exact ha
    | some b =>
      simp only [low, omin] at *
      split at ha
      · split at hb
        · rw [if_pos (by omega)]
        · cases hb
      · cases ha
theorem clean_z0 {n : Nat} : clean n z0 = True := eq_true ⟨rfl, rfl⟩
theorem clean_and {n : Nat} {a b : Ef} (ha : clean n a) (hb : clean n b) : clean n (a.and b) := ⟨low_omin ha.1 hb.1, low_omin ha.2 hb.2⟩
theorem clean_w {n b : Nat} (h : n ≤ b) : clean n ⟨none, some b⟩ := ⟨rfl, by simp [low, h]⟩
theorem clean_ew {n b c : Nat} (h : n ≤ b) (h' : n ≤ c) : clean n ⟨some c, some b⟩ := ⟨by simp [low, h'], by simp [low, h]⟩
theorem low_w {n b : Nat} : (low n (some b) = none) = (n ≤ b) := by simp [low]
theorem low_oT {n : Nat} {a b : Option Nat} : (low n (omin a b) = none) = (low n a = none ∧ low n b = none) := by
  cases a with
  | none => cases b <;> simp [omin, low]
  | some a =>
    cases b with
    | none => simp [omin, low]
    | some b =>
      apply propext
      simp only [omin, low_w]
      omega
theorem clean_andT {n : Nat} {a b : Ef} : clean n (a.and b) = (clean n a ∧ clean n b) := by
  show (low n (omin a.es b.es) = none ∧ low n (omin a.ws b.ws) = none) = ((_ ∧ _) ∧ (_ ∧ _))
  rw [low_oT, low_oT]
  apply propext; constructor
  · rintro ⟨⟨p, q⟩, r, s⟩; exact ⟨⟨p, r⟩, q, s⟩
  · rintro ⟨⟨p, r⟩, q, s⟩; exact ⟨⟨p, q⟩, r, s⟩
theorem clean_wT {n b : Nat} : clean n ⟨none, some b⟩ = (n ≤ b) := by
  show (low n none = none ∧ low n (some b) = none) = _
  rw [low_w]; simp [low]
theorem clean_ewT {n b c : Nat} : clean n ⟨some c, some b⟩ = (n ≤ c ∧ n ≤ b) := by
  show (low n (some c) = none ∧ low n (some b) = none) = _
  rw [low_w, low_w]
theorem clean_ifT {n b : Nat} {c : Prop} [Decidable c] (h : n ≤ b) : clean n ⟨if c then none else some b, some b⟩ = True := by
  split
  · rw [clean_wT]; exact eq_true h
  · rw [clean_ewT]; exact eq_true ⟨h, h⟩
theorem le_self_add {n k : Nat} : (n ≤ n + k) = True := eq_true (Nat.le_add_right n k)
theorem le_self {n : Nat} : (n ≤ n) = True := eq_true (Nat.le_refl n)
attribute [go_sem] clean_z0 clean_andT clean_wT clean_ewT clean_ifT le_self_add le_self

def endR (P : Program) (rs : List ResultVar) (n : Nat) (k : AV × Hp × Ef → Prop) : Ex → St → Prop := fun ex s =>
  (ex = .normal ∨ ex = .ret) ∧ match evRes P s rs with
    | some vs => k (leave n (pack vs) s.H s.ef)
    | none => False
instance {rs : List ResultVar} {n : Nat} {k : AV × Hp × Ef → Prop} : Calm (endR P rs n k) := ⟨fun _ h => by rcases h.1 with h | h <;> cases h⟩
theorem endR_n {rs : List ResultVar} {n : Nat} {k : AV × Hp × Ef → Prop} : endR P rs n k .normal ⟨σ, H, e⟩ = bindK (evRes P ⟨σ, H, e⟩ rs) fun vs => k (leave n (pack vs) H e) := by
  apply propext
  constructor
  · rintro ⟨_, h⟩; unfold bindK; split at h <;> simp_all
  · intro h; refine ⟨.inl rfl, ?_⟩; unfold bindK at h; split at h <;> simp_all
theorem endR_r {rs : List ResultVar} {n : Nat} {k : AV × Hp × Ef → Prop} : endR P rs n k .ret ⟨σ, H, e⟩ = bindK (evRes P ⟨σ, H, e⟩ rs) fun vs => k (leave n (pack vs) H e) := by
  apply propext
  constructor
  · rintro ⟨_, h⟩; unfold bindK; split at h <;> simp_all
  · intro h; refine ⟨.inr rfl, ?_⟩; unfold bindK at h; split at h <;> simp_all
theorem res_tmp {t : Nat} {r : List ResultVar} : evRes P ⟨σ, H, e⟩ (.tmp t :: r) = (evRes P ⟨σ, H, e⟩ r).map (fr σ t :: ·) := rfl
theorem res_cell {a : Nat} {t : TypeId} {r : List ResultVar} : evRes P ⟨σ, H, e⟩ (.cell a t :: r) = (asPtr (fr σ a)).bind fun p => (evLoad P H t p.1 p.2).bind fun v => (evRes P ⟨σ, H, e⟩ r).map (v :: ·) := by
  simp only [evRes]
  unfold fr
  cases (σ[a]?).getD undefA <;> rfl
theorem bind_res_tmp {t : Nat} {r : List ResultVar} {f : List AV → Prop} : bindK (evRes P ⟨σ, H, e⟩ (.tmp t :: r)) f = bindK (evRes P ⟨σ, H, e⟩ r) fun vs => f (fr σ t :: vs) := by
  rw [res_tmp, bindK_map]
theorem bind_res_cell {a : Nat} {t : TypeId} {r : List ResultVar} {f : List AV → Prop} : bindK (evRes P ⟨σ, H, e⟩ (.cell a t :: r)) f = bindK (asPtr (fr σ a)) fun p => bindK (evLoad P H t p.1 p.2) fun v => bindK (evRes P ⟨σ, H, e⟩ r) fun vs => f (v :: vs) := by
  rw [res_cell, bindK_bind]
  refine bindK_ext fun p => ?_
  rw [bindK_bind]
  refine bindK_ext fun v => ?_
  rw [bindK_map]
theorem bind_res_nil {f : List AV → Prop} : bindK (evRes P ⟨σ, H, e⟩ []) f = f [] := rfl
theorem pack_one {v : AV} : pack [v] = v := rfl
theorem pack_nil : pack [] = .tuple [] := rfl
theorem pack_two {v w : AV} {vs : List AV} : pack (v :: w :: vs) = .tuple (v :: w :: vs) := rfl
attribute [go_sem ↓] endR_n endR_r
attribute [go_sem ↓] bind_res_tmp bind_res_cell bind_res_nil
attribute [go_sem] pack_one pack_nil pack_two

theorem leave_flat {v : AV} {l : Hp} (hv : flat v = true) (h : clean H.length e) : leave H.length v (H ++ l) e = (v, H, z0) := by
  unfold leave
  rw [h.1, h.2, if_pos ⟨hv, rfl⟩, List.take_left]; rfl
theorem leave_flat0 {v : AV} (hv : flat v = true) (h : clean H.length e) : leave H.length v H e = (v, H, z0) := by
  unfold leave
  rw [h.1, h.2, if_pos ⟨hv, rfl⟩, List.take_length]; rfl
theorem leave_keep {n : Nat} {v : AV} (hv : flat v = false) (h : clean n e) : leave n v H e = (v, H, z0) := by
  unfold leave
  rw [h.1, h.2, if_neg (by simp [hv])]; rfl

attribute [go_sem] leave_flat leave_flat0 leave_keep

theorem callK_start {f : FuncId} {fn : Func} {c : Code} {args : List AV} {kk : AV × Hp × Ef → Prop} {rs : List ResultVar} {n : Nat} (hf : P.funcs[f]? = some fn) (hb : fn.body = some c) (hr : fn.results.toList = rs) (hn : args.length + (fn.ntmps - args.length) = n)
    (h : ∀ σ : List AV, σ.length = n → (∀ i : Nat, i < args.length → fr σ i = (args[i]?).getD undefA) → go P (endR P rs H.length kk) [.code c] ⟨σ, H, z0⟩) (hd : cutD c = none := by kernel_rfl) : callK P f args H kk := by
  rw [callK_body hf hb hd]
  subst hr; subst hn
  refine h _ (by simp) (fun i hi => ?_)
  unfold fr
  rw [List.getElem?_append_left hi]

def goZ (P : Program) (ops : List Oper) (K : St → List Nat → Prop) (i : Nat) (l : List Oper) (s : St) (_ : Ph (ops, K, l) := ⟨⟩) : Prop := goD P ops K ((l.zipIdx i).map fun (o, i) => (i, o)) s
def nextZ (P : Program) (ops : List Oper) (K : St → List Nat → Prop) (l : List Oper) (σ : List AV) (H : Hp) (e : Ef) (i : Nat) (dst : Option Tmp) : AV × Hp × Ef → Prop :=
  fun r => goZ P ops (fun s es => K s (if quiet r H = true then es else tg i r.2.2 :: es)) (i + 1) l ⟨put σ dst r.1, r.2.1, e.and r.2.2⟩
theorem quiet_z {v : AV} : quiet (v, H, z0) H = true := by simp [quiet, z0]
theorem goZ_K {K K' : St → List Nat → Prop} {i : Nat} {s : St} (h : K = K') : goZ P ops K i l s = goZ P ops K' i l s := by subst h; rfl
theorem opK_k {op : Op} {kk kk' : AV × Hp × Ef → Prop} (h : kk = kk') : opK P σ H op kk = opK P σ H op kk' := by subst h; rfl
theorem nextZ_q {K : St → List Nat → Prop} {dst : Option Tmp} {i : Nat} {v : AV} {σ : List AV} : nextZ P ops K l σ H e i dst (v, H, z0) = goZ P ops K (i + 1) l ⟨put σ dst v, H, e⟩ := by
  show goZ P ops (fun s es => K s (if quiet (v, H, z0) H = true then es else tg i z0 :: es)) (i + 1) l ⟨put σ dst v, H, e.and z0⟩ = _
  rw [Ef.and_z0]
  refine goZ_K ?_
  funext s es
  rw [quiet_z]; rfl
theorem nextZ_w {K : St → List Nat → Prop} {dst : Option Tmp} {i : Nat} {v : AV} {H' : Hp} {e' : Ef} (h : quiet (v, H', e') H = false) : nextZ P ops K l σ H e i dst (v, H', e') = goZ P ops (fun s es => K s (tg i e' :: es)) (i + 1) l ⟨put σ dst v, H', e.and e'⟩ := by
  refine goZ_K ?_
  funext s es
  rw [h]; rfl
theorem goZ_nil {K : St → List Nat → Prop} {i : Nat} : goZ P ops K i [] ⟨σ, H, e⟩ = K ⟨σ, H, e⟩ [] := goD_nil
@[reducible] def notFree : Op → Bool
  | .alloc _ => false
  | _ => true
theorem goZ_op {K : St → List Nat → Prop} {i : Nat} {dst : Option Tmp} {op : Op} {ty : TypeId} {pos : String} {af : Array Edge} (hf : notFree op = true) :
    goZ P ops K i (⟨dst, op, ty, pos, af, none⟩ :: l) ⟨σ, H, e⟩ = opK P σ H op (nextZ P ops K l σ H e i dst) := by
  show goD P ops K ((i, _) :: (l.zipIdx (i + 1)).map fun (o, i) => (i, o)) _ = _
  rw [goD_op]
  have : isFree ⟨dst, op, ty, pos, af, none⟩ = false := by cases op <;> first | rfl | cases hf
  refine opK_k ?_
  funext r
  unfold nextD nextZ goZ
  rw [this]
  rfl
theorem goZ_opg {K : St → List Nat → Prop} {i : Nat} {dst : Option Tmp} {op : Op} {ty : TypeId} {pos : String} {af : Array Edge} {j : Nat} {w : Bool} :
    goZ P ops K i (⟨dst, op, ty, pos, af, some (j, w)⟩ :: l) ⟨σ, H, e⟩ = guardK (gvalO σ (gdst ops j)) w (opK P σ H op (nextZ P ops K l σ H e i dst)) (goZ P ops K (i + 1) l ⟨put σ dst undefA, H, e⟩) := by
  have hfr : isFree ⟨dst, op, ty, pos, af, some (j, w)⟩ = false := by cases op <;> simp [isFree]
  show goD P ops K ((i, _) :: (l.zipIdx (i + 1)).map fun (o, i) => (i, o)) _ = guardK _ _ _ (goD P ops K ((l.zipIdx (i + 1)).map fun (o, i) => (i, o)) _)
  cases hw : wantedA ops σ ⟨dst, op, ty, pos, af, some (j, w)⟩ with
  | true =>
    rw [goD_want hw]
    have e1 : nextD P ops K (List.map (fun x => (x.snd, x.fst)) (l.zipIdx (i + 1))) σ H e i ⟨dst, op, ty, pos, af, some (j, w)⟩ = nextZ P ops K l σ H e i dst := by
      funext r; unfold nextD nextZ goZ; rw [hfr]; rfl
    unfold wantedA at hw
    simp only at hw
    unfold gvalO gdst
    split at hw
    · rename_i d hd
      rw [hd]
      split at hw
      · rename_i b hb
        unfold fr; simp only [hb, Option.getD_some, guardK]; rw [if_pos hw]; show opK _ _ _ _ _ = _; rw [← e1]
      · cases hw
    · cases hw
  | false =>
    rw [goD_skip hw]
    unfold wantedA at hw
    simp only at hw
    unfold gvalO gdst
    split at hw
    · rename_i d hd
      rw [hd]
      split at hw
      · rename_i b hb
        unfold fr; simp only [hb, Option.getD_some, guardK]; rw [if_neg (by rw [hw]; exact Bool.false_ne_true)]
      · rename_i hne
        simp only
        unfold fr guardK
        split
        · rename_i b hb
          cases hd2 : σ[d]? with
          | none => rw [hd2] at hb; cases hb
          | some v => rw [hd2] at hb; simp only [Option.getD_some] at hb; rw [hb] at hd2; exact absurd hd2 (hne b)
        · rfl
    · rename_i hd
      rw [hd]; rfl
theorem order_z {l : List Oper} (h : l.all (fun o => !isFree o) = true) : order l = (l.zipIdx 0).map fun (o, i) => (i, o) := by
  have hz : ∀ p ∈ num l, isFree p.2 = false := by
    intro p hp
    unfold num at hp
    simp only [List.mem_map] at hp
    obtain ⟨q, hq, rfl⟩ := hp
    have := List.all_eq_true.1 h q.1 (List.fst_mem_of_mem_zipIdx hq)
    simpa using this
  unfold order
  have h1 : (num l).filter (fun p => isFree p.2) = [] := List.filter_eq_nil_iff.2 fun p hp => by rw [hz p hp]; exact Bool.false_ne_true
  have h2 : (num l).filter (fun p => !isFree p.2) = num l := List.filter_eq_self.2 fun p hp => by rw [hz p hp]; rfl
  rw [h1, h2]; rfl
theorem go_drawZ {id : Nat} {ops : Array Oper} (hm : P.follows .mixedOrders = true) (hs : (statOk ops.toList && ops.toList.all (fun o => !isFree o)) = true)
    (h : goZ P ops.toList (fun s es => effOk P ops.toList es = true ∧ go P Q k s) 0 ops.toList ⟨σ, H, e⟩) : go P Q (.code (.region id ops true) :: k) ⟨σ, H, e⟩ := by
  rw [Bool.and_eq_true] at hs
  rw [go_draw hm hs.1, order_z hs.2]
  exact h
theorem tg_z {i : Nat} : tg i z0 = 2 * i + 1 := rfl
theorem tg_w {i x : Nat} {o : Option Nat} : tg i ⟨o, some x⟩ = 2 * i := by unfold tg; simp
theorem tg_s {i x : Nat} {o : Option Nat} : tg i ⟨some x, o⟩ = 2 * i := by unfold tg; simp
theorem tg_or (i : Nat) (e : Ef) : tg i e = 2 * i ∨ tg i e = 2 * i + 1 := by unfold tg; split <;> simp
attribute [go_sem] tg_z tg_w tg_s
theorem effOk_nil {ops : List Oper} : effOk P ops [] = true := rfl
theorem callK_ex {α : Type} {f : FuncId} {args : List AV} (g : α → AV × Hp × Ef) (h : callK P f args H (fun q => ∃ b, q = g b)) : ∃ b, ∀ k, callK P f args H k = k (g b) := by
  obtain ⟨n, r, hn, b, rfl⟩ := h
  exact ⟨b, fun k => propext (callK_iff_of hn)⟩
theorem wrap_u8 {n : Int} (h : 0 ≤ n ∧ n < 256) : IntKind.u8.wrap n = n := by
  simp only [IntKind.wrap, IntKind.bits, IntKind.signed, Bool.false_and, Bool.true_and, Bool.false_eq_true, if_false, decide_eq_true_eq, Nat.reduceSub, Int.reducePow, ge_iff_le]; first | omega | (split <;> omega)
theorem wrap_u16 {n : Int} (h : 0 ≤ n ∧ n < 65536) : IntKind.u16.wrap n = n := by
  simp only [IntKind.wrap, IntKind.bits, IntKind.signed, Bool.false_and, Bool.true_and, Bool.false_eq_true, if_false, decide_eq_true_eq, Nat.reduceSub, Int.reducePow, ge_iff_le]; first | omega | (split <;> omega)
theorem wrap_u32 {n : Int} (h : 0 ≤ n ∧ n < 4294967296) : IntKind.u32.wrap n = n := by
  simp only [IntKind.wrap, IntKind.bits, IntKind.signed, Bool.false_and, Bool.true_and, Bool.false_eq_true, if_false, decide_eq_true_eq, Nat.reduceSub, Int.reducePow, ge_iff_le]; first | omega | (split <;> omega)
theorem wrap_u64 {n : Int} (h : 0 ≤ n ∧ n < 18446744073709551616) : IntKind.u64.wrap n = n := by
  simp only [IntKind.wrap, IntKind.bits, IntKind.signed, Bool.false_and, Bool.true_and, Bool.false_eq_true, if_false, decide_eq_true_eq, Nat.reduceSub, Int.reducePow, ge_iff_le]; first | omega | (split <;> omega)
theorem wrap_i64 {n : Int} (h : -9223372036854775808 ≤ n ∧ n < 9223372036854775808) : IntKind.i64.wrap n = n := by
  simp only [IntKind.wrap, IntKind.bits, IntKind.signed, Bool.false_and, Bool.true_and, Bool.false_eq_true, if_false, decide_eq_true_eq, Nat.reduceSub, Int.reducePow, ge_iff_le]; first | omega | (split <;> omega)
theorem wrap_i32 {n : Int} (h : -2147483648 ≤ n ∧ n < 2147483648) : IntKind.i32.wrap n = n := by
  simp only [IntKind.wrap, IntKind.bits, IntKind.signed, Bool.false_and, Bool.true_and, Bool.false_eq_true, if_false, decide_eq_true_eq, Nat.reduceSub, Int.reducePow, ge_iff_le]; first | omega | (split <;> omega)
theorem wrap_succ {n : Nat} (h : n < 9223372036854775807) : IntKind.i64.wrap ((n : Int) + 1) = ((n + 1 : Nat) : Int) := by
  rw [wrap_i64 (by omega)]; rfl
attribute [go_sem ↓] nextZ_q nextZ_w goZ_nil goZ_op goZ_opg
attribute [go_sem] effOk_nil notFree

def asS : AV → Option (List UInt8)
  | .str s => some s
  | _ => none
theorem asS_s {s : List UInt8} : asS (.str s) = some s := rfl
theorem k_range {kk : AV × Hp × Ef → Prop} {t : TypeId} {x : Operand} (ht : isStr (tsh P t) = true) : opK P σ H (.range t x) kk = bindK (evArg P σ x) fun v => bindK (asS v) fun s => kk (.ptr H.length 0, H ++ [.iter s 0], z0) := by
  have he : tsh P t = some .str := by
    unfold isStr at ht
    split at ht
    · assumption
    · cases ht
  show stepK _ _ = _
  simp only [evOp, he]
  rw [stepK_bind]; refine bindK_ext fun c => ?_
  cases c <;> rfl
def itC : ABlk → Option (List UInt8 × Nat)
  | .iter s p => some (s, p)
  | _ => none
theorem itC_i {s : List UInt8} {p : Nat} : itC (.iter s p) = some (s, p) := rfl
def asPtr0 : AV → Option Nat
  | .ptr b 0 => some b
  | _ => none
theorem asPtr0_p {b : Nat} : asPtr0 (.ptr b 0) = some b := rfl
theorem k_next {kk : AV × Hp × Ef → Prop} {it : Operand} : opK P σ H (.next it true) kk = bindK (evArg P σ it) fun v => bindK (asPtr0 v) fun b => bindK (H[b]?) fun x => bindK (itC x) fun q => kk ((strIter q.1 q.2).1, H.set b (.iter q.1 (strIter q.1 q.2).2), ⟨none, some b⟩) := by
  show stepK _ _ = _
  simp only [evOp]
  rw [stepK_bind]; refine bindK_ext fun c => ?_
  cases c <;> try rfl
  rename_i b o
  cases o with
  | succ o => rfl
  | zero =>
    show stepK _ _ = bindK (some b) _
    rw [bindK_some]
    cases hx : H[b]? with
    | none => simp only [hx]; rfl
    | some x => simp only [hx]; cases x <;> rfl
def itN (s : List UInt8) (p : Nat) : AV × Nat :=
  match s[p]? with
  | some c => (.tuple [.bool true, .int .i64 (p : Nat), .int .i32 c.toNat], p + 1)
  | none => (.tuple [.bool false], p)
theorem strIter_a {s : List UInt8} {p : Nat} (h : s.all (fun c => decide (c.toNat < 128)) = true) : strIter s p = itN s p := by
  unfold strIter itN
  by_cases hp : p < s.length
  · rw [if_pos hp, List.getElem?_eq_getElem hp]
    have hc : s[p].toNat < 128 := by
      have := List.all_eq_true.1 h s[p] (List.getElem_mem hp)
      simpa using this
    have hs : (⟨s.toArray⟩ : ByteArray).size = s.length := by simp [ByteArray.size]
    have hg : ((⟨s.toArray⟩ : ByteArray)[p]'(by rw [hs]; exact hp)) = s[p] := by
      show (s.toArray)[p] = s[p]
      simp
    have := decode_ascii ⟨s.toArray⟩ p (by rw [hs]; exact hp) (by rw [hg]; exact hc)
    rw [hg] at this
    simp only [this]
  · rw [if_neg hp, List.getElem?_eq_none (by omega)]
theorem itN_s {s : List UInt8} {p : Nat} {c : UInt8} (h : s[p]? = some c) : itN s p = (.tuple [.bool true, .int .i64 (p : Nat), .int .i32 c.toNat], p + 1) := by unfold itN; rw [h]
theorem itN_n {s : List UInt8} {p : Nat} (h : s[p]? = none) : itN s p = (.tuple [.bool false], p) := by unfold itN; rw [h]
attribute [go_sem ↓] k_range k_next
attribute [go_sem] asS_s itC_i asPtr0_p

theorem asFun_s {g : FuncId} {a b : List AV} : asFun (.func (.func g) a b) = some (g, a, b) := rfl
theorem asEnd_n {τ : List AV} {ps : List Tmp} {az bd : Code} : asEnd (some (.loop τ ps az bd .ready)) = some .normal := rfl
theorem asEnd_d {τ : List AV} {ps : List Tmp} {az bd : Code} {i : Nat} : asEnd (some (.loop τ ps az bd (.done (.exit i)))) = some (.exit i) := rfl
theorem asEnd_dr {τ : List AV} {ps : List Tmp} {az bd : Code} : asEnd (some (.loop τ ps az bd (.done .ret))) = some .ret := rfl
theorem asReady_s {τ : List AV} {ps : List Tmp} {az bd : Code} : asReady (some (.loop τ ps az bd .ready)) = some ⟨τ, ps, az, bd⟩ := rfl
theorem asBusy_s {τ : List AV} {ps : List Tmp} {az bd : Code} : asBusy (some (.loop τ ps az bd .busy)) = some ⟨τ, ps, az, bd⟩ := rfl
def rangeK (P : Program) (Q : Ex → St → Prop) (k : List It) (x : Option (FuncId × List AV × List AV)) (ps : List Tmp) (az bd : Code) (σ : List AV) (H : Hp) (e : Ef) (_ : Ph (Q, k, az, bd) := ⟨⟩) : Prop :=
  match x with
  | some x => hasBody P x.1 = true ∧ callK P x.1 (x.2.1 ++ [.yld H.length] ++ x.2.2) (H ++ [.loop σ ps az bd .ready]) (rngK P Q k σ H.length e)
  | none => False
theorem go_rangeK {f : Operand} {ps : Array Tmp} {az bd : Code} : go P Q (.code (.rangeFunc f ps az bd) :: k) ⟨σ, H, e⟩ = bindK (evArg P σ f) fun v => rangeK P Q k (asFun v) ps.toList az bd σ H e := by
  cases hf : evArg P σ f with
  | none =>
    refine propext ⟨?_, fun h => h.elim⟩
    rintro ⟨n, ex, s', hc, _⟩
    simp only [evCode, evRange_eq, hf, Option.bind_none] at hc
    cases hc
  | some v =>
    show _ = rangeK P Q k (asFun v) ps.toList az bd σ H e
    cases hv : asFun v with
    | none =>
      refine propext ⟨?_, fun h => h.elim⟩
      rintro ⟨n, ex, s', hc, _⟩
      simp only [evCode, evRange_eq, hf, hv, Option.bind_some, Option.bind_none] at hc
      cases hc
    | some x =>
      show _ = (hasBody P x.1 = true ∧ _)
      by_cases hb : hasBody P x.1 = true
      · rw [go_range hf hv hb]
        simp [hb]
      · refine propext ⟨?_, fun h => absurd h.1 hb⟩
        rintro ⟨n, ex, s', hc, _⟩
        simp only [evCode, evRange_eq, hf, hv, Option.bind_some, if_neg hb] at hc
        cases hc
theorem rangeK_s {g : FuncId} {a b : List AV} {ps : List Tmp} {az bd : Code} (hb : hasBody P g = true) : rangeK P Q k (some (g, a, b)) ps az bd σ H e = callK P g (a ++ [.yld H.length] ++ b) (H ++ [.loop σ ps az bd .ready]) (rngK P Q k σ H.length e) := by
  show (_ ∧ _) = _
  simp [hb]
def endK (P : Program) (Q : Ex → St → Prop) (k : List It) (x : Option Ex) (s : St) (_ : Ph (Q, k) := ⟨⟩) : Prop :=
  match x with
  | some ex => contQ P Q k ex s
  | none => False
theorem rngK_ap {τ : List AV} {n : Nat} {v : AV} {H' : Hp} {e' : Ef} : rngK P Q k τ n e (v, H', e') = endK P Q k (asEnd (H'[n]?)) ⟨τ, H'.set n .dead, e.and (e'.and ⟨none, some n⟩)⟩ := rfl
theorem endK_n : endK P Q k (some .normal) ⟨σ, H, e⟩ = go P Q k ⟨σ, H, e⟩ := rfl
theorem endK_e {i : Nat} : endK P Q k (some (.exit i)) ⟨σ, H, e⟩ = leaveTo P Q i k ⟨σ, H, e⟩ := rfl
theorem endK_r : endK P Q k (some .ret) ⟨σ, H, e⟩ = Q .ret ⟨σ, H, e⟩ := contQ_ret k _
theorem rdQ_n {b n : Nat} {bd : Code} {kk : AV × Hp × Ef → Prop} : rdQ P b n bd kk .normal ⟨σ, H, e⟩ = bindK (asReady (H[b]?)) fun L => go P (reQ b n kk) [.code bd] ⟨σ, H.set b (.loop L.σ L.ps L.az L.bd .busy), e.and ⟨none, some b⟩⟩ := by
  unfold rdQ
  simp only [true_and]
  cases asReady (H[b]?) <;> rfl
theorem reQ_n {b n : Nat} {kk : AV × Hp × Ef → Prop} : reQ b n kk .normal ⟨σ, H, e⟩ = bindK (asBusy (H[b]?)) fun L => kk (leave n (.bool true) (H.set b (.loop L.σ L.ps L.az L.bd .ready)) (e.and ⟨none, some b⟩)) := by
  unfold reQ
  simp only
  cases asBusy (H[b]?) <;> rfl
theorem reQ_e {b n i : Nat} {kk : AV × Hp × Ef → Prop} : reQ b n kk (.exit i) ⟨σ, H, e⟩ = bindK (asBusy (H[b]?)) fun L => kk (leave n (.bool false) (H.set b (.loop L.σ L.ps L.az L.bd (.done (.exit i)))) (e.and ⟨none, some b⟩)) := by
  unfold reQ
  simp only
  cases asBusy (H[b]?) <;> rfl
theorem reQ_r {b n : Nat} {kk : AV × Hp × Ef → Prop} : reQ b n kk .ret ⟨σ, H, e⟩ = bindK (asBusy (H[b]?)) fun L => kk (leave n (.bool false) (H.set b (.loop L.σ L.ps L.az L.bd (.done .ret))) (e.and ⟨none, some b⟩)) := by
  unfold reQ
  simp only
  cases asBusy (H[b]?) <;> rfl
theorem putAll_nil {az : List AV} : putAll σ [] az = σ := by cases az <;> rfl
theorem putAll_cons {p : Tmp} {ps : List Tmp} {v : AV} {vs : List AV} : putAll σ (p :: ps) (v :: vs) = putAll (σ.set p v) ps vs := rfl
attribute [go_sem ↓] go_rangeK rangeK_s rngK_ap endK_n endK_e endK_r rdQ_n reQ_n reQ_e reQ_r
attribute [go_sem] asFun_s asEnd_n asEnd_d asEnd_dr asReady_s asBusy_s putAll_nil putAll_cons

def roundQ (P : Program) (Q : Ex → St → Prop) (k : List It) (I : Nat → St → Prop) (n : Nat) : Ex → St → Prop
  | .normal, s => ∃ m, m < n ∧ I m s
  | .exit i, s => leaveTo P Q i k s
  | ex, s => contQ P Q k ex s
instance {I : Nat → St → Prop} {n : Nat} [hc : Calm Q] : Calm (roundQ P Q k I n) := ⟨fun s h => hc.no s ((contQ_pan (P := P) (Q := Q) k s) ▸ h)⟩
theorem roundQ_n {I : Nat → St → Prop} {n : Nat} : roundQ P Q k I n .normal ⟨σ, H, e⟩ = ∃ m, m < n ∧ I m ⟨σ, H, e⟩ := rfl
theorem roundQ_e {I : Nat → St → Prop} {n i : Nat} : roundQ P Q k I n (.exit i) ⟨σ, H, e⟩ = leaveTo P Q i k ⟨σ, H, e⟩ := rfl
theorem roundQ_r {I : Nat → St → Prop} {n : Nat} : roundQ P Q k I n .ret ⟨σ, H, e⟩ = Q .ret ⟨σ, H, e⟩ := contQ_ret k _
attribute [go_sem ↓] roundQ_n roundQ_e roundQ_r
theorem go_rounds {c : Code} (I : Nat → St → Prop) (n : Nat) {s : St} (h0 : I n s) (round : ∀ n s, I n s → go P (roundQ P Q k I n) [.code c] s) : go P Q (.code (.loop c) :: k) s := by
  refine go_while I n h0 (fun n s hs => ?_)
  have := round n s hs
  refine goCode_mono (Q := roundQ P Q k I n) this (fun ex s hq => ?_)
  cases ex <;> exact hq
end
section
variable {P : Program} {Q : Ex → St → Prop} {k : List It} {σ : List AV} {H : Hp} {e : Ef} {ops : List Oper} {l : List Oper} {kk : AV × Hp × Ef → Prop}

theorem arg_g {g : Nat} (h : decide (g < P.globals.size) = true) : evArg P σ (.global g) = some (.ptr g 0) := by
  simp only [evArg]; rw [if_pos (by simpa using h)]
attribute [go_sem] arg_g

theorem k_slData {ts : Array TypeId} {x : Operand} : opK P σ H (.call ⟨.builtin .unsafeSliceData, ⟨[x]⟩, ts⟩) kk = bindK (evArg P σ x) fun v => bindK (evSliceData P v H) fun v => kk (v, H, z0) := by
  show stepK _ _ = _
  simp only [evOp, evCall, evArgs]
  cases evArg P σ x with
  | none => rfl
  | some v => exact stepK_ret
theorem k_string {pt it : TypeId} {x y : Operand} : opK P σ H (.call ⟨.builtin .unsafeString, ⟨[x, y]⟩, ⟨[pt, it]⟩⟩) kk = bindK (evArg P σ x) fun v => bindK (evArg P σ y) fun w => stepK (evString P pt v w H) kk := by
  show stepK _ _ = _
  simp only [evOp, evCall, evArgs]
  cases evArg P σ x with
  | none => rfl
  | some v =>
    cases evArg P σ y with
    | none => rfl
    | some w => rfl
theorem k_cap {t : TypeId} {ts : List TypeId} {x : Operand} : opK P σ H (.call ⟨.builtin .cap, ⟨[x]⟩, ⟨t :: ts⟩⟩) kk = bindK (evArg P σ x) fun v => bindK (evCap P t v) fun v => kk (v, H, z0) := by
  show stepK _ _ = _
  simp only [evOp, evCall, evArgs]
  cases evArg P σ x with
  | none => rfl
  | some v => exact stepK_ret
theorem k_min {ts : Array TypeId} {x y : Operand} : opK P σ H (.call ⟨.builtin .min, ⟨[x, y]⟩, ts⟩) kk = bindK (evArg P σ x) fun v => bindK (evArg P σ y) fun w => bindK (evMin2 v w) fun v => kk (v, H, z0) := by
  show stepK _ _ = _
  simp only [evOp, evCall, evArgs]
  cases evArg P σ x with
  | none => rfl
  | some v =>
    cases evArg P σ y with
    | none => rfl
    | some w => exact stepK_ret
theorem k_max {ts : Array TypeId} {x y : Operand} : opK P σ H (.call ⟨.builtin .max, ⟨[x, y]⟩, ts⟩) kk = bindK (evArg P σ x) fun v => bindK (evArg P σ y) fun w => bindK (evMax2 v w) fun v => kk (v, H, z0) := by
  show stepK _ _ = _
  simp only [evOp, evCall, evArgs]
  cases evArg P σ x with
  | none => rfl
  | some v =>
    cases evArg P σ y with
    | none => rfl
    | some w => exact stepK_ret
attribute [go_sem ↓] k_slData k_string k_cap k_min k_max

theorem i_quo {kd : IntKind} {a b : Int} (h : (b == 0) = false) : evInt .quo kd a b = some (.int kd (kd.wrap (a.tdiv b))) := by
  have : ¬ b = 0 := by simpa using h
  simp [evInt, this]
theorem i_rem {kd : IntKind} {a b : Int} (h : (b == 0) = false) : evInt .rem kd a b = some (.int kd (a.tmod b)) := by
  have : ¬ b = 0 := by simpa using h
  simp [evInt, this]
theorem u_neg {kd : IntKind} {n : Int} : evUn .neg (.int kd n) = some (.int kd (kd.wrap (0 - n))) := rfl
attribute [go_sem] i_quo i_rem u_neg

theorem bind_idx {t : TypeId} {s : List UInt8} {kd : IntKind} {i : Int} {f : AV → Prop} (ht : (match tsh P t with | some .str => true | _ => false) = true) : bindK (evIndex P t (.str s) (.int kd i)) f = (0 ≤ i ∧ bindK (s[i.toNat]?) fun b => f (.int .u8 b.toNat)) := by
  split at ht
  · rename_i he
    simp only [evIndex, he]
    rw [bindK_ite, bindK_map]
  · cases ht
attribute [go_sem ↓] bind_idx

theorem lg_s {T : Hp} {j : Nat} {v : ABlk} (h : decide (j < T.length) = true) : (T.set j v)[j]? = some v := by
  rw [List.getElem?_set_self (by simpa using h)]
theorem lg_n {T : Hp} {i j : Nat} {v : ABlk} (h : (i == j) = false) : (T.set i v)[j]? = T[j]? := by
  rw [List.getElem?_set_ne (by simpa using h)]
theorem ls_l {T l : Hp} {j : Nat} {v : ABlk} (h : decide (j < T.length) = true) : (T ++ l).set j v = T.set j v ++ l := by
  rw [List.set_append_left _ _ (by simpa using h)]
attribute [go_sem] lg_s lg_n ls_l

def u8s (s : List UInt8) : List AV := s.map fun b => .int .u8 b.toNat
theorem u8s_len {s : List UInt8} : (u8s s).length = s.length := by simp [u8s]
theorem u8s_app {s t : List UInt8} : u8s (s ++ t) = u8s s ++ u8s t := by simp [u8s]
theorem u8s_scal : ∀ {s : List UInt8}, (u8s s).all scal = true
  | [] => rfl
  | b :: s => by show (scal _ && (u8s s).all scal) = true; rw [u8s_scal]; rfl
theorem u8s_flat : ∀ {s : List UInt8}, flats (u8s s) = true
  | [] => by simp only [u8s, List.map_nil, flats]
  | b :: s => by
    show flats (_ :: u8s s) = true
    simp only [flats, flat, u8s_flat, Bool.and_self]
theorem bytes_u8s : ∀ (s : List UInt8), evBytes (u8s s) = some s
  | [] => rfl
  | b :: s => by
    show evBytes (.int .u8 b.toNat :: u8s s) = _
    unfold evBytes
    have := b.toNat_lt
    rw [if_pos ⟨by omega, by omega⟩, bytes_u8s s]
    simp
theorem conv_u8s : ∀ (s : List UInt8), evConv.bytesOf (u8s s) = some s
  | [] => rfl
  | b :: s => by
    show evConv.bytesOf (.int .u8 b.toNat :: u8s s) = _
    unfold evConv.bytesOf
    rw [conv_u8s s]
    simp
theorem drop_u8s {s : List UInt8} {n : Nat} : (u8s s).drop n = u8s (s.drop n) := by simp [u8s, List.map_drop]
attribute [go_sem] u8s_len u8s_scal u8s_flat

def frees : List Oper → Nat → List (Nat × Oper)
  | [], _ => []
  | o :: l, i => if isFree o = true then (i, o) :: frees l (i + 1) else frees l (i + 1)
def others : List Oper → Nat → List (Nat × Oper)
  | [], _ => []
  | o :: l, i => if isFree o = true then others l (i + 1) else (i, o) :: others l (i + 1)
def goF (P : Program) (ops : List Oper) (K : St → List Nat → Prop) (i : Nat) (l : List Oper) (s : St) (_ : Ph (ops, K, l) := ⟨⟩) : Prop := goD P ops K (frees l i ++ others ops 0) s
def goN (P : Program) (ops : List Oper) (K : St → List Nat → Prop) (i : Nat) (l : List Oper) (s : St) (_ : Ph (ops, K, l) := ⟨⟩) : Prop := goD P ops K (others l i) s
def nextN (P : Program) (ops : List Oper) (K : St → List Nat → Prop) (l : List Oper) (σ : List AV) (H : Hp) (e : Ef) (i : Nat) (dst : Option Tmp) : AV × Hp × Ef → Prop :=
  fun r => goN P ops (fun s es => K s (if quiet r H = true then es else tg i r.2.2 :: es)) (i + 1) l ⟨put σ dst r.1, r.2.1, e.and r.2.2⟩
theorem goN_K {K K' : St → List Nat → Prop} {i : Nat} {s : St} (h : K = K') : goN P ops K i l s = goN P ops K' i l s := by subst h; rfl
theorem nextN_q {K : St → List Nat → Prop} {dst : Option Tmp} {i : Nat} {v : AV} {σ : List AV} : nextN P ops K l σ H e i dst (v, H, z0) = goN P ops K (i + 1) l ⟨put σ dst v, H, e⟩ := by
  show goN P ops (fun s es => K s (if quiet (v, H, z0) H = true then es else tg i z0 :: es)) (i + 1) l ⟨put σ dst v, H, e.and z0⟩ = _
  rw [Ef.and_z0]
  refine goN_K ?_
  funext s es
  rw [quiet_z]; rfl
theorem nextN_w {K : St → List Nat → Prop} {dst : Option Tmp} {i : Nat} {v : AV} {H' : Hp} {e' : Ef} (h : quiet (v, H', e') H = false) : nextN P ops K l σ H e i dst (v, H', e') = goN P ops (fun s es => K s (tg i e' :: es)) (i + 1) l ⟨put σ dst v, H', e.and e'⟩ := by
  refine goN_K ?_
  funext s es
  rw [h]; rfl
theorem quiet_w {v : AV} {H' : Hp} {x : Option Nat} {b : Nat} : quiet (v, H', ⟨x, some b⟩) H = false := by simp [quiet]
theorem goN_nil {K : St → List Nat → Prop} {i : Nat} : goN P ops K i [] ⟨σ, H, e⟩ = K ⟨σ, H, e⟩ [] := goD_nil
theorem goF_nil {K : St → List Nat → Prop} {i : Nat} : goF P ops K i [] ⟨σ, H, e⟩ = goN P ops K 0 ops ⟨σ, H, e⟩ := rfl
theorem free_t {dst : Option Tmp} {t ty : TypeId} {pos : String} : isFree ⟨dst, .alloc t, ty, pos, ⟨[]⟩, none⟩ = true := rfl
theorem goF_free {K : St → List Nat → Prop} {i : Nat} {dst : Option Tmp} {t ty : TypeId} {pos : String} :
    goF P ops K i (⟨dst, .alloc t, ty, pos, ⟨[]⟩, none⟩ :: l) ⟨σ, H, e⟩ = bindK (tzero P t) fun z => goF P ops K (i + 1) l ⟨put σ dst (.ptr H.length 0), H ++ [.cells z t .rw], e⟩ := by
  show goD P ops K (frees (_ :: l) i ++ others ops 0) _ = _
  have : frees (⟨dst, .alloc t, ty, pos, ⟨[]⟩, none⟩ :: l) i = (i, ⟨dst, .alloc t, ty, pos, ⟨[]⟩, none⟩) :: frees l (i + 1) := by simp only [frees, free_t, if_true]
  rw [this, List.cons_append, goD_op, k_alloc]
  refine bindK_ext fun z => ?_
  show goD P ops (fun s es => K s (if isFree ⟨dst, .alloc t, ty, pos, ⟨[]⟩, none⟩ || quiet _ H then es else tg i _ :: es)) _ _ = _
  rw [free_t, Ef.and_z0]
  rfl
theorem goF_skip {K : St → List Nat → Prop} {i : Nat} {o : Oper} (h : isFree o = false) : goF P ops K i (o :: l) ⟨σ, H, e⟩ = goF P ops K (i + 1) l ⟨σ, H, e⟩ := by
  show goD P ops K (frees (o :: l) i ++ others ops 0) _ = _
  have : frees (o :: l) i = frees l (i + 1) := by simp only [frees, h, Bool.false_eq_true, if_false]
  rw [this]; rfl
theorem free_f {o : Oper} (h : notFree o.op = true) : isFree o = false := by
  obtain ⟨d, op, ty, pos, af, g⟩ := o
  cases op <;> first | rfl | cases h
theorem goF_not {K : St → List Nat → Prop} {i : Nat} {dst : Option Tmp} {op : Op} {ty : TypeId} {pos : String} {af : Array Edge} {g : Option (Nat × Bool)} (h : notFree op = true) : goF P ops K i (⟨dst, op, ty, pos, af, g⟩ :: l) ⟨σ, H, e⟩ = goF P ops K (i + 1) l ⟨σ, H, e⟩ :=
  goF_skip (free_f h)
theorem goN_free {K : St → List Nat → Prop} {i : Nat} {dst : Option Tmp} {t ty : TypeId} {pos : String} :
    goN P ops K i (⟨dst, .alloc t, ty, pos, ⟨[]⟩, none⟩ :: l) ⟨σ, H, e⟩ = goN P ops K (i + 1) l ⟨σ, H, e⟩ := by
  show goD P ops K (others (_ :: l) i) _ = _
  have : others (⟨dst, .alloc t, ty, pos, ⟨[]⟩, none⟩ :: l) i = others l (i + 1) := by simp only [others, free_t, if_true]
  rw [this]; rfl
theorem goN_op {K : St → List Nat → Prop} {i : Nat} {dst : Option Tmp} {op : Op} {ty : TypeId} {pos : String} {af : Array Edge} (hf : notFree op = true) :
    goN P ops K i (⟨dst, op, ty, pos, af, none⟩ :: l) ⟨σ, H, e⟩ = opK P σ H op (nextN P ops K l σ H e i dst) := by
  have hfr : isFree ⟨dst, op, ty, pos, af, none⟩ = false := free_f hf
  show goD P ops K (others (_ :: l) i) _ = _
  have : others (⟨dst, op, ty, pos, af, none⟩ :: l) i = (i, ⟨dst, op, ty, pos, af, none⟩) :: others l (i + 1) := by simp only [others, hfr, Bool.false_eq_true, if_false]
  rw [this, goD_op]
  refine opK_k ?_
  funext r
  unfold nextD nextN goN
  rw [hfr]
  rfl
theorem goN_opg {K : St → List Nat → Prop} {i : Nat} {dst : Option Tmp} {op : Op} {ty : TypeId} {pos : String} {af : Array Edge} {j : Nat} {w : Bool} :
    goN P ops K i (⟨dst, op, ty, pos, af, some (j, w)⟩ :: l) ⟨σ, H, e⟩ = guardK (gvalO σ (gdst ops j)) w (opK P σ H op (nextN P ops K l σ H e i dst)) (goN P ops K (i + 1) l ⟨put σ dst undefA, H, e⟩) := by
  have hfr : isFree ⟨dst, op, ty, pos, af, some (j, w)⟩ = false := by cases op <;> simp [isFree]
  have e0 : others (⟨dst, op, ty, pos, af, some (j, w)⟩ :: l) i = (i, ⟨dst, op, ty, pos, af, some (j, w)⟩) :: others l (i + 1) := by simp only [others, hfr, Bool.false_eq_true, if_false]
  show goD P ops K (others (_ :: l) i) _ = guardK _ _ _ (goD P ops K (others l (i + 1)) _)
  rw [e0]
  cases hw : wantedA ops σ ⟨dst, op, ty, pos, af, some (j, w)⟩ with
  | true =>
    rw [goD_want hw]
    have e1 : nextD P ops K (others l (i + 1)) σ H e i ⟨dst, op, ty, pos, af, some (j, w)⟩ = nextN P ops K l σ H e i dst := by
      funext r; unfold nextD nextN goN; rw [hfr]; rfl
    rw [e1]
    unfold wantedA at hw
    simp only at hw
    unfold gvalO gdst
    split at hw
    · rename_i d hd
      rw [hd]
      split at hw
      · rename_i b hb
        unfold fr; simp only [hb, Option.getD_some]; unfold guardK; simp only; rw [if_pos hw]
      · cases hw
    · cases hw
  | false =>
    rw [goD_skip hw]
    unfold wantedA at hw
    simp only at hw
    unfold gvalO gdst
    split at hw
    · rename_i d hd
      rw [hd]
      split at hw
      · rename_i b hb
        unfold fr; simp only [hb, Option.getD_some]; unfold guardK; simp only; rw [if_neg (by rw [hw]; exact Bool.false_ne_true)]
      · rename_i hne
        simp only
        unfold fr guardK
        split
        · rename_i b hb
          cases hd2 : σ[d]? with
          | none => rw [hd2] at hb; cases hb
          | some v => rw [hd2] at hb; simp only [Option.getD_some] at hb; rw [hb] at hd2; exact absurd hd2 (hne b)
        · rfl
    · rename_i hd
      rw [hd]; unfold guardK; rfl
attribute [go_sem ↓] nextN_q nextN_w goF_nil goF_free goF_not goN_nil goN_free goN_op goN_opg
attribute [go_sem] quiet_w
end
attribute [irreducible] guardK condK bindK roundQ endR goZ nextZ goF goN nextN rangeK endK slK
end Go.Proofs.YtgkpgpdkolpfkaaGreatDoor.V
namespace Go.Proofs.YtgkpgpdkolpfkaaGreatDoor.V
open Go

section
variable (P : Program)
def callP (f : FuncId) (args : List AV) (H : Hp) (kp : AV × Hp × Ef → Prop) (_ : Ph kp := ⟨⟩) : Prop := ∃ n r, evNP P n f args H = some r ∧ kp r
def callC (f : FuncId) (args : List AV) (H : Hp) (k kp : AV × Hp × Ef → Prop) (_ : Ph (k, kp) := ⟨⟩) : Prop := callK P f args H k ∨ callP P f args H kp
def callXC (g : FuncId) (az : List AV) (H : Hp) (k kp : AV × Hp × Ef → Prop) (_ : Ph (k, kp) := ⟨⟩) : Prop := if hasBody P g = true then callC P g az H k kp else stepK (evX P g az H) k
def callTC (t : Option Tg) (H : Hp) (k kp : AV × Hp × Ef → Prop) (_ : Ph (k, kp) := ⟨⟩) : Prop :=
  match t with
  | some (.fn g az) => callXC P g az H k kp
  | some (.yl b az) => callK P (P.funcs.size + b) az H k
  | none => False
def opC (σ : List AV) (H : Hp) (op : Op) (k kp : AV × Hp × Ef → Prop) (_ : Ph (op, k, kp) := ⟨⟩) : Prop := opK P σ H op k ∨ ∃ n r, evPanOp P (evNP P n) σ H op = some r ∧ kp r
def nextP (ops : List Oper) (K KP : St → Prop) (l : List Oper) (σ : List AV) (e : Ef) (dst : Option Tmp) : AV × Hp × Ef → Prop := fun r => goOpsP P ops K KP l ⟨put σ dst r.1, r.2.1, e.and r.2.2⟩
def panP (KP : St → Prop) (σ : List AV) (e : Ef) : AV × Hp × Ef → Prop := fun r => KP ⟨r.1 :: σ, r.2.1, e.and r.2.2⟩
end

section
variable {P : Program} {Q : Ex → St → Prop} {k : List It} {σ : List AV} {H : Hp} {e : Ef} {ops : List Oper} {K KP : St → Prop} {l : List Oper} {kk kp : AV × Hp × Ef → Prop}

theorem bindK_no {α : Type} {f : α → Prop} : bindK none f = False := by unfold bindK; rfl
theorem callK_not {f : FuncId} {args : List AV} (h : callP P f args H kp) : ¬ callK P f args H kk := by
  rintro ⟨m, q, hq, _⟩
  obtain ⟨n, r, hr, _⟩ := h
  exact evNP_not hr hq
theorem callC_k {f : FuncId} {args : List AV} (h : callK P f args H (fun _ => True)) : callC P f args H kk kp = callK P f args H kk := by
  refine propext ⟨?_, .inl⟩
  rintro (h1 | h1)
  · exact h1
  · exact absurd h (callK_not h1)
theorem goP_nil : goOpsP P ops K KP [] ⟨σ, H, e⟩ = K ⟨σ, H, e⟩ := by
  refine propext ⟨?_, fun h => .inl (by rw [goOps_nil]; exact h)⟩
  rintro (h | ⟨n, s', h, _⟩)
  · rw [goOps_nil] at h; exact h
  · simp [evOpsP] at h

theorem goP_want {o : Oper} (hw : wantedA ops σ o = true) : goOpsP P ops K KP (o :: l) ⟨σ, H, e⟩ = opC P σ H o.op (nextP P ops K KP l σ e o.dst) (panP KP σ e) := by
  apply propext
  unfold opC
  rw [opK_iff]
  constructor
  · rintro (h | ⟨n, s', h, hk⟩)
    · rw [goOps_want hw, opK_iff] at h
      obtain ⟨n, r, hr, h⟩ := h
      exact .inl ⟨n, r, hr, .inl h⟩
    · simp only [evOpsP, hw, if_true] at h
      split at h
      · rename_i r hr
        simp only [Option.some.injEq] at h
        subst h
        exact .inr ⟨n, r, hr, hk⟩
      · simp only [Option.bind_eq_some_iff] at h
        obtain ⟨r, hr, h⟩ := h
        exact .inl ⟨n, r, hr, .inr ⟨n, s', h, hk⟩⟩
  · rintro (⟨n, r, hr, h⟩ | ⟨n, r, hr, hk⟩)
    · rcases h with ⟨m, s', h, hk⟩ | ⟨m, s', h, hk⟩
      · left
        rw [goOps_want hw, opK_iff]
        exact ⟨n, r, hr, m, s', h, hk⟩
      · right
        refine ⟨max n m, s', ?_, hk⟩
        have h1 := evOp_mono (evN_mono (P := P) (Nat.le_max_left n m)) hr
        have h2 : evPanOp P (evNP P (max n m)) σ H o.op = none := by
          cases hp : evPanOp P (evNP P (max n m)) σ H o.op with
          | none => rfl
          | some q => rw [evPanOp_none (evN_excl _) hp] at h1; cases h1
        simp only [evOpsP, hw, if_true, h2, h1, Option.bind_some]
        exact evOpsP_mono (evN_mono (Nat.le_max_right n m)) (evNP_mono (Nat.le_max_right n m)) (evN_excl _) h
    · right
      refine ⟨n, _, ?_, hk⟩
      simp only [evOpsP, hw, if_true, hr]

theorem goP_skip {o : Oper} (hw : wantedA ops σ o = false) : goOpsP P ops K KP (o :: l) ⟨σ, H, e⟩ = goOpsP P ops K KP l ⟨put σ o.dst undefA, H, e⟩ := by
  unfold goOpsP
  rw [goOps_skip hw]
  simp only [evOpsP, hw, Bool.false_eq_true, if_false]

theorem goP_op {dst : Option Tmp} {op : Op} {ty : TypeId} {pos : String} {af : Array Edge} : goOpsP P ops K KP (⟨dst, op, ty, pos, af, none⟩ :: l) ⟨σ, H, e⟩ = opC P σ H op (nextP P ops K KP l σ e dst) (panP KP σ e) := goP_want rfl
theorem goP_opg {dst : Option Tmp} {op : Op} {ty : TypeId} {pos : String} {af : Array Edge} {j : Nat} {w : Bool} :
    goOpsP P ops K KP (⟨dst, op, ty, pos, af, some (j, w)⟩ :: l) ⟨σ, H, e⟩ = guardK (gvalO σ (gdst ops j)) w (opC P σ H op (nextP P ops K KP l σ e dst) (panP KP σ e)) (goOpsP P ops K KP l ⟨put σ dst undefA, H, e⟩) := by
  cases hw : wantedA ops σ ⟨dst, op, ty, pos, af, some (j, w)⟩ with
  | true =>
    rw [goP_want hw]
    unfold wantedA at hw
    simp only at hw
    unfold gvalO gdst
    split at hw
    · rename_i d hd
      rw [hd]
      split at hw
      · rename_i b hb
        unfold fr; simp only [hb, Option.getD_some]; unfold guardK; simp only; rw [if_pos hw]
      · cases hw
    · cases hw
  | false =>
    rw [goP_skip hw]
    unfold wantedA at hw
    simp only at hw
    unfold gvalO gdst
    split at hw
    · rename_i d hd
      rw [hd]
      split at hw
      · rename_i b hb
        unfold fr; simp only [hb, Option.getD_some]; unfold guardK; simp only; rw [if_neg (by rw [hw]; exact Bool.false_ne_true)]
      · rename_i hne
        simp only
        unfold fr guardK
        split
        · rename_i b hb
          cases hd2 : σ[d]? with
          | none => rw [hd2] at hb; cases hb
          | some v => rw [hd2] at hb; simp only [Option.getD_some] at hb; rw [hb] at hd2; exact absurd hd2 (hne b)
        · rfl
    · rename_i hd
      rw [hd]; unfold guardK; rfl

@[reducible] def calmOp : Op → Bool
  | .panic _ => false
  | .call c => (match c.callee with | .value _ => false | _ => true)
  | _ => true
theorem opC_calm {op : Op} (h : calmOp op = true) : opC P σ H op kk kp = opK P σ H op kk := by
  refine propext ⟨?_, .inl⟩
  rintro (h1 | ⟨n, r, hr, _⟩)
  · exact h1
  · unfold evPanOp at hr
    split at hr
    · cases h
    · split at hr
      · rename_i hc; simp only [calmOp, hc] at h; cases h
      · cases hr
    · cases hr
def asIf : AV → Option AV
  | .iface t u => some (.iface t u)
  | _ => none
theorem asIf_i {t : TypeId} {u : AV} : asIf (.iface t u) = some (.iface t u) := rfl
theorem opC_panic {x : Operand} : opC P σ H (.panic x) kk kp = bindK (evArg P σ x) fun v => bindK (asIf v) fun v => kp (v, H, z0) := by
  apply propext
  have hno : ¬ opK P σ H (.panic x) kk := by
    rw [opK_iff]
    rintro ⟨n, r, hr, _⟩
    simp [evOp] at hr
  constructor
  · rintro (h | ⟨n, r, hr, hk⟩)
    · exact absurd h hno
    · simp only [evPanOp, Option.bind_eq_some_iff] at hr
      obtain ⟨v, hv, hr⟩ := hr
      rw [hv]
      split at hr
      · cases hr
        rw [bindK_some, asIf_i, bindK_some]
        exact hk
      · cases hr
  · intro h
    right
    refine ⟨0, ?_⟩
    unfold bindK at h
    split at h
    · rename_i v hv
      split at h
      · rename_i u hu
        have : ∃ t y, v = .iface t y ∧ u = .iface t y := by
          unfold asIf at hu
          split at hu
          · cases hu; exact ⟨_, _, rfl, rfl⟩
          · cases hu
        obtain ⟨t, y, rfl, rfl⟩ := this
        exact ⟨_, by simp only [evPanOp, hv, Option.bind_some], h⟩
      · exact h.elim
    · exact h.elim
theorem callXC_eq {g : FuncId} {az : List AV} : callXC P g az H kk kp ↔ callX P g az H kk ∨ (hasBody P g = true ∧ callP P g az H kp) := by
  unfold callXC callX callC
  by_cases hb : hasBody P g = true
  · simp [hb]
  · simp [hb]
theorem opC_call {f : Operand} {args : Array Operand} {ts : Array TypeId} : opC P σ H (.call ⟨.value f, args, ts⟩) kk kp = callTC P (target P σ f args.toList) H kk kp := by
  apply propext
  unfold opC
  rw [k_call]
  unfold callT callTC target evPanOp
  simp only
  cases hf : evArg P σ f with
  | none => simp
  | some fv =>
    cases ha : evArgs P σ args.toList with
    | none => simp
    | some az =>
      simp only [Option.bind_some]
      cases fv with
      | func fn first captured =>
        cases fn with
        | func g =>
          simp only
          rw [callXC_eq]
          refine or_congr_right ?_
          by_cases hb : hasBody P g = true
          · simp only [hb, if_true, true_and]; rfl
          · simp [hb]
        | _ => simp
      | yld b => simp
      | _ => simp
theorem opC_callf {g : FuncId} {args : Array Operand} {ts : Array TypeId} : opC P σ H (.call ⟨.value (.func g), args, ts⟩) kk kp = bindK (evArgs P σ args.toList) fun az => callXC P g az H kk kp := by
  rw [opC_call]
  unfold target
  rw [arg_f]
  simp only [Option.bind_some, List.nil_append, List.append_nil]
  cases evArgs P σ args.toList with
  | none => rw [bindK_no]; rfl
  | some az => rw [bindK_some]; rfl
theorem opC_callv {t : Nat} {args : Array Operand} {ts : Array TypeId} : opC P σ H (.call ⟨.value (.tmp t), args, ts⟩) kk kp = bindK (evArgs P σ args.toList) fun az => callTC P (apV (fr σ t) az) H kk kp := by
  rw [opC_call]
  unfold target
  rw [arg_t]
  simp only [Option.bind_some]
  cases evArgs P σ args.toList with
  | none => rw [bindK_no]; rfl
  | some az => rw [bindK_some]; rfl
theorem callTC_f {g : FuncId} {az : List AV} : callTC P (some (.fn g az)) H kk kp = callXC P g az H kk kp := rfl
theorem callTC_y {b : Nat} {az : List AV} : callTC P (some (.yl b az)) H kk kp = callK P (P.funcs.size + b) az H kk := rfl
theorem callXC_f {g : FuncId} {az : List AV} (hb : hasBody P g = true) : callXC P g az H kk kp = callC P g az H kk kp := if_pos hb
theorem callXC_x {g : FuncId} {az : List AV} (hb : hasBody P g = false) : callXC P g az H kk kp = callX P g az H kk := by
  unfold callXC callX
  rw [if_neg (by rw [hb]; exact Bool.false_ne_true), if_neg (by rw [hb]; exact Bool.false_ne_true)]
theorem nextP_ap {dst : Option Tmp} {v : AV} {H' : Hp} {e' : Ef} : nextP P ops K KP l σ e dst (v, H', e') = goOpsP P ops K KP l ⟨put σ dst v, H', e.and e'⟩ := rfl
theorem panP_ap {v : AV} {H' : Hp} {e' : Ef} : panP KP σ e (v, H', e') = KP ⟨v :: σ, H', e.and e'⟩ := rfl
attribute [go_sem ↓ 10] go_regionP
attribute [go_sem ↓] goP_nil goP_op goP_opg opC_calm opC_panic opC_callf opC_callv callTC_f callTC_y callXC_f callXC_x nextP_ap panP_ap
attribute [go_sem] asIf_i callC_k

def endC (P : Program) (rs : List ResultVar) (n : Nat) (kk kp : AV × Hp × Ef → Prop) : Ex → St → Prop
  | .pan, s => (match s.σ with | v :: _ => kp (leave n v s.H s.ef) | [] => False)
  | ex, s => endR P rs n kk ex s
theorem endC_n {rs : List ResultVar} {n : Nat} : endC P rs n kk kp .normal ⟨σ, H, e⟩ = bindK (evRes P ⟨σ, H, e⟩ rs) fun vs => kk (leave n (pack vs) H e) := endR_n
theorem endC_r {rs : List ResultVar} {n : Nat} : endC P rs n kk kp .ret ⟨σ, H, e⟩ = bindK (evRes P ⟨σ, H, e⟩ rs) fun vs => kk (leave n (pack vs) H e) := endR_r
theorem endC_p {rs : List ResultVar} {n : Nat} {v : AV} : endC P rs n kk kp .pan ⟨v :: σ, H, e⟩ = kp (leave n v H e) := rfl
attribute [go_sem ↓] endC_n endC_r endC_p
theorem roundQ_p {I : Nat → St → Prop} {n : Nat} : roundQ P Q k I n .pan ⟨σ, H, e⟩ = Q .pan ⟨σ, H, e⟩ := by
  unfold roundQ; exact contQ_pan k _
attribute [go_sem ↓] roundQ_p

def defK (P : Program) (d : Dc) (u : Option AV) (H : Hp) (K : Hp × Ef → Prop) (_ : Ph K := ⟨⟩) : Prop := ∃ n q, evDef P (evN P n) (evNP P n) n d u H = some q ∧ K q
def defQ (K : Hp × Ef → Prop) : Ex → St → Prop := fun ex s => (ex = .normal ∨ ex = .ret) ∧ K (s.H, s.ef)
instance {K : Hp × Ef → Prop} : Calm (defQ K) := ⟨fun _ h => by rcases h.1 with h | h <;> cases h⟩
theorem defQ_n {K : Hp × Ef → Prop} : defQ K .normal ⟨σ, H, e⟩ = K (H, e) := by unfold defQ; simp
theorem defQ_r {K : Hp × Ef → Prop} : defQ K .ret ⟨σ, H, e⟩ = K (H, e) := by unfold defQ; simp
theorem defK_start {gg : FuncId} {first az captured : List AV} {u : Option AV} {K : Hp × Ef → Prop} {fn : Func} {c b : Code} {o : Oper} {l : List Oper} {n : Nat} (hf : P.funcs[gg]? = some fn) (hn : (fn.name == "runtime.NumGoroutine") = false) (hb : fn.body = some c) (hc : cutR c = some (o, l, b)) (hr : fn.results.toList = []) (hnr : noRange b = true) (hlen : (first ++ az ++ captured).length + (fn.ntmps - (first ++ az ++ captured).length) = n)
    (h : ∀ σ : List AV, σ.length = n → (∀ i : Nat, i < (first ++ az ++ captured).length → fr σ i = ((first ++ az ++ captured)[i]?).getD undefA) → goOps P (o :: l) (fun s => go P (defQ K) [.code b] s) l ⟨put σ o.dst (u.getD .nili), H, z0⟩) : defK P (.func (.func gg) first captured, az) u H K := by
  subst hlen
  obtain ⟨m, s1, h1, m2, ex, s2, h2, hq⟩ := h ((first ++ az ++ captured) ++ List.replicate (fn.ntmps - (first ++ az ++ captured).length) undefA) (by simp only [List.length_append, List.length_replicate]) (fun i hi => by unfold fr; rw [List.getElem?_append_left hi])
  have hq' : defQ K ex s2 := by cases ex <;> exact hq
  refine ⟨max m m2, (s2.H, s2.ef), ?_, hq'.2⟩
  unfold evDef
  simp only [hf, hn, hb, hc, hr, Bool.false_eq_true, if_false, if_true, evOps_mono (evN_mono (Nat.le_max_left m m2)) h1, Option.bind_some, ev_up (Nat.le_max_right m m2) h2, if_pos (And.intro hq'.1 hnr)]

def endD (P : Program) (rs : List ResultVar) (n : Nat) (d : Dc) (kk : AV × Hp × Ef → Prop) : Ex → St → Prop
  | .pan, s => (match s.σ with | v :: σ => defK P d (some v) s.H (fun q => bindK (evRes P ⟨σ, q.1, s.ef.and q.2⟩ rs) fun vs => kk (leave n (pack vs) q.1 (s.ef.and q.2))) | [] => False)
  | .normal, s => defK P d none s.H (fun q => bindK (evRes P ⟨s.σ, q.1, s.ef.and q.2⟩ rs) fun vs => kk (leave n (pack vs) q.1 (s.ef.and q.2)))
  | .ret, s => defK P d none s.H (fun q => bindK (evRes P ⟨s.σ, q.1, s.ef.and q.2⟩ rs) fun vs => kk (leave n (pack vs) q.1 (s.ef.and q.2)))
  | _, _ => False
def dfK (P : Program) (rs : List ResultVar) (n : Nat) (kk : AV × Hp × Ef → Prop) (d : Dc) (σ : List AV) (e : Ef) : Hp × Ef → Prop := fun q => bindK (evRes P ⟨σ, q.1, e.and q.2⟩ rs) fun vs => kk (leave n (pack vs) q.1 (e.and q.2))
theorem dfK_ap {rs : List ResultVar} {n : Nat} {d : Dc} {H' : Hp} {e' : Ef} : dfK P rs n kk d σ e (H', e') = bindK (evRes P ⟨σ, H', e.and e'⟩ rs) fun vs => kk (leave n (pack vs) H' (e.and e')) := rfl
theorem endD_n {rs : List ResultVar} {n : Nat} {d : Dc} : endD P rs n d kk .normal ⟨σ, H, e⟩ = defK P d none H (dfK P rs n kk d σ e) := rfl
theorem endD_r {rs : List ResultVar} {n : Nat} {d : Dc} : endD P rs n d kk .ret ⟨σ, H, e⟩ = defK P d none H (dfK P rs n kk d σ e) := rfl
theorem endD_p {rs : List ResultVar} {n : Nat} {d : Dc} {v : AV} : endD P rs n d kk .pan ⟨v :: σ, H, e⟩ = defK P d (some v) H (dfK P rs n kk d σ e) := rfl
def endA (P : Program) (rs : List ResultVar) (n : Nat) (f : Operand) (args : List Operand) (dst : Option Tmp) (b : Code) (kk : AV × Hp × Ef → Prop) : Ex → St → Prop
  | .normal, s => bindK (evArg P s.σ f) fun f => bindK (evArgs P s.σ args) fun az => go P (endD P rs n (f, az) kk) [.code b] ⟨put s.σ dst undefA, s.H, s.ef⟩
  | .ret, s => endR P rs n kk .ret s
  | _, _ => False
instance {rs : List ResultVar} {n : Nat} {f : Operand} {args : List Operand} {dst : Option Tmp} {b : Code} : Calm (endA P rs n f args dst b kk) := ⟨fun _ h => h⟩
theorem endA_n {rs : List ResultVar} {n : Nat} {f : Operand} {args : List Operand} {dst : Option Tmp} {b : Code} : endA P rs n f args dst b kk .normal ⟨σ, H, e⟩ = bindK (evArg P σ f) fun f => bindK (evArgs P σ args) fun az => go P (endD P rs n (f, az) kk) [.code b] ⟨put σ dst undefA, H, e⟩ := rfl
theorem endA_r {rs : List ResultVar} {n : Nat} {f : Operand} {args : List Operand} {dst : Option Tmp} {b : Code} : endA P rs n f args dst b kk .ret ⟨σ, H, e⟩ = bindK (evRes P ⟨σ, H, e⟩ rs) fun vs => kk (leave n (pack vs) H e) := endR_r
attribute [go_sem ↓] defQ_n defQ_r endD_n endD_r endD_p dfK_ap endA_n endA_r

theorem seqs_go {l : List Code} {m : Nat} {ex : Ex} {s s' : St} : ∀ {Q : Ex → St → Prop}, go P Q (l.map It.code) s → ∃ n ex s', evSeqs P (evN P n) (evNP P n) n l s = some (ex, s') ∧ Q ex s' := by
  intro Q
  induction l generalizing s with
  | nil => intro h; exact ⟨0, .normal, s, rfl, h⟩
  | cons c l ih =>
    rintro ⟨n, ex, s1, hc, hq⟩
    by_cases hn : ex = .normal
    · subst hn
      obtain ⟨n2, ex2, s2, h2, hq2⟩ := ih (s := s1) hq
      refine ⟨max n n2, ex2, s2, ?_, hq2⟩
      simp only [evSeqs, ev_up (Nat.le_max_left n n2) hc]
      exact evSeqs_mono (evN_mono (Nat.le_max_right n n2)) (evNP_mono (Nat.le_max_right n n2)) (evN_excl _) (Nat.le_max_right n n2) h2
    · refine ⟨n, ex, s1, ?_, ?_⟩
      · simp only [evSeqs, hc]
        cases ex <;> first | rfl | exact absurd rfl hn
      · have gen : ∀ (l : List Code) (ex : Ex) (s : St), ex ≠ .normal → contQ P Q (l.map It.code) ex s → Q ex s := by
          intro l
          induction l with
          | nil => intro ex s _ h; exact h
          | cons c l ih => intro ex s hn h; cases ex <;> first | exact absurd rfl hn | exact ih _ _ hn h
        cases ex <;> first | exact absurd rfl hn | exact gen l _ _ (by simp) hq

theorem callK_defer {f : FuncId} {fn : Func} {c b : Code} {l0 : List Code} {o : Oper} {fo : Operand} {dargs : Array Operand} {ts : Array TypeId} {args : List AV} {rs : List ResultVar} {n : Nat} (hf : P.funcs[f]? = some fn) (hb : fn.body = some c) (hd : cutD c = some (l0, o, b)) (ho : o.op = .defer ⟨.value fo, dargs, ts⟩) (hr : fn.results.toList = rs) (hn : args.length + (fn.ntmps - args.length) = n)
    (h : ∀ σ : List AV, σ.length = n → (∀ i : Nat, i < args.length → fr σ i = (args[i]?).getD undefA) → go P (endA P rs H.length fo dargs.toList o.dst b kk) (l0.map It.code) ⟨σ, H, z0⟩) : callK P f args H kk := by
  subst hr; subst hn
  have h1 := h (args ++ List.replicate (fn.ntmps - args.length) undefA) (by simp) (fun i hi => by unfold fr; rw [List.getElem?_append_left hi])
  obtain ⟨m, ex, s1, hc, hq⟩ := seqs_go (m := 0) (ex := .normal) (s' := ⟨[], [], z0⟩) h1
  have fin : ∀ (M : Nat) (r : AV × Hp × Ef), evBody P (evN P M) (evNP P M) (M + 1) fn c ⟨args ++ List.replicate (fn.ntmps - args.length) undefA, H, z0⟩ = (true, some r) → kk r → callK P f args H kk := by
    intro M r hM hk
    refine ⟨M + 1, r, ?_, hk⟩
    show evFun P (evN P M) (evNP P M) (M + 1) false f args H = _
    simp only [evFun, hf, hb, hM, Bool.true_eq_false, if_false]
  have up : ∀ M, m ≤ M → evSeqs P (evN P M) (evNP P M) (M + 1) l0 ⟨args ++ List.replicate (fn.ntmps - args.length) undefA, H, z0⟩ = some (ex, s1) := fun M hM => evSeqs_mono (evN_mono hM) (evNP_mono hM) (evN_excl _) (by omega) hc
  cases ex with
  | normal =>
    have hq : bindK (evArg P s1.σ fo) (fun f => bindK (evArgs P s1.σ dargs.toList) fun az => go P (endD P fn.results.toList H.length (f, az) kk) [.code b] ⟨put s1.σ o.dst undefA, s1.H, s1.ef⟩) := hq
    cases hfo : evArg P s1.σ fo with
    | none => rw [hfo] at hq; unfold bindK at hq; exact hq.elim
    | some fv =>
      rw [hfo, bindK_some] at hq
      cases haz : evArgs P s1.σ dargs.toList with
      | none => rw [haz] at hq; unfold bindK at hq; exact hq.elim
      | some az =>
        rw [haz, bindK_some] at hq
        obtain ⟨m2, ex2, s2, hc2, hq2⟩ := hq
        have hq3 : endD P fn.results.toList H.length (fv, az) kk ex2 s2 := by cases ex2 <;> exact hq2
        -- the deferred call and the results
        have tail : ∀ (u : Option AV) (σ : List AV), defK P (fv, az) u s2.H (fun q => bindK (evRes P ⟨σ, q.1, s2.ef.and q.2⟩ fn.results.toList) fun vs => kk (leave H.length (pack vs) q.1 (s2.ef.and q.2))) → (ex2 = .pan ∧ (∃ v, u = some v ∧ s2.σ = v :: σ)) ∨ ((ex2 = .normal ∨ ex2 = .ret) ∧ u = none ∧ s2.σ = σ) → callK P f args H kk := by
          rintro u σ ⟨m3, q, hdq, hk⟩ hcase
          cases hrs : evRes P ⟨σ, q.1, s2.ef.and q.2⟩ fn.results.toList with
          | none => simp only [hrs] at hk; unfold bindK at hk; exact hk.elim
          | some vs =>
            simp only [hrs, bindK_some] at hk
            refine fin (max m (max m2 m3)) _ ?_ hk
            have e1 := up (max m (max m2 m3)) (by omega)
            have e2 := evCode_mono (P := P) (evN_mono (show m2 ≤ max m (max m2 m3) by omega)) (evNP_mono (show m2 ≤ max m (max m2 m3) by omega)) (evN_excl _) (show m2 ≤ max m (max m2 m3) + 1 by omega) hc2
            have e3 := evDef_mono (P := P) (evN_mono (show m3 ≤ max m (max m2 m3) by omega)) (evNP_mono (show m3 ≤ max m (max m2 m3) by omega)) (evN_excl _) (show m3 ≤ max m (max m2 m3) + 1 by omega) hdq
            simp only [evBody, hd, e1, ho, hfo, haz, Option.bind_some]
            refine congrArg (Prod.mk true) ?_
            unfold evTail
            rw [e2]
            rcases hcase with ⟨rfl, v, rfl, hσ⟩ | ⟨hex, rfl, rfl⟩
            · simp only [hσ, e3, Option.bind_some, hrs, Option.map_some]
            · rcases hex with rfl | rfl
              · simp only [true_or, if_true, e3, Option.bind_some, hrs, Option.map_some]
              · simp only [or_true, if_true, e3, Option.bind_some, hrs, Option.map_some]
        cases ex2 with
        | pan =>
          simp only [endD] at hq3
          split at hq3
          · rename_i v σ hσ
            exact tail (some v) σ hq3 (.inl ⟨rfl, v, rfl, hσ⟩)
          · exact hq3.elim
        | normal => exact tail none s2.σ hq3 (.inr ⟨.inl rfl, rfl, rfl⟩)
        | ret => exact tail none s2.σ hq3 (.inr ⟨.inr rfl, rfl, rfl⟩)
        | exit i => exact hq3.elim
        | goto l => exact hq3.elim
  | ret =>
    have hq : endR P fn.results.toList H.length kk .ret s1 := hq
    unfold endR at hq
    obtain ⟨_, hq⟩ := hq
    cases hvs : evRes P s1 fn.results.toList with
    | none => rw [hvs] at hq; exact hq.elim
    | some vs =>
      rw [hvs] at hq
      refine fin m _ ?_ hq
      have := up m (Nat.le_refl _)
      simp only [evBody, hd, this, evEnd, or_true, if_true, hvs, Option.map_some]
  | exit i => exact hq.elim
  | goto l => exact hq.elim
  | pan => exact hq.elim
end
attribute [irreducible] opC callC callXC callTC defK
end Go.Proofs.YtgkpgpdkolpfkaaGreatDoor.V
