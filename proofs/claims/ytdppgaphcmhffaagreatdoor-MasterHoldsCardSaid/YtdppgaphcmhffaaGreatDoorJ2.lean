/- Joined by mkclaim.py: VGo VSim VPan VTab VOpen VLaid WLib WName WNameB WByte WText. No conditions. -/
import Derived.Test.YtdppgaphcmhffaaGreatDoorJ1
import Derived.KernelRfl
import Derived.Laws.RangeString
import Derived.Test.YtdppgaphcmhffaaGreatDoorProg
import Derived.ProofKit
import Derived.OpenShut
import Derived.LaidMore
import Derived.Handed
set_option linter.unusedSimpArgs false
set_option linter.unusedVariables false
namespace Go.Proofs.YtdppgaphcmhffaaGreatDoor.V
open Go

def CLe (C C' : CallO) : Prop := ∀ f a H r, C f a H = some r → C' f a H = some r

section
variable {P : Program} {C C' : CallO}

theorem evCall_mono (h : CLe C C') {σ : List AV} {H : Hp} {c : Call} {r : AV × Hp × Ef} (hr : evCall P C σ H c = some r) : evCall P C' σ H c = some r := by
 unfold evCall at hr ⊢
 split at hr
 ·simp only [Option.bind_eq_some_iff] at hr ⊢
  obtain ⟨f, hf, az, has, hr⟩ := hr
  refine ⟨f, hf, az, has, ?_⟩
  split at hr
  ·split at hr
   ·rename_i hb; simp only [hb, if_true]; exact h _ _ _ _ hr
   ·rename_i hb; rw [if_neg hb]; exact hr
  ·exact h _ _ _ _ hr
  ·cases hr
 ·exact hr
 ·exact hr

theorem evOp_mono (h : CLe C C') {σ : List AV} {H : Hp} {op : Op} {r : AV × Hp × Ef} (hr : evOp P C σ H op = some r) : evOp P C' σ H op = some r := by
 cases op
 case call c => exact evCall_mono h hr
 case makeMap t x => cases x <;> exact hr
 case next it b => cases b <;> exact hr
 case typeAssert x xt t ok => cases ok <;> exact hr
 all_goals exact hr

theorem evOps_mono (h : CLe C C') {ops : List Oper} : ∀ {l : List Oper} {s s' : St}, evOps P C ops l s = some s' → evOps P C' ops l s = some s'
 | [], _, _, hr => hr
 | o :: l, s, s', hr => by
  simp only [evOps] at hr ⊢
  split at hr
  ·rename_i hw
   simp only [hw, if_true]
   simp only [Option.bind_eq_some_iff] at hr ⊢
   obtain ⟨q, hq, hr⟩ := hr
   exact ⟨q, evOp_mono h hq, evOps_mono h hr⟩
  ·rename_i hw
   simp only [hw, if_false, Bool.false_eq_true]
   exact evOps_mono h hr

theorem evD_mono (h : CLe C C') {ops : List Oper} : ∀ {l : List (Nat × Oper)} {s : St} {q : St × List Nat}, evD P C ops l s = some q → evD P C' ops l s = some q
 | [], _, _, hr => hr
 | (i, o) :: l, s, q, hr => by
  simp only [evD] at hr ⊢
  split at hr
  ·rename_i hw
   simp only [hw, if_true]
   simp only [Option.bind_eq_some_iff, Option.map_eq_some_iff] at hr ⊢
   obtain ⟨r, hr1, q1, hq1, hr⟩ := hr
   exact ⟨r, evOp_mono h hr1, q1, evD_mono h hq1, hr⟩
  ·rename_i hw
   simp only [hw, if_false, Bool.false_eq_true]
   exact evD_mono h hr

theorem evRegion_mono (h : CLe C C') {ops : List Oper} {d : Bool} {s s' : St} (hr : evRegion P C ops d s = some s') : evRegion P C' ops d s = some s' := by
 unfold evRegion at hr ⊢
 cases d with
 | false => exact evOps_mono h hr
 | true =>
  simp only [if_true] at hr ⊢
  split at hr
  ·rename_i hm
   simp only [hm, if_true]
   unfold evDraw at hr ⊢
   simp only [Option.bind_eq_some_iff] at hr ⊢
   obtain ⟨q, hq, hr⟩ := hr
   exact ⟨q, evD_mono h hq, hr⟩
  ·cases hr

def Excl (C' C : CallO) : Prop := ∀ f a H r, C' f a H = some r → C f a H = none

theorem evPanOp_mono (h : CLe C C') {σ : List AV} {H : Hp} {op : Op} {r : AV × Hp × Ef} (hr : evPanOp P C σ H op = some r) : evPanOp P C' σ H op = some r := by
 unfold evPanOp at hr ⊢
 split at hr
 ·exact hr
 ·split at hr
  ·simp only [Option.bind_eq_some_iff] at hr ⊢
   obtain ⟨f, hf, az, has, hr⟩ := hr
   refine ⟨f, hf, az, has, ?_⟩
   split at hr
   ·split at hr
    ·rename_i hb; simp only [hb, if_true]; exact h _ _ _ _ hr
    ·cases hr
   ·cases hr
  ·cases hr
 ·cases hr

theorem evPanOp_none (hx : Excl C' C) {σ : List AV} {H : Hp} {op : Op} {r : AV × Hp × Ef} (hr : evPanOp P C' σ H op = some r) : evOp P C σ H op = none := by
 unfold evPanOp at hr
 split at hr
 ·rfl
 ·rename_i c
  split at hr
  ·rename_i f hf
   simp only [Option.bind_eq_some_iff] at hr
   obtain ⟨fv, hfv, az, has, hr⟩ := hr
   split at hr
   ·split at hr
    ·rename_i hb
     simp only [evOp, evCall, hf, hfv, has, Option.bind_some, hb, if_true]
     exact hx _ _ _ _ hr
    ·cases hr
   ·cases hr
  ·cases hr
 ·cases hr

variable {D D' : CallO}
theorem evOpsP_mono (h : CLe C D) (h' : CLe C' D') (hx : Excl D' D) {ops : List Oper} : ∀ {l : List Oper} {s s' : St}, evOpsP P C C' ops l s = some s' → evOpsP P D D' ops l s = some s'
 | [], _, _, hr => hr
 | o :: l, s, s', hr => by
  simp only [evOpsP] at hr ⊢
  split at hr
  ·rename_i hw
   rw [if_pos hw]
   split at hr
   ·rename_i r h1
    rw [evPanOp_mono h' h1]
    exact hr
   ·simp only [Option.bind_eq_some_iff] at hr
    obtain ⟨q, hq, hr⟩ := hr
    have h2 := evOp_mono h hq
    have h3 : evPanOp P D' s.σ s.H o.op = none := by
     cases hp : evPanOp P D' s.σ s.H o.op with
     | none => rfl
     | some r => rw [evPanOp_none hx hp] at h2; cases h2
    rw [h3]
    simp only [Option.bind_eq_some_iff]
    exact ⟨q, h2, evOpsP_mono h h' hx hr⟩
  ·rename_i hw
   rw [if_neg hw]
   exact evOpsP_mono h h' hx hr

theorem evOpsP_none (hx : Excl C' C) {ops : List Oper} : ∀ {l : List Oper} {s s' : St}, evOpsP P C C' ops l s = some s' → evOps P C ops l s = none
 | [], _, _, hr => by simp [evOpsP] at hr
 | o :: l, s, s', hr => by
  simp only [evOpsP] at hr
  simp only [evOps]
  split at hr
  ·rename_i hw
   rw [if_pos hw]
   split at hr
   ·rename_i r h1
    rw [evPanOp_none hx h1]
    rfl
   ·simp only [Option.bind_eq_some_iff] at hr
    obtain ⟨q, hq, hr⟩ := hr
    rw [hq, Option.bind_some]
    exact evOpsP_none hx hr
  ·rename_i hw
   rw [if_neg hw]
   exact evOpsP_none hx hr

theorem evReg_mono (h : CLe C D) (h' : CLe C' D') (hx : Excl D' D) {ops : List Oper} {d : Bool} {s : St} {r : Ex × St} (hr : evReg P C C' ops d s = some r) : evReg P D D' ops d s = some r := by
 unfold evReg at hr ⊢
 split at hr
 ·rename_i s1 h1
  rw [evRegion_mono h h1]
  exact hr
 ·split at hr
  ·cases hr
  ·rename_i hd
   simp only [Option.map_eq_some_iff] at hr
   obtain ⟨s1, h1, rfl⟩ := hr
   have h2 := evOpsP_mono h h' hx h1
   have hd' : d = false := by simpa using hd
   subst hd'
   have h3 : evRegion P D ops false s = none := evOpsP_none hx h2
   rw [h3]
   simp only [Bool.false_eq_true, if_false, h2, Option.map_some]

theorem iter_mono {f f' : St → Rc} (h : ∀ s r, f s = some r → f' s = some r) : ∀ {n n' : Nat} {s : St} {r : Ex × St}, n ≤ n' → iter f n s = some r → iter f' n' s = some r
 | 0, _, _, _, _, hr => by simp [iter] at hr
 | n + 1, 0, _, _, hn, _ => by omega
 | n + 1, n' + 1, s, r, hn, hr => by
  simp only [iter] at hr ⊢
  split at hr
  ·rename_i s1 h1
   rw [h _ _ h1]
   exact iter_mono h (by omega) hr
  ·rename_i hne
   rw [h _ _ hr]
   obtain ⟨ex, s'⟩ := r
   cases ex <;> first | (exact (hne _ hr).elim) | rfl

def asFun : AV → Option (FuncId × List AV × List AV)
 | .func (.func g) a b => some (g, a, b)
 | _ => none
def asEnd : Option ABlk → Option Ex
 | some (.loop _ _ _ _ .ready) => some .normal
 | some (.loop _ _ _ _ (.done e)) => if e = .pan then none else some e
 | _ => none
theorem evRange_eq {C : CallO} {f : Operand} {ps : List Tmp} {az bd : Code} {s : St} : evRange P C f ps az bd s = (evArg P s.σ f).bind fun v => (asFun v).bind fun x =>
  if hasBody P x.1 = true then (C x.1 (x.2.1 ++ [.yld s.H.length] ++ x.2.2) (s.H ++ [.loop s.σ ps az bd .ready])).bind fun r => (asEnd (r.2.1[s.H.length]?)).map fun ex => (ex, ⟨s.σ, r.2.1.set s.H.length .dead, s.ef.and (r.2.2.and ⟨none, some s.H.length⟩)⟩) else none := by
 unfold evRange
 cases hv : evArg P s.σ f with
 | none => rfl
 | some v =>
  simp only [Option.bind_some]
  unfold asFun
  split
  ·rename_i g a b hh
   cases hh
   simp only [Option.bind_some]
   split
   ·congr 1
    funext r
    generalize r.2.1[s.H.length]? = y
    cases y with
    | none => rfl
    | some x =>
     cases x <;> try rfl
     rename_i md
     cases md <;> try rfl
     rename_i e
     cases e <;> rfl
   ·rfl
  ·rename_i hne
   split
   ·rename_i g a b; exact absurd rfl (hne g a b)
   ·rfl
theorem scopeIt_mono {f f' : Nat → St → Option Rc} (hs : ∀ l s, (f l s).isSome = (f' l s).isSome) (h : ∀ l s r q, f l s = some r → r = some q → f' l s = some (some q)) : ∀ {n n' : Nat} {r r' : Rc} {q : Ex × St}, n ≤ n' → (∀ q, r = some q → r' = some q) → scopeIt f n r = some q → scopeIt f' n' r' = some q
 | n, n', none, _, _, _, _, hr => by simp [scopeIt] at hr
 | n, n', some (.goto l, s), r', q, hn, h1, hr => by
  rw [h1 _ rfl]
  have hs' := hs l s
  cases hf : f l s with
  | none =>
   rw [hf] at hs'
   have hf' : f' l s = none := by simpa using hs'.symm
   unfold scopeIt at hr ⊢
   simp only [hf, hf'] at hr ⊢
   exact hr
  | some r2 =>
   cases n with
   | zero => unfold scopeIt at hr; simp [hf] at hr
   | succ n =>
    obtain ⟨n', rfl⟩ : ∃ k, n' = k + 1 := ⟨n' - 1, by omega⟩
    unfold scopeIt at hr
    simp only [hf] at hr
    cases r2 with
    | none => simp [scopeIt] at hr
    | some q2 =>
     have hf' := h l s _ q2 hf rfl
     unfold scopeIt
     simp only [hf']
     exact scopeIt_mono hs h (by omega) (fun q h => h) hr
 | n, n', some (.normal, s), r', q, hn, h1, hr => by rw [h1 _ rfl]; simpa [scopeIt] using hr
 | n, n', some (.exit i, s), r', q, hn, h1, hr => by rw [h1 _ rfl]; simpa [scopeIt] using hr
 | n, n', some (.ret, s), r', q, hn, h1, hr => by rw [h1 _ rfl]; simpa [scopeIt] using hr
 | n, n', some (.pan, s), r', q, hn, h1, hr => by rw [h1 _ rfl]; simpa [scopeIt] using hr
theorem evCode_mono (h : CLe C D) (h' : CLe C' D') (hx : Excl D' D) {n n' : Nat} (hn : n ≤ n') : ∀ {c : Code} {s : St} {r : Ex × St}, evCode P C C' n c s = some r → evCode P D D' n' c s = some r := by
 intro c
 induction c using code_ind with
 | skip => intro s r hr; exact hr
 | region id ops d =>
  intro s r hr
  simp only [evCode] at hr ⊢
  exact evReg_mono h h' hx hr
 | seq x y ihx ihy =>
  intro s r hr
  simp only [evCode] at hr ⊢
  split at hr
  ·rename_i s1 h1
   rw [ihx h1]
   exact ihy hr
  ·rename_i hne
   rw [ihx hr]
   obtain ⟨ex, s'⟩ := r
   cases ex <;> first | (exact (hne _ hr).elim) | rfl
 | cond c x y ihx ihy =>
  intro s r hr
  simp only [evCode] at hr ⊢
  split at hr
  ·exact ihx hr
  ·exact ihy hr
  ·cases hr
 | block id c ih =>
  intro s r hr
  simp only [evCode] at hr ⊢
  split at hr
  ·rename_i i s1 h1
   rw [ih h1]
   exact hr
  ·rename_i hne
   rw [ih hr]
   obtain ⟨ex, s'⟩ := r
   cases ex <;> first | (exact (hne _ _ hr).elim) | rfl
 | loop c ih =>
  intro s r hr
  simp only [evCode] at hr ⊢
  exact iter_mono (fun s r => ih) hn hr
 | rangeFunc f ps az bd ih1 ih2 =>
  intro s r hr
  simp only [evCode] at hr ⊢
  rw [evRange_eq] at hr ⊢
  simp only [Option.bind_eq_some_iff] at hr ⊢
  obtain ⟨v, hv, x, hx, hr⟩ := hr
  refine ⟨v, hv, x, hx, ?_⟩
  split at hr
  ·rename_i hb
   rw [if_pos hb]
   simp only [Option.bind_eq_some_iff] at hr ⊢
   obtain ⟨q, hq, hr⟩ := hr
   exact ⟨q, h _ _ _ _ hq, hr⟩
  ·cases hr
 | scope c ih ihr =>
  intro s r hr
  rw [evCode_scope] at hr ⊢
  refine scopeIt_mono (fun l s => by simp) (fun l s r q h1 h2 => ?_) hn (fun q hq => ih hq) hr
  subst h2
  simp only [Option.map_eq_some_iff] at h1 ⊢
  obtain ⟨r, hr, h1⟩ := h1
  exact ⟨r, hr, ihr l r hr h1⟩
 | _ => intro s r hr; exact hr

theorem evRound_mono (h : CLe C D) (h' : CLe C' D') (hx : Excl D' D) {n n' : Nat} (hn : n ≤ n') {b : Nat} {args : List AV} {H : Hp} {r : AV × Hp × Ef} (hr : evRound P C C' n b args H = some r) : evRound P D D' n' b args H = some r := by
 unfold evRound at hr ⊢
 split at hr
 ·rename_i σ ps az bd hb
  split at hr
  ·rename_i hl
   rw [if_pos hl]
   split at hr
   ·rename_i s1 h1
    rw [evCode_mono h h' hx hn h1]
    split at hr
    ·rename_i σ' ps' as' bd' hb1
     show (match s1.H[b]? with | some (.loop σ' ps' as' bd' .ready) => _ | _ => none) = _
     rw [hb1]
     split at hr
     ·rename_i e s2 h2
      show (match evCode P D D' n' bd ⟨s1.σ, s1.H.set b (.loop σ' ps' as' bd' .busy), s1.ef.and ⟨none, some b⟩⟩ with | some (e, s2) => _ | none => none) = _
      rw [evCode_mono h h' hx hn h2]
      exact hr
     ·cases hr
    ·cases hr
   ·cases hr
  ·cases hr
 ·cases hr

theorem evSeqs_mono (h : CLe C D) (h' : CLe C' D') (hx : Excl D' D) {n n' : Nat} (hn : n ≤ n') : ∀ {l : List Code} {s : St} {r : Ex × St}, evSeqs P C C' n l s = some r → evSeqs P D D' n' l s = some r
 | [], s, r, hr => hr
 | c :: l, s, r, hr => by
  simp only [evSeqs] at hr ⊢
  split at hr
  ·rename_i s1 h1
   rw [evCode_mono h h' hx hn h1]
   exact evSeqs_mono h h' hx hn hr
  ·rename_i hne
   rw [evCode_mono h h' hx hn hr]
   obtain ⟨ex, s'⟩ := r
   cases ex <;> first | (exact (hne _ hr).elim) | rfl

theorem evDef_mono (h : CLe C D) (h' : CLe C' D') (hx : Excl D' D) {n n' : Nat} (hn : n ≤ n') {d : Dc} {u : Option AV} {H : Hp} {r : Hp × Ef} (hr : evDef P C C' n d u H = some r) : evDef P D D' n' d u H = some r := by
 unfold evDef at hr ⊢
 split at hr
 ·rename_i gg first captured hd
  split at hr
  ·rename_i fn hfn
   split at hr
   ·cases hr
   rename_i hnm
   split at hr
   ·rename_i c hb
    split at hr
    ·rename_i o l b hc
     split at hr
     ·rename_i hrs
      simp only [Option.bind_eq_some_iff] at hr
      obtain ⟨s1, h1, hr⟩ := hr
      split at hr
      ·rename_i ex s2 h2
       simp only [hd, hfn, hnm, hb, hc, hrs, if_true, Bool.false_eq_true, if_false, evOps_mono h h1, Option.bind_some, evCode_mono h h' hx hn h2]
       exact hr
      ·cases hr
     ·cases hr
    ·cases hr
   ·cases hr
  ·cases hr
 ·cases hr

theorem evTail_mono (h : CLe C D) (h' : CLe C' D') (hx : Excl D' D) {n n' : Nat} (hn : n ≤ n') {fn : Func} {m : Nat} {d : Dc} {b : Code} {s : St} {r : AV × Hp × Ef} (hr : evTail P C C' n fn m d b s = some r) : evTail P D D' n' fn m d b s = some r := by
 unfold evTail at hr ⊢
 split at hr
 ·rename_i s2 h2
  rw [evCode_mono h h' hx hn h2]
  split at hr
  ·rename_i v σ hσ
   simp only [hσ, Option.bind_eq_some_iff] at hr ⊢
   obtain ⟨q, hq, hr⟩ := hr
   exact ⟨q, evDef_mono h h' hx hn hq, hr⟩
  ·cases hr
 ·rename_i ex s2 hne h2
  rw [evCode_mono h h' hx hn h2]
  split at hr
  ·rename_i hex
   simp only [Option.bind_eq_some_iff] at hr
   obtain ⟨q, hq, hr⟩ := hr
   cases ex <;> first
    | (rcases hex with hh | hh <;> cases hh; done)
    | (simp only [true_or, or_true, if_true, Option.bind_eq_some_iff]; exact ⟨q, evDef_mono h h' hx hn hq, hr⟩)
  ·cases hr
 ·cases hr

theorem evBody_mono (h : CLe C D) (h' : CLe C' D') (hx : Excl D' D) {n n' : Nat} (hn : n ≤ n') {fn : Func} {c : Code} {s : St} {t : Bool} {r : AV × Hp × Ef} (hr : evBody P C C' n fn c s = (t, some r)) : evBody P D D' n' fn c s = (t, some r) := by
 unfold evBody at hr ⊢
 split at hr
 ·rename_i hcut
  cases hev : evCode P C C' n c s with
  | none => rw [hev] at hr; simp [evEnd] at hr
  | some q =>
   rw [hev] at hr
   rw [evCode_mono h h' hx hn hev]
   exact hr
 ·rename_i l o b hcut
  split at hr
  ·rename_i s1 hs1
   simp only [evSeqs_mono h h' hx hn hs1]
   split at hr
   ·rename_i k hop
    split at hr
    ·rename_i f hcal
     simp only [hop, hcal, Prod.mk.injEq, Option.bind_eq_some_iff] at hr ⊢
     obtain ⟨ht, fv, hf, az, ha, hr⟩ := hr
     exact ⟨ht, fv, hf, az, ha, evTail_mono h h' hx hn hr⟩
    ·simp at hr
   ·simp at hr
  ·rename_i q hne
   cases hev : evSeqs P C C' n l s with
   | none => rw [hev] at hr; simp [evEnd] at hr
   | some q0 =>
    rw [hev] at hr
    simp only [evSeqs_mono h h' hx hn hev]
    obtain ⟨ex, s'⟩ := q0
    cases ex <;> first | (exact (hne _ hev).elim) | exact hr

theorem evFun_mono (h : CLe C D) (h' : CLe C' D') (hx : Excl D' D) {n n' : Nat} (hn : n ≤ n') (pan : Bool) : CLe (evFun P C C' n pan) (evFun P D D' n' pan) := by
 intro f a H r hr
 unfold evFun at hr ⊢
 split at hr
 ·rename_i fn hfn
  split at hr
  ·rename_i c hc
   split at hr
   rename_i t q hq
   split at hr
   ·cases hr
   ·rename_i ht
    subst hr
    simp only [hfn, hc, evBody_mono h h' hx hn hq, if_neg ht]
  ·cases hr
 ·split at hr
  ·cases hr
  ·rename_i hp
   simp only [if_neg hp]
   exact evRound_mono h h' hx hn hr

theorem evFun_excl (C C' : CallO) (n : Nat) : Excl (evFun P C C' n true) (evFun P C C' n false) := by
 intro f a H r hr
 unfold evFun at hr ⊢
 split at hr
 ·rename_i fn hfn
  split at hr
  ·rename_i c hc
   split at hr
   rename_i t q hq
   split at hr
   ·cases hr
   ·rename_i ht
    have : t = false := by simpa using ht
    subst this
    simp only [hfn, hc, hq, if_true]
  ·cases hr
 ·simp at hr

theorem evN_excl : ∀ n, Excl (evNP P n) (evN P n)
 | 0 => fun f a H r h => rfl
 | n + 1 => evFun_excl _ _ _
theorem evNN_succ : ∀ n, CLe (evN P n) (evN P (n + 1)) ∧ CLe (evNP P n) (evNP P (n + 1))
 | 0 => ⟨fun f a H r h => by simp [evN, evNN] at h, fun f a H r h => by simp [evNP, evNN] at h⟩
 | n + 1 => ⟨evFun_mono (evNN_succ n).1 (evNN_succ n).2 (evN_excl (n + 1)) (Nat.le_succ _) _, evFun_mono (evNN_succ n).1 (evNN_succ n).2 (evN_excl (n + 1)) (Nat.le_succ _) _⟩
theorem evNN_mono {n m : Nat} (h : n ≤ m) : CLe (evN P n) (evN P m) ∧ CLe (evNP P n) (evNP P m) := by
  induction m with
  | zero => have : n = 0 := by omega
            subst this; exact ⟨fun _ _ _ _ h => h, fun _ _ _ _ h => h⟩
  | succ m ih =>
    by_cases hm : n ≤ m
    · exact ⟨fun f a H r hr => (evNN_succ m).1 f a H r ((ih hm).1 f a H r hr), fun f a H r hr => (evNN_succ m).2 f a H r ((ih hm).2 f a H r hr)⟩
    · have : n = m + 1 := by omega
      subst this; exact ⟨fun _ _ _ _ h => h, fun _ _ _ _ h => h⟩
theorem evN_mono {n m : Nat} (h : n ≤ m) : CLe (evN P n) (evN P m) := (evNN_mono h).1
theorem evNP_mono {n m : Nat} (h : n ≤ m) : CLe (evNP P n) (evNP P m) := (evNN_mono h).2
theorem ev_up {n m : Nat} (h : n ≤ m) {c : Code} {s : St} {r : Ex × St} (hr : evCode P (evN P n) (evNP P n) n c s = some r) : evCode P (evN P m) (evNP P m) m c s = some r :=
 evCode_mono (evN_mono h) (evNP_mono h) (evN_excl m) h hr
theorem evNP_not {n m : Nat} {f : FuncId} {a : List AV} {H : Hp} {r q : AV × Hp × Ef} (h : evNP P n f a H = some r) (k : evN P m f a H = some q) : False := by
 have h1 := evNP_mono (Nat.le_max_left n m) _ _ _ _ h
 have h2 := evN_mono (Nat.le_max_right n m) _ _ _ _ k
 rw [evN_excl _ _ _ _ _ h1] at h2
 cases h2
end

structure Ph {α : Type} (a : α) : Type where
 mk ::

section
variable (P : Program)

def callK (f : FuncId) (args : List AV) (H : Hp) (k : AV × Hp × Ef → Prop) (_ : Ph k := ⟨⟩) : Prop := ∃ n r, evN P n f args H = some r ∧ k r

def goOps (ops : List Oper) (K : St → Prop) (l : List Oper) (s : St) (_ : Ph (ops, K, l) := ⟨⟩) : Prop := ∃ n s', evOps P (evN P n) ops l s = some s' ∧ K s'
def goD (ops : List Oper) (K : St → List Nat → Prop) (l : List (Nat × Oper)) (s : St) (_ : Ph (ops, K, l) := ⟨⟩) : Prop := ∃ n s' es, evD P (evN P n) ops l s = some (s', es) ∧ K s' es
def goCode (c : Code) (Q : Ex → St → Prop) (s : St) : Prop := ∃ n ex s', evCode P (evN P n) (evNP P n) n c s = some (ex, s') ∧ Q ex s'

def stepK (r : Rs) (k : AV × Hp × Ef → Prop) (_ : Ph k := ⟨⟩) : Prop :=
 match r with
 | some r => k r
 | none => False

def noC : CallO := fun _ _ _ => none
def nextK (ops : List Oper) (K : St → Prop) (l : List Oper) (σ : List AV) (e : Ef) (dst : Option Tmp) : AV × Hp × Ef → Prop := fun r => goOps P ops K l ⟨put σ dst r.1, r.2.1, e.and r.2.2⟩
def nextD (ops : List Oper) (K : St → List Nat → Prop) (l : List (Nat × Oper)) (σ : List AV) (H : Hp) (e : Ef) (i : Nat) (o : Oper) : AV × Hp × Ef → Prop :=
 fun r => goD P ops (fun s es => K s (if isFree o || quiet r H then es else tg i r.2.2 :: es)) l ⟨put σ o.dst r.1, r.2.1, e.and r.2.2⟩

inductive Tg where
 | fn (g : FuncId) (az : List AV)
 | yl (b : Nat) (az : List AV)
def target (σ : List AV) (f : Operand) (args : List Operand) : Option Tg :=
 (evArg P σ f).bind fun f => (evArgs P σ args).bind fun az =>
  match f with
  | .func (.func g) first captured => some (.fn g (first ++ az ++ captured))
  | .yld b => some (.yl b az)
  | _ => none
def callX (g : FuncId) (az : List AV) (H : Hp) (k : AV × Hp × Ef → Prop) (_ : Ph k := ⟨⟩) : Prop :=
 if hasBody P g = true then callK P g az H k else stepK (evX P g az H) k
def callT (t : Option Tg) (H : Hp) (k : AV × Hp × Ef → Prop) (_ : Ph k := ⟨⟩) : Prop :=
 match t with
 | some (.fn g az) => callX P g az H k
 | some (.yl b az) => callK P (P.funcs.size + b) az H k
 | none => False

def opK (σ : List AV) (H : Hp) (op : Op) (k : AV × Hp × Ef → Prop) (_ : Ph (op, k) := ⟨⟩) : Prop :=
 match op with
 | .call c => match c.callee with
  | .value f => callT P (target P σ f c.args.toList) H k
  | _ => stepK (evOp P noC σ H op) k
 | _ => stepK (evOp P noC σ H op) k
end

section
variable {P : Program}

theorem opK_iff {σ : List AV} {H : Hp} {op : Op} {k : AV × Hp × Ef → Prop} : opK P σ H op k ↔ ∃ n r, evOp P (evN P n) σ H op = some r ∧ k r := by
 have key : ∀ op : Op, (∀ c, op = .call c → ∀ f, c.callee ≠ .value f) → (stepK (evOp P noC σ H op) k ↔ ∃ n r, evOp P (evN P n) σ H op = some r ∧ k r) := by
  intro op hop
  have same : ∀ n, evOp P (evN P n) σ H op = evOp P noC σ H op := by
   intro n
   cases op
   case call c =>
    show evCall P (evN P n) σ H c = evCall P noC σ H c
    unfold evCall
    split
    ·rename_i f hf; exact absurd hf (hop c rfl f)
    ·rfl
    ·rfl
   case makeMap t x => cases x <;> rfl
   case next it b => cases b <;> rfl
   case typeAssert x xt t ok => cases ok <;> rfl
   all_goals rfl
  constructor
  ·intro h
   unfold stepK at h
   split at h
   ·rename_i r hr; exact ⟨0, r, by rw [same]; exact hr, h⟩
   ·exact h.elim
  ·rintro ⟨n, r, hr, hk⟩
   rw [same] at hr
   rw [hr]; exact hk
 unfold opK
 split
 ·rename_i c
  split
  ·rename_i f hf
   simp only [evOp, evCall, hf]
   unfold callT target
   constructor
   ·intro h
    split at h
    ·rename_i g az ht
     simp only [Option.bind_eq_some_iff] at ht
     obtain ⟨fv, hfv, av, hav, ht⟩ := ht
     unfold callX at h
     split at ht
     ·simp only [Option.some.injEq, Tg.fn.injEq] at ht
      obtain ⟨rfl, rfl⟩ := ht
      split at h
      ·rename_i hb
       obtain ⟨n, r, hn, hk⟩ := h
       refine ⟨n, r, ?_, hk⟩
       rw [hfv, hav]
       simp only [Option.bind_some, hb, if_true]
       exact hn
      ·rename_i hb
       unfold stepK at h
       split at h
       ·rename_i r hr
        refine ⟨0, r, ?_, h⟩
        rw [hfv, hav]
        simp only [Option.bind_some]
        rw [if_neg hb]
        exact hr
       ·exact h.elim
     ·cases ht
     ·cases ht
    ·rename_i b az ht
     simp only [Option.bind_eq_some_iff] at ht
     obtain ⟨fv, hfv, av, hav, ht⟩ := ht
     split at ht
     ·cases ht
     ·simp only [Option.some.injEq, Tg.yl.injEq] at ht
      obtain ⟨rfl, rfl⟩ := ht
      obtain ⟨n, r, hn, hk⟩ := h
      refine ⟨n, r, ?_, hk⟩
      rw [hfv, hav]
      simp only [Option.bind_some]
      exact hn
     ·cases ht
    ·exact h.elim
   ·rintro ⟨n, r, hr, hk⟩
    simp only [Option.bind_eq_some_iff] at hr
    obtain ⟨fv, hfv, av, hav, hr⟩ := hr
    rw [hfv, hav]
    simp only [Option.bind_some]
    split at hr
    ·show callX P _ _ H k
     unfold callX
     split at hr
     ·rename_i hb
      rw [if_pos hb]
      exact ⟨n, r, hr, hk⟩
     ·rename_i hb
      rw [if_neg hb, hr]
      exact hk
    ·exact ⟨n, r, hr, hk⟩
    ·cases hr
  ·rename_i hne
   refine key _ (fun c' hc f hf => ?_)
   cases hc
   exact hne f hf
 ·rename_i hne
  exact key _ (fun c hc => by subst hc; first | exact (hne _ _ rfl HEq.rfl).elim | exact (hne _ ⟨⟩ rfl HEq.rfl).elim | exact (hne _ rfl).elim)

theorem callK_iff_of {f : FuncId} {args : List AV} {H : Hp} {n : Nat} {r : AV × Hp × Ef} (h : evN P n f args H = some r) {k : AV × Hp × Ef → Prop} : callK P f args H k ↔ k r := by
 constructor
 ·rintro ⟨m, q, hq, hk⟩
  have h1 := evN_mono (P := P) (Nat.le_max_left n m) _ _ _ _ h
  have h2 := evN_mono (P := P) (Nat.le_max_right n m) _ _ _ _ hq
  rw [h1] at h2
  cases h2
  exact hk
 ·intro hk; exact ⟨n, r, h, hk⟩

theorem callK_eq {f : FuncId} {args : List AV} {H : Hp} {r : AV × Hp × Ef} (h : callK P f args H (fun q => q = r)) (k : AV × Hp × Ef → Prop) : callK P f args H k = k r := by
 obtain ⟨n, q, hq, rfl⟩ := h
 exact propext (callK_iff_of hq)

theorem callK_mono {f : FuncId} {args : List AV} {H : Hp} {k k' : AV × Hp × Ef → Prop} (h : callK P f args H k) (hk : ∀ r, k r → k' r) : callK P f args H k' :=
 let ⟨n, r, hn, hr⟩ := h
 ⟨n, r, hn, hk r hr⟩

theorem goOps_nil {ops : List Oper} {K : St → Prop} {σ : List AV} {H : Hp} {e : Ef} : goOps P ops K [] ⟨σ, H, e⟩ = K ⟨σ, H, e⟩ := by
 apply propext
 constructor
 ·rintro ⟨n, s', h, hk⟩; simp only [evOps] at h; cases h; exact hk
 ·intro h; exact ⟨0, _, rfl, h⟩

theorem goOps_want {ops : List Oper} {K : St → Prop} {o : Oper} {l : List Oper} {σ : List AV} {H : Hp} {e : Ef} (hw : wantedA ops σ o = true) :
  goOps P ops K (o :: l) ⟨σ, H, e⟩ = opK P σ H o.op (nextK P ops K l σ e o.dst) := by
 apply propext
 rw [opK_iff]
 constructor
 ·rintro ⟨n, s', h, hk⟩
  simp only [evOps, hw, if_true, Option.bind_eq_some_iff] at h
  obtain ⟨r, hr, h⟩ := h
  exact ⟨n, r, hr, n, s', h, hk⟩
 ·rintro ⟨n, r, hr, m, s', h, hk⟩
  refine ⟨max n m, s', ?_, hk⟩
  simp only [evOps, hw, if_true, Option.bind_eq_some_iff]
  exact ⟨r, evOp_mono (evN_mono (Nat.le_max_left n m)) hr, evOps_mono (evN_mono (Nat.le_max_right n m)) h⟩

theorem goOps_skip {ops : List Oper} {K : St → Prop} {o : Oper} {l : List Oper} {σ : List AV} {H : Hp} {e : Ef} (hw : wantedA ops σ o = false) :
  goOps P ops K (o :: l) ⟨σ, H, e⟩ = goOps P ops K l ⟨put σ o.dst undefA, H, e⟩ := by
 apply propext
 constructor
 ·rintro ⟨n, s', h, hk⟩
  simp only [evOps, hw, Bool.false_eq_true, if_false] at h
  exact ⟨n, s', h, hk⟩
 ·rintro ⟨n, s', h, hk⟩
  exact ⟨n, s', by simp only [evOps, hw, Bool.false_eq_true, if_false]; exact h, hk⟩

theorem goD_nil {ops : List Oper} {K : St → List Nat → Prop} {σ : List AV} {H : Hp} {e : Ef} : goD P ops K [] ⟨σ, H, e⟩ = K ⟨σ, H, e⟩ [] := by
 apply propext
 constructor
 ·rintro ⟨n, s', es, h, hk⟩; simp only [evD] at h; cases h; exact hk
 ·intro h; exact ⟨0, _, _, rfl, h⟩

theorem goD_want {ops : List Oper} {K : St → List Nat → Prop} {i : Nat} {o : Oper} {l : List (Nat × Oper)} {σ : List AV} {H : Hp} {e : Ef} (hw : wantedA ops σ o = true) :
  goD P ops K ((i, o) :: l) ⟨σ, H, e⟩ = opK P σ H o.op (nextD P ops K l σ H e i o) := by
 apply propext
 rw [opK_iff]
 constructor
 ·rintro ⟨n, s', es, h, hk⟩
  simp only [evD, hw, if_true, Option.bind_eq_some_iff, Option.map_eq_some_iff, Prod.mk.injEq] at h
  obtain ⟨r, hr, ⟨s1, es1⟩, h, rfl, rfl⟩ := h
  exact ⟨n, r, hr, n, _, es1, h, hk⟩
 ·rintro ⟨n, r, hr, m, s', es, h, hk⟩
  refine ⟨max n m, s', _, ?_, hk⟩
  simp only [evD, hw, if_true, Option.bind_eq_some_iff, Option.map_eq_some_iff, Prod.mk.injEq]
  exact ⟨r, evOp_mono (evN_mono (Nat.le_max_left n m)) hr, (s', es), evD_mono (evN_mono (Nat.le_max_right n m)) h, rfl, rfl⟩

theorem goD_skip {ops : List Oper} {K : St → List Nat → Prop} {i : Nat} {o : Oper} {l : List (Nat × Oper)} {σ : List AV} {H : Hp} {e : Ef} (hw : wantedA ops σ o = false) :
  goD P ops K ((i, o) :: l) ⟨σ, H, e⟩ = goD P ops K l ⟨put σ o.dst undefA, H, e⟩ := by
 apply propext
 constructor
 ·rintro ⟨n, s', es, h, hk⟩
  simp only [evD, hw, Bool.false_eq_true, if_false] at h
  exact ⟨n, s', es, h, hk⟩
 ·rintro ⟨n, s', es, h, hk⟩
  exact ⟨n, s', es, by simp only [evD, hw, Bool.false_eq_true, if_false]; exact h, hk⟩

theorem goCode_iff {c : Code} {Q : Ex → St → Prop} {s : St} {n : Nat} {ex : Ex} {s' : St} (h : evCode P (evN P n) (evNP P n) n c s = some (ex, s')) : goCode P c Q s ↔ Q ex s' := by
 constructor
 ·rintro ⟨m, ex2, s2, h2, hq⟩
  have h3 := ev_up (Nat.le_max_left n m) h
  have h4 := ev_up (Nat.le_max_right n m) h2
  rw [h3] at h4
  cases h4
  exact hq
 ·intro hq; exact ⟨n, ex, s', h, hq⟩

theorem goCode_mono {c : Code} {Q Q' : Ex → St → Prop} {s : St} (h : goCode P c Q s) (hq : ∀ ex s, Q ex s → Q' ex s) : goCode P c Q' s :=
 let ⟨n, ex, s', hn, hs⟩ := h
 ⟨n, ex, s', hn, hq _ _ hs⟩

def thenQ (P : Program) (c : Code) (Q : Ex → St → Prop) : Ex → St → Prop
 | .normal, s => goCode P c Q s
 | ex, s => Q ex s
def blockQ (id : Nat) (Q : Ex → St → Prop) : Ex → St → Prop
 | .exit i, s => if i = id then Q .normal s else Q (.exit i) s
 | ex, s => Q ex s

theorem goCode_seq {a b : Code} {Q : Ex → St → Prop} {s : St} : goCode P (.seq a b) Q s ↔ goCode P a (thenQ P b Q) s := by
 constructor
 ·rintro ⟨n, ex, s', h, hq⟩
  simp only [evCode] at h
  split at h
  ·rename_i s1 h1
   exact ⟨n, .normal, s1, h1, n, ex, s', h, hq⟩
  ·rename_i hne
   refine ⟨n, ex, s', h, ?_⟩
   cases ex <;> first | (exact (hne _ h).elim) | exact hq
 ·rintro ⟨n, ex, s', h, hq⟩
  cases ex with
  | normal =>
   obtain ⟨m, ex2, s2, h2, hq⟩ := hq
   refine ⟨max n m, ex2, s2, ?_, hq⟩
   simp only [evCode, ev_up (Nat.le_max_left n m) h]
   exact ev_up (Nat.le_max_right n m) h2
  | exit i => exact ⟨n, .exit i, s', by simp only [evCode, h], hq⟩
  | goto l => exact ⟨n, .goto l, s', by simp only [evCode, h], hq⟩
  | ret => exact ⟨n, .ret, s', by simp only [evCode, h], hq⟩
  | pan => exact ⟨n, .pan, s', by simp only [evCode, h], hq⟩

theorem goCode_block {id : Nat} {c : Code} {Q : Ex → St → Prop} {s : St} : goCode P (.block id c) Q s ↔ goCode P c (blockQ id Q) s := by
 constructor
 ·rintro ⟨n, ex, s', h, hq⟩
  simp only [evCode] at h
  split at h
  ·rename_i i s1 h1
   refine ⟨n, .exit i, s1, h1, ?_⟩
   show (if i = id then Q .normal s1 else Q (.exit i) s1)
   split at h
   ·rename_i hi; cases h; rw [if_pos hi]; exact hq
   ·rename_i hi; cases h; rw [if_neg hi]; exact hq
  ·rename_i hne
   refine ⟨n, ex, s', h, ?_⟩
   cases ex <;> first | (exact (hne _ _ h).elim) | exact hq
 ·rintro ⟨n, ex, s', h, hq⟩
  cases ex with
  | exit i =>
   have hq : (if i = id then Q .normal s' else Q (.exit i) s') := hq
   by_cases hi : i = id
   ·rw [if_pos hi] at hq; exact ⟨n, .normal, s', by simp only [evCode, h, hi, if_true], hq⟩
   ·rw [if_neg hi] at hq; exact ⟨n, .exit i, s', by simp only [evCode, h, hi, if_false], hq⟩
  | normal => exact ⟨n, .normal, s', by simp only [evCode, h], hq⟩
  | goto l => exact ⟨n, .goto l, s', by simp only [evCode, h], hq⟩
  | ret => exact ⟨n, .ret, s', by simp only [evCode, h], hq⟩
  | pan => exact ⟨n, .pan, s', by simp only [evCode, h], hq⟩

theorem goCode_loop {c : Code} {Q : Ex → St → Prop} {s : St} : goCode P (.loop c) Q s ↔ goCode P c (thenQ P (.loop c) Q) s := by
 constructor
 ·rintro ⟨n, ex, s', h, hq⟩
  simp only [evCode] at h
  cases n with
  | zero => simp [iter] at h
  | succ n =>
   simp only [iter] at h
   split at h
   ·rename_i s1 h1
    refine ⟨n + 1, .normal, s1, h1, n + 1, ex, s', ?_, hq⟩
    simp only [evCode]
    exact iter_mono (fun _ _ h => h) (Nat.le_succ n) h
   ·rename_i hne
    refine ⟨n + 1, ex, s', h, ?_⟩
    cases ex <;> first | (exact (hne _ h).elim) | exact hq
 ·rintro ⟨n, ex, s', h, hq⟩
  have up : ∀ m, n ≤ m → evCode P (evN P m) (evNP P m) m c s = some (ex, s') := fun m hm => ev_up hm h
  cases ex with
  | normal =>
   obtain ⟨m, ex2, s2, h2, hq⟩ := hq
   refine ⟨max n m + 1, ex2, s2, ?_, hq⟩
   simp only [evCode, iter, up (max n m + 1) (by omega)]
   have h3 := evCode_mono (P := P) (evN_mono (show m ≤ max n m + 1 by omega)) (evNP_mono (show m ≤ max n m + 1 by omega)) (evN_excl _) (show m ≤ max n m by omega) h2
   simp only [evCode] at h3
   refine iter_mono (fun s r hr => ?_) (Nat.le_refl _) h3
   exact evCode_mono (fun _ _ _ _ h => h) (fun _ _ _ _ h => h) (evN_excl _) (Nat.le_succ _) hr
  | exit i => exact ⟨n + 1, .exit i, s', by simp only [evCode, iter, up (n + 1) (by omega)], hq⟩
  | goto l => exact ⟨n + 1, .goto l, s', by simp only [evCode, iter, up (n + 1) (by omega)], hq⟩
  | ret => exact ⟨n + 1, .ret, s', by simp only [evCode, iter, up (n + 1) (by omega)], hq⟩
  | pan => exact ⟨n + 1, .pan, s', by simp only [evCode, iter, up (n + 1) (by omega)], hq⟩

class Calm (Q : Ex → St → Prop) : Prop where
 no : ∀ s, ¬ Q .pan s
def goOpsP (P : Program) (ops : List Oper) (K KP : St → Prop) (l : List Oper) (s : St) (_ : Ph (ops, K, KP, l) := ⟨⟩) : Prop := goOps P ops K l s ∨ ∃ n s', evOpsP P (evN P n) (evNP P n) ops l s = some s' ∧ KP s'

theorem goCode_regionP {id : Nat} {ops : Array Oper} {Q : Ex → St → Prop} {s : St} : goCode P (.region id ops false) Q s ↔ goOpsP P ops.toList (Q .normal) (Q .pan) ops.toList s := by
 constructor
 ·rintro ⟨n, ex, s', h, hq⟩
  simp only [evCode, evReg] at h
  split at h
  ·rename_i s1 h1
   cases h
   exact .inl ⟨n, _, h1, hq⟩
  ·simp only [Bool.false_eq_true, if_false, Option.map_eq_some_iff, Prod.mk.injEq] at h
   obtain ⟨s1, h1, rfl, rfl⟩ := h
   exact .inr ⟨n, s1, h1, hq⟩
 ·rintro (⟨n, s', h, hq⟩ | ⟨n, s', h, hq⟩)
  ·refine ⟨n, .normal, s', ?_, hq⟩
   simp only [evCode, evReg, evRegion, Bool.false_eq_true, if_false]
   rw [h]
  ·refine ⟨n, .pan, s', ?_, hq⟩
   simp only [evCode, evReg, evRegion, Bool.false_eq_true, if_false]
   rw [evOpsP_none (evN_excl n) h]
   simp only [h, Option.map_some]

theorem goCode_region {id : Nat} {ops : Array Oper} {Q : Ex → St → Prop} {s : St} (hc : ∀ s, ¬ Q .pan s) : goCode P (.region id ops false) Q s ↔ goOps P ops.toList (Q .normal) ops.toList s := by
 rw [goCode_regionP]
 constructor
 ·rintro (h | ⟨n, s', h, hq⟩)
  ·exact h
  ·exact absurd hq (hc _)
 ·exact .inl

def drawQ (P : Program) (ops : List Oper) (Q : Ex → St → Prop) : St → List Nat → Prop := fun s es => okL P ops s.σ es ∧ Q .normal s

theorem goCode_draw {id : Nat} {ops : Array Oper} {Q : Ex → St → Prop} {s : St} (hm : P.follows .mixedOrders = true) (hs : statOk ops.toList = true) : goCode P (.region id ops true) Q s ↔ goD P ops.toList (drawQ P ops.toList Q) (order ops.toList) s := by
 have key : ∀ n, evCode P (evN P n) (evNP P n) n (.region id ops true) s = (evRegion P (evN P n) ops.toList true s).map fun s' => (.normal, s') := by
  intro n
  simp only [evCode, evReg]
  cases evRegion P (evN P n) ops.toList true s <;> rfl
 constructor
 ·rintro ⟨n, ex, s', h, hq⟩
  rw [key] at h
  simp only [Option.map_eq_some_iff, Prod.mk.injEq, evRegion, hm, if_true, evDraw, Option.bind_eq_some_iff] at h
  obtain ⟨s1, ⟨q, hq1, h1⟩, rfl, rfl⟩ := h
  split at h1
  ·rename_i hok
   cases h1
   exact ⟨n, q.1, q.2, hq1, hok.2, hq⟩
  ·cases h1
 ·rintro ⟨n, s', es, h, he, hq⟩
  refine ⟨n, .normal, s', ?_, hq⟩
  rw [key]
  simp only [Option.map_eq_some_iff, Prod.mk.injEq, evRegion, hm, if_true, evDraw, Option.bind_eq_some_iff]
  exact ⟨s', ⟨(s', es), h, by rw [if_pos ⟨hs, he⟩]⟩, trivial, rfl⟩

theorem goCode_at {c : Code} {Q : Ex → St → Prop} {s : St} {ex : Ex} (h : ∀ n, evCode P (evN P n) (evNP P n) n c s = some (ex, s)) : goCode P c Q s ↔ Q ex s := goCode_iff (h 0)

inductive It where
 | code (c : Code)
 | inBlock (id : Nat)
 | inScope (c : Code)

def scopeK (P : Program) (c : Code) (Q : Ex → St → Prop) (ex : Ex) (s : St) : Prop :=
 ∃ n ex' s', scopeIt (fun l s => (findLabel c l).map fun r => evCode P (evN P n) (evNP P n) n r s) n (some (ex, s)) = some (ex', s') ∧ Q ex' s'
theorem scopeK_of {c : Code} {Q : Ex → St → Prop} {ex : Ex} {s : St} (h : ∀ l, ex = .goto l → findLabel c l = none) : scopeK P c Q ex s = Q ex s := by
 have key : ∀ n, scopeIt (fun l s => (findLabel c l).map fun r => evCode P (evN P n) (evNP P n) n r s) n (some (ex, s)) = some (ex, s) := by
  intro n
  cases ex with
  | goto l => unfold scopeIt; simp only [h l rfl, Option.map_none]
  | _ => simp [scopeIt]
 apply propext
 constructor
 ·rintro ⟨n, ex', s', h1, hq⟩
  rw [key] at h1
  cases h1
  exact hq
 ·intro hq; exact ⟨0, ex, s, key 0, hq⟩
theorem scopeIt_up {c : Code} {n m : Nat} (hn : n ≤ m) {k k' : Nat} (hk : k ≤ k') {r r' : Rc} (hr : ∀ q, r = some q → r' = some q) {q : Ex × St} (h : scopeIt (fun l s => (findLabel c l).map fun r => evCode P (evN P n) (evNP P n) n r s) k r = some q) :
  scopeIt (fun l s => (findLabel c l).map fun r => evCode P (evN P m) (evNP P m) m r s) k' r' = some q := by
 refine scopeIt_mono (fun l s => by simp) (fun l s r q h1 h2 => ?_) hk hr h
 subst h2
 simp only [Option.map_eq_some_iff] at h1 ⊢
 obtain ⟨r, hr, h1⟩ := h1
 exact ⟨r, hr, ev_up hn h1⟩
theorem scopeK_goto {c r : Code} {l : Nat} {Q : Ex → St → Prop} {s : St} (h : findLabel c l = some r) : scopeK P c Q (.goto l) s = goCode P r (scopeK P c Q) s := by
 apply propext
 constructor
 ·rintro ⟨n, ex', s', h1, hq⟩
  cases n with
  | zero => simp [scopeIt, h] at h1
  | succ n =>
   unfold scopeIt at h1
   simp only [h, Option.map_some] at h1
   cases hr : evCode P (evN P (n + 1)) (evNP P (n + 1)) (n + 1) r s with
   | none => rw [hr] at h1; simp [scopeIt] at h1
   | some q =>
    rw [hr] at h1
    exact ⟨n + 1, q.1, q.2, hr, n + 1, ex', s', scopeIt_up (Nat.le_refl _) (Nat.le_succ n) (fun _ h => h) h1, hq⟩
 ·rintro ⟨n, ex1, s1, h1, m, ex', s', h2, hq⟩
  refine ⟨max n m + 1, ex', s', ?_, hq⟩
  unfold scopeIt
  simp only [h, Option.map_some]
  exact scopeIt_up (show m ≤ max n m + 1 by omega) (show m ≤ max n m by omega) (fun q hq => by rw [← hq]; exact ev_up (show n ≤ max n m + 1 by omega) h1) h2
theorem goCode_scope {c : Code} {Q : Ex → St → Prop} {s : St} : goCode P (.scope c) Q s ↔ goCode P c (scopeK P c Q) s := by
 constructor
 ·rintro ⟨n, ex', s', h1, hq⟩
  rw [evCode_scope] at h1
  cases hr : evCode P (evN P n) (evNP P n) n c s with
  | none => rw [hr] at h1; simp [scopeIt] at h1
  | some q =>
   rw [hr] at h1
   exact ⟨n, q.1, q.2, hr, n, ex', s', h1, hq⟩
 ·rintro ⟨n, ex1, s1, h1, m, ex', s', h2, hq⟩
  refine ⟨max n m, ex', s', ?_, hq⟩
  rw [evCode_scope]
  exact scopeIt_up (Nat.le_max_right n m) (Nat.le_max_right n m) (fun q hq => by rw [← hq]; exact ev_up (Nat.le_max_left n m) h1) h2

def contQ (P : Program) (Q : Ex → St → Prop) : List It → Ex → St → Prop
 | [] => Q
 | .code c :: k => thenQ P c (contQ P Q k)
 | .inBlock id :: k => blockQ id (contQ P Q k)
 | .inScope c :: k => scopeK P c (contQ P Q k)

def go (P : Program) (Q : Ex → St → Prop) (k : List It) (s : St) (_ : Ph (P, Q, k) := ⟨⟩) : Prop := contQ P Q k .normal s
def leaveTo (P : Program) (Q : Ex → St → Prop) (id : Nat) (k : List It) (s : St) (_ : Ph (P, Q, k) := ⟨⟩) : Prop := contQ P Q k (.exit id) s

def jumpTo (P : Program) (Q : Ex → St → Prop) (l : Nat) (k : List It) (s : St) (_ : Ph (P, Q, k) := ⟨⟩) : Prop := contQ P Q k (.goto l) s
def jumpIn (P : Program) (Q : Ex → St → Prop) (l : Nat) (c : Code) (k : List It) (s : St) (r : Option Code) (_ : Ph (P, Q, k) := ⟨⟩) : Prop :=
 match r with
 | some r => go P Q (.code r :: .inScope c :: k) s
 | none => jumpTo P Q l k s

variable {Q : Ex → St → Prop} {k : List It} {σ : List AV} {H : Hp} {e : Ef}

theorem go_scope {c : Code} : go P Q (.code (.scope c) :: k) ⟨σ, H, e⟩ = go P Q (.code c :: .inScope c :: k) ⟨σ, H, e⟩ := propext goCode_scope
theorem go_inScope {c : Code} : go P Q (.inScope c :: k) ⟨σ, H, e⟩ = go P Q k ⟨σ, H, e⟩ := scopeK_of (fun _ h => by cases h)
theorem leaveTo_scope {id : Nat} {c : Code} : leaveTo P Q id (.inScope c :: k) ⟨σ, H, e⟩ = leaveTo P Q id k ⟨σ, H, e⟩ := scopeK_of (fun _ h => by cases h)
theorem go_goto {l : Nat} : go P Q (.code (.goto l) :: k) ⟨σ, H, e⟩ = jumpTo P Q l k ⟨σ, H, e⟩ := propext (goCode_at (fun _ => rfl))
theorem jumpTo_code {l : Nat} {c : Code} : jumpTo P Q l (.code c :: k) ⟨σ, H, e⟩ = jumpTo P Q l k ⟨σ, H, e⟩ := rfl
theorem jumpTo_block {l id : Nat} : jumpTo P Q l (.inBlock id :: k) ⟨σ, H, e⟩ = jumpTo P Q l k ⟨σ, H, e⟩ := rfl
theorem jumpTo_scope {l : Nat} {c : Code} : jumpTo P Q l (.inScope c :: k) ⟨σ, H, e⟩ = jumpIn P Q l c k ⟨σ, H, e⟩ (findLabel c l) := by
 cases h : findLabel c l with
 | none => exact scopeK_of (fun l' e => by cases e; exact h)
 | some r => exact scopeK_goto h
theorem jumpIn_some {l : Nat} {c r : Code} : jumpIn P Q l c k ⟨σ, H, e⟩ (some r) = go P Q (.code r :: .inScope c :: k) ⟨σ, H, e⟩ := rfl
theorem jumpIn_none {l : Nat} {c : Code} : jumpIn P Q l c k ⟨σ, H, e⟩ none = jumpTo P Q l k ⟨σ, H, e⟩ := rfl

theorem go_nil : go P Q [] ⟨σ, H, e⟩ = Q .normal ⟨σ, H, e⟩ := rfl
theorem go_skip : go P Q (.code .skip :: k) ⟨σ, H, e⟩ = go P Q k ⟨σ, H, e⟩ := propext (goCode_at (fun _ => rfl))
theorem go_label {l : Nat} : go P Q (.code (.label l) :: k) ⟨σ, H, e⟩ = go P Q k ⟨σ, H, e⟩ := propext (goCode_at (fun _ => rfl))
theorem go_seq {a b : Code} : go P Q (.code (.seq a b) :: k) ⟨σ, H, e⟩ = go P Q (.code a :: .code b :: k) ⟨σ, H, e⟩ := propext goCode_seq
theorem go_block {id : Nat} {c : Code} : go P Q (.code (.block id c) :: k) ⟨σ, H, e⟩ = go P Q (.code c :: .inBlock id :: k) ⟨σ, H, e⟩ := propext goCode_block
theorem go_inBlock {id : Nat} : go P Q (.inBlock id :: k) ⟨σ, H, e⟩ = go P Q k ⟨σ, H, e⟩ := rfl
theorem go_exit {id : Nat} : go P Q (.code (.exit id) :: k) ⟨σ, H, e⟩ = leaveTo P Q id k ⟨σ, H, e⟩ := propext (goCode_at (fun _ => rfl))
theorem leaveTo_code {id : Nat} {c : Code} : leaveTo P Q id (.code c :: k) ⟨σ, H, e⟩ = leaveTo P Q id k ⟨σ, H, e⟩ := rfl
theorem leaveTo_this {id : Nat} : leaveTo P Q id (.inBlock id :: k) ⟨σ, H, e⟩ = go P Q k ⟨σ, H, e⟩ := by
 show (if id = id then _ else _) = _
 rw [if_pos rfl]; rfl
theorem leaveTo_other {id j : Nat} (h : id ≠ j) : leaveTo P Q id (.inBlock j :: k) ⟨σ, H, e⟩ = leaveTo P Q id k ⟨σ, H, e⟩ := by
 show (if id = j then _ else _) = _
 rw [if_neg h]; rfl
theorem contQ_ret : ∀ (k : List It) (s : St), contQ P Q k .ret s = Q .ret s
 | [], _ => rfl
 | .code _ :: k, s => contQ_ret k s
 | .inBlock _ :: k, s => contQ_ret k s
 | .inScope _ :: k, s => (scopeK_of (fun _ h => by cases h)).trans (contQ_ret k s)
theorem go_ret : go P Q (.code .ret :: k) ⟨σ, H, e⟩ = Q .ret ⟨σ, H, e⟩ := by
 rw [← contQ_ret (P := P) (Q := Q) k]
 exact propext (goCode_at (fun _ => rfl))
theorem go_loop {c : Code} : go P Q (.code (.loop c) :: k) ⟨σ, H, e⟩ = go P Q (.code c :: .code (.loop c) :: k) ⟨σ, H, e⟩ := propext goCode_loop
theorem contQ_pan : ∀ (k : List It) (s : St), contQ P Q k .pan s = Q .pan s
 | [], _ => rfl
 | .code _ :: k, s => contQ_pan k s
 | .inBlock _ :: k, s => contQ_pan k s
 | .inScope _ :: k, s => (scopeK_of (fun _ h => by cases h)).trans (contQ_pan k s)
theorem go_region [hc : Calm Q] {id : Nat} {ops : Array Oper} : go P Q (.code (.region id ops false) :: k) ⟨σ, H, e⟩ = goOps P ops.toList (fun s => go P Q k s) ops.toList ⟨σ, H, e⟩ :=
 propext (goCode_region (Q := contQ P Q k) (fun s h => hc.no s ((contQ_pan (P := P) (Q := Q) k s) ▸ h)))
theorem go_regionP {id : Nat} {ops : Array Oper} : go P Q (.code (.region id ops false) :: k) ⟨σ, H, e⟩ = goOpsP P ops.toList (fun s => go P Q k s) (fun s => Q .pan s) ops.toList ⟨σ, H, e⟩ := by
 refine (propext (goCode_regionP (Q := contQ P Q k))).trans ?_
 have : (contQ P Q k .pan) = fun s => Q .pan s := funext (contQ_pan k)
 rw [this]
 rfl
def goDr (P : Program) (ops : List Oper) (Q : Ex → St → Prop) (k : List It) : St → List Nat → Prop := fun s es => okL P ops s.σ es ∧ go P Q k s
theorem go_draw {id : Nat} {ops : Array Oper} (hm : P.follows .mixedOrders = true) (hs : statOk ops.toList = true) : go P Q (.code (.region id ops true) :: k) ⟨σ, H, e⟩ = goD P ops.toList (goDr P ops.toList Q k) (order ops.toList) ⟨σ, H, e⟩ := propext (goCode_draw hm hs)

theorem go_true {c : Operand} {a b : Code} (h : evArg P σ c = some (.bool true)) : go P Q (.code (.cond c a b) :: k) ⟨σ, H, e⟩ = go P Q (.code a :: k) ⟨σ, H, e⟩ := by
 apply propext
 constructor
 ·rintro ⟨n, ex, s', hs, hq⟩
  simp only [evCode, h] at hs
  exact ⟨n, ex, s', hs, hq⟩
 ·rintro ⟨n, ex, s', hs, hq⟩
  exact ⟨n, ex, s', by simp only [evCode, h]; exact hs, hq⟩
theorem go_false {c : Operand} {a b : Code} (h : evArg P σ c = some (.bool false)) : go P Q (.code (.cond c a b) :: k) ⟨σ, H, e⟩ = go P Q (.code b :: k) ⟨σ, H, e⟩ := by
 apply propext
 constructor
 ·rintro ⟨n, ex, s', hs, hq⟩
  simp only [evCode, h] at hs
  exact ⟨n, ex, s', hs, hq⟩
 ·rintro ⟨n, ex, s', hs, hq⟩
  exact ⟨n, ex, s', by simp only [evCode, h]; exact hs, hq⟩
theorem go_while {c : Code} (I : Nat → St → Prop) (n : Nat) {s : St} (h0 : I n s) (round : ∀ n s, I n s → goCode P c (fun ex s' => match ex with | .normal => ∃ m, m < n ∧ I m s' | ex => contQ P Q k ex s') s) : go P Q (.code (.loop c) :: k) s := by
 induction n using Nat.strongRecOn generalizing s with
 | _ n ih =>
  show goCode P (.loop c) (contQ P Q k) s
  rw [goCode_loop]
  refine goCode_mono (round n s h0) (fun ex s' hq => ?_)
  cases ex with
  | normal =>
   obtain ⟨m, hm, hi⟩ := hq
   exact ih m hm hi
  | _ => exact hq

def endF (P : Program) (fn : Func) (n : Nat) (k : AV × Hp × Ef → Prop) : Ex → St → Prop := fun ex s =>
 (ex = .normal ∨ ex = .ret) ∧ match evRes P s fn.results.toList with
  | some vs => k (leave n (pack vs) s.H s.ef)
  | none => False
instance {fn : Func} {n : Nat} {k : AV × Hp × Ef → Prop} : Calm (endF P fn n k) := ⟨fun _ h => by rcases h.1 with h | h <;> cases h⟩

theorem callK_body {f : FuncId} {fn : Func} {c : Code} {args : List AV} {H : Hp} {kk : AV × Hp × Ef → Prop} (hf : P.funcs[f]? = some fn) (hb : fn.body = some c) (hd : cutD c = none) :
  callK P f args H kk = go P (endF P fn H.length kk) [.code c] ⟨args ++ List.replicate (fn.ntmps - args.length) undefA, H, z0⟩ := by
 apply propext
 have key : ∀ n, evN P (n + 1) f args H = (evFun P (evN P n) (evNP P n) (n + 1) false) f args H := fun _ => rfl
 constructor
 ·rintro ⟨n, r, hr, hk⟩
  cases n with
  | zero => simp [evN, evNN] at hr
  | succ n =>
   rw [key] at hr
   simp only [evFun, hf, hb, evBody, hd] at hr
   cases hc : evCode P (evN P n) (evNP P n) (n + 1) c ⟨args ++ List.replicate (fn.ntmps - args.length) undefA, H, z0⟩ with
   | none => rw [hc] at hr; simp [evEnd] at hr
   | some q =>
    obtain ⟨ex, s⟩ := q
    simp only [hc] at hr
    by_cases hex : ex = .normal ∨ ex = .ret
    ·simp only [evEnd, if_pos hex, Bool.true_eq_false, if_false, Option.map_eq_some_iff] at hr
     obtain ⟨vs, hvs, rfl⟩ := hr
     refine ⟨n + 1, ex, s, evCode_mono (evN_mono (Nat.le_succ n)) (evNP_mono (Nat.le_succ n)) (evN_excl _) (Nat.le_refl _) hc, ?_⟩
     show endF P fn H.length kk ex s
     exact ⟨hex, by rw [hvs]; exact hk⟩
    ·by_cases hp : ex = .pan
     ·subst hp
      simp only [evEnd, if_neg hex, if_true] at hr
      cases hσ : s.σ <;> simp [hσ] at hr
     ·simp [evEnd, if_neg hex, if_neg hp] at hr
 ·rintro ⟨n, ex, s, hc, hq⟩
  have hq' : endF P fn H.length kk ex s := by cases ex <;> exact hq
  obtain ⟨hex, hq2⟩ := hq'
  cases hvs : evRes P s fn.results.toList with
  | none => rw [hvs] at hq2; exact hq2.elim
  | some vs =>
   rw [hvs] at hq2
   refine ⟨n + 1, _, ?_, hq2⟩
   rw [key]
   simp only [evFun, hf, hb, evBody, hd, evCode_mono (fun _ _ _ _ h => h) (fun _ _ _ _ h => h) (evN_excl _) (Nat.le_succ n) hc, evEnd, if_pos hex, hvs, Option.map_some, Bool.true_eq_false, if_false]

def rngK (P : Program) (Q : Ex → St → Prop) (k : List It) (σ : List AV) (n : Nat) (e : Ef) : AV × Hp × Ef → Prop := fun r =>
 match asEnd (r.2.1[n]?) with
 | some ex => contQ P Q k ex ⟨σ, r.2.1.set n .dead, e.and (r.2.2.and ⟨none, some n⟩)⟩
 | none => False
theorem go_range {f : Operand} {ps : Array Tmp} {az bd : Code} {v : AV} {x : FuncId × List AV × List AV} (hf : evArg P σ f = some v) (hv : asFun v = some x) (hb : hasBody P x.1 = true) :
  go P Q (.code (.rangeFunc f ps az bd) :: k) ⟨σ, H, e⟩ = callK P x.1 (x.2.1 ++ [.yld H.length] ++ x.2.2) (H ++ [.loop σ ps.toList az bd .ready]) (rngK P Q k σ H.length e) := by
 apply propext
 constructor
 ·rintro ⟨n, ex, s', hc, hq⟩
  simp only [evCode, evRange_eq, hf, hv, Option.bind_some, hb, if_true, Option.bind_eq_some_iff, Option.map_eq_some_iff, Prod.mk.injEq] at hc
  obtain ⟨r, hr, ex', hex, rfl, rfl⟩ := hc
  refine ⟨n, r, hr, ?_⟩
  unfold rngK
  rw [hex]
  exact hq
 ·rintro ⟨n, r, hr, hq⟩
  unfold rngK at hq
  cases hex : asEnd (r.2.1[H.length]?) with
  | none => rw [hex] at hq; exact hq.elim
  | some ex =>
   rw [hex] at hq
   refine ⟨n, ex, _, ?_, hq⟩
   simp only [evCode, evRange_eq, hf, hv, Option.bind_some, hb, if_true, Option.bind_eq_some_iff, Option.map_eq_some_iff, Prod.mk.injEq]
   exact ⟨r, hr, ex, hex, rfl, rfl⟩

structure Lp where
 σ : List AV
 ps : List Tmp
 az : Code
 bd : Code
def asReady : Option ABlk → Option Lp
 | some (.loop σ ps az bd .ready) => some ⟨σ, ps, az, bd⟩
 | _ => none
def asBusy : Option ABlk → Option Lp
 | some (.loop σ ps az bd .busy) => some ⟨σ, ps, az, bd⟩
 | _ => none
def reQ (b n : Nat) (k : AV × Hp × Ef → Prop) : Ex → St → Prop := fun ex s =>
 if ex = .pan then False else match asBusy (s.H[b]?) with
 | some L => k (leave n (.bool (decide (ex = .normal))) (s.H.set b (.loop L.σ L.ps L.az L.bd (if ex = .normal then .ready else .done ex))) (s.ef.and ⟨none, some b⟩))
 | none => False
instance {b n : Nat} {k : AV × Hp × Ef → Prop} : Calm (reQ b n k) := ⟨fun _ h => h⟩
def rdQ (P : Program) (b n : Nat) (bd : Code) (k : AV × Hp × Ef → Prop) : Ex → St → Prop := fun ex s =>
 ex = .normal ∧ match asReady (s.H[b]?) with
 | some L => go P (reQ b n k) [.code bd] ⟨s.σ, s.H.set b (.loop L.σ L.ps L.az L.bd .busy), s.ef.and ⟨none, some b⟩⟩
 | none => False

instance {b n : Nat} {bd : Code} {k : AV × Hp × Ef → Prop} : Calm (rdQ P b n bd k) := ⟨fun _ h => by cases h.1⟩

end
end Go.Proofs.YtdppgaphcmhffaaGreatDoor.V
namespace Go.Proofs.YtdppgaphcmhffaaGreatDoor.V
open Go

def bindK {α : Type} (o : Option α) (f : α → Prop) (_ : Ph f := ⟨⟩) : Prop :=
 match o with
 | some a => f a
 | none => False
theorem bindK_some {α : Type} {a : α} {f : α → Prop} : bindK (some a) f = f a := rfl
def fr (σ : List AV) (t : Nat) : AV := (σ[t]?).getD undefA
def guardK (v : AV) (w : Bool) (A B : Prop) (_ : Ph (A, B) := ⟨⟩) : Prop :=
 match v with
 | .bool b => if (b == w) = true then A else B
 | _ => B
theorem guardK_tt {A B : Prop} : guardK (.bool true) true A B = A := rfl
theorem guardK_tf {A B : Prop} : guardK (.bool true) false A B = B := rfl
theorem guardK_ft {A B : Prop} : guardK (.bool false) true A B = B := rfl
theorem guardK_ff {A B : Prop} : guardK (.bool false) false A B = A := rfl
theorem guardK_u {w : Bool} {A B : Prop} : guardK undefA w A B = B := rfl
attribute [go_sem ↓] guardK_u
def condK (v : Option AV) (A B : Prop) (_ : Ph (A, B) := ⟨⟩) : Prop :=
 match v with
 | some (.bool true) => A
 | some (.bool false) => B
 | _ => False
theorem condK_t {A B : Prop} : condK (some (.bool true)) A B = A := rfl
theorem condK_f {A B : Prop} : condK (some (.bool false)) A B = B := rfl
theorem condK_split {b : Bool} {A B : Prop} (h1 : b = true → A) (h2 : b = false → B) : condK (some (.bool b)) A B := by
 cases b <;> first | exact h1 rfl | exact h2 rfl

section
variable {P : Program} {Q : Ex → St → Prop} {k : List It} {σ : List AV} {H : Hp} {e : Ef} {ops : List Oper} {K : St → Prop} {l : List Oper}

theorem leaveTo_ne {id j : Nat} (h : (id == j) = false) : leaveTo P Q id (.inBlock j :: k) ⟨σ, H, e⟩ = leaveTo P Q id k ⟨σ, H, e⟩ := leaveTo_other (by simpa using h)
attribute [go_sem ↓] go_nil go_skip go_label go_scope go_inScope leaveTo_scope go_goto jumpTo_code jumpTo_block jumpTo_scope jumpIn_some jumpIn_none go_seq go_block go_inBlock go_exit leaveTo_code leaveTo_this leaveTo_ne go_ret go_region goOps_nil goD_nil
attribute [go_sem] Ef.and_z0 Ef.z0_and

theorem leaveTo_nil {id : Nat} : leaveTo P Q id [] ⟨σ, H, e⟩ = Q (.exit id) ⟨σ, H, e⟩ := rfl
theorem fr_ne {d t : Nat} {v : AV} (h : (d == t) = false) : fr (σ.set d v) t = fr σ t := by
 unfold fr; rw [List.getElem?_set_ne (by simpa using h)]
theorem fr_eq {d : Nat} {v : AV} (h : decide (d < σ.length) = true) : fr (σ.set d v) d = v := by
 unfold fr; rw [List.getElem?_set_self (by simpa using h)]; rfl
attribute [go_sem] fr_ne fr_eq List.length_set bindK_some guardK_tt guardK_tf guardK_ft guardK_ff condK_t condK_f
attribute [go_sem ↓] leaveTo_nil bindK_some guardK_tt guardK_tf guardK_ft guardK_ff condK_t condK_f

theorem go_if {c : Operand} {a b : Code} : go P Q (.code (.cond c a b) :: k) ⟨σ, H, e⟩ = condK (evArg P σ c) (go P Q (.code a :: k) ⟨σ, H, e⟩) (go P Q (.code b :: k) ⟨σ, H, e⟩) := by
 by_cases ht : evArg P σ c = some (.bool true)
 ·rw [go_true ht, ht]; rfl
 by_cases hf : evArg P σ c = some (.bool false)
 ·rw [go_false hf, hf]; rfl
 apply propext
 constructor
 ·rintro ⟨n, ex, s', hs, hq⟩
  have : evCode P (evN P n) (evNP P n) n (.cond c a b) ⟨σ, H, e⟩ = none := by
   show (match evArg P σ c with | some (.bool true) => _ | some (.bool false) => _ | _ => none) = none
   split
   ·exact absurd ‹_› ht
   ·exact absurd ‹_› hf
   ·rfl
  rw [this] at hs; cases hs
 ·intro h
  unfold condK at h
  split at h
  ·exact absurd ‹_› ht
  ·exact absurd ‹_› hf
  ·exact h.elim

theorem go_op {dst : Option Tmp} {op : Op} {ty : TypeId} {pos : String} {af : Array Edge} : goOps P ops K (⟨dst, op, ty, pos, af, none⟩ :: l) ⟨σ, H, e⟩ = opK P σ H op (nextK P ops K l σ e dst) := goOps_want rfl
def gdst (ops : List Oper) (j : Nat) : Option Nat := (ops[j]?).bind (·.dst)
theorem gdst_z {o : Oper} {l : List Oper} : gdst (o :: l) 0 = o.dst := rfl
theorem gdst_s {o : Oper} {l : List Oper} {j : Nat} : gdst (o :: l) (j + 1) = gdst l j := rfl
def gvalO (σ : List AV) : Option Nat → AV
 | some d => fr σ d
 | none => undefA
theorem gvalO_s {d : Nat} : gvalO σ (some d) = fr σ d := rfl
theorem go_opg {dst : Option Tmp} {op : Op} {ty : TypeId} {pos : String} {af : Array Edge} {j : Nat} {w : Bool} :
  goOps P ops K (⟨dst, op, ty, pos, af, some (j, w)⟩ :: l) ⟨σ, H, e⟩ = guardK (gvalO σ (gdst ops j)) w (opK P σ H op (nextK P ops K l σ e dst)) (goOps P ops K l ⟨put σ dst undefA, H, e⟩) := by
 cases hw : wantedA ops σ ⟨dst, op, ty, pos, af, some (j, w)⟩ with
 | true =>
  rw [goOps_want hw]
  unfold wantedA at hw
  simp only at hw
  unfold gvalO gdst
  split at hw
  ·rename_i d hd
   rw [hd]
   split at hw
   ·rename_i b hb
    unfold fr; simp only [hb, Option.getD_some, guardK]; rw [if_pos hw]
   ·cases hw
  ·cases hw
 | false =>
  rw [goOps_skip hw]
  unfold wantedA at hw
  simp only at hw
  unfold gvalO gdst
  split at hw
  ·rename_i d hd
   rw [hd]
   split at hw
   ·rename_i b hb
    unfold fr; simp only [hb, Option.getD_some, guardK]; rw [if_neg (by rw [hw]; exact Bool.false_ne_true)]
   ·rename_i hne
    simp only
    unfold fr guardK
    split
    ·rename_i b hb
     cases hd2 : σ[d]? with
     | none => rw [hd2] at hb; cases hb
     | some v => rw [hd2] at hb; simp only [Option.getD_some] at hb; rw [hb] at hd2; exact absurd hd2 (hne b)
    ·rfl
  ·rename_i hd
   rw [hd]; rfl

theorem goD_op {K : St → List Nat → Prop} {l : List (Nat × Oper)} {i : Nat} {dst : Option Tmp} {op : Op} {ty : TypeId} {pos : String} {af : Array Edge} : goD P ops K ((i, ⟨dst, op, ty, pos, af, none⟩) :: l) ⟨σ, H, e⟩ = opK P σ H op (nextD P ops K l σ H e i ⟨dst, op, ty, pos, af, none⟩) := goD_want rfl
theorem nextK_ap {dst : Option Tmp} {v : AV} {H' : Hp} {e' : Ef} : nextK P ops K l σ e dst (v, H', e') = goOps P ops K l ⟨put σ dst v, H', e.and e'⟩ := rfl
theorem stepK_some {r : AV × Hp × Ef} {kk : AV × Hp × Ef → Prop} : stepK (some r) kk = kk r := rfl
theorem callX_f {g : FuncId} {az : List AV} {kk : AV × Hp × Ef → Prop} (hb : hasBody P g = true) : callX P g az H kk = callK P g az H kk := if_pos hb
theorem callX_x {g : FuncId} {az : List AV} {kk : AV × Hp × Ef → Prop} (hb : hasBody P g = false) (hz : isNZ P g = none) (hx : (isExt P g).isSome = true) : callX P g az H kk = bindK (isExt P g) fun x => bindK (evExtM P H x az) fun v => kk (v, H, z0) := by
 unfold callX evX
 rw [if_neg (by rw [hb]; exact Bool.false_ne_true), hz]
 cases hq : isExt P g with
 | none => rw [hq] at hx; cases hx
 | some x => cases h : evExtM P H x az <;> simp [stepK, ret, bindK, h]
theorem callX_s {g : FuncId} {az : List AV} {kk : AV × Hp × Ef → Prop} (hb : hasBody P g = false) (hz : isNZ P g = none) (hx : isExt P g = none) : callX P g az H kk = stepK (evS P g az H) kk := by
 unfold callX evX
 rw [if_neg (by rw [hb]; exact Bool.false_ne_true), hz, hx]
theorem callX_z {g : FuncId} {n : Int} {kk : AV × Hp × Ef → Prop} (hb : hasBody P g = false) (hz : (isNZ P g).isSome = true) : callX P g [.int .i64 n] H kk = bindK (isNZ P g) fun e => ((0 ≤ n ∧ n ≤ 281474976710656) ∧ kk (.slice H.length 0 n.toNat (.op 0), H ++ [.cells [] e (.op 0 false)], z0)) := by
 obtain ⟨e, he⟩ := Option.isSome_iff_exists.1 hz
 unfold callX evX
 rw [if_neg (by rw [hb]; exact Bool.false_ne_true), he]
 simp only [evNZ, bindK]
 by_cases h : 0 ≤ n ∧ n ≤ 281474976710656
 ·rw [if_pos h]; simp [stepK, h]
 ·rw [if_neg h]; simp [stepK, h]
attribute [go_sem] Option.isSome_some
theorem callT_some {g : FuncId} {az : List AV} {kk : AV × Hp × Ef → Prop} : callT P (some (.fn g az)) H kk = callX P g az H kk := rfl
theorem callT_y {b : Nat} {az : List AV} {kk : AV × Hp × Ef → Prop} : callT P (some (.yl b az)) H kk = callK P (P.funcs.size + b) az H kk := rfl
theorem ext_same {x : AV} : evExtM P H .same [x] = some x := rfl
theorem ext_idxB {s : List UInt8} {c : Int} : evExtM P H .idxB [.str s, .int .u8 c] = some (.int .i64 (Lib.indexByte s c.toNat.toUInt8)) := rfl
theorem ext_cntB {s : List UInt8} {c : Int} : evExtM P H .cntB [.str s, .int .u8 c] = some (.int .i64 (Lib.countByte s c.toNat.toUInt8)) := rfl
theorem ext_cmp {a b : List UInt8} : evExtM P H .cmp [.str a, .str b] = some (.int .i64 (Lib.compareBytes a b)) := rfl
theorem ext_idxS {a b : List UInt8} {f : AV → Prop} : bindK (evExtM P H .idxS [.str a, .str b]) f = bindK (mxL P H) fun m => ((2 ≤ b.length ∧ (b.length : Int) ≤ m ∧ a.length < 4294967281) ∧ f (.int .i64 (Lib.index a b))) := by
 show bindK (Option.bind _ _) f = _
 cases mxL P H with
 | none => rfl
 | some m =>
  simp only [Option.bind_some, bindK_some]
  by_cases h : 2 ≤ b.length ∧ (b.length : Int) ≤ m ∧ a.length < 4294967281
  ·rw [if_pos h]; simp [h, bindK_some]
  ·rw [if_neg h]; simp [h, bindK]
attribute [go_sem] ext_same ext_idxB ext_cntB ext_cmp
attribute [go_sem ↓] ext_idxS
attribute [go_sem ↓] callX_f callX_x callX_z callX_s
theorem put_t {d : Tmp} {v : AV} : put σ (some d) v = σ.set d v := rfl
theorem put_n {v : AV} : put σ none v = σ := rfl
attribute [go_sem] gdst_z gdst_s gvalO_s put_t put_n stepK_some
attribute [go_sem ↓] go_if go_op go_opg nextK_ap stepK_some callT_some callT_y goD_op

theorem ret_s {v : AV} : ret H (some v) = some (v, H, z0) := rfl
theorem ret2_s {v : AV × Hp} : ret2 (some v) = some (v.1, v.2, z0) := rfl
attribute [go_sem] ret_s ret2_s

theorem arg_t {t : Nat} : evArg P σ (.tmp t) = some (fr σ t) := rfl
theorem arg_f {f : FuncId} : evArg P σ (.func f) = some (.func (.func f) [] []) := rfl
theorem arg_i {kk : IntKind} {n : Int} : evArg P σ (.const (.int kk n)) = some (.int kk n) := rfl
theorem arg_b {b : Bool} : evArg P σ (.const (.bool b)) = some (.bool b) := rfl
theorem arg_s {s : Array UInt8} : evArg P σ (.const (.string ⟨s⟩)) = some (.str s.toList) := rfl
theorem arg_nilp : evArg P σ (.const (.pointer none)) = some .nilp := rfl
theorem arg_nils : evArg P σ (.const (.slice none 0 0)) = some .nils := rfl
theorem arg_nilm : evArg P σ (.const (.map none)) = some .nilm := rfl
theorem arg_nili : evArg P σ (.const .nilIface) = some .nili := rfl
theorem args_nil : evArgs P σ [] = some [] := rfl
theorem args_cons {x : Operand} {xs : List Operand} : evArgs P σ (x :: xs) = (evArg P σ x).bind fun a => (evArgs P σ xs).map (a :: ·) := rfl
theorem parts_nil : evParts P σ [] = some [] := rfl
theorem parts_cons {i : Nat} {x : Operand} {xs : List (Nat × Operand)} : evParts P σ ((i, x) :: xs) = (evArg P σ x).bind fun a => (evParts P σ xs).map ((i, a) :: ·) := rfl
theorem opt_n : evOpt P σ none = some none := rfl
theorem opt_s {x : Operand} : evOpt P σ (some x) = (evArg P σ x).map some := rfl
attribute [go_sem] arg_t arg_f arg_i arg_b arg_s arg_nilp arg_nils arg_nilm arg_nili args_nil args_cons parts_nil parts_cons opt_n opt_s Option.bind_some Option.map_some

section
variable {kk : AV × Hp × Ef → Prop}
theorem bindK_ext {α : Type} {o : Option α} {f g : α → Prop} (h : ∀ a, f a = g a) : bindK o f = bindK o g := by
 cases o
 ·rfl
 ·exact h _
theorem stepK_ret {v : Option AV} : stepK (ret H v) kk = bindK v fun v => kk (v, H, z0) := by cases v <;> rfl
theorem stepK_ret2 {v : Option (AV × Hp)} : stepK (ret2 v) kk = bindK v fun v => kk (v.1, v.2, z0) := by cases v <;> rfl
theorem stepK_bind {α : Type} {o : Option α} {f : α → Rs} : stepK (o.bind f) kk = bindK o fun a => stepK (f a) kk := by cases o <;> rfl
theorem stepK_map {α : Type} {o : Option α} {f : α → AV × Hp × Ef} : stepK (o.map f) kk = bindK o fun a => kk (f a) := by cases o <;> rfl
theorem bindK_bind {α β : Type} {o : Option α} {f : α → Option β} {g : β → Prop} : bindK (o.bind f) g = bindK o fun a => bindK (f a) g := by cases o <;> rfl
theorem bindK_map {α β : Type} {o : Option α} {f : α → β} {g : β → Prop} : bindK (o.map f) g = bindK o fun a => g (f a) := by cases o <;> rfl
theorem bindK_ite {α : Type} {c : Prop} [Decidable c] {o : Option α} {g : α → Prop} : bindK (if c then o else none) g = (c ∧ bindK o g) := by
 split
 ·rename_i h; simp [h]
 ·rename_i h; simp [h, bindK]
attribute [go_sem] bindK_bind bindK_map bindK_ite
attribute [go_sem ↓] bindK_bind bindK_map

theorem k_move {x : Operand} : opK P σ H (.move x) kk = bindK (evArg P σ x) fun v => kk (v, H, z0) := stepK_ret
theorem k_assign {x : Operand} : opK P σ H (.assign x) kk = bindK (evArg P σ x) fun v => kk (v, H, z0) := stepK_ret
theorem k_pick {c x y : Operand} : opK P σ H (.pick c x y) kk = bindK (evArg P σ c) fun c => bindK (match c with | .bool t => if t then evArg P σ x else evArg P σ y | _ => none) fun v => kk (v, H, z0) := by
 show stepK _ _ = _
 simp only [evOp]
 rw [stepK_bind]
 refine bindK_ext fun c => ?_; cases c <;> first | rfl | exact stepK_ret
theorem k_alloc {t : TypeId} : opK P σ H (.alloc t) kk = bindK (tzero P t) fun z => kk (.ptr H.length 0, H ++ [.cells z t .rw], z0) := stepK_map
theorem k_box {t : TypeId} {x : Operand} : opK P σ H (.box t x) kk = bindK (evArg P σ x) fun v => kk (.ptr H.length 0, H ++ [.cells (vcells v) t .rw], z0) := stepK_map
def asPtr : AV → Option (Nat × Nat)
 | .ptr b o => some (b, o)
 | _ => none
theorem asPtr_p {b o : Nat} : asPtr (.ptr b o) = some (b, o) := rfl
theorem k_load {t : TypeId} {x : Operand} : opK P σ H (.load t x) kk = bindK (evArg P σ x) fun v => bindK (asPtr v) fun p => bindK (evLoad P H t p.1 p.2) fun v => kk (v, H, z0) := by
 show stepK _ _ = _
 simp only [evOp]
 rw [stepK_bind]
 refine bindK_ext fun c => ?_; cases c <;> first | rfl | exact stepK_ret
theorem k_store {t : TypeId} {x y : Operand} : opK P σ H (.store t x y) kk = bindK (evArg P σ x) fun p => bindK (evArg P σ y) fun v => bindK (asPtr p) fun p => bindK (evStore P H t p.1 p.2 v) fun r => kk (undefA, r.1, r.2) := by
 show stepK _ _ = _
 simp only [evOp]
 rw [stepK_bind]
 refine bindK_ext fun c => ?_
 rw [stepK_bind]
 refine bindK_ext fun v => ?_; cases c <;> first | rfl | exact stepK_map
def chkV : AV → Option AV
 | .ptr b o => some (.ptr b o)
 | .func (.func f) a b => some (.func (.func f) a b)
 | _ => none
theorem chkV_p {b o : Nat} : chkV (.ptr b o) = some (.ptr b o) := rfl
theorem chkV_f {f : FuncId} {a b : List AV} : chkV (.func (.func f) a b) = some (.func (.func f) a b) := rfl
theorem k_nilCheck {x : Operand} : opK P σ H (.nilCheck x) kk = bindK (evArg P σ x) fun v => bindK (chkV v) fun v => kk (v, H, z0) := by
 show stepK _ _ = _
 simp only [evOp]
 rw [stepK_bind]
 refine bindK_ext fun c => ?_
 cases c <;> try rfl
 rename_i f _ _
 cases f <;> rfl
theorem k_un {op : UnOp} {t : TypeId} {x : Operand} : opK P σ H (.unOp op t x) kk = bindK (evArg P σ x) fun v => bindK (evUn op v) fun v => kk (v, H, z0) := by
 show stepK _ _ = _
 simp only [evOp]
 rw [stepK_bind]
 refine bindK_ext fun c => ?_; exact stepK_ret
theorem k_conv {s d : TypeId} {x : Operand} : opK P σ H (.convert s d x) kk = bindK (evArg P σ x) fun v => bindK (evConv P s d v H) fun r => kk (r.1, r.2, z0) := by
 show stepK _ _ = _
 simp only [evOp]
 rw [stepK_bind]
 refine bindK_ext fun c => ?_; exact stepK_ret2
def fldA (b o : Nat) (x : Nat × Nat × Bool) : Option AV := if (x.2.1 == 0) = true then none else some (.ptr b (o + x.1))
theorem fldA_s {b o p n : Nat} {g : Bool} (h : (n == 0) = false) : fldA b o (p, n, g) = some (.ptr b (o + p)) := by simp [fldA, h]
theorem k_fieldAddr {t : TypeId} {x : Operand} {f : Nat} : opK P σ H (.fieldAddr t x f) kk = bindK (evArg P σ x) fun v => bindK (asPtr v) fun p => bindK (tfield P t f) fun x => bindK (fldA p.1 p.2 x) fun v => kk (v, H, z0) := by
 show stepK _ _ = _
 simp only [evOp]
 rw [stepK_bind]
 refine bindK_ext fun c => ?_
 cases c <;> try rfl
 show stepK (Option.bind _ _) _ = _
 rw [stepK_bind]
 show _ = bindK _ _
 refine bindK_ext fun x => ?_
 unfold fldA
 by_cases hx : x.2.1 = 0
 ·simp [hx, stepK, bindK, asPtr]
 ·simp [hx, stepK, bindK, asPtr]
def fldV (cs : List AV) (x : Nat × Nat × Bool) : Option AV := if x.2.2 = true then (if x.1 + x.2.1 ≤ cs.length then some (.agg ((cs.drop x.1).take x.2.1)) else none) else cs[x.1]?
theorem fldV_f {cs : List AV} {p n : Nat} : fldV cs (p, n, false) = cs[p]? := rfl
theorem fldV_t {cs : List AV} {p n : Nat} : fldV cs (p, n, true) = if p + n ≤ cs.length then some (.agg ((cs.drop p).take n)) else none := rfl
def asAgg : AV → Option (List AV)
 | .agg cs => some cs
 | _ => none
theorem asAgg_a {cs : List AV} : asAgg (.agg cs) = some cs := rfl
theorem k_field {t : TypeId} {x : Operand} {f : Nat} : opK P σ H (.field t x f) kk = bindK (evArg P σ x) fun v => bindK (asAgg v) fun cs => bindK (tfield P t f) fun x => bindK (fldV cs x) fun v => kk (v, H, z0) := by
 show stepK _ _ = _
 simp only [evOp]
 rw [stepK_bind]
 refine bindK_ext fun c => ?_
 cases c <;> try rfl
 show stepK (Option.bind _ _) _ = _
 rw [stepK_bind]
 show _ = bindK _ _
 refine bindK_ext fun x => ?_
 exact stepK_ret
theorem k_indexAddr {t : TypeId} {x i : Operand} : opK P σ H (.indexAddr t x i) kk = bindK (evArg P σ x) fun v => bindK (evArg P σ i) fun w => bindK (evIndexAddr P t v w) fun v => kk (v, H, z0) := by
 show stepK _ _ = _
 simp only [evOp]
 rw [stepK_bind]; refine bindK_ext fun c => ?_
 rw [stepK_bind]; refine bindK_ext fun c => ?_
 exact stepK_ret
theorem k_index {t : TypeId} {x i : Operand} : opK P σ H (.index t x i) kk = bindK (evArg P σ x) fun v => bindK (evArg P σ i) fun w => bindK (evIndex P t v w) fun v => kk (v, H, z0) := by
 show stepK _ _ = _
 simp only [evOp]
 rw [stepK_bind]; refine bindK_ext fun c => ?_
 rw [stepK_bind]; refine bindK_ext fun c => ?_
 exact stepK_ret
def asTup : AV → Option (List AV)
 | .tuple cs => some cs
 | _ => none
theorem asTup_a {cs : List AV} : asTup (.tuple cs) = some cs := rfl
theorem k_extract {x : Operand} {i : Nat} : opK P σ H (.extract x i) kk = bindK (evArg P σ x) fun v => bindK (asTup v) fun vs => bindK (vs[i]?) fun v => kk (v, H, z0) := by
 show stepK _ _ = _
 simp only [evOp]
 rw [stepK_bind]; refine bindK_ext fun c => ?_
 cases c <;> first | rfl | exact stepK_ret
theorem k_makeFunc {fn : Fn} {f c : Array Operand} : opK P σ H (.makeFunc fn f c) kk = bindK (evArgs P σ f.toList) fun fs => bindK (evArgs P σ c.toList) fun cs => kk (.func fn fs cs, H, z0) := by
 show stepK _ _ = _
 simp only [evOp]
 rw [stepK_bind]; refine bindK_ext fun c => ?_
 rw [stepK_bind]; rfl
def slK (P : Program) (t : TypeId) (v : AV) (lo hi mx : Option AV) (H : Hp) (kk : AV × Hp × Ef → Prop) (_ : Ph kk := ⟨⟩) : Prop :=
 match evSlice P t v lo hi mx H with
 | some v => kk (v, H, z0)
 | none => bindK (evSliceX P t v lo hi mx H) fun r => kk (r.1, r.2, z0)
theorem slK_of {t : TypeId} {v : AV} {lo hi mx : Option AV} (h : evSliceX P t v lo hi mx H = none) : slK P t v lo hi mx H kk = bindK (evSlice P t v lo hi mx H) fun v => kk (v, H, z0) := by
 unfold slK
 cases evSlice P t v lo hi mx H with
 | none => rw [h]; rfl
 | some v => rfl
theorem k_slice {t : TypeId} {x : Operand} {lo hi mx : Option Operand} : opK P σ H (.slice t x lo hi mx) kk = bindK (evArg P σ x) fun v => bindK (evOpt P σ lo) fun a => bindK (evOpt P σ hi) fun b => bindK (evOpt P σ mx) fun c => slK P t v a b c H kk := by
 show stepK _ _ = _
 simp only [evOp]
 rw [stepK_bind]; refine bindK_ext fun c => ?_
 rw [stepK_bind]; refine bindK_ext fun c => ?_
 rw [stepK_bind]; refine bindK_ext fun c => ?_
 rw [stepK_bind]; refine bindK_ext fun c => ?_
 unfold slK
 cases evSlice P t _ _ _ _ H with
 | some v => rfl
 | none => exact stepK_map
theorem k_build {t : TypeId} {ps : Array (Nat × Operand)} : opK P σ H (.build t ps) kk = bindK (evParts P σ ps.toList) fun vs => bindK (evBuild P t vs) fun v => kk (v, H, z0) := by
 show stepK _ _ = _
 simp only [evOp]
 rw [stepK_bind]; refine bindK_ext fun c => ?_
 exact stepK_ret
theorem k_buildSlice {t : TypeId} {n : Nat} {ps : Array (Nat × Operand)} : opK P σ H (.buildSlice t n ps) kk = bindK (evParts P σ ps.toList) fun vs => bindK (evBuildSlice P t n vs H) fun r => kk (r.1, r.2, z0) := by
 show stepK _ _ = _
 simp only [evOp]
 rw [stepK_bind]; refine bindK_ext fun c => ?_
 exact stepK_ret2
def ifaceV (P : Program) (t : TypeId) (v : AV) : Option AV :=
 match tsh P t with
 | some .iface => none
 | some _ => some (.iface t v)
 | none => none
theorem k_iface {t : TypeId} {x : Operand} : opK P σ H (.makeInterface t x) kk = bindK (evArg P σ x) fun v => bindK (ifaceV P t v) fun v => kk (v, H, z0) := by
 show stepK _ _ = _
 simp only [evOp]
 rw [stepK_bind]; refine bindK_ext fun c => ?_
 unfold ifaceV
 cases tsh P t with
 | none => rfl
 | some s => cases s <;> rfl
theorem k_assert {xt t : TypeId} {x : Operand} : opK P σ H (.typeAssert x xt t true) kk = bindK (evArg P σ x) fun v => bindK (evAssert P t v) fun v => kk (v, H, z0) := by
 show stepK _ _ = _
 simp only [evOp]
 rw [stepK_bind]; refine bindK_ext fun c => ?_
 exact stepK_ret
theorem as_hit {t : TypeId} {v : AV} (ht : (match tsh P t with | some .iface => false | some _ => true | none => false) = true) : evAssert P t (.iface t v) = some (.tuple [v, .bool true]) := by
 unfold evAssert
 split at ht
 ·cases ht
 ·rename_i s hs hne
  rw [hne]
  cases s <;> first | (exact (hs rfl).elim) | (simp; done)
 ·cases ht
theorem as_nil {t : TypeId} (ht : (match tsh P t with | some .iface => false | some _ => true | none => false) = true) : evAssert P t .nili = (tzeroV P t).map fun z => .tuple [z, .bool false] := by
 unfold evAssert
 split at ht
 ·cases ht
 ·rename_i s hs hne
  rw [hne]
  cases s <;> first | (exact (hs rfl).elim) | rfl
 ·cases ht
attribute [go_sem ↓] k_assert
attribute [go_sem] as_hit as_nil
theorem k_make {t : TypeId} {x y : Operand} : opK P σ H (.makeSlice t x y) kk = bindK (evArg P σ x) fun v => bindK (evArg P σ y) fun w => bindK (evMake P t v w H) fun r => kk (r.1, r.2, z0) := by
 show stepK _ _ = _
 simp only [evOp]
 rw [stepK_bind]; refine bindK_ext fun c => ?_
 rw [stepK_bind]; refine bindK_ext fun c => ?_
 exact stepK_ret2
theorem k_lookup {t : TypeId} {x i : Operand} {ok : Bool} : opK P σ H (.lookup t x i ok) kk = bindK (evArg P σ x) fun v => bindK (evArg P σ i) fun w => bindK (evLookup P t v w ok H) fun v => kk (v, H, z0) := by
 show stepK _ _ = _
 simp only [evOp]
 rw [stepK_bind]; refine bindK_ext fun c => ?_
 rw [stepK_bind]; refine bindK_ext fun c => ?_
 exact stepK_ret
theorem k_mapSet {t : TypeId} {m x y : Operand} : opK P σ H (.mapUpdate t m x y) kk = bindK (evArg P σ m) fun u => bindK (evArg P σ x) fun v => bindK (evArg P σ y) fun w => bindK (evMapSet P t u v w H) fun r => kk (undefA, r.1, r.2) := by
 show stepK _ _ = _
 simp only [evOp]
 rw [stepK_bind]; refine bindK_ext fun c => ?_
 rw [stepK_bind]; refine bindK_ext fun c => ?_
 rw [stepK_bind]; refine bindK_ext fun c => ?_
 exact stepK_map
def binV (P : Program) (op : BinOp) (t : TypeId) (a b : AV) (cst : Bool) : Option AV :=
 match a, b with
 | .nili, .nili => if cst = true then (match op with | .eql => (if (tsh P t matches some .iface) then some (.bool true) else none) | .neq => (if (tsh P t matches some .iface) then some (.bool false) else none) | _ => none) else none
 | a, b => evBin P op t a b
theorem k_bin {op : BinOp} {t u : TypeId} {x y : Operand} : opK P σ H (.binOp op t x y u) kk = bindK (evArg P σ x) fun a => bindK (evArg P σ y) fun b => bindK (binV P op t a b (evOp.isConst x || evOp.isConst y)) fun v => kk (v, H, z0) := by
 show stepK _ _ = _
 simp only [evOp]
 rw [stepK_bind]; refine bindK_ext fun a => ?_
 rw [stepK_bind]; refine bindK_ext fun b => ?_
 rw [← stepK_ret]
 unfold binV
 split
 ·split
  ·cases op <;> rfl
  ·rfl
 ·split
  ·rename_i h; exact (h rfl rfl).elim
  ·rfl
theorem k_call {f : Operand} {args : Array Operand} {ts : Array TypeId} : opK P σ H (.call ⟨.value f, args, ts⟩) kk = callT P (target P σ f args.toList) H kk := rfl
theorem k_callf {g : FuncId} {args : Array Operand} {ts : Array TypeId} : opK P σ H (.call ⟨.value (.func g), args, ts⟩) kk = bindK (evArgs P σ args.toList) fun az => callX P g az H kk := by
 rw [k_call]
 unfold target
 rw [arg_f]
 simp only [Option.bind_some, List.nil_append, List.append_nil]
 cases evArgs P σ args.toList <;> rfl
def apV (v : AV) (az : List AV) : Option Tg :=
 match v with
 | .func (.func g) first captured => some (.fn g (first ++ az ++ captured))
 | .yld b => some (.yl b az)
 | _ => none
theorem apV_s {g : FuncId} {az fs cs : List AV} : apV (.func (.func g) fs cs) az = some (.fn g (fs ++ az ++ cs)) := rfl
theorem apV_y {b : Nat} {az : List AV} : apV (.yld b) az = some (.yl b az) := rfl
theorem k_callv {t : Nat} {args : Array Operand} {ts : Array TypeId} : opK P σ H (.call ⟨.value (.tmp t), args, ts⟩) kk = bindK (evArgs P σ args.toList) fun az => callT P (apV (fr σ t) az) H kk := by
 rw [k_call]
 unfold target
 rw [arg_t]
 simp only [Option.bind_some]
 cases evArgs P σ args.toList with
 | none => rfl
 | some az => rfl
theorem k_len {t : TypeId} {ts : List TypeId} {x : Operand} : opK P σ H (.call ⟨.builtin .len, ⟨[x]⟩, ⟨t :: ts⟩⟩) kk = bindK (evArg P σ x) fun v => bindK (evLen P t v H) fun v => kk (v, H, z0) := by
 show stepK _ _ = _
 simp only [evOp, evCall, evArgs]
 cases evArg P σ x with
 | none => rfl
 | some v => exact stepK_ret
theorem k_append {t u : TypeId} {x y : Operand} (hu : srcOk P u = true) : opK P σ H (.call ⟨.builtin .append, ⟨[x, y]⟩, ⟨[t, u]⟩⟩) kk = bindK (evArg P σ x) fun v => bindK (evArg P σ y) fun w => stepK (evAppend P t v w H) kk := by
 show stepK _ _ = _
 simp only [evOp, evCall, evArgs]
 cases evArg P σ x with
 | none => rfl
 | some v =>
  cases evArg P σ y with
  | none => rfl
  | some w => show stepK (if srcOk P u = true then _ else _) kk = _; rw [if_pos hu]; rfl
theorem k_appendZ {t u : TypeId} {x y : Operand} (hu : srcOk P u = false) (hi : (match tsh P u with | some (.int _) => true | _ => false) = true) : opK P σ H (.call ⟨.builtin .append, ⟨[x, y]⟩, ⟨[t, u]⟩⟩) kk = bindK (evArg P σ x) fun v => bindK (evArg P σ y) fun w => stepK (evAppZ P t v w H) kk := by
 have hi : isIntT P u = true := hi
 show stepK _ _ = _
 simp only [evOp, evCall, evArgs]
 cases evArg P σ x with
 | none => rfl
 | some v =>
  cases evArg P σ y with
  | none => rfl
  | some w => show stepK (if srcOk P u = true then _ else _) kk = _; rw [if_neg (by rw [hu]; simp), if_pos hi]; rfl
theorem k_copy {t : TypeId} {ts : List TypeId} {x y : Operand} : opK P σ H (.call ⟨.builtin .copy, ⟨[x, y]⟩, ⟨t :: ts⟩⟩) kk = bindK (evArg P σ x) fun v => bindK (evArg P σ y) fun w => stepK (evCopy P t v w H) kk := by
 show stepK _ _ = _
 simp only [evOp, evCall, evArgs]
 cases evArg P σ x with
 | none => rfl
 | some v =>
  cases evArg P σ y with
  | none => rfl
  | some w => rfl
end
attribute [go_sem] asPtr_p chkV_p chkV_f fldA_s fldV_f fldV_t asAgg_a asTup_a apV_s apV_y
attribute [go_sem ↓] k_move k_assign k_pick k_alloc k_box k_load k_store k_nilCheck k_un k_conv k_fieldAddr k_field k_indexAddr k_index k_extract k_makeFunc k_slice k_build k_buildSlice k_iface k_make k_lookup k_mapSet k_bin k_callf k_callv k_len k_append k_appendZ k_copy

theorem b_int {op : BinOp} {t : TypeId} {kd : IntKind} {a b : Int} {c : Bool} (h1 : (match op with | .shl => true | .shr => true | _ => false) = false) : binV P op t (.int kd a) (.int kd b) c = evInt op kd a b := by
 cases op <;> first | (cases h1; done) | simp [binV, evBin]
theorem b_shl {t : TypeId} {kd kd' : IntKind} {a b : Int} {c : Bool} : binV P .shl t (.int kd a) (.int kd' b) c = evShift .shl kd a b := rfl
theorem b_shr {t : TypeId} {kd kd' : IntKind} {a b : Int} {c : Bool} : binV P .shr t (.int kd a) (.int kd' b) c = evShift .shr kd a b := rfl
theorem b_str {op : BinOp} {t : TypeId} {a b : List UInt8} {c : Bool} : binV P op t (.str a) (.str b) c = evStr op a b := by
 cases op <;> rfl
theorem b_eqa {t : TypeId} {a b : List AV} {c : Bool} : binV P .eql t (.agg a) (.agg b) c = if (P.eqGuardType P.depth t) = true then none else (evEq P 20 t (.agg a) (.agg b)).map .bool := rfl
theorem b_nea {t : TypeId} {a b : List AV} {c : Bool} : binV P .neq t (.agg a) (.agg b) c = if (P.eqGuardType P.depth t) = true then none else (evEq P 20 t (.agg a) (.agg b)).map fun r => .bool !r := rfl
theorem i_add {kd : IntKind} {a b : Int} : evInt .add kd a b = some (.int kd (kd.wrap (a + b))) := rfl
theorem i_sub {kd : IntKind} {a b : Int} : evInt .sub kd a b = some (.int kd (kd.wrap (a - b))) := rfl
theorem i_mul {kd : IntKind} {a b : Int} : evInt .mul kd a b = some (.int kd (kd.wrap (a * b))) := rfl
theorem i_eql {kd : IntKind} {a b : Int} : evInt .eql kd a b = some (.bool (a == b)) := rfl
theorem i_neq {kd : IntKind} {a b : Int} : evInt .neq kd a b = some (.bool (a != b)) := rfl
theorem i_lss {kd : IntKind} {a b : Int} : evInt .lss kd a b = some (.bool (decide (a < b))) := rfl
theorem i_leq {kd : IntKind} {a b : Int} : evInt .leq kd a b = some (.bool (decide (a ≤ b))) := rfl
theorem i_gtr {kd : IntKind} {a b : Int} : evInt .gtr kd a b = some (.bool (decide (a > b))) := rfl
theorem i_geq {kd : IntKind} {a b : Int} : evInt .geq kd a b = some (.bool (decide (a ≥ b))) := rfl
theorem s_eql {a b : List UInt8} : evStr .eql a b = some (.bool (a == b)) := rfl
theorem s_neq {a b : List UInt8} : evStr .neq a b = some (.bool !(a == b)) := rfl
theorem s_add {a b : List UInt8} : evStr .add a b = if a.length + b.length ≤ maxI then some (.str (a ++ b)) else none := rfl
theorem u_not {b : Bool} : evUn .not (.bool b) = some (.bool !b) := rfl
theorem len_str {t : TypeId} {s : List UInt8} (h : tsh P t = some .str) : evLen P t (.str s) H = some (.int .i64 s.length) := by simp [evLen, h]
theorem len_sl {t : TypeId} {x o n : Nat} {c : Cap} (h : (match tsh P t with | some (.slice _ _ _) => true | _ => false) = true) : evLen P t (.slice x o n c) H = some (.int .i64 n) := by
 unfold evLen; split at h
 ·rename_i ht; rw [ht]
 ·cases h
attribute [go_sem] b_int b_shl b_shr b_str b_eqa b_nea i_add i_sub i_mul i_eql i_neq i_lss i_leq i_gtr i_geq s_eql s_neq s_add u_not len_str len_sl

theorem fl_b {b : Bool} : flat (.bool b) = true := by simp only [flat]
theorem fl_i {k : IntKind} {n : Int} : flat (.int k n) = true := by simp only [flat]
theorem fl_s {s : List UInt8} : flat (.str s) = true := by simp only [flat]
theorem fl_ns : flat .nils = true := by simp only [flat]
theorem fl_ni : flat .nili = true := by simp only [flat]
theorem fl_p {b o : Nat} : flat (.ptr b o) = false := by simp only [flat]
theorem fl_sl {b o n : Nat} {c : Cap} : flat (.slice b o n c) = false := by simp only [flat]
theorem fl_if {t : TypeId} {v : AV} : flat (.iface t v) = flat v := by simp only [flat]
theorem fl_a {cs : List AV} : flat (.agg cs) = flats cs := by simp only [flat]
theorem fl_t {cs : List AV} : flat (.tuple cs) = flats cs := by simp only [flat]
theorem fls_n : flats [] = true := by simp only [flats]
theorem fls_c {v : AV} {vs : List AV} : flats (v :: vs) = (flat v && flats vs) := by simp only [flats]
theorem sc_b {b : Bool} : scal (.bool b) = true := by simp only [scal]
theorem sc_i {k : IntKind} {n : Int} : scal (.int k n) = true := by simp only [scal]
theorem sc_s {s : List UInt8} : scal (.str s) = true := by simp only [scal]
theorem sc_ns : scal .nils = true := by simp only [scal]
theorem sc_p {b o : Nat} : scal (.ptr b o) = true := by simp only [scal]
theorem sc_sl {b o n : Nat} {c : Cap} : scal (.slice b o n c) = true := by simp only [scal]
attribute [go_sem] fl_b fl_i fl_s fl_ns fl_ni fl_p fl_sl fl_if fl_a fl_t fls_n fls_c sc_b sc_i sc_s sc_ns sc_p sc_sl

theorem hp_new {l : Hp} {i : Nat} : (H ++ l)[H.length + i]? = l[i]? := by rw [List.getElem?_append_right (by omega)]; congr 1; omega
theorem hp_new0 {l : Hp} : (H ++ l)[H.length]? = l[0]? := by rw [List.getElem?_append_right (by omega)]; congr 1; omega
theorem hp_old {l : Hp} {b : Nat} {x : ABlk} (h : H[b]? = some x) : (H ++ l)[b]? = some x := by rw [List.getElem?_append_left (List.getElem?_eq_some_iff.1 h).1]; exact h
theorem hp_set {l : Hp} {i : Nat} {v : ABlk} : (H ++ l).set (H.length + i) v = H ++ l.set i v := by
 rw [List.set_append_right _ _ (by omega)]; congr 2; omega
theorem hp_set0 {l : Hp} {v : ABlk} : (H ++ l).set H.length v = H ++ l.set 0 v := by
 rw [List.set_append_right _ _ (by omega)]; congr 2; omega
def ldC (o n : Nat) (g : Bool) : ABlk → Option AV
 | .cells c _ _ => if g = true then (if o + n ≤ c.length then some (.agg ((c.drop o).take n)) else none) else c[o]?
 | .void => if g = true then (if n = 0 then some (.agg []) else none) else none
 | _ => none
theorem ldC_f {c : List AV} {e : TypeId} {kd : Kd} {o n : Nat} : ldC o n false (.cells c e kd) = c[o]? := rfl
theorem ev_load {t b o : Nat} : evLoad P H t b o = (tagg P t).bind fun g => (if g = true then tsize P t else some 1).bind fun n => (H[b]?).bind (ldC o n g) := by
 unfold evLoad
 cases tagg P t with
 | none => rfl
 | some g =>
  cases g with
  | true =>
   simp only [Option.bind_some, if_true]
   congr 1; funext n
   unfold rd
   cases H[b]? with
   | none => rfl
   | some x =>
    cases x <;> try rfl
    all_goals
     show Option.map AV.agg (if _ then _ else _) = if _ then _ else _
     split <;> rfl
  | false =>
   simp only [Option.bind_some, Bool.false_eq_true, if_false]
   unfold rd
   cases H[b]? with
   | none => rfl
   | some x =>
    cases x <;> try rfl
    rename_i c e kd
    show Option.bind (if _ then _ else _) one = c[o]?
    split
    ·rename_i h
     have : o < c.length := by omega
     rw [List.getElem?_eq_getElem this, List.drop_eq_getElem_cons this]
     rfl
    ·rename_i h
     rw [List.getElem?_eq_none (by omega)]
     rfl
def szT (P : Program) (t : TypeId) (g : Bool) : Option Nat := if g = true then tsize P t else some 1
theorem szT_t {t : TypeId} : szT P t true = tsize P t := rfl
theorem szT_f {t : TypeId} : szT P t false = some 1 := rfl
theorem bind_load {t b o : Nat} {f : AV → Prop} : bindK (evLoad P H t b o) f = bindK (tagg P t) fun g => bindK (szT P t g) fun n => bindK (H[b]?) fun x => bindK (ldC o n g x) f := by
 rw [ev_load, bindK_bind]
 refine bindK_ext fun g => ?_
 rw [bindK_bind]
 refine bindK_ext fun n => ?_
 rw [bindK_bind]
def wrC (H : Hp) (b o : Nat) (xs : List AV) : ABlk → Option (Hp × Ef)
 | .cells c e k => if o + xs.length ≤ c.length ∧ canWr k o = true ∧ xs.all scal = true then some (H.set b (.cells (splice c o xs) e k), ⟨if flats xs = true then none else some b, some b⟩) else none
 | _ => none
theorem wrC_s {b o : Nat} {xs c : List AV} {e : TypeId} {k : Kd} : wrC H b o xs (.cells c e k) = if o + xs.length ≤ c.length ∧ canWr k o = true ∧ xs.all scal = true then some (H.set b (.cells (splice c o xs) e k), ⟨if flats xs = true then none else some b, some b⟩) else none := rfl
theorem ev_wr {b o : Nat} {xs : List AV} : wr H b o xs = (H[b]?).bind (wrC H b o xs) := by
 unfold wr
 cases H[b]? with
 | none => rfl
 | some x => cases x <;> rfl
theorem ev_store {t b o : Nat} {v : AV} : evStore P H t b o v = (tsize P t).bind fun n => if (vcells v).length = n then (H[b]?).bind (wrC H b o (vcells v)) else none := by
 unfold evStore
 cases tsize P t with
 | none => rfl
 | some n => simp only [Option.bind_some, ev_wr]
theorem bind_store {t b o : Nat} {v : AV} {f : Hp × Ef → Prop} : bindK (evStore P H t b o v) f = bindK (tsize P t) fun n => (vcells v).length = n ∧ bindK (H[b]?) fun x => bindK (wrC H b o (vcells v) x) f := by
 rw [ev_store, bindK_bind]
 refine bindK_ext fun n => ?_
 rw [bindK_ite, bindK_bind]
theorem vcells_a {cs : List AV} : vcells (.agg cs) = cs := rfl
theorem vcells_s {s : List UInt8} : vcells (.str s) = [.str s] := rfl
theorem vcells_i {kd : IntKind} {n : Int} : vcells (.int kd n) = [.int kd n] := rfl
theorem vcells_b {b : Bool} : vcells (.bool b) = [.bool b] := rfl
theorem vcells_p {b o : Nat} : vcells (.ptr b o) = [.ptr b o] := rfl
theorem vcells_np : vcells .nilp = [.nilp] := rfl
theorem vcells_sl {b o n : Nat} {c : Cap} : vcells (.slice b o n c) = [.slice b o n c] := rfl
theorem vcells_ns : vcells .nils = [.nils] := rfl
theorem vcells_m {r : Nat} : vcells (.map r) = [.map r] := rfl
theorem vcells_if {t : TypeId} {v : AV} : vcells (.iface t v) = [.iface t v] := rfl
theorem vcells_ni : vcells .nili = [.nili] := rfl
theorem splice_d {a x : AV} {c xs : List AV} {o : Nat} : splice (a :: c) o (x :: xs) = (a :: c).take o ++ (x :: xs) ++ (a :: c).drop (o + (x :: xs).length) := rfl
theorem ldC_fc {v : AV} {c : List AV} {e : TypeId} {kd : Kd} {o n : Nat} : ldC o n false (.cells (v :: c) e kd) = (v :: c)[o]? := rfl
theorem ldC_tc {v : AV} {c : List AV} {e : TypeId} {kd : Kd} {o n : Nat} : ldC o n true (.cells (v :: c) e kd) = if o + n ≤ (v :: c).length then some (.agg (((v :: c).drop o).take n)) else none := rfl
attribute [go_sem] ldC_fc ldC_tc splice_d
attribute [go_sem ↓] bind_load bind_store
attribute [go_sem] hp_new hp_new0 hp_set hp_set0 szT_t szT_f wrC_s ev_wr vcells_a vcells_s vcells_i vcells_b vcells_p vcells_np vcells_sl vcells_ns vcells_m vcells_if vcells_ni
attribute [go_sem] List.append_assoc List.cons_append List.nil_append List.length_append List.length_cons List.length_nil List.getElem?_cons_zero List.getElem?_cons_succ List.drop_zero List.drop_succ_cons List.take_zero List.take_succ_cons List.take_nil List.drop_nil List.set_cons_zero List.set_cons_succ Nat.zero_add Nat.add_zero if_true canWr List.all_cons List.all_nil Bool.and_true Bool.true_and Bool.and_self decide_true decide_false Nat.add_assoc true_and and_true eq_self Option.getD_some Bool.false_eq_true if_false Bool.or_false Bool.or_true Bool.false_or Bool.true_or
attribute [go_sem] Int.toNat_natCast Int.natCast_nonneg Int.ofNat_lt beq_self_eq_true bne_self_eq_false Bool.not_true Bool.not_false
attribute [go_sem] Nat.sub_zero true_or or_true Nat.zero_le

def rdC (o n : Nat) : ABlk → Option (List AV)
 | .cells c _ _ => if o + n ≤ c.length then some ((c.drop o).take n) else none
 | .void => if n = 0 then some [] else none
 | _ => none
theorem rdC_v {o : Nat} : rdC o 0 .void = some [] := rfl
attribute [go_sem] rdC_v
theorem rdC_c {o n : Nat} {c : List AV} {e : TypeId} {k : Kd} : rdC o n (.cells c e k) = if o + n ≤ c.length then some ((c.drop o).take n) else none := rfl
theorem bind_rd {b o n : Nat} {f : List AV → Prop} : bindK (rd H b o n) f = bindK (H[b]?) fun x => bindK (rdC o n x) f := by
 have : rd H b o n = (H[b]?).bind (rdC o n) := by
  unfold rd
  cases H[b]? with
  | none => rfl
  | some x => cases x <;> rfl
 rw [this, bindK_bind]
theorem ap_nils {z : Nat} {f : List AV × Nat → Prop} : bindK (appended H z .nils) f = f ([], 0) := rfl
theorem ap_sl {z b o n : Nat} {c : Cap} {f : List AV × Nat → Prop} : bindK (appended H z (.slice b o n c)) f = bindK (H[b]?) fun x => bindK (rdC o (n * z) x) fun l => f (l, n) := by
 show bindK ((rd H b o (n * z)).map _) f = _
 rw [bindK_map, bind_rd]
theorem ap_str {z : Nat} {s : List UInt8} {f : List AV × Nat → Prop} (h : (z == 1) = true) : bindK (appended H z (.str s)) f = f (s.map fun b => .int .u8 b.toNat, s.length) := by
 have : z = 1 := by simpa using h
 subst this; rfl
theorem shZ_s {e z b : Nat} : shZ (.slice e z b) = z := rfl
theorem ev_append {t : TypeId} {s x : AV} {kk : AV × Hp × Ef → Prop} : stepK (evAppend P t s x H) kk = bindK (tsh P t) fun sh => bindK (appended H (shZ sh) x) fun a => stepK (appTo P sh s a H) kk := by
 unfold evAppend
 cases tsh P t with
 | none => rfl
 | some sh =>
  cases sh <;> try (rw [bindK_some]; generalize appended H _ x = q; cases q <;> rfl)
  rename_i e z b
  simp only [bindK_some, shZ]
  by_cases hz : 0 < z ∧ zok P e z = true
  ·rw [if_pos hz, stepK_bind]
   refine bindK_ext fun a => ?_
   simp only [appTo]
   rw [if_pos hz]
   try (cases s <;> rfl)
  ·rw [if_neg hz]
   cases appended H z x with
   | none => rfl
   | some a =>
    rw [bindK_some]
    simp only [appTo]
    rw [if_neg hz]
def shB : Sh → Nat
 | .slice _ _ b => b
 | _ => 0
def shE : Sh → TypeId
 | .slice e _ _ => e
 | _ => 0
theorem shB_s {e z b : Nat} : shB (.slice e z b) = b := rfl
theorem shE_s {e z b : Nat} : shE (.slice e z b) = e := rfl
theorem ev_appz {t : TypeId} {s : AV} {k : IntKind} {n : Int} {kk : AV × Hp × Ef → Prop} : stepK (evAppZ P t s (.int k n) H) kk = bindK (tsh P t) fun sh => (0 ≤ n ∧ fits n.toNat (shB sh) = true) ∧ bindK (tzero P (shE sh)) fun zs => zs.length = shZ sh ∧ stepK (appTo P sh s (rep zs n.toNat, n.toNat) H) kk := by
 unfold evAppZ
 cases ht : tsh P t with
 | none => rfl
 | some sh =>
  cases sh with
  | slice e z b =>
   simp only [bindK_some, shB, shE, shZ]
   by_cases hc : 0 ≤ n ∧ fits n.toNat b = true
   ·rw [if_pos hc]
    cases tzero P e with
    | none => simp [stepK, bindK]
    | some zs =>
     by_cases hz : zs.length = z
     ·simp [hz, hc, bindK]
     ·simp [hz, bindK, stepK]
   ·rw [if_neg hc]; simp [hc, stepK]
  | _ => simp only [bindK_some]; simp [stepK, appTo, bindK]; intros; cases tzero P _ <;> simp
theorem stepK_if {p : Prop} [Decidable p] {r : Rs} {kk : AV × Hp × Ef → Prop} : stepK (if p then r else none) kk = (p ∧ stepK r kk) := by
 by_cases h : p
 ·rw [if_pos h]; simp [h]
 ·rw [if_neg h]; simp [h, stepK]
theorem stepK_ite {p : Prop} [Decidable p] {r q : Rs} {kk : AV × Hp × Ef → Prop} : stepK (if p then r else q) kk = guardK (.bool (decide p)) true (stepK r kk) (stepK q kk) := by
 by_cases h : p
 ·rw [if_pos h]
  have : decide p = true := by simpa using h
  rw [this]; rfl
 ·rw [if_neg h]
  have : decide p = false := by simpa using h
  rw [this]; rfl
theorem appTo_nils {e z b n : Nat} {cs : List AV} {kk : AV × Hp × Ef → Prop} (hz : decide (0 < z) = true) (hk : zok P e z = true) :
  stepK (appTo P (.slice e z b) .nils (cs, n) H) kk = guardK (.bool (decide (n = 0))) true (kk (.nils, H, z0)) (fits n b = true ∧ kk (.slice H.length 0 n (.op 0), H ++ [.cells cs e (.op 0 false)], z0)) := by
 simp only [appTo]
 rw [if_pos ⟨by simpa using hz, hk⟩, stepK_ite, stepK_if]
 rfl
def appO (H : Hp) (e z b bl o n k : Nat) (a : List AV × Nat) (kk : AV × Hp × Ef → Prop) : ABlk → Prop
  | .cells c e' (.op fz st) =>
    (e' = e ∧ o = k * z ∧ o + n * z ≤ c.length) ∧ guardK (.bool (decide (o + (n + a.2) * z ≤ c.length))) true
      (bindK (wr H bl (o + n * z) a.1) fun r => kk (.slice bl o (n + a.2) (.op k), r.1, r.2))
      ((fits (n + a.2) b = true ∧ fz ≤ o + n * z ∧ a.1.all scal = true) ∧
        kk (.slice H.length 0 (n + a.2) (.op 0), H.set bl .dead ++ [.cells ((c.drop o).take (n * z) ++ a.1) e (.op (fz - o) st)], ⟨none, some bl⟩))
  | _ => False
theorem appTo_op {e z b bl o n k : Nat} {a : List AV × Nat} {kk : AV × Hp × Ef → Prop} (hz : decide (0 < z) = true) (hk : zok P e z = true) :
  stepK (appTo P (.slice e z b) (.slice bl o n (.op k)) a H) kk = bindK (H[bl]?) (appO H e z b bl o n k a kk) := by
 simp only [appTo]
 rw [if_pos ⟨by simpa using hz, hk⟩]
 cases H[bl]? with
 | none => rfl
 | some x =>
  rw [bindK_some]
  cases x <;> try rfl
  rename_i c e' kd
  cases kd <;> try rfl
  rename_i fz st
  simp only [appO]
  rw [stepK_if, stepK_ite, stepK_if, stepK_map]
  rfl
theorem appO_c {e z b bl o n k fz : Nat} {st : Bool} {c : List AV} {e' : TypeId} {a : List AV × Nat} {kk : AV × Hp × Ef → Prop} :
    appO H e z b bl o n k a kk (.cells c e' (.op fz st)) = ((e' = e ∧ o = k * z ∧ o + n * z ≤ c.length) ∧ guardK (.bool (decide (o + (n + a.2) * z ≤ c.length))) true
      (bindK (wr H bl (o + n * z) a.1) fun r => kk (.slice bl o (n + a.2) (.op k), r.1, r.2))
      ((fits (n + a.2) b = true ∧ fz ≤ o + n * z ∧ a.1.all scal = true) ∧
        kk (.slice H.length 0 (n + a.2) (.op 0), H.set bl .dead ++ [.cells ((c.drop o).take (n * z) ++ a.1) e (.op (fz - o) st)], ⟨none, some bl⟩))) := rfl
theorem appTo_ex {e z b bl o n c : Nat} {a : List AV × Nat} {kk : AV × Hp × Ef → Prop} (hz : decide (0 < z) = true) (hk : zok P e z = true) :
  stepK (appTo P (.slice e z b) (.slice bl o n (.ex c)) a H) kk = guardK (.bool (decide (n + a.2 ≤ c))) true (bindK (wr H bl (o + n * z) a.1) fun r => kk (.slice bl o (n + a.2) (.ex c), r.1, r.2))
   (fits (n + a.2) b = true ∧ bindK (rd H bl o (n * z)) fun old => kk (.slice H.length 0 (n + a.2) (.op 0), H ++ [.cells (old ++ a.1) e (.op 0 false)], z0)) := by
 simp only [appTo]
 rw [if_pos ⟨by simpa using hz, hk⟩]
 rw [stepK_ite, stepK_if, stepK_map, stepK_map]
attribute [go_sem ↓] bind_rd ap_nils ap_sl ap_str ev_append ev_appz appTo_nils appTo_op appTo_ex
attribute [go_sem] shZ_s shB_s shE_s appO_c
theorem rdC_cc {o n : Nat} {v : AV} {c : List AV} {e : TypeId} {k : Kd} : rdC o n (.cells (v :: c) e k) = if o + n ≤ (v :: c).length then some (((v :: c).drop o).take n) else none := rfl
attribute [go_sem] rdC_cc

def knC (o k : Nat) (sh : Sh) : ABlk → Option Nat
 | .cells c e' (.op _ _) => match sh with
  | .slice e z _ => if e' = e ∧ 0 < z ∧ o = k * z then some ((c.length - o) / z) else none
  | _ => none
 | _ => none
theorem knC_c {o k e z b fz : Nat} {st : Bool} {c : List AV} {e' : TypeId} : knC o k (.slice e z b) (.cells c e' (.op fz st)) = if e' = e ∧ 0 < z ∧ o = k * z then some ((c.length - o) / z) else none := rfl
theorem bnd_nn {l c : Nat} {f : Nat × Nat → Prop} : bindK (bnd none none l c) f = f (0, l) := rfl
theorem bnd_nh {l c : Nat} {k : IntKind} {h : Int} {f : Nat × Nat → Prop} : bindK (bnd none (some (.int k h)) l c) f = ((0 ≤ h ∧ h ≤ c) ∧ f (0, h.toNat)) := by
 simp only [bnd, bindK_ite, bindK_some]
theorem bnd_ln {l c : Nat} {k : IntKind} {a : Int} {f : Nat × Nat → Prop} : bindK (bnd (some (.int k a)) none l c) f = ((0 ≤ a ∧ a ≤ l) ∧ f (a.toNat, l)) := by
 simp only [bnd, bindK_ite, bindK_some]
theorem bnd_lh {l c : Nat} {k k' : IntKind} {a h : Int} {f : Nat × Nat → Prop} : bindK (bnd (some (.int k a)) (some (.int k' h)) l c) f = ((0 ≤ h ∧ h ≤ c) ∧ (0 ≤ a ∧ a ≤ h) ∧ f (a.toNat, h.toNat)) := by
 simp only [bnd, bindK_ite, bindK_some]
section
variable {kk : AV × Hp × Ef → Prop}
theorem known_knC {b o k e z bb : Nat} : known H b o k z e = (H[b]?).bind (knC o k (.slice e z bb)) := by
 unfold known
 cases H[b]? with
 | none => rfl
 | some x =>
  cases x <;> try rfl
  rename_i c e' kd
  cases kd <;> rfl
def isSl : Option Sh → Bool
 | some (.slice _ _ _) => true
 | _ => false
theorem isSl_t {e z b : Nat} : isSl (some (.slice e z b)) = true := rfl
theorem isSl_ex {x : Option Sh} (h : isSl x = true) : ∃ e z b, x = some (.slice e z b) := by
 unfold isSl at h
 split at h
 ·exact ⟨_, _, _, rfl⟩
 ·cases h
theorem slK_op {t : TypeId} {b o n k : Nat} {lo hi : Option AV} (ht : isSl (tsh P t) = true) : slK P t (.slice b o n (.op k)) lo hi none H kk = bindK (tsh P t) fun sh => bindK (H[b]?) fun x => bindK (knC o k sh x) fun q => bindK (bnd lo hi n q) fun r =>
  guardK (.bool (decide (r.1 = 0 ∨ r.1 < q))) true (kk (.slice b (o + r.1 * shZ sh) (r.2 - r.1) (.op (k + r.1)), H, z0)) (r.1 = r.2 ∧ kk (.slice H.length 0 0 (.op 0), H ++ [.void], z0)) := by
 obtain ⟨e, z, bb, he⟩ := isSl_ex ht
 unfold slK
 simp only [evSlice, evSliceX, he, known_knC (bb := bb), bindK_some]
 cases hx : H[b]? with
 | none => rfl
 | some x =>
  simp only [Option.bind_some, bindK_some]
  cases hq : knC o k (.slice e z bb) x with
  | none => rfl
  | some q =>
   simp only [Option.bind_some, bindK_some]
   cases hr : bnd lo hi n q with
   | none => rfl
   | some r =>
    simp only [Option.bind_some, bindK_some, shZ]
    by_cases hc : r.1 = 0 ∨ r.1 < q
    ·rw [if_pos hc, decide_eq_true hc]; rfl
    ·rw [if_neg hc, decide_eq_false hc, guardK_ft]
     by_cases h2 : r.1 = r.2
     ·rw [if_pos h2]; simp [h2, bindK_some]
     ·rw [if_neg h2]; simp [h2]; exact fun h => h
theorem slK_op3 {t : TypeId} {b o n k : Nat} {lo hi : Option AV} {km : IntKind} {m : Int} (ht : isSl (tsh P t) = true) : slK P t (.slice b o n (.op k)) lo hi (some (.int km m)) H kk = bindK (tsh P t) fun sh => bindK (H[b]?) fun x => bindK (knC o k sh x) fun q =>
  (0 ≤ m ∧ m ≤ q ∧ hi.isSome = true) ∧ bindK (bnd lo hi n m.toNat) fun r => kk (.slice b (if m.toNat = r.1 then o else o + r.1 * shZ sh) (r.2 - r.1) (.ex (m.toNat - r.1)), H, z0) := by
 obtain ⟨e, z, bb, he⟩ := isSl_ex ht
 rw [slK_of (by simp [evSliceX])]
 simp only [evSlice, he, known_knC (bb := bb), bindK_some, bindK_bind]
 refine bindK_ext fun x => bindK_ext fun q => ?_
 rw [bindK_ite, bindK_map]
 rfl
theorem slK_ex {t : TypeId} {b o n c : Nat} {lo hi : Option AV} (ht : isSl (tsh P t) = true) : slK P t (.slice b o n (.ex c)) lo hi none H kk = bindK (tsh P t) fun sh => bindK (bnd lo hi n c) fun r => kk (.slice b (if c = r.1 then o else o + r.1 * shZ sh) (r.2 - r.1) (.ex (c - r.1)), H, z0) := by
 obtain ⟨e, z, bb, he⟩ := isSl_ex ht
 rw [slK_of (by simp [evSliceX])]
 simp only [evSlice, he, bindK_map, bindK_some, shZ]
theorem slK_ex3 {t : TypeId} {b o n c : Nat} {lo hi : Option AV} {km : IntKind} {m : Int} (ht : isSl (tsh P t) = true) : slK P t (.slice b o n (.ex c)) lo hi (some (.int km m)) H kk = bindK (tsh P t) fun sh =>
  (0 ≤ m ∧ m ≤ c ∧ hi.isSome = true) ∧ bindK (bnd lo hi n m.toNat) fun r => kk (.slice b (if m.toNat = r.1 then o else o + r.1 * shZ sh) (r.2 - r.1) (.ex (m.toNat - r.1)), H, z0) := by
 obtain ⟨e, z, bb, he⟩ := isSl_ex ht
 rw [slK_of (by simp [evSliceX])]
 simp only [evSlice, he, bindK_map, bindK_some, bindK_ite, shZ]
theorem slK_nils {t : TypeId} {lo hi : Option AV} (ht : isSl (tsh P t) = true) : slK P t .nils lo hi none H kk = bindK (bnd lo hi 0 0) fun _ => kk (.nils, H, z0) := by
 obtain ⟨e, z, bb, he⟩ := isSl_ex ht
 rw [slK_of (by simp [evSliceX])]
 simp only [evSlice, he, bindK_map]
theorem slK_nils3 {t : TypeId} {lo hi : Option AV} {km : IntKind} {m : Int} (ht : isSl (tsh P t) = true) : slK P t .nils lo hi (some (.int km m)) H kk = ((m = 0 ∧ hi.isSome = true) ∧ bindK (bnd lo hi 0 0) fun _ => kk (.nils, H, z0)) := by
 obtain ⟨e, z, bb, he⟩ := isSl_ex ht
 rw [slK_of (by simp [evSliceX])]
 simp only [evSlice, he, bindK_map, bindK_ite]
def isStr : Option Sh → Bool
 | some .str => true
 | _ => false
theorem slK_str {t : TypeId} {s : List UInt8} {lo hi : Option AV} (ht : isStr (tsh P t) = true) : slK P t (.str s) lo hi none H kk = bindK (bnd lo hi s.length s.length) fun r => kk (.str ((s.drop r.1).take (r.2 - r.1)), H, z0) := by
 have he : tsh P t = some .str := by
  unfold isStr at ht
  split at ht
  ·assumption
  ·cases ht
 rw [slK_of (by simp [evSliceX])]
 simp only [evSlice, he, bindK_map]
def shA : Sh → Nat × Nat
 | .array l _ z => (l, z)
 | _ => (0, 0)
theorem shA_a {l e z : Nat} : shA (.array l e z) = (l, z) := rfl
def isArr : Option Sh → Bool
 | some (.array _ _ _) => true
 | _ => false
theorem slK_arr {t : TypeId} {b o : Nat} {lo hi : Option AV} (ht : isArr (tsh P t) = true) :
  slK P t (.ptr b o) lo hi none H kk = bindK (tsh P t) fun sh => bindK (bnd lo hi (shA sh).1 (shA sh).1) fun r => kk (.slice b (if (shA sh).1 = r.1 then o else o + r.1 * (shA sh).2) (r.2 - r.1) (.ex ((shA sh).1 - r.1)), H, z0) := by
 unfold isArr at ht
 split at ht
 ·rename_i e z w he
  rw [slK_of (by simp [evSliceX])]
  simp only [evSlice, he, bindK_map, bindK_some, shA]
  rfl
 ·cases ht
end
theorem isStr_t : isStr (some .str) = true := rfl
theorem isArr_t {l e z : Nat} : isArr (some (.array l e z)) = true := rfl
attribute [go_sem] isSl_t isStr_t isArr_t shA_a
attribute [go_sem ↓] bnd_nn bnd_nh bnd_ln bnd_lh slK_op slK_op3 slK_ex slK_ex3 slK_nils slK_nils3 slK_str slK_arr
attribute [go_sem] knC_c
attribute [go_sem] Int.ofNat_le

def clean (n : Nat) (e : Ef) : Prop := low n e.es = none ∧ low n e.ws = none
theorem low_omin {n : Nat} {a b : Option Nat} (ha : low n a = none) (hb : low n b = none) : low n (omin a b) = none := by
 cases a with
 | none => cases b <;> exact hb
 | some a =>
  cases b with
  | none => exact ha
  | some b =>
   simp only [low, omin] at *
   split at ha
   ·split at hb
    ·rw [if_pos (by omega)]
    ·cases hb
   ·cases ha
theorem clean_z0 {n : Nat} : clean n z0 = True := eq_true ⟨rfl, rfl⟩
theorem clean_and {n : Nat} {a b : Ef} (ha : clean n a) (hb : clean n b) : clean n (a.and b) := ⟨low_omin ha.1 hb.1, low_omin ha.2 hb.2⟩
theorem clean_w {n b : Nat} (h : n ≤ b) : clean n ⟨none, some b⟩ := ⟨rfl, by simp [low, h]⟩
theorem clean_ew {n b c : Nat} (h : n ≤ b) (h' : n ≤ c) : clean n ⟨some c, some b⟩ := ⟨by simp [low, h'], by simp [low, h]⟩
theorem low_w {n b : Nat} : (low n (some b) = none) = (n ≤ b) := by simp [low]
theorem low_oT {n : Nat} {a b : Option Nat} : (low n (omin a b) = none) = (low n a = none ∧ low n b = none) := by
 cases a with
 | none => cases b <;> simp [omin, low]
 | some a =>
  cases b with
  | none => simp [omin, low]
  | some b =>
   apply propext
   simp only [omin, low_w]
   omega
theorem clean_andT {n : Nat} {a b : Ef} : clean n (a.and b) = (clean n a ∧ clean n b) := by
 show (low n (omin a.es b.es) = none ∧ low n (omin a.ws b.ws) = none) = ((_ ∧ _) ∧ (_ ∧ _))
 rw [low_oT, low_oT]
 apply propext; constructor
 ·rintro ⟨⟨p, q⟩, r, s⟩; exact ⟨⟨p, r⟩, q, s⟩
 ·rintro ⟨⟨p, r⟩, q, s⟩; exact ⟨⟨p, q⟩, r, s⟩
theorem clean_wT {n b : Nat} : clean n ⟨none, some b⟩ = (n ≤ b) := by
 show (low n none = none ∧ low n (some b) = none) = _
 rw [low_w]; simp [low]
theorem clean_ewT {n b c : Nat} : clean n ⟨some c, some b⟩ = (n ≤ c ∧ n ≤ b) := by
 show (low n (some c) = none ∧ low n (some b) = none) = _
 rw [low_w, low_w]
theorem clean_ifT {n b : Nat} {c : Prop} [Decidable c] (h : n ≤ b) : clean n ⟨if c then none else some b, some b⟩ = True := by
 split
 ·rw [clean_wT]; exact eq_true h
 ·rw [clean_ewT]; exact eq_true ⟨h, h⟩
theorem le_self_add {n k : Nat} : (n ≤ n + k) = True := eq_true (Nat.le_add_right n k)
theorem le_self {n : Nat} : (n ≤ n) = True := eq_true (Nat.le_refl n)
attribute [go_sem] clean_z0 clean_andT clean_wT clean_ewT clean_ifT le_self_add le_self

def endR (P : Program) (rs : List ResultVar) (n : Nat) (k : AV × Hp × Ef → Prop) : Ex → St → Prop := fun ex s =>
 (ex = .normal ∨ ex = .ret) ∧ match evRes P s rs with
  | some vs => k (leave n (pack vs) s.H s.ef)
  | none => False
instance {rs : List ResultVar} {n : Nat} {k : AV × Hp × Ef → Prop} : Calm (endR P rs n k) := ⟨fun _ h => by rcases h.1 with h | h <;> cases h⟩
theorem endR_n {rs : List ResultVar} {n : Nat} {k : AV × Hp × Ef → Prop} : endR P rs n k .normal ⟨σ, H, e⟩ = bindK (evRes P ⟨σ, H, e⟩ rs) fun vs => k (leave n (pack vs) H e) := by
 apply propext
 constructor
 ·rintro ⟨_, h⟩; unfold bindK; split at h <;> simp_all
 ·intro h; refine ⟨.inl rfl, ?_⟩; unfold bindK at h; split at h <;> simp_all
theorem endR_r {rs : List ResultVar} {n : Nat} {k : AV × Hp × Ef → Prop} : endR P rs n k .ret ⟨σ, H, e⟩ = bindK (evRes P ⟨σ, H, e⟩ rs) fun vs => k (leave n (pack vs) H e) := by
 apply propext
 constructor
 ·rintro ⟨_, h⟩; unfold bindK; split at h <;> simp_all
 ·intro h; refine ⟨.inr rfl, ?_⟩; unfold bindK at h; split at h <;> simp_all
theorem res_tmp {t : Nat} {r : List ResultVar} : evRes P ⟨σ, H, e⟩ (.tmp t :: r) = (evRes P ⟨σ, H, e⟩ r).map (fr σ t :: ·) := rfl
theorem res_cell {a : Nat} {t : TypeId} {r : List ResultVar} : evRes P ⟨σ, H, e⟩ (.cell a t :: r) = (asPtr (fr σ a)).bind fun p => (evLoad P H t p.1 p.2).bind fun v => (evRes P ⟨σ, H, e⟩ r).map (v :: ·) := by
 simp only [evRes]
 unfold fr
 cases (σ[a]?).getD undefA <;> rfl
theorem bind_res_tmp {t : Nat} {r : List ResultVar} {f : List AV → Prop} : bindK (evRes P ⟨σ, H, e⟩ (.tmp t :: r)) f = bindK (evRes P ⟨σ, H, e⟩ r) fun vs => f (fr σ t :: vs) := by
 rw [res_tmp, bindK_map]
theorem bind_res_cell {a : Nat} {t : TypeId} {r : List ResultVar} {f : List AV → Prop} : bindK (evRes P ⟨σ, H, e⟩ (.cell a t :: r)) f = bindK (asPtr (fr σ a)) fun p => bindK (evLoad P H t p.1 p.2) fun v => bindK (evRes P ⟨σ, H, e⟩ r) fun vs => f (v :: vs) := by
 rw [res_cell, bindK_bind]
 refine bindK_ext fun p => ?_
 rw [bindK_bind]
 refine bindK_ext fun v => ?_
 rw [bindK_map]
theorem bind_res_nil {f : List AV → Prop} : bindK (evRes P ⟨σ, H, e⟩ []) f = f [] := rfl
theorem pack_one {v : AV} : pack [v] = v := rfl
theorem pack_nil : pack [] = .tuple [] := rfl
theorem pack_two {v w : AV} {vs : List AV} : pack (v :: w :: vs) = .tuple (v :: w :: vs) := rfl
attribute [go_sem ↓] endR_n endR_r
attribute [go_sem ↓] bind_res_tmp bind_res_cell bind_res_nil
attribute [go_sem] pack_one pack_nil pack_two

theorem leave_flat {v : AV} {l : Hp} (hv : flat v = true) (h : clean H.length e) : leave H.length v (H ++ l) e = (v, H, z0) := by
 unfold leave
 rw [h.1, h.2, if_pos ⟨hv, rfl⟩, List.take_left]; rfl
theorem leave_flat0 {v : AV} (hv : flat v = true) (h : clean H.length e) : leave H.length v H e = (v, H, z0) := by
 unfold leave
 rw [h.1, h.2, if_pos ⟨hv, rfl⟩, List.take_length]; rfl
theorem leave_keep {n : Nat} {v : AV} (hv : flat v = false) (h : clean n e) : leave n v H e = (v, H, z0) := by
 unfold leave
 rw [h.1, h.2, if_neg (by simp [hv])]; rfl

attribute [go_sem] leave_flat leave_flat0 leave_keep

theorem callK_start {f : FuncId} {fn : Func} {c : Code} {args : List AV} {kk : AV × Hp × Ef → Prop} {rs : List ResultVar} {n : Nat} (hf : P.funcs[f]? = some fn) (hb : fn.body = some c) (hr : fn.results.toList = rs) (hn : args.length + (fn.ntmps - args.length) = n)
  (h : ∀ σ : List AV, σ.length = n → (∀ i : Nat, i < args.length → fr σ i = (args[i]?).getD undefA) → go P (endR P rs H.length kk) [.code c] ⟨σ, H, z0⟩) (hd : cutD c = none := by kernel_rfl) : callK P f args H kk := by
 rw [callK_body hf hb hd]
 subst hr; subst hn
 refine h _ (by simp) (fun i hi => ?_)
 unfold fr
 rw [List.getElem?_append_left hi]

def goZ (P : Program) (ops : List Oper) (K : St → List Nat → Prop) (i : Nat) (l : List Oper) (s : St) (_ : Ph (ops, K, l) := ⟨⟩) : Prop := goD P ops K ((l.zipIdx i).map fun (o, i) => (i, o)) s
def nextZ (P : Program) (ops : List Oper) (K : St → List Nat → Prop) (l : List Oper) (σ : List AV) (H : Hp) (e : Ef) (i : Nat) (dst : Option Tmp) : AV × Hp × Ef → Prop :=
 fun r => goZ P ops (fun s es => K s (if quiet r H = true then es else tg i r.2.2 :: es)) (i + 1) l ⟨put σ dst r.1, r.2.1, e.and r.2.2⟩
theorem quiet_z {v : AV} : quiet (v, H, z0) H = true := by simp [quiet, z0]
theorem goZ_K {K K' : St → List Nat → Prop} {i : Nat} {s : St} (h : K = K') : goZ P ops K i l s = goZ P ops K' i l s := by subst h; rfl
theorem opK_k {op : Op} {kk kk' : AV × Hp × Ef → Prop} (h : kk = kk') : opK P σ H op kk = opK P σ H op kk' := by subst h; rfl
theorem nextZ_q {K : St → List Nat → Prop} {dst : Option Tmp} {i : Nat} {v : AV} {σ : List AV} : nextZ P ops K l σ H e i dst (v, H, z0) = goZ P ops K (i + 1) l ⟨put σ dst v, H, e⟩ := by
 show goZ P ops (fun s es => K s (if quiet (v, H, z0) H = true then es else tg i z0 :: es)) (i + 1) l ⟨put σ dst v, H, e.and z0⟩ = _
 rw [Ef.and_z0]
 refine goZ_K ?_
 funext s es
 rw [quiet_z]; rfl
theorem nextZ_w {K : St → List Nat → Prop} {dst : Option Tmp} {i : Nat} {v : AV} {H' : Hp} {e' : Ef} (h : quiet (v, H', e') H = false) : nextZ P ops K l σ H e i dst (v, H', e') = goZ P ops (fun s es => K s (tg i e' :: es)) (i + 1) l ⟨put σ dst v, H', e.and e'⟩ := by
 refine goZ_K ?_
 funext s es
 rw [h]; rfl
theorem goZ_nil {K : St → List Nat → Prop} {i : Nat} : goZ P ops K i [] ⟨σ, H, e⟩ = K ⟨σ, H, e⟩ [] := goD_nil
@[reducible] def notFree : Op → Bool
 | .alloc _ => false
 | _ => true
theorem goZ_op {K : St → List Nat → Prop} {i : Nat} {dst : Option Tmp} {op : Op} {ty : TypeId} {pos : String} {af : Array Edge} (hf : notFree op = true) :
  goZ P ops K i (⟨dst, op, ty, pos, af, none⟩ :: l) ⟨σ, H, e⟩ = opK P σ H op (nextZ P ops K l σ H e i dst) := by
 show goD P ops K ((i, _) :: (l.zipIdx (i + 1)).map fun (o, i) => (i, o)) _ = _
 rw [goD_op]
 have : isFree ⟨dst, op, ty, pos, af, none⟩ = false := by cases op <;> first | rfl | cases hf
 refine opK_k ?_
 funext r
 unfold nextD nextZ goZ
 rw [this]
 rfl
theorem goZ_opg {K : St → List Nat → Prop} {i : Nat} {dst : Option Tmp} {op : Op} {ty : TypeId} {pos : String} {af : Array Edge} {j : Nat} {w : Bool} :
  goZ P ops K i (⟨dst, op, ty, pos, af, some (j, w)⟩ :: l) ⟨σ, H, e⟩ = guardK (gvalO σ (gdst ops j)) w (opK P σ H op (nextZ P ops K l σ H e i dst)) (goZ P ops K (i + 1) l ⟨put σ dst undefA, H, e⟩) := by
 have hfr : isFree ⟨dst, op, ty, pos, af, some (j, w)⟩ = false := by cases op <;> simp [isFree]
 show goD P ops K ((i, _) :: (l.zipIdx (i + 1)).map fun (o, i) => (i, o)) _ = guardK _ _ _ (goD P ops K ((l.zipIdx (i + 1)).map fun (o, i) => (i, o)) _)
 cases hw : wantedA ops σ ⟨dst, op, ty, pos, af, some (j, w)⟩ with
 | true =>
  rw [goD_want hw]
  have e1 : nextD P ops K (List.map (fun x => (x.snd, x.fst)) (l.zipIdx (i + 1))) σ H e i ⟨dst, op, ty, pos, af, some (j, w)⟩ = nextZ P ops K l σ H e i dst := by
   funext r; unfold nextD nextZ goZ; rw [hfr]; rfl
  unfold wantedA at hw
  simp only at hw
  unfold gvalO gdst
  split at hw
  ·rename_i d hd
   rw [hd]
   split at hw
   ·rename_i b hb
    unfold fr; simp only [hb, Option.getD_some, guardK]; rw [if_pos hw]; show opK _ _ _ _ _ = _; rw [← e1]
   ·cases hw
  ·cases hw
 | false =>
  rw [goD_skip hw]
  unfold wantedA at hw
  simp only at hw
  unfold gvalO gdst
  split at hw
  ·rename_i d hd
   rw [hd]
   split at hw
   ·rename_i b hb
    unfold fr; simp only [hb, Option.getD_some, guardK]; rw [if_neg (by rw [hw]; exact Bool.false_ne_true)]
   ·rename_i hne
    simp only
    unfold fr guardK
    split
    ·rename_i b hb
     cases hd2 : σ[d]? with
     | none => rw [hd2] at hb; cases hb
     | some v => rw [hd2] at hb; simp only [Option.getD_some] at hb; rw [hb] at hd2; exact absurd hd2 (hne b)
    ·rfl
  ·rename_i hd
   rw [hd]; rfl
theorem order_z {l : List Oper} (h : l.all (fun o => !isFree o) = true) : order l = (l.zipIdx 0).map fun (o, i) => (i, o) := by
 have hz : ∀ p ∈ num l, isFree p.2 = false := by
  intro p hp
  unfold num at hp
  simp only [List.mem_map] at hp
  obtain ⟨q, hq, rfl⟩ := hp
  have := List.all_eq_true.1 h q.1 (List.fst_mem_of_mem_zipIdx hq)
  simpa using this
 unfold order
 have h1 : (num l).filter (fun p => isFree p.2) = [] := List.filter_eq_nil_iff.2 fun p hp => by rw [hz p hp]; exact Bool.false_ne_true
 have h2 : (num l).filter (fun p => !isFree p.2) = num l := List.filter_eq_self.2 fun p hp => by rw [hz p hp]; rfl
 rw [h1, h2]; rfl
theorem goD_mono {K K' : St → List Nat → Prop} {l : List (Nat × Oper)} {s : St} (hK : ∀ s es, K s es → K' s es) (h : goD P ops K l s) : goD P ops K' l s := by
 unfold goD at h ⊢
 obtain ⟨n, s', es, h1, h2⟩ := h
 exact ⟨n, s', es, h1, hK _ _ h2⟩
theorem go_drawZ {id : Nat} {ops : Array Oper} (hm : P.follows .mixedOrders = true) (hs : (statOk ops.toList && ops.toList.all (fun o => !isFree o)) = true)
  (h : goZ P ops.toList (fun s es => effOk P ops.toList es = true ∧ go P Q k s) 0 ops.toList ⟨σ, H, e⟩) : go P Q (.code (.region id ops true) :: k) ⟨σ, H, e⟩ := by
 rw [Bool.and_eq_true] at hs
 rw [go_draw hm hs.1, order_z hs.2]
 exact goD_mono (fun s es h => ⟨.inl h.1, h.2⟩) h
def stB (ops : List Oper) (x : (Nat × Nat) × (Nat × Nat)) : Bool :=
  (match ops[x.1.1]?, ops[x.1.2]? with
   | some oi, some oj => (match oi.op, oj.op with
     | .store _ (.tmp c) _, .load _ (.tmp a) => c == x.2.1 && a == x.2.2
     | _, _ => false)
   | _, _ => false) && (num ops).all fun (k, o) => (o.dst != some x.2.1 || decide (k < x.1.1)) && (o.dst != some x.2.2 || decide (k < x.1.2))
def apF (σ : List AV) (x : (Nat × Nat) × (Nat × Nat)) : Prop := ∃ b o b' o', fr σ x.2.1 = .ptr b o ∧ fr σ x.2.2 = .ptr b' o' ∧ b ≠ b'
theorem apS_of {ops : List Oper} {σ : List AV} {x : (Nat × Nat) × (Nat × Nat)} (hs : stB ops x = true) (h : apF σ x) : apS ops σ x.1 := by
 obtain ⟨⟨i, j⟩, c, a⟩ := x
 obtain ⟨b, o, b', o', h1, h2, h3⟩ := h
 unfold stB at hs
 rw [Bool.and_eq_true] at hs
 obtain ⟨hs, hd⟩ := hs
 have hfr : ∀ {t b o}, fr σ t = .ptr b o → σ[t]? = some (.ptr b o) := by
  intro t b o h
  unfold fr at h
  cases hx : σ[t]? with
  | none => rw [hx] at h; cases h
  | some z => rw [hx] at h; rw [← h]; rfl
 have hlate : ∀ k x, ops[k]? = some x → (x.dst = some c → k < i) ∧ (x.dst = some a → k < j) := by
  intro k x hk
  have hm : (k, x) ∈ num ops := by
   simp only [num, List.mem_map, Prod.mk.injEq, Prod.exists]
   exact ⟨x, k, by rw [List.mem_zipIdx_iff_getElem?]; exact hk, rfl, rfl⟩
  have := List.all_eq_true.1 hd _ hm
  simp only [Bool.and_eq_true, Bool.or_eq_true, bne_iff_ne, ne_eq, decide_eq_true_eq] at this
  exact ⟨fun h => this.1.resolve_left (fun hn => hn h), fun h => this.2.resolve_left (fun hn => hn h)⟩
 split at hs
 ·rename_i oi oj hi hj
  split at hs
  ·rename_i t c' v t' a' ho1 ho2
   simp only [Bool.and_eq_true, beq_iff_eq] at hs
   obtain ⟨rfl, rfl⟩ := hs
   exact ⟨oi, oj, _, _, b, o, b', o', t, t', v, hi, hj, ho1, ho2, hfr h1, hfr h2, h3, fun k x hk => (hlate k x hk).1, fun k x hk => (hlate k x hk).2⟩
  ·cases hs
 ·cases hs
theorem go_drawZL {id : Nat} {ops : Array Oper} (bad : List ((Nat × Nat) × (Nat × Nat))) (hm : P.follows .mixedOrders = true) (hs : (statOk ops.toList && ops.toList.all (fun o => !isFree o) && bad.all (stB ops.toList)) = true)
  (h : goZ P ops.toList (fun s es => effX ops.toList es (bad.map (·.1)) = true ∧ (∀ x ∈ bad, apF s.σ x) ∧ go P Q k s) 0 ops.toList ⟨σ, H, e⟩) : go P Q (.code (.region id ops true) :: k) ⟨σ, H, e⟩ := by
 rw [Bool.and_eq_true, Bool.and_eq_true] at hs
 rw [go_draw hm hs.1.1, order_z hs.1.2]
 refine goD_mono (fun s es h => ⟨.inr ⟨_, h.1, fun p hp => ?_⟩, h.2.2⟩) h
 obtain ⟨x, hx, rfl⟩ := List.mem_map.1 hp
 exact apS_of (List.all_eq_true.1 hs.2 x hx) (h.2.1 x hx)
theorem tg_z {i : Nat} : tg i z0 = 2 * i + 1 := rfl
theorem tg_w {i x : Nat} {o : Option Nat} : tg i ⟨o, some x⟩ = 2 * i := by unfold tg; simp
theorem tg_or (i : Nat) (e : Ef) : tg i e = 2 * i ∨ tg i e = 2 * i + 1 := by unfold tg; split <;> simp
attribute [go_sem] tg_z tg_w
theorem effOk_nil {ops : List Oper} : effOk P ops [] = true := rfl
theorem callK_ex {α : Type} {f : FuncId} {args : List AV} (g : α → AV × Hp × Ef) (h : callK P f args H (fun q => ∃ b, q = g b)) : ∃ b, ∀ k, callK P f args H k = k (g b) := by
 obtain ⟨n, r, hn, b, rfl⟩ := h
 exact ⟨b, fun k => propext (callK_iff_of hn)⟩
theorem wrap_u8 {n : Int} (h : 0 ≤ n ∧ n < 256) : IntKind.u8.wrap n = n := by
 simp only [IntKind.wrap, IntKind.bits, IntKind.signed, Bool.false_and, Bool.true_and, Bool.false_eq_true, if_false, decide_eq_true_eq, Nat.reduceSub, Int.reducePow, ge_iff_le]; first | omega | (split <;> omega)
theorem wrap_u16 {n : Int} (h : 0 ≤ n ∧ n < 65536) : IntKind.u16.wrap n = n := by
 simp only [IntKind.wrap, IntKind.bits, IntKind.signed, Bool.false_and, Bool.true_and, Bool.false_eq_true, if_false, decide_eq_true_eq, Nat.reduceSub, Int.reducePow, ge_iff_le]; first | omega | (split <;> omega)
theorem wrap_u32 {n : Int} (h : 0 ≤ n ∧ n < 4294967296) : IntKind.u32.wrap n = n := by
 simp only [IntKind.wrap, IntKind.bits, IntKind.signed, Bool.false_and, Bool.true_and, Bool.false_eq_true, if_false, decide_eq_true_eq, Nat.reduceSub, Int.reducePow, ge_iff_le]; first | omega | (split <;> omega)
theorem wrap_u64 {n : Int} (h : 0 ≤ n ∧ n < 18446744073709551616) : IntKind.u64.wrap n = n := by
 simp only [IntKind.wrap, IntKind.bits, IntKind.signed, Bool.false_and, Bool.true_and, Bool.false_eq_true, if_false, decide_eq_true_eq, Nat.reduceSub, Int.reducePow, ge_iff_le]; first | omega | (split <;> omega)
theorem wrap_i64 {n : Int} (h : -9223372036854775808 ≤ n ∧ n < 9223372036854775808) : IntKind.i64.wrap n = n := by
 simp only [IntKind.wrap, IntKind.bits, IntKind.signed, Bool.false_and, Bool.true_and, Bool.false_eq_true, if_false, decide_eq_true_eq, Nat.reduceSub, Int.reducePow, ge_iff_le]; first | omega | (split <;> omega)
theorem wrap_succ {n : Nat} (h : n < 9223372036854775807) : IntKind.i64.wrap ((n : Int) + 1) = ((n + 1 : Nat) : Int) := by
 rw [wrap_i64 (by omega)]; rfl
attribute [go_sem ↓] nextZ_q nextZ_w goZ_nil goZ_op goZ_opg
attribute [go_sem] effOk_nil notFree

def asS : AV → Option (List UInt8)
 | .str s => some s
 | _ => none
theorem asS_s {s : List UInt8} : asS (.str s) = some s := rfl
theorem k_range {kk : AV × Hp × Ef → Prop} {t : TypeId} {x : Operand} (ht : isStr (tsh P t) = true) : opK P σ H (.range t x) kk = bindK (evArg P σ x) fun v => bindK (asS v) fun s => kk (.ptr H.length 0, H ++ [.iter s 0], z0) := by
 have he : tsh P t = some .str := by
  unfold isStr at ht
  split at ht
  ·assumption
  ·cases ht
 show stepK _ _ = _
 simp only [evOp, he]
 rw [stepK_bind]; refine bindK_ext fun c => ?_
 cases c <;> rfl
def itC : ABlk → Option (List UInt8 × Nat)
 | .iter s p => some (s, p)
 | _ => none
theorem itC_i {s : List UInt8} {p : Nat} : itC (.iter s p) = some (s, p) := rfl
def asPtr0 : AV → Option Nat
 | .ptr b 0 => some b
 | _ => none
theorem asPtr0_p {b : Nat} : asPtr0 (.ptr b 0) = some b := rfl
theorem k_next {kk : AV × Hp × Ef → Prop} {it : Operand} : opK P σ H (.next it true) kk = bindK (evArg P σ it) fun v => bindK (asPtr0 v) fun b => bindK (H[b]?) fun x => bindK (itC x) fun q => kk ((strIter q.1 q.2).1, H.set b (.iter q.1 (strIter q.1 q.2).2), ⟨none, some b⟩) := by
 show stepK _ _ = _
 simp only [evOp]
 rw [stepK_bind]; refine bindK_ext fun c => ?_
 cases c <;> try rfl
 rename_i b o
 cases o with
 | succ o => rfl
 | zero =>
  show stepK _ _ = bindK (some b) _
  rw [bindK_some]
  cases hx : H[b]? with
  | none => simp only [hx]; rfl
  | some x => simp only [hx]; cases x <;> rfl
def itN (s : List UInt8) (p : Nat) : AV × Nat :=
 match s[p]? with
 | some c => (.tuple [.bool true, .int .i64 (p : Nat), .int .i32 c.toNat], p + 1)
 | none => (.tuple [.bool false], p)
theorem strIter_a {s : List UInt8} {p : Nat} (h : s.all (fun c => decide (c.toNat < 128)) = true) : strIter s p = itN s p := by
 unfold strIter itN
 by_cases hp : p < s.length
 ·rw [if_pos hp, List.getElem?_eq_getElem hp]
  have hc : s[p].toNat < 128 := by
   have := List.all_eq_true.1 h s[p] (List.getElem_mem hp)
   simpa using this
  have hs : (⟨s.toArray⟩ : ByteArray).size = s.length := by simp [ByteArray.size]
  have hg : ((⟨s.toArray⟩ : ByteArray)[p]'(by rw [hs]; exact hp)) = s[p] := by
   show (s.toArray)[p] = s[p]
   simp
  have := decode_ascii ⟨s.toArray⟩ p (by rw [hs]; exact hp) (by rw [hg]; exact hc)
  rw [hg] at this
  simp only [this]
 ·rw [if_neg hp, List.getElem?_eq_none (by omega)]
theorem itN_s {s : List UInt8} {p : Nat} {c : UInt8} (h : s[p]? = some c) : itN s p = (.tuple [.bool true, .int .i64 (p : Nat), .int .i32 c.toNat], p + 1) := by unfold itN; rw [h]
attribute [go_sem ↓] k_range k_next
attribute [go_sem] asS_s itC_i asPtr0_p

theorem asFun_s {g : FuncId} {a b : List AV} : asFun (.func (.func g) a b) = some (g, a, b) := rfl
theorem asEnd_n {τ : List AV} {ps : List Tmp} {az bd : Code} : asEnd (some (.loop τ ps az bd .ready)) = some .normal := rfl
theorem asEnd_d {τ : List AV} {ps : List Tmp} {az bd : Code} {i : Nat} : asEnd (some (.loop τ ps az bd (.done (.exit i)))) = some (.exit i) := rfl
theorem asEnd_dr {τ : List AV} {ps : List Tmp} {az bd : Code} : asEnd (some (.loop τ ps az bd (.done .ret))) = some .ret := rfl
theorem asReady_s {τ : List AV} {ps : List Tmp} {az bd : Code} : asReady (some (.loop τ ps az bd .ready)) = some ⟨τ, ps, az, bd⟩ := rfl
theorem asBusy_s {τ : List AV} {ps : List Tmp} {az bd : Code} : asBusy (some (.loop τ ps az bd .busy)) = some ⟨τ, ps, az, bd⟩ := rfl
def rangeK (P : Program) (Q : Ex → St → Prop) (k : List It) (x : Option (FuncId × List AV × List AV)) (ps : List Tmp) (az bd : Code) (σ : List AV) (H : Hp) (e : Ef) (_ : Ph (Q, k, az, bd) := ⟨⟩) : Prop :=
 match x with
 | some x => hasBody P x.1 = true ∧ callK P x.1 (x.2.1 ++ [.yld H.length] ++ x.2.2) (H ++ [.loop σ ps az bd .ready]) (rngK P Q k σ H.length e)
 | none => False
theorem go_rangeK {f : Operand} {ps : Array Tmp} {az bd : Code} : go P Q (.code (.rangeFunc f ps az bd) :: k) ⟨σ, H, e⟩ = bindK (evArg P σ f) fun v => rangeK P Q k (asFun v) ps.toList az bd σ H e := by
 cases hf : evArg P σ f with
 | none =>
  refine propext ⟨?_, fun h => h.elim⟩
  rintro ⟨n, ex, s', hc, _⟩
  simp only [evCode, evRange_eq, hf, Option.bind_none] at hc
  cases hc
 | some v =>
  show _ = rangeK P Q k (asFun v) ps.toList az bd σ H e
  cases hv : asFun v with
  | none =>
   refine propext ⟨?_, fun h => h.elim⟩
   rintro ⟨n, ex, s', hc, _⟩
   simp only [evCode, evRange_eq, hf, hv, Option.bind_some, Option.bind_none] at hc
   cases hc
  | some x =>
   show _ = (hasBody P x.1 = true ∧ _)
   by_cases hb : hasBody P x.1 = true
   ·rw [go_range hf hv hb]
    simp [hb]
   ·refine propext ⟨?_, fun h => absurd h.1 hb⟩
    rintro ⟨n, ex, s', hc, _⟩
    simp only [evCode, evRange_eq, hf, hv, Option.bind_some, if_neg hb] at hc
    cases hc
theorem rangeK_s {g : FuncId} {a b : List AV} {ps : List Tmp} {az bd : Code} (hb : hasBody P g = true) : rangeK P Q k (some (g, a, b)) ps az bd σ H e = callK P g (a ++ [.yld H.length] ++ b) (H ++ [.loop σ ps az bd .ready]) (rngK P Q k σ H.length e) := by
 show (_ ∧ _) = _
 simp [hb]
def endK (P : Program) (Q : Ex → St → Prop) (k : List It) (x : Option Ex) (s : St) (_ : Ph (Q, k) := ⟨⟩) : Prop :=
 match x with
 | some ex => contQ P Q k ex s
 | none => False
theorem rngK_ap {τ : List AV} {n : Nat} {v : AV} {H' : Hp} {e' : Ef} : rngK P Q k τ n e (v, H', e') = endK P Q k (asEnd (H'[n]?)) ⟨τ, H'.set n .dead, e.and (e'.and ⟨none, some n⟩)⟩ := rfl
theorem endK_n : endK P Q k (some .normal) ⟨σ, H, e⟩ = go P Q k ⟨σ, H, e⟩ := rfl
theorem endK_e {i : Nat} : endK P Q k (some (.exit i)) ⟨σ, H, e⟩ = leaveTo P Q i k ⟨σ, H, e⟩ := rfl
theorem endK_r : endK P Q k (some .ret) ⟨σ, H, e⟩ = Q .ret ⟨σ, H, e⟩ := contQ_ret k _
theorem rdQ_n {b n : Nat} {bd : Code} {kk : AV × Hp × Ef → Prop} : rdQ P b n bd kk .normal ⟨σ, H, e⟩ = bindK (asReady (H[b]?)) fun L => go P (reQ b n kk) [.code bd] ⟨σ, H.set b (.loop L.σ L.ps L.az L.bd .busy), e.and ⟨none, some b⟩⟩ := by
 unfold rdQ
 simp only [true_and]
 cases asReady (H[b]?) <;> rfl
theorem reQ_n {b n : Nat} {kk : AV × Hp × Ef → Prop} : reQ b n kk .normal ⟨σ, H, e⟩ = bindK (asBusy (H[b]?)) fun L => kk (leave n (.bool true) (H.set b (.loop L.σ L.ps L.az L.bd .ready)) (e.and ⟨none, some b⟩)) := by
 unfold reQ
 simp only
 cases asBusy (H[b]?) <;> rfl
theorem reQ_e {b n i : Nat} {kk : AV × Hp × Ef → Prop} : reQ b n kk (.exit i) ⟨σ, H, e⟩ = bindK (asBusy (H[b]?)) fun L => kk (leave n (.bool false) (H.set b (.loop L.σ L.ps L.az L.bd (.done (.exit i)))) (e.and ⟨none, some b⟩)) := by
 unfold reQ
 simp only
 cases asBusy (H[b]?) <;> rfl
theorem reQ_r {b n : Nat} {kk : AV × Hp × Ef → Prop} : reQ b n kk .ret ⟨σ, H, e⟩ = bindK (asBusy (H[b]?)) fun L => kk (leave n (.bool false) (H.set b (.loop L.σ L.ps L.az L.bd (.done .ret))) (e.and ⟨none, some b⟩)) := by
 unfold reQ
 simp only
 cases asBusy (H[b]?) <;> rfl
theorem putAll_cons {p : Tmp} {ps : List Tmp} {v : AV} {vs : List AV} : putAll σ (p :: ps) (v :: vs) = putAll (σ.set p v) ps vs := rfl
attribute [go_sem ↓] go_rangeK rangeK_s rngK_ap endK_n endK_e endK_r rdQ_n reQ_n reQ_e reQ_r
attribute [go_sem] asFun_s asEnd_n asEnd_d asEnd_dr asReady_s asBusy_s putAll_cons

def roundQ (P : Program) (Q : Ex → St → Prop) (k : List It) (I : Nat → St → Prop) (n : Nat) : Ex → St → Prop
 | .normal, s => ∃ m, m < n ∧ I m s
 | .exit i, s => leaveTo P Q i k s
 | ex, s => contQ P Q k ex s
instance {I : Nat → St → Prop} {n : Nat} [hc : Calm Q] : Calm (roundQ P Q k I n) := ⟨fun s h => hc.no s ((contQ_pan (P := P) (Q := Q) k s) ▸ h)⟩
theorem roundQ_n {I : Nat → St → Prop} {n : Nat} : roundQ P Q k I n .normal ⟨σ, H, e⟩ = ∃ m, m < n ∧ I m ⟨σ, H, e⟩ := rfl
theorem roundQ_e {I : Nat → St → Prop} {n i : Nat} : roundQ P Q k I n (.exit i) ⟨σ, H, e⟩ = leaveTo P Q i k ⟨σ, H, e⟩ := rfl
theorem roundQ_r {I : Nat → St → Prop} {n : Nat} : roundQ P Q k I n .ret ⟨σ, H, e⟩ = Q .ret ⟨σ, H, e⟩ := contQ_ret k _
attribute [go_sem ↓] roundQ_n roundQ_e roundQ_r
theorem go_rounds {c : Code} (I : Nat → St → Prop) (n : Nat) {s : St} (h0 : I n s) (round : ∀ n s, I n s → go P (roundQ P Q k I n) [.code c] s) : go P Q (.code (.loop c) :: k) s := by
 refine go_while I n h0 (fun n s hs => ?_)
 have := round n s hs
 refine goCode_mono (Q := roundQ P Q k I n) this (fun ex s hq => ?_)
 cases ex <;> exact hq
end
section
variable {P : Program} {Q : Ex → St → Prop} {k : List It} {σ : List AV} {H : Hp} {e : Ef} {ops : List Oper} {l : List Oper} {kk : AV × Hp × Ef → Prop}

theorem arg_g {g : Nat} (h : decide (g < P.globals.size) = true) : evArg P σ (.global g) = some (.ptr g 0) := by
 simp only [evArg]; rw [if_pos (by simpa using h)]
attribute [go_sem] arg_g

theorem k_slData {ts : Array TypeId} {x : Operand} : opK P σ H (.call ⟨.builtin .unsafeSliceData, ⟨[x]⟩, ts⟩) kk = bindK (evArg P σ x) fun v => bindK (evSliceData P v H) fun v => kk (v, H, z0) := by
 show stepK _ _ = _
 simp only [evOp, evCall, evArgs]
 cases evArg P σ x with
 | none => rfl
 | some v => exact stepK_ret
theorem k_string {pt it : TypeId} {x y : Operand} : opK P σ H (.call ⟨.builtin .unsafeString, ⟨[x, y]⟩, ⟨[pt, it]⟩⟩) kk = bindK (evArg P σ x) fun v => bindK (evArg P σ y) fun w => stepK (evString P pt v w H) kk := by
 show stepK _ _ = _
 simp only [evOp, evCall, evArgs]
 cases evArg P σ x with
 | none => rfl
 | some v =>
  cases evArg P σ y with
  | none => rfl
  | some w => rfl
theorem k_cap {t : TypeId} {ts : List TypeId} {x : Operand} : opK P σ H (.call ⟨.builtin .cap, ⟨[x]⟩, ⟨t :: ts⟩⟩) kk = bindK (evArg P σ x) fun v => bindK (evCap P t v) fun v => kk (v, H, z0) := by
 show stepK _ _ = _
 simp only [evOp, evCall, evArgs]
 cases evArg P σ x with
 | none => rfl
 | some v => exact stepK_ret
theorem k_min {ts : Array TypeId} {x y : Operand} : opK P σ H (.call ⟨.builtin .min, ⟨[x, y]⟩, ts⟩) kk = bindK (evArg P σ x) fun v => bindK (evArg P σ y) fun w => bindK (evMin2 v w) fun v => kk (v, H, z0) := by
 show stepK _ _ = _
 simp only [evOp, evCall, evArgs]
 cases evArg P σ x with
 | none => rfl
 | some v =>
  cases evArg P σ y with
  | none => rfl
  | some w => exact stepK_ret
theorem k_max {ts : Array TypeId} {x y : Operand} : opK P σ H (.call ⟨.builtin .max, ⟨[x, y]⟩, ts⟩) kk = bindK (evArg P σ x) fun v => bindK (evArg P σ y) fun w => bindK (evMax2 v w) fun v => kk (v, H, z0) := by
 show stepK _ _ = _
 simp only [evOp, evCall, evArgs]
 cases evArg P σ x with
 | none => rfl
 | some v =>
  cases evArg P σ y with
  | none => rfl
  | some w => exact stepK_ret
attribute [go_sem ↓] k_slData k_string k_cap k_min k_max

theorem i_quo {kd : IntKind} {a b : Int} (h : (b == 0) = false) : evInt .quo kd a b = some (.int kd (kd.wrap (a.tdiv b))) := by
 have : ¬ b = 0 := by simpa using h
 simp [evInt, this]
theorem i_rem {kd : IntKind} {a b : Int} (h : (b == 0) = false) : evInt .rem kd a b = some (.int kd (a.tmod b)) := by
 have : ¬ b = 0 := by simpa using h
 simp [evInt, this]
theorem u_neg {kd : IntKind} {n : Int} : evUn .neg (.int kd n) = some (.int kd (kd.wrap (0 - n))) := rfl
attribute [go_sem] i_quo i_rem u_neg

theorem bind_idx {t : TypeId} {s : List UInt8} {kd : IntKind} {i : Int} {f : AV → Prop} (ht : (match tsh P t with | some .str => true | _ => false) = true) : bindK (evIndex P t (.str s) (.int kd i)) f = (0 ≤ i ∧ bindK (s[i.toNat]?) fun b => f (.int .u8 b.toNat)) := by
 split at ht
 ·rename_i he
  simp only [evIndex, he]
  rw [bindK_ite, bindK_map]
 ·cases ht
attribute [go_sem ↓] bind_idx


def u8s (s : List UInt8) : List AV := s.map fun b => .int .u8 b.toNat
theorem u8s_len {s : List UInt8} : (u8s s).length = s.length := by simp [u8s]
theorem u8s_app {s t : List UInt8} : u8s (s ++ t) = u8s s ++ u8s t := by simp [u8s]
theorem u8s_scal : ∀ {s : List UInt8}, (u8s s).all scal = true
 | [] => rfl
 | b :: s => by show (scal _ && (u8s s).all scal) = true; rw [u8s_scal]; rfl
theorem u8s_flat : ∀ {s : List UInt8}, flats (u8s s) = true
 | [] => by simp only [u8s, List.map_nil, flats]
 | b :: s => by
  show flats (_ :: u8s s) = true
  simp only [flats, flat, u8s_flat, Bool.and_self]
theorem bytes_u8s : ∀ (s : List UInt8), evBytes (u8s s) = some s
 | [] => rfl
 | b :: s => by
  show evBytes (.int .u8 b.toNat :: u8s s) = _
  unfold evBytes
  have := b.toNat_lt
  rw [if_pos ⟨by omega, by omega⟩, bytes_u8s s]
  simp
theorem conv_u8s : ∀ (s : List UInt8), evConv.bytesOf (u8s s) = some s
 | [] => rfl
 | b :: s => by
  show evConv.bytesOf (.int .u8 b.toNat :: u8s s) = _
  unfold evConv.bytesOf
  rw [conv_u8s s]
  simp
attribute [go_sem] u8s_len u8s_scal u8s_flat

def frees : List Oper → Nat → List (Nat × Oper)
 | [], _ => []
 | o :: l, i => if isFree o = true then (i, o) :: frees l (i + 1) else frees l (i + 1)
def others : List Oper → Nat → List (Nat × Oper)
 | [], _ => []
 | o :: l, i => if isFree o = true then others l (i + 1) else (i, o) :: others l (i + 1)
theorem frees_eq : ∀ (l : List Oper) (i : Nat), ((l.zipIdx i).map fun (o, i) => (i, o)).filter (fun p => isFree p.2) = frees l i
 | [], i => rfl
 | o :: l, i => by
  simp only [List.zipIdx_cons, List.map_cons, List.filter_cons, frees, frees_eq l (i + 1)]
theorem others_eq : ∀ (l : List Oper) (i : Nat), ((l.zipIdx i).map fun (o, i) => (i, o)).filter (fun p => !isFree p.2) = others l i
 | [], i => rfl
 | o :: l, i => by
  simp only [List.zipIdx_cons, List.map_cons, List.filter_cons, others, others_eq l (i + 1)]
  cases isFree o <;> rfl
theorem order_y {l : List Oper} : order l = frees l 0 ++ others l 0 := by
 unfold order num
 rw [frees_eq, others_eq]
def goF (P : Program) (ops : List Oper) (K : St → List Nat → Prop) (i : Nat) (l : List Oper) (s : St) (_ : Ph (ops, K, l) := ⟨⟩) : Prop := goD P ops K (frees l i ++ others ops 0) s
def goN (P : Program) (ops : List Oper) (K : St → List Nat → Prop) (i : Nat) (l : List Oper) (s : St) (_ : Ph (ops, K, l) := ⟨⟩) : Prop := goD P ops K (others l i) s
def nextN (P : Program) (ops : List Oper) (K : St → List Nat → Prop) (l : List Oper) (σ : List AV) (H : Hp) (e : Ef) (i : Nat) (dst : Option Tmp) : AV × Hp × Ef → Prop :=
 fun r => goN P ops (fun s es => K s (if quiet r H = true then es else tg i r.2.2 :: es)) (i + 1) l ⟨put σ dst r.1, r.2.1, e.and r.2.2⟩
theorem goN_K {K K' : St → List Nat → Prop} {i : Nat} {s : St} (h : K = K') : goN P ops K i l s = goN P ops K' i l s := by subst h; rfl
theorem nextN_q {K : St → List Nat → Prop} {dst : Option Tmp} {i : Nat} {v : AV} {σ : List AV} : nextN P ops K l σ H e i dst (v, H, z0) = goN P ops K (i + 1) l ⟨put σ dst v, H, e⟩ := by
 show goN P ops (fun s es => K s (if quiet (v, H, z0) H = true then es else tg i z0 :: es)) (i + 1) l ⟨put σ dst v, H, e.and z0⟩ = _
 rw [Ef.and_z0]
 refine goN_K ?_
 funext s es
 rw [quiet_z]; rfl
theorem nextN_w {K : St → List Nat → Prop} {dst : Option Tmp} {i : Nat} {v : AV} {H' : Hp} {e' : Ef} (h : quiet (v, H', e') H = false) : nextN P ops K l σ H e i dst (v, H', e') = goN P ops (fun s es => K s (tg i e' :: es)) (i + 1) l ⟨put σ dst v, H', e.and e'⟩ := by
 refine goN_K ?_
 funext s es
 rw [h]; rfl
theorem quiet_w {v : AV} {H' : Hp} {x : Option Nat} {b : Nat} : quiet (v, H', ⟨x, some b⟩) H = false := by simp [quiet]
theorem goN_nil {K : St → List Nat → Prop} {i : Nat} : goN P ops K i [] ⟨σ, H, e⟩ = K ⟨σ, H, e⟩ [] := goD_nil
theorem goF_nil {K : St → List Nat → Prop} {i : Nat} : goF P ops K i [] ⟨σ, H, e⟩ = goN P ops K 0 ops ⟨σ, H, e⟩ := rfl
theorem free_t {dst : Option Tmp} {t ty : TypeId} {pos : String} : isFree ⟨dst, .alloc t, ty, pos, ⟨[]⟩, none⟩ = true := rfl
theorem goF_free {K : St → List Nat → Prop} {i : Nat} {dst : Option Tmp} {t ty : TypeId} {pos : String} :
  goF P ops K i (⟨dst, .alloc t, ty, pos, ⟨[]⟩, none⟩ :: l) ⟨σ, H, e⟩ = bindK (tzero P t) fun z => goF P ops K (i + 1) l ⟨put σ dst (.ptr H.length 0), H ++ [.cells z t .rw], e⟩ := by
 show goD P ops K (frees (_ :: l) i ++ others ops 0) _ = _
 have : frees (⟨dst, .alloc t, ty, pos, ⟨[]⟩, none⟩ :: l) i = (i, ⟨dst, .alloc t, ty, pos, ⟨[]⟩, none⟩) :: frees l (i + 1) := by simp only [frees, free_t, if_true]
 rw [this, List.cons_append, goD_op, k_alloc]
 refine bindK_ext fun z => ?_
 show goD P ops (fun s es => K s (if isFree ⟨dst, .alloc t, ty, pos, ⟨[]⟩, none⟩ || quiet _ H then es else tg i _ :: es)) _ _ = _
 rw [free_t, Ef.and_z0]
 rfl
theorem goF_skip {K : St → List Nat → Prop} {i : Nat} {o : Oper} (h : isFree o = false) : goF P ops K i (o :: l) ⟨σ, H, e⟩ = goF P ops K (i + 1) l ⟨σ, H, e⟩ := by
 show goD P ops K (frees (o :: l) i ++ others ops 0) _ = _
 have : frees (o :: l) i = frees l (i + 1) := by simp only [frees, h, Bool.false_eq_true, if_false]
 rw [this]; rfl
theorem free_f {o : Oper} (h : notFree o.op = true) : isFree o = false := by
 obtain ⟨d, op, ty, pos, af, g⟩ := o
 cases op <;> first | rfl | cases h
theorem goF_not {K : St → List Nat → Prop} {i : Nat} {dst : Option Tmp} {op : Op} {ty : TypeId} {pos : String} {af : Array Edge} {g : Option (Nat × Bool)} (h : notFree op = true) : goF P ops K i (⟨dst, op, ty, pos, af, g⟩ :: l) ⟨σ, H, e⟩ = goF P ops K (i + 1) l ⟨σ, H, e⟩ :=
 goF_skip (free_f h)
theorem goN_free {K : St → List Nat → Prop} {i : Nat} {dst : Option Tmp} {t ty : TypeId} {pos : String} :
  goN P ops K i (⟨dst, .alloc t, ty, pos, ⟨[]⟩, none⟩ :: l) ⟨σ, H, e⟩ = goN P ops K (i + 1) l ⟨σ, H, e⟩ := by
 show goD P ops K (others (_ :: l) i) _ = _
 have : others (⟨dst, .alloc t, ty, pos, ⟨[]⟩, none⟩ :: l) i = others l (i + 1) := by simp only [others, free_t, if_true]
 rw [this]; rfl
theorem goN_op {K : St → List Nat → Prop} {i : Nat} {dst : Option Tmp} {op : Op} {ty : TypeId} {pos : String} {af : Array Edge} (hf : notFree op = true) :
  goN P ops K i (⟨dst, op, ty, pos, af, none⟩ :: l) ⟨σ, H, e⟩ = opK P σ H op (nextN P ops K l σ H e i dst) := by
 have hfr : isFree ⟨dst, op, ty, pos, af, none⟩ = false := free_f hf
 show goD P ops K (others (_ :: l) i) _ = _
 have : others (⟨dst, op, ty, pos, af, none⟩ :: l) i = (i, ⟨dst, op, ty, pos, af, none⟩) :: others l (i + 1) := by simp only [others, hfr, Bool.false_eq_true, if_false]
 rw [this, goD_op]
 refine opK_k ?_
 funext r
 unfold nextD nextN goN
 rw [hfr]
 rfl
theorem goN_opg {K : St → List Nat → Prop} {i : Nat} {dst : Option Tmp} {op : Op} {ty : TypeId} {pos : String} {af : Array Edge} {j : Nat} {w : Bool} :
  goN P ops K i (⟨dst, op, ty, pos, af, some (j, w)⟩ :: l) ⟨σ, H, e⟩ = guardK (gvalO σ (gdst ops j)) w (opK P σ H op (nextN P ops K l σ H e i dst)) (goN P ops K (i + 1) l ⟨put σ dst undefA, H, e⟩) := by
 have hfr : isFree ⟨dst, op, ty, pos, af, some (j, w)⟩ = false := by cases op <;> simp [isFree]
 have e0 : others (⟨dst, op, ty, pos, af, some (j, w)⟩ :: l) i = (i, ⟨dst, op, ty, pos, af, some (j, w)⟩) :: others l (i + 1) := by simp only [others, hfr, Bool.false_eq_true, if_false]
 show goD P ops K (others (_ :: l) i) _ = guardK _ _ _ (goD P ops K (others l (i + 1)) _)
 rw [e0]
 cases hw : wantedA ops σ ⟨dst, op, ty, pos, af, some (j, w)⟩ with
 | true =>
  rw [goD_want hw]
  have e1 : nextD P ops K (others l (i + 1)) σ H e i ⟨dst, op, ty, pos, af, some (j, w)⟩ = nextN P ops K l σ H e i dst := by
   funext r; unfold nextD nextN goN; rw [hfr]; rfl
  rw [e1]
  unfold wantedA at hw
  simp only at hw
  unfold gvalO gdst
  split at hw
  ·rename_i d hd
   rw [hd]
   split at hw
   ·rename_i b hb
    unfold fr; simp only [hb, Option.getD_some]; unfold guardK; simp only; rw [if_pos hw]
   ·cases hw
  ·cases hw
 | false =>
  rw [goD_skip hw]
  unfold wantedA at hw
  simp only at hw
  unfold gvalO gdst
  split at hw
  ·rename_i d hd
   rw [hd]
   split at hw
   ·rename_i b hb
    unfold fr; simp only [hb, Option.getD_some]; unfold guardK; simp only; rw [if_neg (by rw [hw]; exact Bool.false_ne_true)]
   ·rename_i hne
    simp only
    unfold fr guardK
    split
    ·rename_i b hb
     cases hd2 : σ[d]? with
     | none => rw [hd2] at hb; cases hb
     | some v => rw [hd2] at hb; simp only [Option.getD_some] at hb; rw [hb] at hd2; exact absurd hd2 (hne b)
    ·rfl
  ·rename_i hd
   rw [hd]; unfold guardK; rfl
theorem go_drawF {id : Nat} {ops : Array Oper} (hm : P.follows .mixedOrders = true) (hs : statOk ops.toList = true)
  (h : goF P ops.toList (fun s es => effOk P ops.toList es = true ∧ go P Q k s) 0 ops.toList ⟨σ, H, e⟩) : go P Q (.code (.region id ops true) :: k) ⟨σ, H, e⟩ := by
 rw [go_draw hm hs, order_y]
 exact goD_mono (fun s es h => ⟨.inl h.1, h.2⟩) h
attribute [go_sem ↓] nextN_q nextN_w goF_nil goF_free goF_not goN_nil goN_free goN_op goN_opg
attribute [go_sem] quiet_w
end
attribute [irreducible] guardK condK bindK roundQ endR goZ nextZ goF goN nextN rangeK endK slK
end Go.Proofs.YtdppgaphcmhffaaGreatDoor.V
namespace Go.Proofs.YtdppgaphcmhffaaGreatDoor.V
open Go

section
variable (P : Program)
def callP (f : FuncId) (args : List AV) (H : Hp) (kp : AV × Hp × Ef → Prop) (_ : Ph kp := ⟨⟩) : Prop := ∃ n r, evNP P n f args H = some r ∧ kp r
def callC (f : FuncId) (args : List AV) (H : Hp) (k kp : AV × Hp × Ef → Prop) (_ : Ph (k, kp) := ⟨⟩) : Prop := callK P f args H k ∨ callP P f args H kp
def callXC (g : FuncId) (az : List AV) (H : Hp) (k kp : AV × Hp × Ef → Prop) (_ : Ph (k, kp) := ⟨⟩) : Prop := if hasBody P g = true then callC P g az H k kp else stepK (evX P g az H) k
def callTC (t : Option Tg) (H : Hp) (k kp : AV × Hp × Ef → Prop) (_ : Ph (k, kp) := ⟨⟩) : Prop :=
 match t with
 | some (.fn g az) => callXC P g az H k kp
 | some (.yl b az) => callK P (P.funcs.size + b) az H k
 | none => False
def opC (σ : List AV) (H : Hp) (op : Op) (k kp : AV × Hp × Ef → Prop) (_ : Ph (op, k, kp) := ⟨⟩) : Prop := opK P σ H op k ∨ ∃ n r, evPanOp P (evNP P n) σ H op = some r ∧ kp r
def nextP (ops : List Oper) (K KP : St → Prop) (l : List Oper) (σ : List AV) (e : Ef) (dst : Option Tmp) : AV × Hp × Ef → Prop := fun r => goOpsP P ops K KP l ⟨put σ dst r.1, r.2.1, e.and r.2.2⟩
def panP (KP : St → Prop) (σ : List AV) (e : Ef) : AV × Hp × Ef → Prop := fun r => KP ⟨r.1 :: σ, r.2.1, e.and r.2.2⟩
end

section
variable {P : Program} {Q : Ex → St → Prop} {k : List It} {σ : List AV} {H : Hp} {e : Ef} {ops : List Oper} {K KP : St → Prop} {l : List Oper} {kk kp : AV × Hp × Ef → Prop}

theorem bindK_no {α : Type} {f : α → Prop} : bindK none f = False := by unfold bindK; rfl
theorem callP_iff_of {f : FuncId} {args : List AV} {n : Nat} {r : AV × Hp × Ef} (h : evNP P n f args H = some r) : callP P f args H kp ↔ kp r := by
 constructor
 ·rintro ⟨m, q, hq, hk⟩
  have h1 := evNP_mono (P := P) (Nat.le_max_left n m) _ _ _ _ h
  have h2 := evNP_mono (P := P) (Nat.le_max_right n m) _ _ _ _ hq
  rw [h1] at h2
  cases h2
  exact hk
 ·intro hk; exact ⟨n, r, h, hk⟩
theorem callK_not {f : FuncId} {args : List AV} (h : callP P f args H kp) : ¬ callK P f args H kk := by
 rintro ⟨m, q, hq, _⟩
 obtain ⟨n, r, hr, _⟩ := h
 exact evNP_not hr hq
theorem callC_k {f : FuncId} {args : List AV} (h : callK P f args H (fun _ => True)) : callC P f args H kk kp = callK P f args H kk := by
 refine propext ⟨?_, .inl⟩
 rintro (h1 | h1)
 ·exact h1
 ·exact absurd h (callK_not h1)
theorem callC_isP {f : FuncId} {args : List AV} {r : AV × Hp × Ef} (h : callC P f args H (fun _ => False) (fun q => q = r)) (kk kp : AV × Hp × Ef → Prop) : callC P f args H kk kp = kp r := by
 rcases h with ⟨_, _, _, h⟩ | ⟨n, q, hq, rfl⟩
 ·exact h.elim
 ·refine propext ⟨?_, fun h => .inr ⟨n, q, hq, h⟩⟩
  rintro (h1 | h1)
  ·exact absurd h1 (callK_not ⟨n, q, hq, trivial⟩ (kp := fun _ => True))
  ·exact (callP_iff_of hq).1 h1
theorem callC_mono {f : FuncId} {args : List AV} {kk' kp' : AV × Hp × Ef → Prop} (h : callC P f args H kk kp) (h1 : ∀ r, kk r → kk' r) (h2 : ∀ r, kp r → kp' r) : callC P f args H kk' kp' := by
 rcases h with h | ⟨n, r, hr, hk⟩
 ·exact .inl (callK_mono h h1)
 ·exact .inr ⟨n, r, hr, h2 r hk⟩

theorem goP_nil : goOpsP P ops K KP [] ⟨σ, H, e⟩ = K ⟨σ, H, e⟩ := by
 refine propext ⟨?_, fun h => .inl (by rw [goOps_nil]; exact h)⟩
 rintro (h | ⟨n, s', h, _⟩)
 ·rw [goOps_nil] at h; exact h
 ·simp [evOpsP] at h

theorem goP_want {o : Oper} (hw : wantedA ops σ o = true) : goOpsP P ops K KP (o :: l) ⟨σ, H, e⟩ = opC P σ H o.op (nextP P ops K KP l σ e o.dst) (panP KP σ e) := by
 apply propext
 unfold opC
 rw [opK_iff]
 constructor
 ·rintro (h | ⟨n, s', h, hk⟩)
  ·rw [goOps_want hw, opK_iff] at h
   obtain ⟨n, r, hr, h⟩ := h
   exact .inl ⟨n, r, hr, .inl h⟩
  ·simp only [evOpsP, hw, if_true] at h
   split at h
   ·rename_i r hr
    simp only [Option.some.injEq] at h
    subst h
    exact .inr ⟨n, r, hr, hk⟩
   ·simp only [Option.bind_eq_some_iff] at h
    obtain ⟨r, hr, h⟩ := h
    exact .inl ⟨n, r, hr, .inr ⟨n, s', h, hk⟩⟩
 ·rintro (⟨n, r, hr, h⟩ | ⟨n, r, hr, hk⟩)
  ·rcases h with ⟨m, s', h, hk⟩ | ⟨m, s', h, hk⟩
   ·left
    rw [goOps_want hw, opK_iff]
    exact ⟨n, r, hr, m, s', h, hk⟩
   ·right
    refine ⟨max n m, s', ?_, hk⟩
    have h1 := evOp_mono (evN_mono (P := P) (Nat.le_max_left n m)) hr
    have h2 : evPanOp P (evNP P (max n m)) σ H o.op = none := by
     cases hp : evPanOp P (evNP P (max n m)) σ H o.op with
     | none => rfl
     | some q => rw [evPanOp_none (evN_excl _) hp] at h1; cases h1
    simp only [evOpsP, hw, if_true, h2, h1, Option.bind_some]
    exact evOpsP_mono (evN_mono (Nat.le_max_right n m)) (evNP_mono (Nat.le_max_right n m)) (evN_excl _) h
  ·right
   refine ⟨n, _, ?_, hk⟩
   simp only [evOpsP, hw, if_true, hr]

theorem goP_skip {o : Oper} (hw : wantedA ops σ o = false) : goOpsP P ops K KP (o :: l) ⟨σ, H, e⟩ = goOpsP P ops K KP l ⟨put σ o.dst undefA, H, e⟩ := by
 unfold goOpsP
 rw [goOps_skip hw]
 simp only [evOpsP, hw, Bool.false_eq_true, if_false]

theorem goP_op {dst : Option Tmp} {op : Op} {ty : TypeId} {pos : String} {af : Array Edge} : goOpsP P ops K KP (⟨dst, op, ty, pos, af, none⟩ :: l) ⟨σ, H, e⟩ = opC P σ H op (nextP P ops K KP l σ e dst) (panP KP σ e) := goP_want rfl
theorem goP_opg {dst : Option Tmp} {op : Op} {ty : TypeId} {pos : String} {af : Array Edge} {j : Nat} {w : Bool} :
  goOpsP P ops K KP (⟨dst, op, ty, pos, af, some (j, w)⟩ :: l) ⟨σ, H, e⟩ = guardK (gvalO σ (gdst ops j)) w (opC P σ H op (nextP P ops K KP l σ e dst) (panP KP σ e)) (goOpsP P ops K KP l ⟨put σ dst undefA, H, e⟩) := by
 cases hw : wantedA ops σ ⟨dst, op, ty, pos, af, some (j, w)⟩ with
 | true =>
  rw [goP_want hw]
  unfold wantedA at hw
  simp only at hw
  unfold gvalO gdst
  split at hw
  ·rename_i d hd
   rw [hd]
   split at hw
   ·rename_i b hb
    unfold fr; simp only [hb, Option.getD_some]; unfold guardK; simp only; rw [if_pos hw]
   ·cases hw
  ·cases hw
 | false =>
  rw [goP_skip hw]
  unfold wantedA at hw
  simp only at hw
  unfold gvalO gdst
  split at hw
  ·rename_i d hd
   rw [hd]
   split at hw
   ·rename_i b hb
    unfold fr; simp only [hb, Option.getD_some]; unfold guardK; simp only; rw [if_neg (by rw [hw]; exact Bool.false_ne_true)]
   ·rename_i hne
    simp only
    unfold fr guardK
    split
    ·rename_i b hb
     cases hd2 : σ[d]? with
     | none => rw [hd2] at hb; cases hb
     | some v => rw [hd2] at hb; simp only [Option.getD_some] at hb; rw [hb] at hd2; exact absurd hd2 (hne b)
    ·rfl
  ·rename_i hd
   rw [hd]; unfold guardK; rfl

@[reducible] def calmOp : Op → Bool
 | .panic _ => false
 | .call c => (match c.callee with | .value _ => false | _ => true)
 | _ => true
theorem opC_calm {op : Op} (h : calmOp op = true) : opC P σ H op kk kp = opK P σ H op kk := by
 refine propext ⟨?_, .inl⟩
 rintro (h1 | ⟨n, r, hr, _⟩)
 ·exact h1
 ·unfold evPanOp at hr
  split at hr
  ·cases h
  ·split at hr
   ·rename_i hc; simp only [calmOp, hc] at h; cases h
   ·cases hr
  ·cases hr
def asIf : AV → Option AV
 | .iface t u => some (.iface t u)
 | _ => none
theorem asIf_i {t : TypeId} {u : AV} : asIf (.iface t u) = some (.iface t u) := rfl
theorem opC_panic {x : Operand} : opC P σ H (.panic x) kk kp = bindK (evArg P σ x) fun v => bindK (asIf v) fun v => kp (v, H, z0) := by
 apply propext
 have hno : ¬ opK P σ H (.panic x) kk := by
  rw [opK_iff]
  rintro ⟨n, r, hr, _⟩
  simp [evOp] at hr
 constructor
 ·rintro (h | ⟨n, r, hr, hk⟩)
  ·exact absurd h hno
  ·simp only [evPanOp, Option.bind_eq_some_iff] at hr
   obtain ⟨v, hv, hr⟩ := hr
   rw [hv]
   split at hr
   ·cases hr
    rw [bindK_some, asIf_i, bindK_some]
    exact hk
   ·cases hr
 ·intro h
  right
  refine ⟨0, ?_⟩
  unfold bindK at h
  split at h
  ·rename_i v hv
   split at h
   ·rename_i u hu
    have : ∃ t y, v = .iface t y ∧ u = .iface t y := by
     unfold asIf at hu
     split at hu
     ·cases hu; exact ⟨_, _, rfl, rfl⟩
     ·cases hu
    obtain ⟨t, y, rfl, rfl⟩ := this
    exact ⟨_, by simp only [evPanOp, hv, Option.bind_some], h⟩
   ·exact h.elim
  ·exact h.elim
theorem callXC_eq {g : FuncId} {az : List AV} : callXC P g az H kk kp ↔ callX P g az H kk ∨ (hasBody P g = true ∧ callP P g az H kp) := by
 unfold callXC callX callC
 by_cases hb : hasBody P g = true
 ·simp [hb]
 ·simp [hb]
theorem opC_call {f : Operand} {args : Array Operand} {ts : Array TypeId} : opC P σ H (.call ⟨.value f, args, ts⟩) kk kp = callTC P (target P σ f args.toList) H kk kp := by
 apply propext
 unfold opC
 rw [k_call]
 unfold callT callTC target evPanOp
 simp only
 cases hf : evArg P σ f with
 | none => simp
 | some fv =>
  cases ha : evArgs P σ args.toList with
  | none => simp
  | some az =>
   simp only [Option.bind_some]
   cases fv with
   | func fn first captured =>
    cases fn with
    | func g =>
     simp only
     rw [callXC_eq]
     refine or_congr_right ?_
     by_cases hb : hasBody P g = true
     ·simp only [hb, if_true, true_and]; rfl
     ·simp [hb]
    | _ => simp
   | yld b => simp
   | _ => simp
theorem opC_callf {g : FuncId} {args : Array Operand} {ts : Array TypeId} : opC P σ H (.call ⟨.value (.func g), args, ts⟩) kk kp = bindK (evArgs P σ args.toList) fun az => callXC P g az H kk kp := by
 rw [opC_call]
 unfold target
 rw [arg_f]
 simp only [Option.bind_some, List.nil_append, List.append_nil]
 cases evArgs P σ args.toList with
 | none => rw [bindK_no]; rfl
 | some az => rw [bindK_some]; rfl
theorem opC_callv {t : Nat} {args : Array Operand} {ts : Array TypeId} : opC P σ H (.call ⟨.value (.tmp t), args, ts⟩) kk kp = bindK (evArgs P σ args.toList) fun az => callTC P (apV (fr σ t) az) H kk kp := by
 rw [opC_call]
 unfold target
 rw [arg_t]
 simp only [Option.bind_some]
 cases evArgs P σ args.toList with
 | none => rw [bindK_no]; rfl
 | some az => rw [bindK_some]; rfl
theorem callTC_f {g : FuncId} {az : List AV} : callTC P (some (.fn g az)) H kk kp = callXC P g az H kk kp := rfl
theorem callTC_y {b : Nat} {az : List AV} : callTC P (some (.yl b az)) H kk kp = callK P (P.funcs.size + b) az H kk := rfl
theorem callXC_f {g : FuncId} {az : List AV} (hb : hasBody P g = true) : callXC P g az H kk kp = callC P g az H kk kp := if_pos hb
theorem callXC_x {g : FuncId} {az : List AV} (hb : hasBody P g = false) : callXC P g az H kk kp = callX P g az H kk := by
 unfold callXC callX
 rw [if_neg (by rw [hb]; exact Bool.false_ne_true), if_neg (by rw [hb]; exact Bool.false_ne_true)]
theorem nextP_ap {dst : Option Tmp} {v : AV} {H' : Hp} {e' : Ef} : nextP P ops K KP l σ e dst (v, H', e') = goOpsP P ops K KP l ⟨put σ dst v, H', e.and e'⟩ := rfl
theorem panP_ap {v : AV} {H' : Hp} {e' : Ef} : panP KP σ e (v, H', e') = KP ⟨v :: σ, H', e.and e'⟩ := rfl
attribute [go_sem ↓ 10] go_regionP
attribute [go_sem ↓] goP_nil goP_op goP_opg opC_calm opC_panic opC_callf opC_callv callTC_f callTC_y callXC_f callXC_x nextP_ap panP_ap
attribute [go_sem] asIf_i callC_k

def endC (P : Program) (rs : List ResultVar) (n : Nat) (kk kp : AV × Hp × Ef → Prop) : Ex → St → Prop
 | .pan, s => (match s.σ with | v :: _ => kp (leave n v s.H s.ef) | [] => False)
 | ex, s => endR P rs n kk ex s
theorem endC_n {rs : List ResultVar} {n : Nat} : endC P rs n kk kp .normal ⟨σ, H, e⟩ = bindK (evRes P ⟨σ, H, e⟩ rs) fun vs => kk (leave n (pack vs) H e) := endR_n
theorem endC_r {rs : List ResultVar} {n : Nat} : endC P rs n kk kp .ret ⟨σ, H, e⟩ = bindK (evRes P ⟨σ, H, e⟩ rs) fun vs => kk (leave n (pack vs) H e) := endR_r
theorem endC_p {rs : List ResultVar} {n : Nat} {v : AV} : endC P rs n kk kp .pan ⟨v :: σ, H, e⟩ = kp (leave n v H e) := rfl
attribute [go_sem ↓] endC_n endC_r endC_p
theorem roundQ_p {I : Nat → St → Prop} {n : Nat} : roundQ P Q k I n .pan ⟨σ, H, e⟩ = Q .pan ⟨σ, H, e⟩ := by
 unfold roundQ; exact contQ_pan k _
attribute [go_sem ↓] roundQ_p

theorem callC_start {f : FuncId} {fn : Func} {c : Code} {args : List AV} {rs : List ResultVar} {n : Nat} (hf : P.funcs[f]? = some fn) (hb : fn.body = some c) (hr : fn.results.toList = rs) (hn : args.length + (fn.ntmps - args.length) = n)
  (h : ∀ σ : List AV, σ.length = n → (∀ i : Nat, i < args.length → fr σ i = (args[i]?).getD undefA) → go P (endC P rs H.length kk kp) [.code c] ⟨σ, H, z0⟩) (hd : cutD c = none := by kernel_rfl) : callC P f args H kk kp := by
 subst hr; subst hn
 have h1 := h (args ++ List.replicate (fn.ntmps - args.length) undefA) (by simp) (fun i hi => by unfold fr; rw [List.getElem?_append_left hi])
 obtain ⟨m, ex, s, hc, hq⟩ := h1
 by_cases hp : ex = .pan
 ·subst hp
  have hq' : endC P fn.results.toList H.length kk kp .pan s := hq
  simp only [endC] at hq'
  split at hq'
  ·rename_i v τ hσ
   right
   refine ⟨m + 1, _, ?_, hq'⟩
   show evFun P (evN P m) (evNP P m) (m + 1) true f args H = _
   simp only [evFun, hf, hb, evBody, hd, evCode_mono (fun _ _ _ _ h => h) (fun _ _ _ _ h => h) (evN_excl _) (Nat.le_succ m) hc, evEnd, hσ]
   rfl
  ·exact hq'.elim
 ·left
  rw [callK_body hf hb hd]
  refine ⟨m, ex, s, hc, ?_⟩
  have hq' : endC P fn.results.toList H.length kk kp ex s := by cases ex <;> first | exact hq | exact absurd rfl hp
  show endF P fn H.length kk ex s
  cases ex <;> first | (exact absurd rfl hp) | (simp only [endC] at hq'; unfold endR at hq'; exact hq')

def defK (P : Program) (d : Dc) (u : Option AV) (H : Hp) (K : Hp × Ef → Prop) (_ : Ph K := ⟨⟩) : Prop := ∃ n q, evDef P (evN P n) (evNP P n) n d u H = some q ∧ K q
def defQ (K : Hp × Ef → Prop) : Ex → St → Prop := fun ex s => (ex = .normal ∨ ex = .ret) ∧ K (s.H, s.ef)
instance {K : Hp × Ef → Prop} : Calm (defQ K) := ⟨fun _ h => by rcases h.1 with h | h <;> cases h⟩
theorem defQ_n {K : Hp × Ef → Prop} : defQ K .normal ⟨σ, H, e⟩ = K (H, e) := by unfold defQ; simp
theorem defQ_r {K : Hp × Ef → Prop} : defQ K .ret ⟨σ, H, e⟩ = K (H, e) := by unfold defQ; simp
theorem defK_start {gg : FuncId} {first az captured : List AV} {u : Option AV} {K : Hp × Ef → Prop} {fn : Func} {c b : Code} {o : Oper} {l : List Oper} {n : Nat} (hf : P.funcs[gg]? = some fn) (hn : (fn.name == "runtime.NumGoroutine") = false) (hb : fn.body = some c) (hc : cutR c = some (o, l, b)) (hr : fn.results.toList = []) (hnr : noRange b = true) (hlen : (first ++ az ++ captured).length + (fn.ntmps - (first ++ az ++ captured).length) = n)
  (h : ∀ σ : List AV, σ.length = n → (∀ i : Nat, i < (first ++ az ++ captured).length → fr σ i = ((first ++ az ++ captured)[i]?).getD undefA) → goOps P (o :: l) (fun s => go P (defQ K) [.code b] s) l ⟨put σ o.dst (u.getD .nili), H, z0⟩) : defK P (.func (.func gg) first captured, az) u H K := by
 subst hlen
 obtain ⟨m, s1, h1, m2, ex, s2, h2, hq⟩ := h ((first ++ az ++ captured) ++ List.replicate (fn.ntmps - (first ++ az ++ captured).length) undefA) (by simp only [List.length_append, List.length_replicate]) (fun i hi => by unfold fr; rw [List.getElem?_append_left hi])
 have hq' : defQ K ex s2 := by cases ex <;> exact hq
 refine ⟨max m m2, (s2.H, s2.ef), ?_, hq'.2⟩
 unfold evDef
 simp only [hf, hn, hb, hc, hr, Bool.false_eq_true, if_false, if_true, evOps_mono (evN_mono (Nat.le_max_left m m2)) h1, Option.bind_some, ev_up (Nat.le_max_right m m2) h2, if_pos (And.intro hq'.1 hnr)]

def endD (P : Program) (rs : List ResultVar) (n : Nat) (d : Dc) (kk : AV × Hp × Ef → Prop) : Ex → St → Prop
 | .pan, s => (match s.σ with | v :: σ => defK P d (some v) s.H (fun q => bindK (evRes P ⟨σ, q.1, s.ef.and q.2⟩ rs) fun vs => kk (leave n (pack vs) q.1 (s.ef.and q.2))) | [] => False)
 | .normal, s => defK P d none s.H (fun q => bindK (evRes P ⟨s.σ, q.1, s.ef.and q.2⟩ rs) fun vs => kk (leave n (pack vs) q.1 (s.ef.and q.2)))
 | .ret, s => defK P d none s.H (fun q => bindK (evRes P ⟨s.σ, q.1, s.ef.and q.2⟩ rs) fun vs => kk (leave n (pack vs) q.1 (s.ef.and q.2)))
 | _, _ => False
def dfK (P : Program) (rs : List ResultVar) (n : Nat) (kk : AV × Hp × Ef → Prop) (d : Dc) (σ : List AV) (e : Ef) : Hp × Ef → Prop := fun q => bindK (evRes P ⟨σ, q.1, e.and q.2⟩ rs) fun vs => kk (leave n (pack vs) q.1 (e.and q.2))
theorem dfK_ap {rs : List ResultVar} {n : Nat} {d : Dc} {H' : Hp} {e' : Ef} : dfK P rs n kk d σ e (H', e') = bindK (evRes P ⟨σ, H', e.and e'⟩ rs) fun vs => kk (leave n (pack vs) H' (e.and e')) := rfl
theorem endD_n {rs : List ResultVar} {n : Nat} {d : Dc} : endD P rs n d kk .normal ⟨σ, H, e⟩ = defK P d none H (dfK P rs n kk d σ e) := rfl
theorem endD_r {rs : List ResultVar} {n : Nat} {d : Dc} : endD P rs n d kk .ret ⟨σ, H, e⟩ = defK P d none H (dfK P rs n kk d σ e) := rfl
theorem endD_p {rs : List ResultVar} {n : Nat} {d : Dc} {v : AV} : endD P rs n d kk .pan ⟨v :: σ, H, e⟩ = defK P d (some v) H (dfK P rs n kk d σ e) := rfl
def endA (P : Program) (rs : List ResultVar) (n : Nat) (f : Operand) (args : List Operand) (dst : Option Tmp) (b : Code) (kk : AV × Hp × Ef → Prop) : Ex → St → Prop
 | .normal, s => bindK (evArg P s.σ f) fun f => bindK (evArgs P s.σ args) fun az => go P (endD P rs n (f, az) kk) [.code b] ⟨put s.σ dst undefA, s.H, s.ef⟩
 | .ret, s => endR P rs n kk .ret s
 | _, _ => False
instance {rs : List ResultVar} {n : Nat} {f : Operand} {args : List Operand} {dst : Option Tmp} {b : Code} : Calm (endA P rs n f args dst b kk) := ⟨fun _ h => h⟩
theorem endA_n {rs : List ResultVar} {n : Nat} {f : Operand} {args : List Operand} {dst : Option Tmp} {b : Code} : endA P rs n f args dst b kk .normal ⟨σ, H, e⟩ = bindK (evArg P σ f) fun f => bindK (evArgs P σ args) fun az => go P (endD P rs n (f, az) kk) [.code b] ⟨put σ dst undefA, H, e⟩ := rfl
theorem endA_r {rs : List ResultVar} {n : Nat} {f : Operand} {args : List Operand} {dst : Option Tmp} {b : Code} : endA P rs n f args dst b kk .ret ⟨σ, H, e⟩ = bindK (evRes P ⟨σ, H, e⟩ rs) fun vs => kk (leave n (pack vs) H e) := endR_r
attribute [go_sem ↓] defQ_n defQ_r endD_n endD_r endD_p dfK_ap endA_n endA_r

theorem seqs_go {l : List Code} {m : Nat} {ex : Ex} {s s' : St} : ∀ {Q : Ex → St → Prop}, go P Q (l.map It.code) s → ∃ n ex s', evSeqs P (evN P n) (evNP P n) n l s = some (ex, s') ∧ Q ex s' := by
 intro Q
 induction l generalizing s with
 | nil => intro h; exact ⟨0, .normal, s, rfl, h⟩
 | cons c l ih =>
  rintro ⟨n, ex, s1, hc, hq⟩
  by_cases hn : ex = .normal
  ·subst hn
   obtain ⟨n2, ex2, s2, h2, hq2⟩ := ih (s := s1) hq
   refine ⟨max n n2, ex2, s2, ?_, hq2⟩
   simp only [evSeqs, ev_up (Nat.le_max_left n n2) hc]
   exact evSeqs_mono (evN_mono (Nat.le_max_right n n2)) (evNP_mono (Nat.le_max_right n n2)) (evN_excl _) (Nat.le_max_right n n2) h2
  ·refine ⟨n, ex, s1, ?_, ?_⟩
   ·simp only [evSeqs, hc]
    cases ex <;> first | rfl | exact absurd rfl hn
   ·have gen : ∀ (l : List Code) (ex : Ex) (s : St), ex ≠ .normal → contQ P Q (l.map It.code) ex s → Q ex s := by
     intro l
     induction l with
     | nil => intro ex s _ h; exact h
     | cons c l ih => intro ex s hn h; cases ex <;> first | exact absurd rfl hn | exact ih _ _ hn h
    cases ex <;> first | exact absurd rfl hn | exact gen l _ _ (by simp) hq

theorem callK_defer {f : FuncId} {fn : Func} {c b : Code} {l0 : List Code} {o : Oper} {fo : Operand} {dargs : Array Operand} {ts : Array TypeId} {args : List AV} {rs : List ResultVar} {n : Nat} (hf : P.funcs[f]? = some fn) (hb : fn.body = some c) (hd : cutD c = some (l0, o, b)) (ho : o.op = .defer ⟨.value fo, dargs, ts⟩) (hr : fn.results.toList = rs) (hn : args.length + (fn.ntmps - args.length) = n)
  (h : ∀ σ : List AV, σ.length = n → (∀ i : Nat, i < args.length → fr σ i = (args[i]?).getD undefA) → go P (endA P rs H.length fo dargs.toList o.dst b kk) (l0.map It.code) ⟨σ, H, z0⟩) : callK P f args H kk := by
 subst hr; subst hn
 have h1 := h (args ++ List.replicate (fn.ntmps - args.length) undefA) (by simp) (fun i hi => by unfold fr; rw [List.getElem?_append_left hi])
 obtain ⟨m, ex, s1, hc, hq⟩ := seqs_go (m := 0) (ex := .normal) (s' := ⟨[], [], z0⟩) h1
 have fin : ∀ (M : Nat) (r : AV × Hp × Ef), evBody P (evN P M) (evNP P M) (M + 1) fn c ⟨args ++ List.replicate (fn.ntmps - args.length) undefA, H, z0⟩ = (true, some r) → kk r → callK P f args H kk := by
  intro M r hM hk
  refine ⟨M + 1, r, ?_, hk⟩
  show evFun P (evN P M) (evNP P M) (M + 1) false f args H = _
  simp only [evFun, hf, hb, hM, Bool.true_eq_false, if_false]
 have up : ∀ M, m ≤ M → evSeqs P (evN P M) (evNP P M) (M + 1) l0 ⟨args ++ List.replicate (fn.ntmps - args.length) undefA, H, z0⟩ = some (ex, s1) := fun M hM => evSeqs_mono (evN_mono hM) (evNP_mono hM) (evN_excl _) (by omega) hc
 cases ex with
 | normal =>
  have hq : bindK (evArg P s1.σ fo) (fun f => bindK (evArgs P s1.σ dargs.toList) fun az => go P (endD P fn.results.toList H.length (f, az) kk) [.code b] ⟨put s1.σ o.dst undefA, s1.H, s1.ef⟩) := hq
  cases hfo : evArg P s1.σ fo with
  | none => rw [hfo] at hq; unfold bindK at hq; exact hq.elim
  | some fv =>
   rw [hfo, bindK_some] at hq
   cases haz : evArgs P s1.σ dargs.toList with
   | none => rw [haz] at hq; unfold bindK at hq; exact hq.elim
   | some az =>
    rw [haz, bindK_some] at hq
    obtain ⟨m2, ex2, s2, hc2, hq2⟩ := hq
    have hq3 : endD P fn.results.toList H.length (fv, az) kk ex2 s2 := by cases ex2 <;> exact hq2
    -- the deferred call and the results
    have tail : ∀ (u : Option AV) (σ : List AV), defK P (fv, az) u s2.H (fun q => bindK (evRes P ⟨σ, q.1, s2.ef.and q.2⟩ fn.results.toList) fun vs => kk (leave H.length (pack vs) q.1 (s2.ef.and q.2))) → (ex2 = .pan ∧ (∃ v, u = some v ∧ s2.σ = v :: σ)) ∨ ((ex2 = .normal ∨ ex2 = .ret) ∧ u = none ∧ s2.σ = σ) → callK P f args H kk := by
     rintro u σ ⟨m3, q, hdq, hk⟩ hcase
     cases hrs : evRes P ⟨σ, q.1, s2.ef.and q.2⟩ fn.results.toList with
     | none => simp only [hrs] at hk; unfold bindK at hk; exact hk.elim
     | some vs =>
      simp only [hrs, bindK_some] at hk
      refine fin (max m (max m2 m3)) _ ?_ hk
      have e1 := up (max m (max m2 m3)) (by omega)
      have e2 := evCode_mono (P := P) (evN_mono (show m2 ≤ max m (max m2 m3) by omega)) (evNP_mono (show m2 ≤ max m (max m2 m3) by omega)) (evN_excl _) (show m2 ≤ max m (max m2 m3) + 1 by omega) hc2
      have e3 := evDef_mono (P := P) (evN_mono (show m3 ≤ max m (max m2 m3) by omega)) (evNP_mono (show m3 ≤ max m (max m2 m3) by omega)) (evN_excl _) (show m3 ≤ max m (max m2 m3) + 1 by omega) hdq
      simp only [evBody, hd, e1, ho, hfo, haz, Option.bind_some]
      refine congrArg (Prod.mk true) ?_
      unfold evTail
      rw [e2]
      rcases hcase with ⟨rfl, v, rfl, hσ⟩ | ⟨hex, rfl, rfl⟩
      ·simp only [hσ, e3, Option.bind_some, hrs, Option.map_some]
      ·rcases hex with rfl | rfl
       ·simp only [true_or, if_true, e3, Option.bind_some, hrs, Option.map_some]
       ·simp only [or_true, if_true, e3, Option.bind_some, hrs, Option.map_some]
    cases ex2 with
    | pan =>
     simp only [endD] at hq3
     split at hq3
     ·rename_i v σ hσ
      exact tail (some v) σ hq3 (.inl ⟨rfl, v, rfl, hσ⟩)
     ·exact hq3.elim
    | normal => exact tail none s2.σ hq3 (.inr ⟨.inl rfl, rfl, rfl⟩)
    | ret => exact tail none s2.σ hq3 (.inr ⟨.inr rfl, rfl, rfl⟩)
    | exit i => exact hq3.elim
    | goto l => exact hq3.elim
 | ret =>
  have hq : endR P fn.results.toList H.length kk .ret s1 := hq
  unfold endR at hq
  obtain ⟨_, hq⟩ := hq
  cases hvs : evRes P s1 fn.results.toList with
  | none => rw [hvs] at hq; exact hq.elim
  | some vs =>
   rw [hvs] at hq
   refine fin m _ ?_ hq
   have := up m (Nat.le_refl _)
   simp only [evBody, hd, this, evEnd, or_true, if_true, hvs, Option.map_some]
 | exit i => exact hq.elim
 | goto l => exact hq.elim
 | pan => exact hq.elim
end
attribute [irreducible] opC callC callXC callTC defK
end Go.Proofs.YtdppgaphcmhffaaGreatDoor.V
namespace Go.Proofs.YtdppgaphcmhffaaGreatDoor.V
open Go
theorem tFollows : Tryz.prog.follows .mixedOrders = true := by kernel_rfl
attribute [go_sem] tFollows
theorem tsh_3 : tsh Tryz.prog 3 = some (.int .i64) := by kernel_rfl
theorem tsize_3 : tsize Tryz.prog 3 = some 1 := by kernel_rfl
theorem tagg_3 : tagg Tryz.prog 3 = some false := by kernel_rfl
theorem tzero_3 : tzero Tryz.prog 3 = some [.int .i64 0] := by kernel_rfl
theorem tsize_4 : tsize Tryz.prog 4 = some 1 := by kernel_rfl
theorem tagg_4 : tagg Tryz.prog 4 = some false := by kernel_rfl
theorem tsh_5 : tsh Tryz.prog 5 = some (.int .u8) := by kernel_rfl
theorem tsize_5 : tsize Tryz.prog 5 = some 1 := by kernel_rfl
theorem tagg_5 : tagg Tryz.prog 5 = some false := by kernel_rfl
theorem tzero_5 : tzero Tryz.prog 5 = some [.int .u8 0] := by kernel_rfl
theorem tsh_9 : tsh Tryz.prog 9 = some .str := by kernel_rfl
theorem tsize_9 : tsize Tryz.prog 9 = some 1 := by kernel_rfl
theorem tagg_9 : tagg Tryz.prog 9 = some false := by kernel_rfl
theorem tzero_9 : tzero Tryz.prog 9 = some [.str []] := by kernel_rfl
theorem srcOk_9 : srcOk Tryz.prog 9 = true := by kernel_rfl
theorem tsh_20 : tsh Tryz.prog 20 = some .iface := by kernel_rfl
theorem tsh_21 : tsh Tryz.prog 21 = some (.int .i32) := by kernel_rfl
theorem tsh_22 : tsh Tryz.prog 22 = some (.slice 28 6 8) := by kernel_rfl
theorem tsh_23 : tsh Tryz.prog 23 = some (.int .u16) := by kernel_rfl
theorem tsize_23 : tsize Tryz.prog 23 = some 1 := by kernel_rfl
theorem tagg_23 : tagg Tryz.prog 23 = some false := by kernel_rfl
theorem tsh_24 : tsh Tryz.prog 24 = some .str := by kernel_rfl
theorem tsize_24 : tsize Tryz.prog 24 = some 1 := by kernel_rfl
theorem tagg_24 : tagg Tryz.prog 24 = some false := by kernel_rfl
theorem tsh_25 : tsh Tryz.prog 25 = some (.int .u32) := by kernel_rfl
theorem tsize_25 : tsize Tryz.prog 25 = some 1 := by kernel_rfl
theorem tagg_25 : tagg Tryz.prog 25 = some false := by kernel_rfl
theorem tsh_26 : tsh Tryz.prog 26 = some (.slice 36 12 96) := by kernel_rfl
theorem tsize_26 : tsize Tryz.prog 26 = some 1 := by kernel_rfl
theorem tagg_26 : tagg Tryz.prog 26 = some false := by kernel_rfl
theorem tzero_26 : tzero Tryz.prog 26 = some [.nils] := by kernel_rfl
theorem srcOk_26 : srcOk Tryz.prog 26 = true := by kernel_rfl
theorem zok_26 : zok Tryz.prog 36 12 = true := by kernel_rfl
theorem tsize_28 : tsize Tryz.prog 28 = some 6 := by kernel_rfl
theorem tagg_28 : tagg Tryz.prog 28 = some true := by kernel_rfl
theorem tzero_28 : tzero Tryz.prog 28 = some [.int .u8 0, .int .u8 0, .int .u16 0, .bool false, .bool false, .bool false] := by kernel_rfl
theorem tfield_28_0 : tfield Tryz.prog 28 0 = some (0, 1, false) := by kernel_rfl
theorem tfield_28_1 : tfield Tryz.prog 28 1 = some (1, 1, false) := by kernel_rfl
theorem tfield_28_2 : tfield Tryz.prog 28 2 = some (2, 1, false) := by kernel_rfl
theorem tfield_28_3 : tfield Tryz.prog 28 3 = some (3, 1, false) := by kernel_rfl
theorem tfield_28_4 : tfield Tryz.prog 28 4 = some (4, 1, false) := by kernel_rfl
theorem tfield_28_5 : tfield Tryz.prog 28 5 = some (5, 1, false) := by kernel_rfl
theorem tsh_34 : tsh Tryz.prog 34 = some .struct := by kernel_rfl
theorem tsize_34 : tsize Tryz.prog 34 = some 8 := by kernel_rfl
theorem tagg_34 : tagg Tryz.prog 34 = some true := by kernel_rfl
theorem tzero_34 : tzero Tryz.prog 34 = some [.str [], .str [], .str [], .int .u32 0, .int .u32 0, .int .u32 0, .int .u32 0, .int .u32 0] := by kernel_rfl
theorem tplaces_34 : tplaces Tryz.prog 34 = some [(0, 1), (1, 1), (2, 1), (3, 5)] := by kernel_rfl
theorem tfield_34_0 : tfield Tryz.prog 34 0 = some (0, 1, false) := by kernel_rfl
theorem tfield_34_1 : tfield Tryz.prog 34 1 = some (1, 1, false) := by kernel_rfl
theorem tfield_34_2 : tfield Tryz.prog 34 2 = some (2, 1, false) := by kernel_rfl
theorem tsh_36 : tsh Tryz.prog 36 = some .struct := by kernel_rfl
theorem tsize_36 : tsize Tryz.prog 36 = some 12 := by kernel_rfl
theorem tagg_36 : tagg Tryz.prog 36 = some true := by kernel_rfl
theorem tzero_36 : tzero Tryz.prog 36 = some [.str [], .int .u16 0, .int .u16 0, .int .u32 0, .str [], .str [], .str [], .int .u32 0, .int .u32 0, .int .u32 0, .int .u32 0, .int .u32 0] := by kernel_rfl
theorem tplaces_36 : tplaces Tryz.prog 36 = some [(0, 1), (1, 1), (2, 1), (3, 1), (4, 8)] := by kernel_rfl
theorem eqg_36 : Tryz.prog.eqGuardType Tryz.prog.depth 36 = false := by kernel_rfl
theorem tfield_36_1 : tfield Tryz.prog 36 1 = some (1, 1, false) := by kernel_rfl
theorem tfield_36_3 : tfield Tryz.prog 36 3 = some (3, 1, false) := by kernel_rfl
theorem tfield_36_4 : tfield Tryz.prog 36 4 = some (4, 8, true) := by kernel_rfl
theorem tsh_38 : tsh Tryz.prog 38 = some .struct := by kernel_rfl
theorem tsize_38 : tsize Tryz.prog 38 = some 2 := by kernel_rfl
theorem tagg_38 : tagg Tryz.prog 38 = some true := by kernel_rfl
theorem tzero_38 : tzero Tryz.prog 38 = some [.int .i64 0, .int .i64 0] := by kernel_rfl
theorem tplaces_38 : tplaces Tryz.prog 38 = some [(0, 1), (1, 1)] := by kernel_rfl
theorem eqg_38 : Tryz.prog.eqGuardType Tryz.prog.depth 38 = false := by kernel_rfl
theorem tfield_38_0 : tfield Tryz.prog 38 0 = some (0, 1, false) := by kernel_rfl
theorem tfield_38_1 : tfield Tryz.prog 38 1 = some (1, 1, false) := by kernel_rfl
theorem tsize_39 : tsize Tryz.prog 39 = some 1 := by kernel_rfl
theorem tagg_39 : tagg Tryz.prog 39 = some false := by kernel_rfl
theorem tzero_39 : tzero Tryz.prog 39 = some [.int .i64 0] := by kernel_rfl
theorem tsh_54 : tsh Tryz.prog 54 = some (.slice 68 3 40) := by kernel_rfl
theorem tsize_54 : tsize Tryz.prog 54 = some 1 := by kernel_rfl
theorem tagg_54 : tagg Tryz.prog 54 = some false := by kernel_rfl
theorem srcOk_54 : srcOk Tryz.prog 54 = true := by kernel_rfl
theorem zok_54 : zok Tryz.prog 68 3 = true := by kernel_rfl
theorem tsh_59 : tsh Tryz.prog 59 = some (.slice 63 4 40) := by kernel_rfl
theorem tsize_59 : tsize Tryz.prog 59 = some 1 := by kernel_rfl
theorem tagg_59 : tagg Tryz.prog 59 = some false := by kernel_rfl
theorem srcOk_59 : srcOk Tryz.prog 59 = true := by kernel_rfl
theorem zok_59 : zok Tryz.prog 63 4 = true := by kernel_rfl
theorem tsh_61 : tsh Tryz.prog 61 = some .struct := by kernel_rfl
theorem tzero_61 : tzero Tryz.prog 61 = some [.str [], .str [], .int .u32 0, .bool false, .bool false, .nils, .nils, .nils] := by kernel_rfl
theorem tplaces_61 : tplaces Tryz.prog 61 = some [(0, 1), (1, 1), (2, 1), (3, 1), (4, 1), (5, 1), (6, 1), (7, 1)] := by kernel_rfl
theorem tfield_61_0 : tfield Tryz.prog 61 0 = some (0, 1, false) := by kernel_rfl
theorem tfield_61_1 : tfield Tryz.prog 61 1 = some (1, 1, false) := by kernel_rfl
theorem tfield_61_2 : tfield Tryz.prog 61 2 = some (2, 1, false) := by kernel_rfl
theorem tfield_61_3 : tfield Tryz.prog 61 3 = some (3, 1, false) := by kernel_rfl
theorem tfield_61_4 : tfield Tryz.prog 61 4 = some (4, 1, false) := by kernel_rfl
theorem tfield_61_5 : tfield Tryz.prog 61 5 = some (5, 1, false) := by kernel_rfl
theorem tfield_61_6 : tfield Tryz.prog 61 6 = some (6, 1, false) := by kernel_rfl
theorem tfield_61_7 : tfield Tryz.prog 61 7 = some (7, 1, false) := by kernel_rfl
theorem tsh_63 : tsh Tryz.prog 63 = some .struct := by kernel_rfl
theorem tsize_63 : tsize Tryz.prog 63 = some 4 := by kernel_rfl
theorem tagg_63 : tagg Tryz.prog 63 = some true := by kernel_rfl
theorem tzero_63 : tzero Tryz.prog 63 = some [.str [], .bool false, .int .i64 0, .int .i64 0] := by kernel_rfl
theorem tplaces_63 : tplaces Tryz.prog 63 = some [(0, 1), (1, 1), (2, 1), (3, 1)] := by kernel_rfl
theorem tfield_63_0 : tfield Tryz.prog 63 0 = some (0, 1, false) := by kernel_rfl
theorem tfield_63_1 : tfield Tryz.prog 63 1 = some (1, 1, false) := by kernel_rfl
theorem tfield_63_2 : tfield Tryz.prog 63 2 = some (2, 1, false) := by kernel_rfl
theorem tfield_63_3 : tfield Tryz.prog 63 3 = some (3, 1, false) := by kernel_rfl
theorem tsh_65 : tsh Tryz.prog 65 = some .struct := by kernel_rfl
theorem tsize_65 : tsize Tryz.prog 65 = some 5 := by kernel_rfl
theorem tzero_65 : tzero Tryz.prog 65 = some [.str [], .bool false, .int .i64 0, .int .i64 0, .int .i64 0] := by kernel_rfl
theorem tplaces_65 : tplaces Tryz.prog 65 = some [(0, 4), (4, 1)] := by kernel_rfl
theorem tfield_65_0 : tfield Tryz.prog 65 0 = some (0, 4, true) := by kernel_rfl
theorem tfield_65_1 : tfield Tryz.prog 65 1 = some (4, 1, false) := by kernel_rfl
theorem tsh_68 : tsh Tryz.prog 68 = some .struct := by kernel_rfl
theorem tsize_68 : tsize Tryz.prog 68 = some 3 := by kernel_rfl
theorem tagg_68 : tagg Tryz.prog 68 = some true := by kernel_rfl
theorem tzero_68 : tzero Tryz.prog 68 = some [.bool false, .int .i64 0, .nils] := by kernel_rfl
theorem tplaces_68 : tplaces Tryz.prog 68 = some [(0, 1), (1, 1), (2, 1)] := by kernel_rfl
theorem tfield_68_0 : tfield Tryz.prog 68 0 = some (0, 1, false) := by kernel_rfl
theorem tfield_68_2 : tfield Tryz.prog 68 2 = some (2, 1, false) := by kernel_rfl
theorem tsh_70 : tsh Tryz.prog 70 = some (.ptr 73) := by kernel_rfl
theorem tsize_70 : tsize Tryz.prog 70 = some 1 := by kernel_rfl
theorem tagg_70 : tagg Tryz.prog 70 = some false := by kernel_rfl
theorem tsh_71 : tsh Tryz.prog 71 = some (.slice 5 1 1) := by kernel_rfl
theorem tsize_71 : tsize Tryz.prog 71 = some 1 := by kernel_rfl
theorem tagg_71 : tagg Tryz.prog 71 = some false := by kernel_rfl
theorem srcOk_71 : srcOk Tryz.prog 71 = true := by kernel_rfl
theorem zok_71 : zok Tryz.prog 5 1 = true := by kernel_rfl
theorem tsize_73 : tsize Tryz.prog 73 = some 2 := by kernel_rfl
theorem tzero_73 : tzero Tryz.prog 73 = some [.nilp, .nils] := by kernel_rfl
theorem tfield_73_0 : tfield Tryz.prog 73 0 = some (0, 1, false) := by kernel_rfl
theorem tfield_73_1 : tfield Tryz.prog 73 1 = some (1, 1, false) := by kernel_rfl
theorem tsh_75 : tsh Tryz.prog 75 = some .iface := by kernel_rfl
theorem tagg_75 : tagg Tryz.prog 75 = some false := by kernel_rfl
theorem tsh_85 : tsh Tryz.prog 85 = some (.slice 9 1 16) := by kernel_rfl
theorem tsize_85 : tsize Tryz.prog 85 = some 1 := by kernel_rfl
theorem tagg_85 : tagg Tryz.prog 85 = some false := by kernel_rfl
theorem tzero_85 : tzero Tryz.prog 85 = some [.nils] := by kernel_rfl
theorem srcOk_85 : srcOk Tryz.prog 85 = true := by kernel_rfl
theorem zok_85 : zok Tryz.prog 9 1 = true := by kernel_rfl
theorem tsh_88 : tsh Tryz.prog 88 = some (.slice 3 1 8) := by kernel_rfl
theorem srcOk_88 : srcOk Tryz.prog 88 = true := by kernel_rfl
theorem zok_88 : zok Tryz.prog 3 1 = true := by kernel_rfl
theorem tsh_91 : tsh Tryz.prog 91 = some (.slice 38 2 16) := by kernel_rfl
theorem tsize_91 : tsize Tryz.prog 91 = some 1 := by kernel_rfl
theorem tagg_91 : tagg Tryz.prog 91 = some false := by kernel_rfl
theorem srcOk_91 : srcOk Tryz.prog 91 = true := by kernel_rfl
theorem zok_91 : zok Tryz.prog 38 2 = true := by kernel_rfl
theorem tsh_93 : tsh Tryz.prog 93 = some .struct := by kernel_rfl
theorem tsize_93 : tsize Tryz.prog 93 = some 10 := by kernel_rfl
theorem tzero_93 : tzero Tryz.prog 93 = some [.str [], .int .i64 0, .int .i64 0, .int .i64 0, .nils, .bool false, .int .i64 0, .nils, .nils, .bool false] := by kernel_rfl
theorem tplaces_93 : tplaces Tryz.prog 93 = some [(0, 1), (1, 1), (2, 1), (3, 1), (4, 1), (5, 3), (8, 1), (9, 1)] := by kernel_rfl
theorem tfield_93_0 : tfield Tryz.prog 93 0 = some (0, 1, false) := by kernel_rfl
theorem tfield_93_1 : tfield Tryz.prog 93 1 = some (1, 1, false) := by kernel_rfl
theorem tfield_93_2 : tfield Tryz.prog 93 2 = some (2, 1, false) := by kernel_rfl
theorem tfield_93_3 : tfield Tryz.prog 93 3 = some (3, 1, false) := by kernel_rfl
theorem tfield_93_4 : tfield Tryz.prog 93 4 = some (4, 1, false) := by kernel_rfl
theorem tfield_93_5 : tfield Tryz.prog 93 5 = some (5, 3, true) := by kernel_rfl
theorem tfield_93_6 : tfield Tryz.prog 93 6 = some (8, 1, false) := by kernel_rfl
theorem tfield_93_7 : tfield Tryz.prog 93 7 = some (9, 1, false) := by kernel_rfl
theorem tsh_114 : tsh Tryz.prog 114 = some (.int .u64) := by kernel_rfl
theorem tsh_118 : tsh Tryz.prog 118 = some (.int .u64) := by kernel_rfl
theorem tfield_120_0 : tfield Tryz.prog 120 0 = some (0, 1, false) := by kernel_rfl
theorem tfield_120_1 : tfield Tryz.prog 120 1 = some (1, 1, false) := by kernel_rfl
theorem tfield_120_2 : tfield Tryz.prog 120 2 = some (2, 1, false) := by kernel_rfl
theorem tsh_121 : tsh Tryz.prog 121 = some (.array 9 120 3) := by kernel_rfl
theorem tsh_122 : tsh Tryz.prog 122 = some (.ptr 5) := by kernel_rfl
theorem tsh_144 : tsh Tryz.prog 144 = some .struct := by kernel_rfl
theorem tzero_144 : tzero Tryz.prog 144 = some [.nils, .str [], .str [], .str [], .str [], .int .u32 0, .int .u32 0, .int .u32 0, .int .u32 0, .int .u32 0, .int .i64 0] := by kernel_rfl
theorem tplaces_144 : tplaces Tryz.prog 144 = some [(0, 1), (1, 1), (2, 8), (10, 1)] := by kernel_rfl
theorem tfield_144_0 : tfield Tryz.prog 144 0 = some (0, 1, false) := by kernel_rfl
theorem tfield_144_1 : tfield Tryz.prog 144 1 = some (1, 1, false) := by kernel_rfl
theorem tfield_144_2 : tfield Tryz.prog 144 2 = some (2, 8, true) := by kernel_rfl
theorem tsh_146 : tsh Tryz.prog 146 = some (.map 21 1) := by kernel_rfl
theorem tsh_148 : tsh Tryz.prog 148 = some .upt := by kernel_rfl
theorem tsh_187 : tsh Tryz.prog 187 = some (.int .i64) := by kernel_rfl
theorem tsh_189 : tsh Tryz.prog 189 = some (.ptr 210) := by kernel_rfl
theorem tsh_210 : tsh Tryz.prog 210 = some .struct := by kernel_rfl
theorem tzero_210 : tzero Tryz.prog 210 = some [.str [], .str [], .nili] := by kernel_rfl
theorem tplaces_210 : tplaces Tryz.prog 210 = some [(0, 1), (1, 1), (2, 1)] := by kernel_rfl
theorem hasBody_7 : hasBody Tryz.prog 7 = true := by kernel_rfl
theorem hasBody_8 : hasBody Tryz.prog 8 = true := by kernel_rfl
theorem hasBody_9 : hasBody Tryz.prog 9 = true := by kernel_rfl
theorem hasBody_10 : hasBody Tryz.prog 10 = true := by kernel_rfl
theorem hasBody_11 : hasBody Tryz.prog 11 = true := by kernel_rfl
theorem hasBody_12 : hasBody Tryz.prog 12 = true := by kernel_rfl
theorem hasBody_19 : hasBody Tryz.prog 19 = true := by kernel_rfl
theorem hasBody_20 : hasBody Tryz.prog 20 = true := by kernel_rfl
theorem hasBody_21 : hasBody Tryz.prog 21 = true := by kernel_rfl
theorem hasBody_23 : hasBody Tryz.prog 23 = true := by kernel_rfl
theorem hasBody_24 : hasBody Tryz.prog 24 = true := by kernel_rfl
theorem hasBody_25 : hasBody Tryz.prog 25 = true := by kernel_rfl
theorem hasBody_26 : hasBody Tryz.prog 26 = true := by kernel_rfl
theorem hasBody_29 : hasBody Tryz.prog 29 = true := by kernel_rfl
theorem hasBody_32 : hasBody Tryz.prog 32 = true := by kernel_rfl
theorem hasBody_33 : hasBody Tryz.prog 33 = true := by kernel_rfl
theorem hasBody_39 : hasBody Tryz.prog 39 = true := by kernel_rfl
theorem hasBody_40 : hasBody Tryz.prog 40 = true := by kernel_rfl
theorem hasBody_41 : hasBody Tryz.prog 41 = true := by kernel_rfl
theorem hasBody_42 : hasBody Tryz.prog 42 = true := by kernel_rfl
theorem hasBody_43 : hasBody Tryz.prog 43 = true := by kernel_rfl
theorem hasBody_44 : hasBody Tryz.prog 44 = true := by kernel_rfl
theorem hasBody_45 : hasBody Tryz.prog 45 = true := by kernel_rfl
theorem hasBody_46 : hasBody Tryz.prog 46 = true := by kernel_rfl
theorem hasBody_47 : hasBody Tryz.prog 47 = true := by kernel_rfl
theorem hasBody_48 : hasBody Tryz.prog 48 = true := by kernel_rfl
theorem hasBody_49 : hasBody Tryz.prog 49 = true := by kernel_rfl
theorem hasBody_50 : hasBody Tryz.prog 50 = true := by kernel_rfl
theorem hasBody_51 : hasBody Tryz.prog 51 = true := by kernel_rfl
theorem hasBody_53 : hasBody Tryz.prog 53 = true := by kernel_rfl
theorem hasBody_55 : hasBody Tryz.prog 55 = true := by kernel_rfl
theorem hasBody_66 : hasBody Tryz.prog 66 = true := by kernel_rfl
theorem hasBody_67 : hasBody Tryz.prog 67 = true := by kernel_rfl
theorem hasBody_68 : hasBody Tryz.prog 68 = true := by kernel_rfl
theorem hasBody_69 : hasBody Tryz.prog 69 = true := by kernel_rfl
theorem hasBody_70 : hasBody Tryz.prog 70 = true := by kernel_rfl
theorem isNZ_71 : isNZ Tryz.prog 71 = none := by kernel_rfl
theorem isExt_71 : isExt Tryz.prog 71 = none := by kernel_rfl
theorem hasBody_71 : hasBody Tryz.prog 71 = false := by kernel_rfl
theorem hasBody_73 : hasBody Tryz.prog 73 = true := by kernel_rfl
theorem hasBody_74 : hasBody Tryz.prog 74 = true := by kernel_rfl
theorem hasBody_75 : hasBody Tryz.prog 75 = true := by kernel_rfl
theorem hasBody_76 : hasBody Tryz.prog 76 = true := by kernel_rfl
theorem hasBody_77 : hasBody Tryz.prog 77 = true := by kernel_rfl
theorem hasBody_80 : hasBody Tryz.prog 80 = true := by kernel_rfl
theorem hasBody_84 : hasBody Tryz.prog 84 = true := by kernel_rfl
theorem isNZ_87 : isNZ Tryz.prog 87 = none := by kernel_rfl
theorem isExt_87 : isExt Tryz.prog 87 = some .same := by kernel_rfl
theorem hasBody_87 : hasBody Tryz.prog 87 = false := by kernel_rfl
theorem hasBody_105 : hasBody Tryz.prog 105 = true := by kernel_rfl
theorem hasBody_106 : hasBody Tryz.prog 106 = true := by kernel_rfl
theorem hasBody_107 : hasBody Tryz.prog 107 = true := by kernel_rfl
theorem hasBody_108 : hasBody Tryz.prog 108 = true := by kernel_rfl
theorem hasBody_109 : hasBody Tryz.prog 109 = true := by kernel_rfl
theorem hasBody_110 : hasBody Tryz.prog 110 = true := by kernel_rfl
theorem hasBody_111 : hasBody Tryz.prog 111 = true := by kernel_rfl
theorem hasBody_114 : hasBody Tryz.prog 114 = true := by kernel_rfl
theorem hasBody_116 : hasBody Tryz.prog 116 = true := by kernel_rfl
theorem hasBody_129 : hasBody Tryz.prog 129 = true := by kernel_rfl
theorem hasBody_130 : hasBody Tryz.prog 130 = true := by kernel_rfl
theorem hasBody_132 : hasBody Tryz.prog 132 = true := by kernel_rfl
theorem hasBody_133 : hasBody Tryz.prog 133 = true := by kernel_rfl
theorem hasBody_142 : hasBody Tryz.prog 142 = true := by kernel_rfl
theorem hasBody_153 : hasBody Tryz.prog 153 = true := by kernel_rfl
theorem hasBody_155 : hasBody Tryz.prog 155 = true := by kernel_rfl
theorem hasBody_159 : hasBody Tryz.prog 159 = true := by kernel_rfl
theorem hasBody_160 : hasBody Tryz.prog 160 = true := by kernel_rfl
theorem hasBody_161 : hasBody Tryz.prog 161 = true := by kernel_rfl
theorem isNZ_166 : isNZ Tryz.prog 166 = none := by kernel_rfl
theorem isExt_166 : isExt Tryz.prog 166 = some .idxB := by kernel_rfl
theorem hasBody_166 : hasBody Tryz.prog 166 = false := by kernel_rfl
theorem isNZ_169 : isNZ Tryz.prog 169 = none := by kernel_rfl
theorem isExt_169 : isExt Tryz.prog 169 = some .cntB := by kernel_rfl
theorem hasBody_169 : hasBody Tryz.prog 169 = false := by kernel_rfl
theorem glob_0 : decide (0 < Tryz.prog.globals.size) = true := by kernel_rfl
theorem glob_4 : decide (4 < Tryz.prog.globals.size) = true := by kernel_rfl
theorem glob_5 : decide (5 < Tryz.prog.globals.size) = true := by kernel_rfl
section
variable {H : Hp}
theorem conv_3_5 {kd n} : evConv Tryz.prog 3 5 (.int kd n) H = some (.int .u8 (IntKind.wrap .u8 n), H) := by simp only [evConv, tsh_3, tsh_5]
theorem conv_3_114 {kd n} : evConv Tryz.prog 3 114 (.int kd n) H = some (.int .u64 (IntKind.wrap .u64 n), H) := by simp only [evConv, tsh_3, tsh_114]
theorem conv_3_118 {kd n} : evConv Tryz.prog 3 118 (.int kd n) H = some (.int .u64 (IntKind.wrap .u64 n), H) := by simp only [evConv, tsh_3, tsh_118]
theorem conv_5_3 {kd n} : evConv Tryz.prog 5 3 (.int kd n) H = some (.int .i64 (IntKind.wrap .i64 n), H) := by simp only [evConv, tsh_5, tsh_3]
theorem conv_5_114 {kd n} : evConv Tryz.prog 5 114 (.int kd n) H = some (.int .u64 (IntKind.wrap .u64 n), H) := by simp only [evConv, tsh_5, tsh_114]
theorem conv_9_71 {s} : evConv Tryz.prog 9 71 (.str s) H = some (.slice H.length 0 s.length (.op 0), H ++ [.cells (s.map fun b => .int .u8 b.toNat) 5 (.op 0 true)]) := by simp only [evConv, tsh_9, tsh_71, tsh_5]
theorem conv_23_3 {kd n} : evConv Tryz.prog 23 3 (.int kd n) H = some (.int .i64 (IntKind.wrap .i64 n), H) := by simp only [evConv, tsh_23, tsh_3]
theorem conv_23_25 {kd n} : evConv Tryz.prog 23 25 (.int kd n) H = some (.int .u32 (IntKind.wrap .u32 n), H) := by simp only [evConv, tsh_23, tsh_25]
theorem conv_24_71 {s} : evConv Tryz.prog 24 71 (.str s) H = some (.slice H.length 0 s.length (.op 0), H ++ [.cells (s.map fun b => .int .u8 b.toNat) 5 (.op 0 true)]) := by simp only [evConv, tsh_24, tsh_71, tsh_5]
theorem conv_25_5 {kd n} : evConv Tryz.prog 25 5 (.int kd n) H = some (.int .u8 (IntKind.wrap .u8 n), H) := by simp only [evConv, tsh_25, tsh_5]
theorem conv_25_23 {kd n} : evConv Tryz.prog 25 23 (.int kd n) H = some (.int .u16 (IntKind.wrap .u16 n), H) := by simp only [evConv, tsh_25, tsh_23]
theorem conv_71_9 {p o n c} : evConv Tryz.prog 71 9 (.slice p o n c) H = (rd H p o n).bind fun c => (evConv.bytesOf c).map fun s => (.str s, H) := by simp only [evConv, tsh_71, tsh_9, tsh_5]
theorem conv_71_9n : evConv Tryz.prog 71 9 .nils H = some (.str [], H) := by simp only [evConv, tsh_71, tsh_9, tsh_5]
theorem conv_71_24 {p o n c} : evConv Tryz.prog 71 24 (.slice p o n c) H = (rd H p o n).bind fun c => (evConv.bytesOf c).map fun s => (.str s, H) := by simp only [evConv, tsh_71, tsh_24, tsh_5]
theorem conv_71_24n : evConv Tryz.prog 71 24 .nils H = some (.str [], H) := by simp only [evConv, tsh_71, tsh_24, tsh_5]
theorem conv_114_25 {kd n} : evConv Tryz.prog 114 25 (.int kd n) H = some (.int .u32 (IntKind.wrap .u32 n), H) := by simp only [evConv, tsh_114, tsh_25]
end
attribute [go_sem] tsh_3 tsize_3 tagg_3 tzero_3 tsize_4 tagg_4 tsh_5 tsize_5 tagg_5 tzero_5
attribute [go_sem] tsh_9 tsize_9 tagg_9 tzero_9 srcOk_9
attribute [go_sem] tsh_20 tsh_21 tsh_22 tsh_23 tsize_23 tagg_23 tsh_24 tsize_24 tagg_24 tsh_25 tsize_25 tagg_25 tsh_26 tsize_26 tagg_26
attribute [go_sem] tzero_26 srcOk_26 zok_26 tsize_28 tagg_28 tzero_28 tfield_28_0 tfield_28_1 tfield_28_2 tfield_28_3 tfield_28_4 tfield_28_5
attribute [go_sem] tsh_34 tsize_34 tagg_34 tzero_34 tplaces_34 tfield_34_0 tfield_34_1 tfield_34_2
attribute [go_sem] tsh_36 tsize_36 tagg_36 tzero_36 tplaces_36 eqg_36 tfield_36_1 tfield_36_3 tfield_36_4 tsh_38 tsize_38 tagg_38 tzero_38 tplaces_38 eqg_38 tfield_38_0 tfield_38_1 tsize_39 tagg_39 tzero_39
attribute [go_sem] tsh_54 tsize_54 tagg_54 srcOk_54 zok_54
attribute [go_sem] tsh_59 tsize_59 tagg_59 srcOk_59 zok_59 tsh_61 tzero_61 tplaces_61 tfield_61_0
attribute [go_sem] tfield_61_1 tfield_61_2 tfield_61_3 tfield_61_4 tfield_61_5 tfield_61_6 tfield_61_7 tsh_63 tsize_63 tagg_63 tzero_63 tplaces_63 tfield_63_0 tfield_63_1 tfield_63_2 tfield_63_3 tsh_65 tsize_65
attribute [go_sem] tzero_65 tplaces_65 tfield_65_0 tfield_65_1 tsh_68 tsize_68 tagg_68 tzero_68 tplaces_68 tfield_68_0 tfield_68_2 tsh_70 tsize_70 tagg_70
attribute [go_sem] tsh_71 tsize_71 tagg_71 srcOk_71 zok_71 tsize_73 tzero_73 tfield_73_0 tfield_73_1 tsh_75 tagg_75
attribute [go_sem] tsh_85
attribute [go_sem] tsize_85 tagg_85 tzero_85 srcOk_85 zok_85 tsh_88 srcOk_88 zok_88 tsh_91 tsize_91 tagg_91 srcOk_91 zok_91
attribute [go_sem] tsh_93 tsize_93 tzero_93 tplaces_93 tfield_93_0 tfield_93_1 tfield_93_2 tfield_93_3 tfield_93_4 tfield_93_5 tfield_93_6 tfield_93_7
attribute [go_sem] tsh_114 tsh_118 tfield_120_0 tfield_120_1 tfield_120_2
attribute [go_sem] tsh_121 tsh_122
attribute [go_sem] tsh_144
attribute [go_sem] tzero_144 tplaces_144 tfield_144_0 tfield_144_1 tfield_144_2 tsh_146 tsh_148
attribute [go_sem] tsh_187 tsh_189
attribute [go_sem] tsh_210 tzero_210 tplaces_210
attribute [go_sem] hasBody_7 hasBody_8 hasBody_9 hasBody_10 hasBody_11 hasBody_12 hasBody_19 hasBody_20 hasBody_21 hasBody_23 hasBody_24 hasBody_25 hasBody_26 hasBody_29 hasBody_32 hasBody_33
attribute [go_sem] hasBody_39 hasBody_40 hasBody_41 hasBody_42 hasBody_43 hasBody_44 hasBody_45 hasBody_46 hasBody_47 hasBody_48 hasBody_49 hasBody_50 hasBody_51 hasBody_53 hasBody_55 hasBody_66 hasBody_67 hasBody_68 hasBody_69 hasBody_70 isNZ_71 isExt_71 hasBody_71 hasBody_73
attribute [go_sem] hasBody_74 hasBody_75 hasBody_76 hasBody_77 hasBody_80 hasBody_84 isNZ_87 isExt_87 hasBody_87 hasBody_105 hasBody_106 hasBody_107 hasBody_108 hasBody_109 hasBody_110 hasBody_111
attribute [go_sem] hasBody_114 hasBody_116 hasBody_129 hasBody_130 hasBody_132 hasBody_133 hasBody_142
attribute [go_sem] hasBody_153 hasBody_155 hasBody_159 hasBody_160 hasBody_161 isNZ_166 isExt_166 hasBody_166 isNZ_169 isExt_169 hasBody_169
attribute [go_sem] glob_0 glob_4
attribute [go_sem] glob_5 conv_3_5 conv_3_114 conv_3_118 conv_5_3 conv_5_114 conv_9_71 conv_23_3 conv_23_25 conv_24_71 conv_25_5 conv_25_23 conv_71_9 conv_71_9n conv_71_24 conv_114_25
end Go.Proofs.YtdppgaphcmhffaaGreatDoor.V
namespace Go.Proofs.YtdppgaphcmhffaaGreatDoor.V
open Go Go.RowKit

inductive Ck where
 | b | i (k : IntKind) | s
section
variable {H : Type} {enc : TypeId × Value → H} {P : Program} {W : World} {base : Nat} {sp : Nat → Bool} {held : Bool}

theorem rowAt_le {P : Program} {fits : TypeId → Bool} {d : Nat} {e : TypeId} {cells off n : Nat} (h : rowAt P fits d e (cells / P.cellsOf e) off n = true) : off ≤ cells := by
 cases d with
 | zero => cases h
 | succ d =>
  simp only [rowAt] at h
  by_cases hs : P.cellsOf e = 0
  ·rw [if_pos hs] at h; cases h
  ·rw [if_neg hs] at h
   have hm := Nat.div_add_mod off (P.cellsOf e)
   have hlt := Nat.mod_lt off (Nat.pos_of_ne_zero hs)
   have hc := Nat.mul_div_le cells (P.cellsOf e)
   rw [Bool.or_eq_true, Bool.and_eq_true, Bool.and_eq_true, Bool.and_eq_true] at h
   obtain ⟨⟨h1, h2⟩, _⟩ | ⟨h1, _⟩ := h
   ·simp only [beq_iff_eq, decide_eq_true_eq] at h1 h2
    have : P.cellsOf e * (off / P.cellsOf e) ≤ P.cellsOf e * (cells / P.cellsOf e) := Nat.mul_le_mul_left _ (by omega)
    omega
   ·simp only [decide_eq_true_eq] at h1
    have : P.cellsOf e * (off / P.cellsOf e + 1) ≤ P.cellsOf e * (cells / P.cellsOf e) := Nat.mul_le_mul_left _ (by omega)
    rw [Nat.mul_add, Nat.mul_one] at this
    omega
theorem liesAt_le {P : Program} : ∀ {d : Nat} {e : TypeId} {cells off : Nat} {u : TypeId} {n : Nat}, liesAt P d e (cells / P.cellsOf e) off u n = true → off ≤ cells
 | 0, _, _, _, _, _, h => by cases h
 | d + 1, e, cells, off, u, n, h => by
  simp only [liesAt, Bool.or_eq_true] at h
  obtain h | h := h
  ·exact rowAt_le h
  ·split at h
   ·exact liesAt_le h
   ·cases h

def rows : List (List AV) → List AV := List.flatten

theorem ro_block {μ : Mu} {a : Addr} {cap : Nat} {rs : List AV} {vs : List Value} {row : TypeId} {cells : Nat} (hs : a.spot = none) (hv : concs μ rs = some vs) (hc : ∀ (j : Nat) (v : Value), vs[j]? = some v → W.cell? (a.add j) = some v)
  (hsh : W.shape? a.block = some (row, cells)) (hle : a.off ≤ cells) : BRel P μ W ⟨a.block, a.off, cap⟩ (.cells rs row .ro) := by
 unfold World.shape? at hsh
 split at hsh
 ·rename_i cc el fz hb
  simp only [Option.some.injEq, Prod.mk.injEq] at hsh
  obtain ⟨rfl, rfl⟩ := hsh
  have hcell : ∀ (j : Nat) (v : Value), vs[j]? = some v → cc[a.off + j]? = some v := by
   intro j v hj
   have h1 := hc j v hj
   have hblk : (a.add j).block = a.block := by unfold Addr.add; split <;> rfl
   have hsp : (a.add j).spot = none := by unfold Addr.add; split; exact hs; rfl
   have hoff : (a.add j).off = a.off + j := by unfold Addr.add; split; omega; rfl
   unfold World.cell? at h1
   rw [hblk, hb, hoff, hsp] at h1
   simpa using h1
  refine ⟨cc, fz, vs, hb, hv, ?_, hcell, trivial⟩
  rw [← concs_length hv]
  show a.off + vs.length ≤ cc.size
  by_cases hz : vs.length = 0
  ·omega
  ·have := hcell (vs.length - 1) vs[vs.length - 1] (List.getElem?_eq_getElem (by omega))
   have := (Array.getElem?_eq_some_iff.1 this).1
   omega
 ·cases hsh

def start (W : World) : Gh := ⟨(· < W.heap.size), W, fun _ => False, ([], false)⟩
theorem HRel.ro {g : Gh} {μ : Mu} {Hh : Hp} (h : HRel P g μ Hh W) (hno : ∀ x ∈ Hh, apart x = false) {l : Loc} {c : List AV} {e : TypeId} (hl : l.blk < W.heap.size) (hx : BRel P μ W l (.cells c e .ro)) :
  HRel P g (upd μ Hh.length l) (Hh ++ [.cells c e .ro]) W where
 dom := fun b l' e => by
  by_cases hb : b = Hh.length
  ·subst hb; simp
  ·rw [upd_other _ _ hb] at e
   have := h.dom b l' e
   simp; omega
 glob := fun i hi => by
  obtain ⟨c, hc⟩ := h.glob i hi
  exact ⟨c, h.le_upd _ _ _ hc⟩
 lt := fun b l' e => by
  by_cases hb : b = Hh.length
  ·subst hb; rw [upd_same] at e; cases e; exact hl
  ·rw [upd_other _ _ hb] at e; exact h.lt b l' e
 blk := fun b l' x e e' => by
  rw [get_snoc] at e'
  by_cases hb : b = Hh.length
  ·subst hb
   rw [upd_same] at e
   rw [if_pos rfl] at e'
   cases e; cases e'
   exact hx.mono (h.le_upd _) (fun _ => rfl)
  ·rw [upd_other _ _ hb] at e
   rw [if_neg hb] at e'
   exact (h.blk b l' x e e').mono (h.le_upd _) (fun _ => rfl)
 sep := fun b b' l1 l2 x x' hne e1 e2 hx1 hx2 hw hv => by
  exfalso
  rw [get_snoc] at hx1
  split at hx1
  ·cases hx1; cases hw
  ·rw [hno x (List.mem_of_getElem? hx1)] at hw; cases hw
 own := fun b l1 x e1 hx1 hw => by
  exfalso
  rw [get_snoc] at hx1
  split at hx1
  ·cases hx1; cases hw
  ·have := apart_w hw; rw [hno x (List.mem_of_getElem? hx1)] at this; cases this
 old := h.old
 os := h.os
 tape := h.tape
 output := h.output
 size := h.size
theorem start_below {μ : Mu} {Hh : Hp} {w' : World} (h : HRel P (start W) μ Hh w') : Below W.heap.size W w' :=
 ⟨h.os, h.tape, h.output, h.size, fun k hk => (h.old k hk).2⟩
theorem calls_of {f : FuncId} {args : List AV} {Hh : Hp} {q : AV × Hp × Ef} {g : Gh} {μ : Mu} {vs : List Value} (hf : hasBody P f = true) (h : callK P f args Hh (fun r => r = q)) (hr : HRel P g μ Hh W) (hv : concs μ args = some vs) :
  Calls P f vs.toArray W (fun e w' => ∃ μ' v', e = .returned v' ∧ Ok P g μ Hh q μ' v' w') := by
 obtain ⟨n, r, hn, rfl⟩ := h
 have hlt : f < P.funcs.size := by
  unfold hasBody at hf
  split at hf
  ·rename_i fn hfn; exact (Array.getElem?_eq_some_iff.1 hfn).1
  ·cases hf
 exact (evN_ok P n).fn f args Hh r hlt hn g μ W vs hr hv
end
end Go.Proofs.YtdppgaphcmhffaaGreatDoor.V
namespace Go.Proofs.YtdppgaphcmhffaaGreatDoor.V
open Go Go.RowKit

section
variable {H : Type} {enc : TypeId × Value → H} {P : Program} {W : World} {base : Nat} {sp : Nat → Bool} {held : Bool}

theorem var_block {n : String} {g : Nat} {cs : Array Value} (hg : P.globalNamed n = some g) (h : W.var? P n = some cs) : ∃ e fr, W.heap[g]? = some (.cells cs e fr) := by
 unfold World.var? at h
 rw [hg] at h
 simp only [Option.bind_some] at h
 split at h
 ·rename_i c e fr hb
  cases h
  exact ⟨e, fr, hb⟩
 ·cases h
theorem laid_block {μ : Mu} {g : Nat} {cs : Array Value} {e : TypeId} {fr : Nat × Nat} {vs : List AV} (hb : W.heap[g]? = some (.cells cs e fr)) (hv : concs μ vs = some cs.toList) : BRel P μ W ⟨g, 0, 0⟩ (.cells vs e .ro) := by
 refine ⟨cs, fr, cs.toList, hb, hv, ?_, fun i v hi => ?_, trivial⟩
 ·have := concs_length hv; simp only [Array.length_toList] at this; show 0 + vs.length ≤ _; omega
 ·simpa using hi

theorem shaped_size {n : Nat} (hn : P.globals.size = n) (h : W.ShapedOpen P) (hz : ((((begin P (fun _ _ => 0) default).world.heap)[n - 1]?).bind Obj.row?).isSome = true) : n ≤ W.heap.size := by
 by_cases h0 : n = 0
 ·omega
 ·obtain ⟨⟨z, t⟩, hx⟩ := Option.isSome_iff_exists.1 hz
  obtain ⟨cs, hcs, _⟩ := h.1 (n - 1) z t (by omega) hx
  have := (Array.getElem?_eq_some_iff.1 hcs).1
  omega

end
end Go.Proofs.YtdppgaphcmhffaaGreatDoor.V
namespace Go.Proofs.YtdppgaphcmhffaaGreatDoor.V
open Go

def hexD (n : Nat) : UInt8 := if n < 10 then UInt8.ofNat (48 + n) else UInt8.ofNat (87 + n)
def decP (n : Nat) : List UInt8 := if n < 10 then [hexD n] else decP (n / 10) ++ [hexD (n % 10)]
termination_by n
decreasing_by omega
theorem decP_len : ∀ (n : Nat), n < 100000 → (decP n).length ≤ 5 := by
 intro n h
 unfold decP
 split
 ·simp
 rw [List.length_append]
 unfold decP
 split
 ·simp
 rw [List.length_append]
 unfold decP
 split
 ·simp
 rw [List.length_append]
 unfold decP
 split
 ·simp
 rw [List.length_append]
 unfold decP
 rw [if_pos (by omega)]
 simp
theorem take_snoc {α : Type} {l : List α} {i : Nat} {a : α} (h : l[i]? = some a) : l.take (i + 1) = l.take i ++ [a] := by
 rw [List.take_add_one, h]; rfl
theorem all_take_succ {s : List UInt8} {i : Nat} {c : UInt8} {p : UInt8 → Bool} (h : s[i]? = some c) (ha : (s.take i).all p = true) (hc : p c = true) : (s.take (i + 1)).all p = true := by
 rw [take_snoc h, List.all_append, ha]; simp [hc]
theorem all_not {s : List UInt8} {i : Nat} {c : UInt8} {p : UInt8 → Bool} (h : s[i]? = some c) (hc : p c = false) : s.all p = false := by
 rw [List.all_eq_false]
 exact ⟨c, List.mem_of_getElem? h, by simp [hc]⟩
def fixd : ABlk → Bool
 | .cells _ e (.op _ _) => !(e == 5)
 | .dead => false
 | _ => true
def Keep (T : Hp) (j : Nat) (T' : Hp) : Prop := T.length ≤ T'.length ∧ ∀ (i : Nat) x, i ≠ j → T[i]? = some x → fixd x = true → T'[i]? = some x
theorem Keep.refl (T : Hp) (j : Nat) : Keep T j T := ⟨Nat.le_refl _, fun i x _ h _ => h⟩
theorem Keep.trans {T T' T'' : Hp} {j : Nat} (h : Keep T j T') (h' : Keep T' j T'') : Keep T j T'' :=
 ⟨Nat.le_trans h.1 h'.1, fun i x hi hx hf => h'.2 i x hi (h.2 i x hi hx hf) hf⟩
def Cl (n j : Nat) (e : Ef) : Prop := ∃ x, e.es = some x ∧ n ≤ x ∧ x ≤ n + j ∧ low n e.ws = none
theorem Cl.cln {n j : Nat} {e : Ef} (h : Cl n j e) : clean n e := by
 obtain ⟨x, h1, h2, h3, h4⟩ := h
 exact ⟨by rw [h1]; simp [low, h2], h4⟩
theorem omin_some {x : Nat} {o : Option Nat} {n : Nat} (hx : n ≤ x) (ho : low n o = none) : ∃ y, omin (some x) o = some y ∧ n ≤ y ∧ y ≤ x := by
 cases o with
 | none => exact ⟨x, rfl, hx, Nat.le_refl _⟩
 | some z =>
  refine ⟨min x z, rfl, ?_, Nat.min_le_left _ _⟩
  have : n ≤ z := by rw [low_w] at ho; exact ho
  omega
theorem omin_comm (a b : Option Nat) : omin a b = omin b a := by
 cases a <;> cases b <;> simp [omin, Nat.min_comm]
theorem Cl.andl {n j : Nat} {a b : Ef} (h : Cl n j a) (h' : clean n b) : Cl n j (a.and b) := by
 obtain ⟨x, h1, h2, h3, h4⟩ := h
 obtain ⟨y, y1, y2, y3⟩ := omin_some (o := b.es) h2 h'.1
 exact ⟨y, by show omin a.es b.es = _; rw [h1, y1], y2, by omega, low_omin h4 h'.2⟩
theorem Cl.andr {n j : Nat} {a b : Ef} (h : clean n a) (h' : Cl n j b) : Cl n j (a.and b) := by
 obtain ⟨x, h1, h2, h3, h4⟩ := h'
 obtain ⟨y, y1, y2, y3⟩ := omin_some (o := a.es) h2 h.1
 exact ⟨y, by show omin a.es b.es = _; rw [omin_comm, h1, y1], y2, by omega, low_omin h.2 h4⟩
theorem low_low {n m : Nat} {o : Option Nat} (h : low n o = none) : low n (low m o) = none := by
 cases o with
 | none => rfl
 | some x =>
  rw [low_w] at h
  by_cases hm : m ≤ x
  ·simp [low, hm]
  ·simp [low, hm, h]
theorem Cl.leave {n j m : Nat} {e : Ef} (h : Cl n j e) (hj : n + j < m) : ∃ e', Cl n j e' ∧ ∀ v H, leave m v H e = (v, H, e') := by
 obtain ⟨x, h1, h2, h3, h4⟩ := h
 have h5 : low m e.es = some x := by
  have : ¬ m ≤ x := by omega
  rw [h1]; simp [low, this]
 refine ⟨⟨low m e.es, low m e.ws⟩, ⟨x, h5, h2, h3, low_low h4⟩, fun v H => ?_⟩
 unfold V.leave
 rw [if_neg (by rw [h5]; simp)]
theorem lt_of_get {T : Hp} {j : Nat} {x : ABlk} (h : T[j]? = some x) : j < T.length := (List.getElem?_eq_some_iff.1 h).1
theorem set_get {T : Hp} {j : Nat} {x : ABlk} (h : T[j]? = some x) : T.set j x = T := by
 apply List.ext_getElem?
 intro i
 by_cases hi : j = i
 ·subst hi; rw [List.getElem?_set_self (lt_of_get h), h]
 ·rw [List.getElem?_set_ne hi]
theorem lse {T l : Hp} {j : Nat} {v : ABlk} : (T.set j v ++ l)[T.length]? = l[0]? := by
 rw [List.getElem?_append_right (by simp)]; simp
attribute [go_sem] lse
theorem low_sm {n m : Nat} (h : m < n) : low n (some m) = some m := by
 have : ¬ n ≤ m := by omega
 simp [low, this]
theorem leave_st {n : Nat} {v : AV} {H : Hp} {e : Ef} {x : Nat} (h : low n e.es = some x) : leave n v H e = (v, H, ⟨some x, low n e.ws⟩) := by
 unfold leave; rw [if_neg (by rw [h]; simp), h]
theorem get_app {T l : Hp} {i : Nat} {x : ABlk} (h : T[i]? = some x) : (T ++ l)[i]? = some x := hp_old h
theorem sh_l {kd : IntKind} {a b : Int} (h : decide (b < 0) = false) : evShift .shl kd a b = some (.int kd (kd.wrap (a * 2 ^ (min b.toNat kd.bits)))) := by
 have : ¬ b < 0 := by simpa using h
 simp only [evShift]; rw [if_neg this]
theorem bits_i64 : IntKind.bits .i64 = 64 := rfl
theorem bits_u64 : IntKind.bits .u64 = 64 := rfl
theorem bits_u8 : IntKind.bits .u8 = 8 := rfl
theorem bits_u16 : IntKind.bits .u16 = 16 := rfl
theorem bits_u32 : IntKind.bits .u32 = 32 := rfl
attribute [go_sem] sh_l bits_i64 bits_u64 bits_u8 bits_u16 bits_u32

theorem ofNat_le {n m : Nat} (h : n ≤ m) (hm : m < 256) : (UInt8.ofNat n).toNat = n := by
 have : n < 256 := by omega
 exact UInt8.toNat_ofNat_of_lt' (by simpa using this)
theorem bind_ixs {P : Program} {t : TypeId} {b o n : Nat} {c : Cap} {kd : IntKind} {i : Int} {f : AV → Prop} (h : (match tsh P t with | some (.slice _ _ _) => true | _ => false) = true) :
  bindK (evIndexAddr P t (.slice b o n c) (.int kd i)) f = bindK (tsh P t) fun sh => (0 ≤ i ∧ i < n) ∧ f (.ptr b (o + i.toNat * shZ sh)) := by
 split at h
 ·rename_i e z w he
  simp only [evIndexAddr, he, bindK_ite, bindK_some, shZ]
 ·cases h
theorem bind_ixa {P : Program} {t : TypeId} {b o : Nat} {kd : IntKind} {i : Int} {f : AV → Prop} (h : (match tsh P t with | some (.array _ _ _) => true | _ => false) = true) :
  bindK (evIndexAddr P t (.ptr b o) (.int kd i)) f = bindK (tsh P t) fun sh => (0 ≤ i ∧ i < (shA sh).1) ∧ f (.ptr b (o + i.toNat * (shA sh).2)) := by
 split at h
 ·rename_i e z w he
  simp only [evIndexAddr, he, bindK_ite, bindK_some, shA]
 ·cases h
attribute [go_sem ↓] bind_ixs bind_ixa
theorem bytesOf_n : evConv.bytesOf [] = some [] := rfl
theorem bytesOf_c {b : UInt8} {r : List AV} : evConv.bytesOf (.int .u8 (b.toNat : Int) :: r) = (evConv.bytesOf r).map (b :: ·) := by
 show (evConv.bytesOf r).map (UInt8.ofNat ((b.toNat : Int)).toNat :: ·) = _
 simp
attribute [go_sem] bytesOf_n bytesOf_c
theorem and_ww {a : Nat} : Ef.and ⟨none, some a⟩ ⟨none, some a⟩ = ⟨none, some a⟩ := by simp [Ef.and, omin]
attribute [go_sem] and_ww
theorem callK_exP {α : Type} {P : Program} {f : FuncId} {args : List AV} {H : Hp} (p : α → Prop) (g : α → AV × Hp × Ef) (h : callK P f args H (fun q => ∃ b, p b ∧ q = g b)) : ∃ b, p b ∧ ∀ k, callK P f args H k = k (g b) := by
 obtain ⟨r, hr⟩ := callK_ex (fun r : {b : α // p b} => g r.1) (callK_mono h (fun q ⟨b, hb, hq⟩ => ⟨⟨b, hb⟩, hq⟩))
 exact ⟨r.1, r.2, hr⟩
def cutQ (P : Program) (Q : Ex → St → Prop) (k : List It) (I : St → Prop) : Ex → St → Prop
 | .normal, s => I s
 | .exit i, s => leaveTo P Q i k s
 | ex, s => contQ P Q k ex s
section
variable {P : Program} {Q : Ex → St → Prop} {k : List It} {σ : List AV} {H : Hp} {e : Ef} {I : St → Prop}
instance [hc : Calm Q] : Calm (cutQ P Q k I) := ⟨fun s h => hc.no s ((contQ_pan (P := P) (Q := Q) k s) ▸ h)⟩
theorem cutQ_p : cutQ P Q k I .pan ⟨σ, H, e⟩ = Q .pan ⟨σ, H, e⟩ := contQ_pan k _
theorem cutQ_n : cutQ P Q k I .normal ⟨σ, H, e⟩ = I ⟨σ, H, e⟩ := rfl
theorem cutQ_e {i : Nat} : cutQ P Q k I (.exit i) ⟨σ, H, e⟩ = leaveTo P Q i k ⟨σ, H, e⟩ := rfl
theorem cutQ_r : cutQ P Q k I .ret ⟨σ, H, e⟩ = Q .ret ⟨σ, H, e⟩ := contQ_ret k _
attribute [go_sem ↓] cutQ_n cutQ_e cutQ_r cutQ_p
theorem go_cut {c : Code} {s : St} (I : St → Prop) (h : go P (cutQ P Q k I) [.code c] s) (h2 : ∀ s, I s → go P Q k s) : go P Q (.code c :: k) s := by
 refine goCode_mono (Q := cutQ P Q k I) h (fun ex s hq => ?_)
 cases ex with
 | normal => exact h2 s hq
 | exit i => exact hq
 | goto l => exact hq
 | ret => exact hq
 | pan => exact hq
theorem condK_cut {b : Bool} {a a' : Code} {s : St} (I : St → Prop) (h : b = true → go P (cutQ P Q k I) [.code a] s) (h' : b = false → go P (cutQ P Q k I) [.code a'] s) (h2 : ∀ s, I s → go P Q k s) :
  condK (some (.bool b)) (go P Q (.code a :: k) s) (go P Q (.code a' :: k) s) :=
 condK_split (fun hb => go_cut I (h hb) h2) (fun hb => go_cut I (h' hb) h2)
end
attribute [local irreducible] go goOps goD opK callK callT stepK leaveTo nextK
theorem add_ok {a b : List UInt8} {m n : Nat} (ha : a.length ≤ m) (hb : b.length ≤ n) (h : m + n ≤ 9223372036854775807) : evStr .add a b = some (.str (a ++ b)) := by
 rw [s_add, if_pos (by show _ ≤ 9223372036854775807; omega)]
theorem u8_beq (a b : UInt8) : ((a.toNat : Int) == (b.toNat : Int)) = decide (a = b) := by
 rw [Bool.eq_iff_iff]; simp only [beq_iff_eq, decide_eq_true_eq]
 constructor
 ·intro h; exact UInt8.toNat.inj (by omega)
 ·rintro rfl; rfl
theorem quiet_g1 {v : AV} {H : Hp} {x : ABlk} {e : Ef} : quiet (v, H ++ [x], e) H = false := by simp [quiet]
theorem quiet_g2 {v : AV} {H T : Hp} {x : ABlk} {e : Ef} : quiet (v, H ++ (T ++ [x]), e) (H ++ T) = false := by simp [quiet]
attribute [go_sem] quiet_g1 quiet_g2
def GBuf (n : Nat) (T : Hp) (v : AV) (e z len : Nat) (cs : List AV) : Prop := (v = .nils ∧ cs = [] ∧ len = 0) ∨ (0 < len ∧ cs.length = len * z ∧ ∃ m, v = .slice (n + m) 0 len (.op 0) ∧ T[m]? = some (.cells cs e (.op 0 false)))
theorem GBuf.scl {n : Nat} {T : Hp} {v : AV} {e z len : Nat} {cs : List AV} (h : GBuf n T v e z len cs) : scal v = true := by
 obtain ⟨rfl, _⟩ | ⟨_, _, m, rfl, _⟩ := h <;> rfl
theorem GBuf.more {n : Nat} {T : Hp} {v : AV} {e z len : Nat} {cs : List AV} (h : GBuf n T v e z len cs) (l : Hp) : GBuf n (T ++ l) v e z len cs := by
 obtain h | ⟨h1, h2, m, rfl, hm⟩ := h
 ·exact .inl h
 ·exact .inr ⟨h1, h2, m, rfl, get_app hm⟩
theorem GBuf.set {n : Nat} {T : Hp} {v : AV} {e z len : Nat} {cs : List AV} (h : GBuf n T v e z len cs) {j : Nat} {c : List AV} {e' : TypeId} {x : ABlk} (hj : T[j]? = some (.cells c e' .rw)) : GBuf n (T.set j x) v e z len cs := by
 obtain h | ⟨h1, h2, m, rfl, hm⟩ := h
 ·exact .inl h
 ·refine .inr ⟨h1, h2, m, rfl, ?_⟩
  have : j ≠ m := by rintro rfl; rw [hj] at hm; cases hm
  rw [List.getElem?_set_ne this]; exact hm
theorem GBuf.app2 {P : Program} {H T : Hp} {v : AV} {e z b len : Nat} {cs : List AV} (h : GBuf H.length T v e z len cs) (hz : decide (0 < z) = true) (hk : zok P e z = true) (xs : List AV) (q : Nat) (hq : 0 < q) (hx : xs.length = q * z) (hsc : xs.all V.scal = true) (hf : fits (len + q) b = true) :
  ∃ v' T2 e2, (∀ kk, stepK (appTo P (.slice e z b) v (xs, q) (H ++ T)) kk = kk (v', H ++ T2, e2)) ∧ T2.length = T.length + 1 ∧ clean H.length e2 ∧ (∀ (i : Nat) x, T[i]? = some x → (∀ c fz st, x ≠ .cells c e (.op fz st)) → T2[i]? = some x) ∧ GBuf H.length T2 v' e z (len + q) (cs ++ xs) ∧ flat v' = false ∧ vcells v' = [v'] ∧ ∀ v e, quiet (v, H ++ T2, e) (H ++ T) = false := by
 have hz' : 0 < z := by simpa using hz
 obtain ⟨rfl, rfl, rfl⟩ | ⟨hpos, hcl, m, rfl, hm⟩ := h
 ·refine ⟨.slice (H.length + T.length) 0 q (.op 0), T ++ [.cells xs e (.op 0 false)], z0, fun kk => ?_, by simp, ⟨rfl, rfl⟩, fun i x hx _ => get_app hx, .inr ⟨by omega, by simpa using hx, T.length, by simp, by simp⟩, by simp only [flat], rfl, fun v e => by simp [quiet]⟩
  rw [appTo_nils hz hk]
  have hd : decide (q = 0) = false := by simp; omega
  have hf : fits q b = true := by simpa using hf
  simp only [hd, guardK_ft, hf, true_and, List.length_append, List.append_assoc]
 ·have hlt := lt_of_get hm
  have hg : (H ++ T)[H.length + m]? = some (.cells cs e (.op 0 false)) := by rw [hp_new, hm]
  refine ⟨.slice (H.length + T.length) 0 (len + q) (.op 0), T.set m .dead ++ [.cells (cs ++ xs) e (.op 0 false)], ⟨none, some (H.length + m)⟩, fun kk => ?_, by simp, by simp [clean, low], fun i x hx hf => ?_, .inr ⟨by omega, by rw [List.length_append, hcl, hx, Nat.add_mul], T.length, rfl, by simp⟩, by simp only [flat], rfl, fun v e => by simp [quiet]⟩
  ·rw [appTo_op hz hk, hg]
   simp only [bindK_some, appO_c]
   have hqz : 0 < q * z := Nat.mul_pos hq hz'
   have hd : decide (0 + (len + q) * z ≤ cs.length) = false := by
    rw [hcl, Nat.add_mul]; simp; omega
   have ht : (List.drop 0 cs).take (len * z) ++ xs = cs ++ xs := by
    rw [List.drop_zero, List.take_of_length_le (by rw [hcl]; exact Nat.le_refl _)]
   have hle : 0 + len * z ≤ cs.length := by rw [hcl]; omega
   rw [hd, guardK_ft]
   simp only [ht, hf, hsc, hle, hp_set, List.length_append, List.append_assoc, Nat.sub_self, Nat.zero_le, true_and, and_true, Nat.zero_mul]
  ·have hne : m ≠ i := by
    rintro rfl
    rw [hm] at hx; cases hx; exact absurd rfl (hf _ _ _)
   rw [get_app (x := x)]
   rw [List.getElem?_set_ne hne]; exact hx
theorem drop_at {α : Type} {s : List α} {i : Nat} {c : α} (h : s[i]? = some c) : s.drop i = c :: s.drop (i + 1) := by
 obtain ⟨hi, rfl⟩ := List.getElem?_eq_some_iff.1 h
 exact List.drop_eq_getElem_cons hi
def strs (R : List (List UInt8)) : List AV := R.map .str
attribute [go_sem] Nat.mul_one
theorem strs_len {R : List (List UInt8)} : (strs R).length = R.length := by simp [strs]
theorem strs_snoc {A : List (List UInt8)} {k : Nat} {q : List UInt8} (h : A[k]? = some q) : strs (A.take k) ++ [.str q] = strs (A.take (k + 1)) := by
 rw [take_snoc h]; simp [strs]
theorem strs_at {A : List (List UInt8)} {i : Nat} {p : List UInt8} (h : A[i]? = some p) : (strs A)[i]? = some (.str p) := by simp [strs, h]
theorem strs_ld {A : List (List UInt8)} {i : Nat} {p : List UInt8} (h : A[i]? = some p) (e : TypeId) (k : Kd) : ldC i 1 false (.cells (strs A) e k) = some (.str p) := by
 rw [ldC_f]; exact strs_at h
end Go.Proofs.YtdppgaphcmhffaaGreatDoor.V
namespace Go.Proofs.YtdppgaphcmhffaaGreatDoor.V
open Go
attribute [local irreducible] go goOps goD opK callK callT stepK leaveTo nextK

def labF : Nat → List UInt8 → Option (List (List UInt8))
 | 0, _ => none
 | _ + 1, [] => none
 | n + 1, k :: t => if k.toNat = 0 then (if t.length = 0 then some [] else none) else if 63 < k.toNat ∨ t.length < k.toNat then none else (labF n (t.drop k.toNat)).map (t.take k.toNat :: ·)
theorem labF_more : ∀ (n m : Nat) (s : List UInt8), s.length < n → s.length < m → labF n s = labF m s
 | 0, _, s, h, _ => by omega
 | _ + 1, 0, s, _, h => by omega
 | n + 1, m + 1, [], _, _ => rfl
 | n + 1, m + 1, k :: t, h, h' => by
  simp only [labF]
  simp only [List.length_cons] at h h'
  rw [labF_more n m (t.drop k.toNat) (by rw [List.length_drop]; omega) (by rw [List.length_drop]; omega)]
def lab (s : List UInt8) : Option (List (List UInt8)) := labF (s.length + 1) s
theorem lab_nil : lab [] = none := rfl
theorem lab_cons (k : UInt8) (t : List UInt8) : lab (k :: t) = if k.toNat = 0 then (if t.length = 0 then some [] else none) else if 63 < k.toNat ∨ t.length < k.toNat then none else (lab (t.drop k.toNat)).map (t.take k.toNat :: ·) := by
 unfold lab
 rw [List.length_cons, labF, labF_more (t.length + 1) _ (t.drop k.toNat) (by rw [List.length_drop]; omega) (Nat.lt_succ_self _)]
def nm (s : List UInt8) : Option (List (List UInt8)) := if 255 < s.length then none else lab s
def tot (L : List (List UInt8)) : Nat := (L.map fun l => 1 + l.length).sum
def posn : Nat → List (List UInt8) → List Nat
 | _, [] => []
 | a, l :: L => a :: posn (a + (1 + l.length)) L
def posA (L : List (List UInt8)) : List AV := (posn 0 L).map fun n => .int .i64 (n : Nat)
theorem tot_snoc (L : List (List UInt8)) (l : List UInt8) : tot (L ++ [l]) = tot L + (1 + l.length) := by simp [tot]
theorem posn_snoc : ∀ (L : List (List UInt8)) (a : Nat) (l : List UInt8), posn a (L ++ [l]) = posn a L ++ [a + tot L]
 | [], a, l => by simp [posn, tot]
 | m :: L, a, l => by
  have := posn_snoc L (a + (1 + m.length)) l
  simp only [List.cons_append, posn, this]
  simp [tot]; omega
theorem posA_snoc (L : List (List UInt8)) (l : List UInt8) : posA (L ++ [l]) = posA L ++ [.int .i64 (tot L : Nat)] := by
 simp only [posA, posn_snoc, List.map_append, List.map_cons, List.map_nil, Nat.zero_add]
theorem lab_step {s : List UInt8} {i : Nat} {c : UInt8} {L1 : List (List UInt8)} (hc : s[i]? = some c) (hl : lab s = (lab (s.drop i)).map (L1 ++ ·)) :
  (c.toNat = 0 → lab s = if i + 1 = s.length then some L1 else none) ∧ (63 < c.toNat → lab s = none) ∧
  (c.toNat ≠ 0 → c.toNat ≤ 63 → (s.length < i + (1 + c.toNat) ∧ lab s = none) ∨ (i + (1 + c.toNat) ≤ s.length ∧ ((s.drop (i + 1)).take c.toNat).length = c.toNat ∧ lab s = (lab (s.drop (i + (1 + c.toNat)))).map ((L1 ++ [(s.drop (i + 1)).take c.toNat]) ++ ·))) := by
 have hi : i < s.length := (List.getElem?_eq_some_iff.1 hc).1
 rw [drop_at hc, lab_cons] at hl
 refine ⟨fun h0 => ?_, fun h => ?_, fun h0 h1 => ?_⟩
 ·rw [if_pos h0] at hl
  rw [hl, List.length_drop]
  by_cases h : i + 1 = s.length
  ·rw [if_pos h, if_pos (by omega)]; simp
  ·rw [if_neg h, if_neg (by omega)]; rfl
 ·rw [if_neg (by omega), if_pos (.inl h)] at hl
  exact hl
 ·rw [if_neg h0, List.length_drop] at hl
  by_cases h : s.length < i + (1 + c.toNat)
  ·rw [if_pos (by omega)] at hl
   exact .inl ⟨h, hl⟩
  ·rw [if_neg (by omega)] at hl
   refine .inr ⟨by omega, by rw [List.length_take, List.length_drop]; omega, ?_⟩
   rw [hl, List.drop_drop, show i + 1 + c.toNat = i + (1 + c.toNat) by omega, Option.map_map]
   congr 1
   funext x
   simp
theorem lab_end {s : List UInt8} {i : Nat} {L1 : List (List UInt8)} (hi : i = s.length) (hl : lab s = (lab (s.drop i)).map (L1 ++ ·)) : lab s = none := by
 rw [hl, hi, List.drop_length, lab_nil]; rfl

theorem bslice_int (n : Int) (H : Hp) : evBuildSlice Tryz.prog 88 1 [(0, .int .i64 n)] H = some (.slice H.length 0 1 (.ex 1), H ++ [.cells [.int .i64 n] 3 .rw]) := by
 simp only [evBuildSlice, tsh_88, tzero_3, Option.bind_some]
 rfl

set_option maxRecDepth 20000 in
theorem name_starts (s : List UInt8) (H) (hs : s.length ≤ maxI) : ∃ b : AV × Hp, (∀ L, nm s = some L → GBuf H.length b.2 b.1 3 1 L.length (posA L)) ∧
  ∀ k, callK Tryz.prog 39 [.str s] H k = k (.tuple [b.1, .bool (nm s).isSome], H ++ b.2, z0) := by
 refine callK_exP (fun b : AV × Hp => ∀ L, nm s = some L → GBuf H.length b.2 b.1 3 1 L.length (posA L)) (fun b => (.tuple [b.1, .bool (nm s).isSome], H ++ b.2, z0)) ?_
 refine callK_start (n := 40) (rs := [.tmp 2, .tmp 3]) Tryz.func39 rfl rfl rfl ?_
 intro σ hl ha
 have h0 := ha 0 (by simp)
 clear ha
 have hs : s.length ≤ 9223372036854775807 := hs
 simp only [Option.getD_some, List.getElem?_cons_zero, List.getElem?_cons_succ] at h0
 by_cases hbig : 255 < s.length
 ·have g : decide ((s.length : Int) > 255) = true := by simp; omega
  have hn : nm s = none := if_pos hbig
  simp only [go_sem, simprocAttr, hl, h0, g]
  exact ⟨(.nils, []), by simp [hn], by simp [hn]⟩
 have g : decide ((s.length : Int) > 255) = false := by simp; omega
 have hnm : nm s = lab s := if_neg hbig
 simp only [go_sem, simprocAttr, hl, h0, g]
 rw [hnm]
 refine go_rounds (fun n st => ∃ σ i L1 v T e, n + i = 400 ∧ i < 320 ∧ i = tot L1 ∧ ((i ≤ s.length ∧ lab s = (lab (s.drop i)).map (L1 ++ ·)) ∨ (s.length < i ∧ lab s = none)) ∧ L1.length ≤ i ∧ GBuf H.length T v 3 1 L1.length (posA L1) ∧ st = ⟨σ, H ++ T, e⟩ ∧ clean H.length e ∧ σ.length = 40 ∧ fr σ 0 = .str s ∧ fr σ 4 = v ∧ fr σ 5 = .int .i64 (i : Nat)) 400
  ⟨_, 0, [], .nils, [], _, rfl, by omega, rfl, .inl ⟨Nat.zero_le _, by simp⟩, Nat.le_refl _, .inl ⟨rfl, rfl, rfl⟩, by rw [List.append_nil], ⟨rfl, rfl⟩, by simp only [go_sem, simprocAttr, hl], by simp only [go_sem, simprocAttr, hl, h0], by simp only [go_sem, simprocAttr, hl], by simp only [go_sem, simprocAttr, hl]⟩ ?_
 rintro n _ ⟨σ, i, L1, v, T, e, hn, hi, hit, hm, hLi, hv, rfl, he, hl, h0, h4, h5⟩
 have fin : ∀ b : Bool, (∀ L, lab s = some L → L = L1 ∧ b = true) → (lab s = none → b = false) →
   ∃ b1 : AV × Hp, (∀ L, lab s = some L → GBuf H.length b1.2 b1.1 3 1 L.length (posA L)) ∧ leave H.length (.tuple [v, .bool b]) (H ++ T) e = (.tuple [b1.1, .bool (lab s).isSome], H ++ b1.2, z0) := by
  intro b hb1 hb2
  have hb : b = (lab s).isSome := by
   cases hs : lab s with
   | none => exact hb2 hs
   | some L => exact (hb1 L hs).2
  subst hb
  obtain ⟨rfl, h2, h3⟩ | ⟨h1, h2, m, rfl, h3⟩ := hv
  ·refine ⟨(.nils, []), fun L hL => .inl ?_, ?_⟩
   ·obtain ⟨rfl, _⟩ := hb1 L hL
    exact ⟨rfl, h2, h3⟩
   ·rw [leave_flat rfl he, List.append_nil]
  ·refine ⟨(.slice (H.length + m) 0 L1.length (.op 0), T), fun L hL => .inr ?_, ?_⟩
   ·obtain ⟨rfl, _⟩ := hb1 L hL
    exact ⟨h1, h2, m, rfl, h3⟩
   ·rw [leave_keep (by simp [flat, flats]) he]
 by_cases hlt : i < s.length
 ·obtain ⟨c, hc⟩ : ∃ c, s[i]? = some c := ⟨_, List.getElem?_eq_getElem hlt⟩
  have hlb : lab s = (lab (s.drop i)).map (L1 ++ ·) := by
   rcases hm with ⟨_, h⟩ | ⟨h, _⟩
   ·exact h
   ·omega
  obtain ⟨s0, s1, s2⟩ := lab_step hc hlb
  have g0 : decide ((i : Int) < (s.length : Int)) = true := by simp; omega
  have hcl := c.toNat_lt
  by_cases hz : c.toNat = 0
  ·have g1 : ((c.toNat : Int) != 0) = false := by simp; omega
   have w1 : IntKind.i64.wrap ((s.length : Int) - 1) = (s.length : Int) - 1 := by rw [wrap_i64 (by omega)]
   simp only [go_sem, simprocAttr, hl, h0, h4, h5, g0, hc, hlt, g1, w1]
   refine fin _ (fun L hL => ?_) (fun hL => ?_)
   ·rw [s0 hz] at hL
    split at hL
    ·rename_i h; cases hL; exact ⟨rfl, by simp; omega⟩
    ·cases hL
   ·rw [s0 hz] at hL
    split at hL
    ·cases hL
    ·rename_i h; simp; omega
  ·have g1 : ((c.toNat : Int) != 0) = true := by simp; omega
   by_cases hb : 63 < c.toNat
   ·have g2 : decide ((c.toNat : Int) > 63) = true := by simp; omega
    have hN := s1 hb
    simp only [go_sem, simprocAttr, hl, h0, h4, h5, g0, hc, hlt, g1, g2, he]
    exact ⟨(.nils, []), by simp [hN], by simp [hN]⟩
   ·have g2 : decide ((c.toNat : Int) > 63) = false := by simp; omega
    have w0 : IntKind.i64.wrap (c.toNat : Int) = (c.toNat : Int) := by rw [wrap_i64 (by omega)]
    have w1 : IntKind.i64.wrap (1 + (c.toNat : Int)) = ((1 + c.toNat : Nat) : Int) := by rw [wrap_i64 (by omega)]; omega
    have w2 : IntKind.i64.wrap ((i : Int) + ((1 + c.toNat : Nat) : Int)) = ((i + (1 + c.toNat) : Nat) : Int) := by rw [wrap_i64 (by omega)]; omega
    have hbs := bslice_int (i : Nat)
    obtain ⟨v', T2, e2, happ, _, hcl2, _, hv3, _, _, _⟩ := (hv.more [.cells [.int .i64 (i : Nat)] 3 .rw]).app2 (P := Tryz.prog) (b := 8) (by decide) zok_88 [.int .i64 (i : Nat)] 1 (by decide) rfl rfl (by simp only [fits, decide_eq_true_eq]; omega)
    simp only [go_sem, simprocAttr, hl, h0, h4, h5, g0, hc, hlt, g1, g2, w0, w1, w2, hbs, happ]
    obtain ⟨ll, hll, hm'⟩ : ∃ l : List UInt8, l.length = c.toNat ∧ ((i + (1 + c.toNat) ≤ s.length ∧ lab s = (lab (s.drop (i + (1 + c.toNat)))).map ((L1 ++ [l]) ++ ·)) ∨ (s.length < i + (1 + c.toNat) ∧ lab s = none)) := by
     rcases s2 hz (by omega) with h | ⟨h1, h2, h3⟩
     ·exact ⟨List.replicate c.toNat 0, by simp, .inr h⟩
     ·exact ⟨_, h2, .inl ⟨h1, h3⟩⟩
    rw [show posA L1 ++ [.int .i64 (i : Nat)] = posA (L1 ++ [ll]) by rw [posA_snoc, hit]] at hv3
    refine ⟨n - (1 + c.toNat), by omega, _, i + (1 + c.toNat), L1 ++ [ll], v', T2, _, by omega, by omega, by rw [tot_snoc, hll, hit], hm', by simp; omega, by simpa using hv3, rfl, by simp only [go_sem, simprocAttr, he, hcl2], by simp only [go_sem, simprocAttr, hl], by simp only [go_sem, simprocAttr, hl, h0], by simp only [go_sem, simprocAttr, hl], by simp only [go_sem, simprocAttr, hl]⟩
 ·have g0 : decide ((i : Int) < (s.length : Int)) = false := by simp; omega
  have hN : lab s = none := by
   rcases hm with ⟨h, h'⟩ | ⟨_, h⟩
   ·exact lab_end (by omega) h'
   ·exact h
  have w1 : IntKind.i64.wrap ((s.length : Int) - 1) = (s.length : Int) - 1 := by rw [wrap_i64 (by omega)]
  simp only [go_sem, simprocAttr, hl, h0, h4, h5, hlt, w1]
  refine fin _ (fun L hL => by rw [hN] at hL; cases hL) (fun _ => by simp; omega)

set_option maxRecDepth 20000 in
theorem name_Check (s : List UInt8) (H k) (hs : s.length ≤ maxI) : callK Tryz.prog 19 [.str s] H k = k (.int .i64 (if (nm s).isSome then 0 else 11), H, z0) := by
 obtain ⟨b, _, hb⟩ := name_starts s H hs
 refine callK_eq (r := (.int .i64 (if (nm s).isSome then 0 else 11), H, z0)) ?_ k
 refine callK_start (n := 12) (rs := [.tmp 2]) Tryz.func19 rfl rfl rfl ?_
 intro σ hl ha
 have h0 := ha 0 (by simp)
 clear ha
 simp only [Option.getD_some, List.getElem?_cons_zero, List.getElem?_cons_succ] at h0
 cases h : (nm s).isSome <;> rw [h] at hb <;> simp only [go_sem, simprocAttr, hl, h0, hb]
end Go.Proofs.YtdppgaphcmhffaaGreatDoor.V
namespace Go.Proofs.YtdppgaphcmhffaaGreatDoor.V
open Go
attribute [local irreducible] go goOps goD opK callK callT stepK leaveTo nextK

theorem bslice_str (p : List UInt8) (H : Hp) : evBuildSlice Tryz.prog 85 1 [(0, .str p)] H = some (.slice H.length 0 1 (.ex 1), H ++ [.cells [.str p] 9 .rw]) := by
 simp only [evBuildSlice, tsh_85, tzero_9, Option.bind_some]
 rfl

def lowB (c : UInt8) : UInt8 := if 65 ≤ c.toNat ∧ c.toNat ≤ 90 then c + 32 else c
def lowS (s : List UInt8) : List UInt8 := s.map lowB
theorem lowB_or {c : UInt8} (h : 65 ≤ c.toNat ∧ c.toNat ≤ 90) : IntKind.u8.wrap (BitVec.ofInt 8 (c.toNat : Int) ||| 32#8).toNat = ((lowB c).toNat : Int) := by
 have key : ∀ c : Fin 256, (65 ≤ c.val ∧ c.val ≤ 90) → IntKind.u8.wrap (BitVec.ofInt 8 (c.val : Int) ||| 32#8).toNat = ((lowB (UInt8.ofNat c.val)).toNat : Int) := by decide +kernel
 have := key ⟨c.toNat, c.toNat_lt⟩ h
 simpa using this
theorem lowB_not {c : UInt8} (h : ¬ (65 ≤ c.toNat ∧ c.toNat ≤ 90)) : lowB c = c := if_neg h

theorem i_orT {kd : IntKind} {a b : Int} : evInt .or kd a b = some (.int kd (kd.wrap (BitVec.ofInt kd.bits a ||| BitVec.ofInt kd.bits b).toNat)) := rfl

set_option maxRecDepth 20000 in
theorem name_low (c : UInt8) (H k) : callK Tryz.prog 41 [.int .u8 c.toNat] H k = k (.int .u8 (lowB c).toNat, H, z0) := by
 refine callK_eq (r := (.int .u8 (lowB c).toNat, H, z0)) ?_ k
 refine callK_start (n := 12) (rs := [.tmp 2]) Tryz.func41 rfl rfl rfl ?_
 intro σ hl ha
 have h0 := ha 0 (by simp)
 clear ha
 simp only [Option.getD_some, List.getElem?_cons_zero, List.getElem?_cons_succ] at h0
 have hcl := c.toNat_lt
 by_cases h1 : 65 ≤ c.toNat
 ·have g1 : decide ((65 : Int) ≤ (c.toNat : Int)) = true := by simp; omega
  by_cases h2 : c.toNat ≤ 90
  ·have g2 : decide ((c.toNat : Int) ≤ 90) = true := by simp; omega
   have hor := lowB_or ⟨h1, h2⟩
   simp only [go_sem, simprocAttr, hl, h0, g1, g2, i_orT]
   exact congrArg (fun n => (AV.int .u8 n, H, z0)) hor
  ·have g2 : decide ((c.toNat : Int) ≤ 90) = false := by simp; omega
   have hno := lowB_not (c := c) (by omega)
   simp only [go_sem, simprocAttr, hl, h0, g1, g2, hno]
 ·have g1 : decide ((65 : Int) ≤ (c.toNat : Int)) = false := by simp; omega
  have hno := lowB_not (c := c) (by omega)
  simp only [go_sem, simprocAttr, hl, h0, g1, hno]

theorem u8s_at {s : List UInt8} {i : Nat} {c : UInt8} (h : s[i]? = some c) : (u8s s)[i]? = some (.int .u8 c.toNat) := by simp [u8s, h]
theorem u8s_ld {s : List UInt8} {i n : Nat} {c : UInt8} {e : TypeId} {k : Kd} (h : s[i]? = some c) : ldC i n false (.cells (u8s s) e k) = some (.int .u8 c.toNat) := u8s_at h
theorem u8s_st {s : List UInt8} {i : Nat} {c d : UInt8} (h : s[i]? = some c) : splice (u8s s) i [.int .u8 d.toNat] = u8s (s.set i d) := by
 have hi : i < s.length := (List.getElem?_eq_some_iff.1 h).1
 unfold splice u8s
 rw [List.set_eq_take_append_cons_drop, if_pos hi]
 simp [List.map_take, List.map_drop]
def lowTo (i : Nat) (s : List UInt8) : List UInt8 := lowS (s.take i) ++ s.drop i
theorem lowTo_len (i : Nat) (s : List UInt8) : (lowTo i s).length = s.length := by simp [lowTo, lowS]; omega
theorem lowTo_at {i : Nat} {s : List UInt8} {c : UInt8} (h : s[i]? = some c) : (lowTo i s)[i]? = some c := by
 have hi : i < s.length := (List.getElem?_eq_some_iff.1 h).1
 unfold lowTo lowS
 rw [List.getElem?_append_right (by simp; omega)]
 simp; rw [show min i s.length = i by omega, Nat.sub_self, Nat.add_zero]; exact h
theorem lowTo_step {i : Nat} {s : List UInt8} {c : UInt8} (h : s[i]? = some c) : (lowTo i s).set i (lowB c) = lowTo (i + 1) s := by
 have hi : i < s.length := (List.getElem?_eq_some_iff.1 h).1
 unfold lowTo lowS
 rw [take_snoc h, drop_at h, List.map_append]
 have hl : (List.map lowB (s.take i)).length = i := by simp; omega
 rw [List.set_append_right _ _ (by omega), hl, Nat.sub_self]
 simp
theorem lowTo_end {i : Nat} {s : List UInt8} (h : s.length ≤ i) : lowTo i s = lowS s := by
 unfold lowTo
 rw [List.take_of_length_le h, List.drop_eq_nil_of_le h, List.append_nil]
theorem rdC_u8s {s : List UInt8} {e : TypeId} {k : Kd} {n : Nat} (h : s.length = n) : rdC 0 n (.cells (u8s s) e k) = some (u8s s) := by
 rw [rdC_c, if_pos (by rw [u8s_len]; omega), List.drop_zero, List.take_of_length_le (by rw [u8s_len]; omega)]
theorem u8s_fold (s : List UInt8) : (s.map fun b => AV.int .u8 (b.toNat : Int)) = u8s s := rfl

set_option maxRecDepth 20000 in
theorem name_Fold (s : List UInt8) (H k) (hs : s.length ≤ maxI) : callK Tryz.prog 21 [.str s] H k = k (.str (lowS s), H, z0) := by
 refine callK_eq (r := (.str (lowS s), H, z0)) ?_ k
 refine callK_start (n := 23) (rs := [.tmp 2]) Tryz.func21 rfl rfl rfl ?_
 intro σ hl ha
 have h0 := ha 0 (by simp)
 clear ha
 have hs : s.length ≤ 9223372036854775807 := hs
 simp only [Option.getD_some, List.getElem?_cons_zero, List.getElem?_cons_succ] at h0
 simp only [go_sem, simprocAttr, hl, h0, u8s_fold]
 refine go_rounds (fun n st => ∃ σ i e, n + i = s.length ∧ st = ⟨σ, H ++ [.cells (u8s (lowTo i s)) 5 (.op 0 true)], e⟩ ∧ clean H.length e ∧ σ.length = 23 ∧ fr σ 3 = .slice H.length 0 s.length (.op 0) ∧ fr σ 8 = .slice H.length 0 s.length (.op 0) ∧ fr σ 9 = .int .i64 (s.length : Nat) ∧ fr σ 10 = .int .i64 (i : Nat)) s.length
  ⟨_, 0, _, rfl, rfl, ⟨rfl, rfl⟩, by simp only [go_sem, simprocAttr, hl], by simp only [go_sem, simprocAttr, hl], by simp only [go_sem, simprocAttr, hl], by simp only [go_sem, simprocAttr, hl], by simp only [go_sem, simprocAttr, hl]⟩ ?_
 rintro n _ ⟨σ, i, e, hn, rfl, he, hl, h3, h8, h9, h10⟩
 by_cases hlt : i < s.length
 ·obtain ⟨c, hc⟩ : ∃ c, s[i]? = some c := ⟨_, List.getElem?_eq_getElem hlt⟩
  have hw := wrap_succ (show i < 9223372036854775807 by omega)
  have hlo := fun H k => name_low c H k
  have hla := lowTo_at hc
  have hld := fun (e : TypeId) (k : Kd) => u8s_ld (n := 1) (e := e) (k := k) hla
  have hst := u8s_st (d := lowB c) hla
  rw [lowTo_step hc] at hst
  have hle : i + 1 ≤ (lowTo i s).length := by rw [lowTo_len]; omega
  simp only [go_sem, simprocAttr, hl, h3, h8, h9, h10, hlt, hw, hlo, hld, hst, hle, u8s_len, canWr]
  exact ⟨n - 1, by omega, _, i + 1, _, by omega, rfl, by simp only [go_sem, simprocAttr, he], by simp only [go_sem, simprocAttr, hl], by simp only [go_sem, simprocAttr, hl, h3], by simp only [go_sem, simprocAttr, hl, h8], by simp only [go_sem, simprocAttr, hl, h9], by simp only [go_sem, simprocAttr, hl]⟩
 ·have hend := lowTo_end (s := s) (i := i) (by omega)
  have hrd := fun (e : TypeId) (k : Kd) => rdC_u8s (s := lowS s) (e := e) (k := k) (n := s.length) (by simp [lowS])
  have hcv := conv_u8s (lowS s)
  simp only [go_sem, simprocAttr, hl, h3, h8, h9, h10, hlt, hend, hrd, hcv, he]

end Go.Proofs.YtdppgaphcmhffaaGreatDoor.V
namespace Go.Proofs.YtdppgaphcmhffaaGreatDoor.V
open Go
attribute [local irreducible] go goOps goD opK callK callT stepK leaveTo nextK

def Rd (H : Hp) (v : AV) (bs : List UInt8) : Prop := (v = .nils ∧ bs = []) ∨
 ∃ b o c pre post e k, v = .slice b o bs.length c ∧ pre.length = o ∧ H[b]? = some (.cells (pre ++ (u8s bs ++ post)) e k) ∧ ((∃ n, c = .ex n ∧ bs.length ≤ n) ∨ (c = .op o ∧ e = 5 ∧ ∃ fz st, k = .op fz st))
def Rv (H : Hp) (v : AV) (bs : List UInt8) : Prop := Rd H v bs ∨ ∃ b, v = .slice b 0 0 (.op 0) ∧ H[b]? = some .void ∧ bs = []
theorem Rd.old {H : Hp} {v : AV} {bs : List UInt8} (h : Rd H v bs) (l : Hp) : Rd (H ++ l) v bs := by
 obtain h | ⟨b, o, c, pre, post, e, k, h1, h2, h3, h4⟩ := h
 ·exact .inl h
 ·exact .inr ⟨b, o, c, pre, post, e, k, h1, h2, hp_old h3, h4⟩
theorem Rv.old {H : Hp} {v : AV} {bs : List UInt8} (h : Rv H v bs) (l : Hp) : Rv (H ++ l) v bs := by
 obtain h | ⟨b, h1, h2, h3⟩ := h
 ·exact .inl (h.old l)
 ·exact .inr ⟨b, h1, hp_old h2, h3⟩
theorem Rd.v {H : Hp} {v : AV} {bs : List UInt8} (h : Rd H v bs) : Rv H v bs := .inl h
theorem Rd.scl {H : Hp} {v : AV} {bs : List UInt8} (h : Rd H v bs) : scal v = true := by
 obtain ⟨rfl, rfl⟩ | ⟨b, o, c, pre, post, e, k, rfl, h2, h3, h4⟩ := h <;> rfl
theorem Rv.len {H : Hp} {v : AV} {bs : List UInt8} (h : Rv H v bs) (H' : Hp) : evLen Tryz.prog 71 v H' = some (.int .i64 bs.length) := by
 obtain (⟨rfl, rfl⟩ | ⟨b, o, c, pre, post, e, k, rfl, h2, h3, h4⟩) | ⟨b, rfl, h2, rfl⟩ := h <;> simp only [evLen, tsh_71] <;> rfl
theorem Rv.at {H : Hp} {v : AV} {bs : List UInt8} (h : Rv H v bs) {i : Nat} {c : UInt8} (hc : bs[i]? = some c) :
  ∃ b j row e k, evIndexAddr Tryz.prog 71 v (.int .i64 (i : Nat)) = some (.ptr b j) ∧ (∀ l : Hp, (H ++ l)[b]? = some (.cells row e k)) ∧ H[b]? = some (.cells row e k) ∧ ldC j 1 false (.cells row e k) = some (.int .u8 c.toNat) := by
 have hi : i < bs.length := (List.getElem?_eq_some_iff.1 hc).1
 obtain (⟨rfl, rfl⟩ | ⟨b, o, cc, pre, post, e, k, rfl, h2, h3, h4⟩) | ⟨b, rfl, h2, rfl⟩ := h
 ·simp at hi
 ·refine ⟨b, o + i, _, e, k, ?_, fun l => hp_old h3, h3, ?_⟩
  ·simp only [evIndexAddr, tsh_71]
   rw [if_pos (by omega)]
   simp
  ·rw [ldC_f, ← h2, List.getElem?_append_right (by omega), Nat.add_sub_cancel_left, List.getElem?_append_left (by rw [u8s_len]; exact hi)]
   exact u8s_at hc
 ·simp at hi
theorem u8s_mid {pre post : List AV} {bs : List UInt8} {lo hi : Nat} (h1 : lo ≤ hi) (h2 : hi ≤ bs.length) : pre ++ (u8s bs ++ post) = (pre ++ u8s (bs.take lo)) ++ (u8s ((bs.drop lo).take (hi - lo)) ++ (u8s (bs.drop hi) ++ post)) := by
 have : bs = bs.take lo ++ ((bs.drop lo).take (hi - lo) ++ bs.drop hi) := by
  have e : bs.drop hi = (bs.drop lo).drop (hi - lo) := by rw [List.drop_drop]; congr 1; omega
  rw [e, List.take_append_drop, List.take_append_drop]
 conv => lhs; rw [this]
 simp only [u8s_app, List.append_assoc]
theorem Rd.sl {H : Hp} {v : AV} {bs : List UInt8} (h : Rd H v bs) {lo hi : Nat} (h1 : lo ≤ hi) (h2 : hi ≤ bs.length) :
  ∃ y L, (∀ kk, slK Tryz.prog 71 v (some (.int .i64 (lo : Nat))) (some (.int .i64 (hi : Nat))) none H kk = kk (y, H ++ L, z0)) ∧ Rv (H ++ L) y ((bs.drop lo).take (hi - lo)) := by
 have b1 : (0 : Int) ≤ (hi : Nat) := by omega
 have b2 : (0 : Int) ≤ (lo : Nat) := by omega
 have b3 : ((lo : Nat) : Int) ≤ (hi : Nat) := by omega
 obtain ⟨rfl, rfl⟩ | ⟨b, o, c, pre, post, e, k, rfl, ho, hb, hc⟩ := h
 ·have : hi = 0 := by simpa using h2
  subst this
  have : lo = 0 := by omega
  subst this
  refine ⟨.nils, [], fun kk => ?_, .inl (.inl ⟨rfl, rfl⟩)⟩
  simp only [go_sem, simprocAttr, List.append_nil]
 ·have hmid := u8s_mid (pre := pre) (post := post) h1 h2
  have hlen : ((bs.drop lo).take (hi - lo)).length = hi - lo := by rw [List.length_take, List.length_drop]; omega
  have hpl : (pre ++ u8s (bs.take lo)).length = o + lo := by rw [List.length_append, u8s_len, List.length_take, ho]; omega
  have hrow : (pre ++ (u8s bs ++ post)).length = o + (bs.length + post.length) := by rw [List.length_append, List.length_append, u8s_len, ho]
  have hb0 := hb
  rw [hmid] at hb
  obtain ⟨n, rfl, hn⟩ | ⟨rfl, rfl, fz, st, rfl⟩ := hc
  ·have c1 : hi ≤ n := by omega
   by_cases hq : n = lo
   ·refine ⟨.slice b o (hi - lo) (.ex (n - lo)), [], fun kk => ?_, .inl (.inr ⟨b, o, _, pre, u8s (bs.take lo) ++ (u8s (bs.drop hi) ++ post), e, k, by rw [hlen], ho, ?_, .inl ⟨_, rfl, by rw [hlen]; omega⟩⟩)⟩
    ·simp only [go_sem, simprocAttr, b1, b2, b3, c1, hq, List.append_nil]
     simp [show lo ≤ hi from h1, show hi ≤ lo by omega]
    ·have : (bs.drop lo).take (hi - lo) = [] := by rw [show hi - lo = 0 by omega, List.take_zero]
     rw [this] at hb ⊢
     simpa [u8s] using hb
   ·refine ⟨.slice b (o + lo) (hi - lo) (.ex (n - lo)), [], fun kk => ?_, .inl (.inr ⟨b, o + lo, _, pre ++ u8s (bs.take lo), u8s (bs.drop hi) ++ post, e, k, by rw [hlen], hpl, by rw [List.append_nil]; exact hb, .inl ⟨_, rfl, by rw [hlen]; omega⟩⟩)⟩
    simp only [go_sem, simprocAttr, b1, b2, b3, c1, hq, List.append_nil]
  ·have hrule : ∀ kk, slK Tryz.prog 71 (.slice b o bs.length (.op o)) (some (.int .i64 (lo : Nat))) (some (.int .i64 (hi : Nat))) none H kk = guardK (.bool (decide (lo = 0 ∨ lo < bs.length + post.length))) true (kk (.slice b (o + lo) (hi - lo) (.op (o + lo)), H, z0)) (lo = hi ∧ kk (.slice H.length 0 0 (.op 0), H ++ [.void], z0)) := by
    intro kk
    rw [slK_op (by rw [tsh_71]; rfl), tsh_71, bindK_some, hb0, bindK_some, knC_c, if_pos ⟨rfl, by decide, by omega⟩, bindK_some, bnd_lh, hrow, Nat.div_one, Nat.add_sub_cancel_left]
    simp only [Int.toNat_natCast, shZ_s, Nat.mul_one]
    have q1 : ((0 : Int) ≤ (hi : Nat) ∧ ((hi : Nat) : Int) ≤ ((bs.length + post.length : Nat) : Int)) = True := eq_true ⟨b1, by omega⟩
    have q2 : ((0 : Int) ≤ (lo : Nat) ∧ ((lo : Nat) : Int) ≤ ((hi : Nat) : Int)) = True := eq_true ⟨b2, b3⟩
    rw [q1, q2, true_and, true_and, show o + lo * 1 = o + lo by omega]
   by_cases hq : lo = 0 ∨ lo < bs.length + post.length
   ·refine ⟨.slice b (o + lo) (hi - lo) (.op (o + lo)), [], fun kk => ?_, .inl (.inr ⟨b, o + lo, _, pre ++ u8s (bs.take lo), u8s (bs.drop hi) ++ post, _, _, by rw [hlen], hpl, by rw [List.append_nil]; exact hb, .inr ⟨rfl, rfl, fz, st, rfl⟩⟩)⟩
    rw [hrule, decide_eq_true hq, guardK_tt, List.append_nil]
   ·refine ⟨.slice H.length 0 0 (.op 0), [.void], fun kk => ?_, .inr ⟨H.length, rfl, by simp, ?_⟩⟩
    ·rw [hrule, decide_eq_false hq, guardK_ft]
     simp only [show lo = hi by omega, true_and]
    ·rw [show hi - lo = 0 by omega, List.take_zero]
theorem bytesOf_u8s (s : List UInt8) : evConv.bytesOf (u8s s) = some s := conv_u8s s
theorem Rv.rd {H : Hp} {v : AV} {bs : List UInt8} (h : Rv H v bs) : v = .nils ∧ bs = [] ∨ ∃ b o c, v = .slice b o bs.length c ∧ rd H b o bs.length = some (u8s bs) := by
 obtain (⟨rfl, rfl⟩ | ⟨b, o, c, pre, post, e, k, rfl, h2, h3, h4⟩) | ⟨b, rfl, h2, rfl⟩ := h
 ·exact .inl ⟨rfl, rfl⟩
 ·refine .inr ⟨b, o, c, rfl, ?_⟩
  unfold V.rd
  rw [h3]
  show (if _ then _ else _) = _
  rw [if_pos (by rw [List.length_append, List.length_append, u8s_len]; omega), ← h2, List.drop_left, List.take_left' (by rw [u8s_len])]
 ·refine .inr ⟨b, 0, .op 0, rfl, ?_⟩
  unfold V.rd
  rw [h2]
  rfl
theorem Rv.str {H : Hp} {v : AV} {bs : List UInt8} (h : Rv H v bs) : evConv Tryz.prog 71 9 v H = some (.str bs, H) := by
 obtain ⟨rfl, rfl⟩ | ⟨b, o, c, rfl, hr⟩ := h.rd
 ·exact conv_71_9n
 ·rw [conv_71_9, hr, Option.bind_some, bytesOf_u8s]; rfl

end Go.Proofs.YtdppgaphcmhffaaGreatDoor.V
namespace Go.Proofs.YtdppgaphcmhffaaGreatDoor.V
open Go
attribute [local irreducible] go goOps goD opK callK callT stepK leaveTo nextK

end Go.Proofs.YtdppgaphcmhffaaGreatDoor.V
