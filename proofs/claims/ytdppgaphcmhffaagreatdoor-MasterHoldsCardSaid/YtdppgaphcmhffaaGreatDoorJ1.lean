/- Joined by mkclaim.py: VSound VOp VIn VDraw VDrawb VDrawc VDrawd VCode VCall VFun. No conditions. -/
import Derived.Test.YtdppgaphcmhffaaGreatDoorJ0
import Derived.KernelRfl
import Derived.Lib.MakeNoZero
import Derived.RangeFuncLeaves
import Derived.RangeFuncNested
import Derived.RangeFuncRecord
import Derived.RangeFuncCalls
import Derived.OrdersIn
import Derived.LoopNIn
import Derived.TacticsIn
import Derived.Orders
import Derived.RecoverIn
set_option linter.unusedSimpArgs false
set_option linter.unusedVariables false
namespace Go.Proofs.YtdppgaphcmhffaaGreatDoor.V
open Go

structure CallsOk (P : Program) (C : CallO) : Prop where
 fn : ∀ f args H r, f < P.funcs.size → C f args H = some r → ∀ g μ w vs, HRel P g μ H w → concs μ args = some vs →
  Calls P f vs.toArray w (fun e w' => ∃ μ' v', e = .returned v' ∧ Ok P g μ H r μ' v' w')
 yl : ∀ b args H r, C (P.funcs.size + b) args H = some r → ∀ g μ w vs l, HRel P g μ H w → concs μ args = some vs → μ b = some l →
  ∃ rec : Loop, w.heap[l.blk]? = some (.loop rec) ∧ vs.length = rec.params.size ∧
   ∀ n, RoundIn Fence.wide n P l.blk rec.fn ((rec.params.zip vs.toArray).foldl (fun t (p, v) => t.setIfInBounds p v) rec.tmps) rec.assign rec.body w (fun e w' => ∃ μ' v', e = .returned v' ∧ Ok P g μ H r μ' v' w')
def isYl (P : Program) (σ : List AV) : Op → Bool
 | .call c => match c.callee with
  | .value f => match evArg P σ f with
   | some (.yld _) => true
   | _ => false
  | _ => false
 | _ => false

section
variable {P : Program} {g : Gh} {μ : Mu} {H : Hp} {w : World} {a : Act} {σ : List AV} {C : CallO}

theorem arg_ok (h : HRel P g μ H w) (hσ : concs μ σ = some a.tmps.toList) {x : Operand} {v : AV} (hv : evArg P σ x = some v) : conc μ v = some (a.eval x) := by
 cases x with
 | tmp t =>
  simp only [evArg, Option.some.injEq] at hv
  subst hv
  have hg := concs_get hσ t
  have hl := concs_length hσ
  simp only [Act.eval]
  cases ht : σ[t]? with
  | none =>
   rw [ht] at hg
   simp only [Option.bind_none, Array.getElem?_toList] at hg
   simp only [Option.getD_none]
   have : a.tmps.getD t undef = undef := by simp [Array.getD_eq_getD_getElem?, hg]
   rw [this]
   rfl
  | some u =>
   rw [ht] at hg
   simp only [Option.bind_some, Array.getElem?_toList] at hg
   simp only [Option.getD_some]
   have hlt : t < a.tmps.size := by
    have := (List.getElem?_eq_some_iff.1 ht).1
    simp only [Array.length_toList] at hl
    exact Nat.lt_of_lt_of_eq this hl.symm
   have : a.tmps[t]? = some (a.tmps.getD t undef) := by simp [Array.getD_eq_getD_getElem?, hlt]
   rw [← hg, this]
 | const c => exact conc_abs μ c hv
 | global i =>
  simp only [evArg] at hv
  split at hv
  ·rename_i hi
   cases hv
   obtain ⟨c, hc⟩ := h.glob i hi
   simp [conc, hc, Act.eval]
  ·cases hv
 | func f => cases hv; rfl

theorem args_ok (h : HRel P g μ H w) (hσ : concs μ σ = some a.tmps.toList) : ∀ {xs : List Operand} {vs : List AV}, evArgs P σ xs = some vs → concs μ vs = some (xs.map a.eval)
 | [], vs, e => by cases e; rfl
 | x :: xs, vs, e => by
  simp only [evArgs, Option.bind_eq_some_iff, Option.map_eq_some_iff] at e
  obtain ⟨v, hv, us, hus, rfl⟩ := e
  simp [concs, arg_ok h hσ hv, args_ok h hσ hus]

theorem parts_ok (h : HRel P g μ H w) (hσ : concs μ σ = some a.tmps.toList) : ∀ {xs : List (Nat × Operand)} {vs : List (Nat × AV)}, evParts P σ xs = some vs →
  (xs.map fun (i, x) => (i, a.eval x)).map (·.1) = vs.map (·.1) ∧ concs μ (vs.map (·.2)) = some ((xs.map fun (i, x) => (i, a.eval x)).map (·.2))
 | [], vs, e => by cases e; exact ⟨rfl, rfl⟩
 | (i, x) :: xs, vs, e => by
  simp only [evParts, Option.bind_eq_some_iff, Option.map_eq_some_iff] at e
  obtain ⟨v, hv, us, hus, rfl⟩ := e
  obtain ⟨h1, h2⟩ := parts_ok h hσ hus
  refine ⟨by simpa using h1, ?_⟩
  simp only [List.map_cons, concs, arg_ok h hσ hv, Option.bind_some]
  rw [h2]
  rfl

theorem opt_ok (h : HRel P g μ H w) (hσ : concs μ σ = some a.tmps.toList) {x : Option Operand} {v : Option AV} (e : evOpt P σ x = some v) : (x.map a.eval).map some = v.map (conc μ) := by
 cases x with
 | none => cases e; rfl
 | some x =>
  simp only [evOpt, Option.map_eq_some_iff] at e
  obtain ⟨u, hu, rfl⟩ := e
  simp [arg_ok h hσ hu]

def Owes (P : Program) (g : Gh) (μ : Mu) (H : Hp) (w : World) (a : Act) (o : Oper) (r : AV × Hp × Ef) : Prop :=
 ∀ K Q, (∀ μ' v' w', Ok P g μ H r μ' v' w' → K (a.put o.dst v') w') → o.wp P a w K Q

theorem Owes.value {o : Oper} {s : Sem Value} {r : AV × Hp × Ef} (hs : (execOp a.eval o).run P w = (do pure (.value (← s)) : Sem Next).run P w) (h : Yields P g μ H w s r) : Owes P g μ H w a o r := by
 intro K Q hK
 obtain ⟨μ', v', w', h1, h2⟩ := h
 unfold Oper.wp
 rw [hs]
 simp only [Sem.run_bind, h1, Result.andThen_ok, Sem.run_pure]
 exact hK _ _ _ h2

theorem Owes.unit {o : Oper} {s : Sem Unit} {r : AV × Hp × Ef} (hs : (execOp a.eval o).run P w = (do s; pure .skip : Sem Next).run P w) (h : Does P g μ H w s r) : Owes P g μ H w a o r := by
 intro K Q hK
 obtain ⟨μ', w', h1, h2⟩ := h
 unfold Oper.wp
 rw [hs]
 simp only [Sem.run_bind, h1, Result.andThen_ok, Sem.run_pure]
 exact hK _ _ _ h2

theorem Owes.same (h : HRel P g μ H w) {o : Oper} {v : AV} {r : AV × Hp × Ef} {v' : Value} (hr : r = (v, H, z0)) (hs : (execOp a.eval o).run P w = .ok (.value v') w) (hv : conc μ v = some v') : Owes P g μ H w a o r := by
 subst hr
 intro K Q hK
 unfold Oper.wp
 rw [hs]
 exact hK μ v' w ⟨Le.refl μ, h, hv, Nat.le_refl _, Inv.refl _ _ _, fun _ _ => rfl⟩

theorem Owes.val (h : HRel P g μ H w) {o : Oper} {v : AV} {r : AV × Hp × Ef} {s : Sem Value} (hr : r = (v, H, z0)) (hs : (execOp a.eval o).run P w = (do pure (.value (← s)) : Sem Next).run P w) (hv : ∃ v', s.run P w = .ok v' w ∧ conc μ v = some v') : Owes P g μ H w a o r := by
 subst hr
 exact Owes.value hs (Yields.pure h hv)

theorem ret_some {H : Hp} {v : Option AV} {r : AV × Hp × Ef} (h : ret H v = some r) : ∃ u, v = some u ∧ r = (u, H, z0) := by
 simp only [ret, Option.map_eq_some_iff] at h
 obtain ⟨u, hu, rfl⟩ := h
 exact ⟨u, hu, rfl⟩
theorem ret2_some {v : Option (AV × Hp)} {r : AV × Hp × Ef} (h : ret2 v = some r) : ∃ u, v = some u ∧ r = (u.1, u.2, z0) := by
 simp only [ret2, Option.map_eq_some_iff] at h
 obtain ⟨u, hu, rfl⟩ := h
 exact ⟨u, hu, rfl⟩

theorem ext_find {fn : Func} {x : Xn} (h : xnName fn.name = some x) : ∃ e, Extern.find fn = some e ∧
  ∀ az v xs, evExt x az = some v → concs μ az = some xs → ∃ v', (e xs.toArray).run P w = .ok v' w ∧ conc μ v = some v' := by
 unfold xnName at h
 split at h
 ·rename_i hn
  cases h
  refine ⟨Extern.AbiNoEscape.same, by unfold Extern.find; rw [hn]; kernel_rfl, ?_⟩
  intro az v xs hv hx
  unfold evExt at hv
  split at hv
  case h_1 => 
   cases hv
   simp only [concs, Option.bind_eq_some_iff, Option.map_eq_some_iff, Option.some.injEq] at hx
   obtain ⟨y, hy, _, rfl, rfl⟩ := hx
   exact ⟨y, rfl, hy⟩
  all_goals first | contradiction | cases hv
 split at h
 ·rename_i hn
  cases h
  refine ⟨Extern.BytealgIndexByte.indexByte, by unfold Extern.find; rw [hn]; kernel_rfl, ?_⟩
  intro az v xs hv hx
  unfold evExt at hv
  split at hv
  case h_2 =>
   cases hv
   simp only [concs, conc, Option.bind_some, Option.map_some, Option.some.injEq] at hx
   subst hx
   exact ⟨_, Lib.run_indexByteString _ _ _, by simp [conc]⟩
  all_goals first | contradiction | cases hv
 split at h
 ·rename_i hn
  cases h
  refine ⟨Extern.BytealgCount.count, by unfold Extern.find; rw [hn]; kernel_rfl, ?_⟩
  intro az v xs hv hx
  unfold evExt at hv
  split at hv
  case h_3 =>
   cases hv
   simp only [concs, conc, Option.bind_some, Option.map_some, Option.some.injEq] at hx
   subst hx
   exact ⟨_, Lib.run_countString _ _ _, by simp [conc]⟩
  all_goals first | contradiction | cases hv
 split at h
 ·rename_i hn
  cases h
  refine ⟨Extern.BytealgCompare.compare, by unfold Extern.find; rw [hn]; kernel_rfl, ?_⟩
  intro az v xs hv hx
  unfold evExt at hv
  split at hv
  case h_4 =>
   cases hv
   simp only [concs, conc, Option.bind_some, Option.map_some, Option.some.injEq] at hx
   subst hx
   exact ⟨_, Lib.run_compareString _ _ _, by simp [conc]⟩
  all_goals first | contradiction | cases hv
 split at h
 ·rename_i hn
  cases h
  refine ⟨Extern.BytealgIndex.index, by unfold Extern.find; rw [hn]; kernel_rfl, ?_⟩
  intro az v xs hv hx
  unfold evExt at hv
  split at hv
  all_goals first | contradiction | cases hv
 cases h
theorem mxL_ok (h : HRel P g μ H w) {m : Int} (hm : mxL P H = some m) : ∃ q, P.globals.findIdx? (·.name == "internal/bytealg.MaxLen") = some q ∧ w.cell? ⟨q, 0, none⟩ = some (.int .i64 m) := by
 unfold mxL at hm
 split at hm
 ·rename_i q hq
  split at hm
  ·rename_i hlt
   split at hm
   ·rename_i x hr
    cases hm
    obtain ⟨c, hc⟩ := h.glob q hlt
    obtain ⟨vs, h1, h2, h3⟩ := h.rd hc hr
    simp only [concs, conc, Option.bind_some, Option.map_some, Option.some.injEq] at h1
    subst h1
    exact ⟨q, hq, h3 0 _ rfl⟩
   ·cases hm
  ·cases hm
 ·cases hm
theorem ext_findM (hr : HRel P g μ H w) {fn : Func} {x : Xn} (h : xnName fn.name = some x) : ∃ e, Extern.find fn = some e ∧
  ∀ az v xs, evExtM P H x az = some v → concs μ az = some xs → ∃ v', (e xs.toArray).run P w = .ok v' w ∧ conc μ v = some v' := by
 obtain ⟨e, he, hall⟩ := ext_find (P := P) (μ := μ) (w := w) h
 refine ⟨e, he, fun az v xs hv hx => ?_⟩
 unfold evExtM at hv
 split at hv
 ·rename_i a b
  rw [Option.bind_eq_some_iff] at hv
  obtain ⟨m, hm, hv⟩ := hv
  split at hv
  ·rename_i hc
   cases hv
   obtain ⟨q, h1, h2⟩ := mxL_ok hr hm
   have hn : fn.name = "internal/bytealg.IndexString" := by
    unfold xnName at h
    split at h
    ·cases h
    split at h
    ·cases h
    split at h
    ·cases h
    split at h
    ·cases h
    split at h
    ·assumption
    ·cases h
   have he' : Extern.find fn = some Extern.BytealgIndex.index := by unfold Extern.find; rw [hn]; kernel_rfl
   rw [he'] at he
   cases he
   simp only [concs, conc, Option.bind_some, Option.map_some, Option.some.injEq] at hx
   subst hx
   have := Lib.run_indexString (P := P) ⟨a.toArray⟩ ⟨b.toArray⟩ w q m h1 h2 (by show 2 ≤ b.toArray.size; simpa using hc.1) (by show ((b.toArray.size : Nat) : Int) ≤ m; simpa using hc.2.1) (by show a.toArray.size < _; simpa using hc.2.2)
   exact ⟨_, this, by simp [conc]⟩
  ·cases hv
 ·exact hall az v xs hv hx

theorem HRel.below {w' : World} (h : HRel P g μ H w) (hb : Go.RowKit.Below w.heap.size w w') : HRel P g μ H w' where
 dom := h.dom
 glob := h.glob
 lt := fun b l e => Nat.lt_of_lt_of_le (h.lt b l e) hb.size
 blk := fun b l x e e' => (h.blk b l x e e').mono (Le.refl μ) (fun _ => hb.block _ (h.lt b l e))
 sep := h.sep
 own := h.own
 old := fun k hk => by
  obtain ⟨h1, h2⟩ := h.old k hk
  exact ⟨Nat.lt_of_lt_of_le h1 hb.size, (hb.block k h1).trans h2⟩
 os := hb.os.trans h.os
 tape := hb.tape.trans h.tape
 output := hb.output.trans h.output
 size := Nat.le_trans h.size hb.size
theorem run_enters {f : FuncId} (h : enters P f = true) (az : Array Value) (w : World) : (callFunc f az).run P w = .ok (.enter f az) w := by
 unfold enters at h
 split at h
 ·rename_i fn hfn
  simp only [Bool.and_eq_true, Bool.not_eq_true', beq_eq_false_iff_ne] at h
  unfold callFunc
  simp only [run_program, hfn, Sem.run_bind, Result.andThen_ok]
  rw [if_neg (by simpa using h.2), if_neg (by cases hbb : fn.body <;> simp [hbb] at h ⊢)]
  rfl
 ·cases h
theorem u8_tabs {a b : Nat} (h : HRel P g μ H w) (hu : U8H P H a b) : Lib.Utf8Tabs a b w := by
 obtain ⟨ha, hb, h1, h2⟩ := hu
 have key : ∀ (q c : Nat) (v : AV) (v' : Value), q < P.globals.size → rd H q c 1 = some [v] → conc μ v = some v' → w.cell? ⟨q, c, none⟩ = some v' := by
  intro q c v v' hq hr hv
  obtain ⟨n, hn⟩ := h.glob q hq
  obtain ⟨vs, k1, k2, k3⟩ := h.rd hn hr
  simp only [concs, hv, Option.bind_some, Option.map_some, Option.some.injEq] at k1
  subst k1
  have := k3 0 _ rfl
  simpa using this
 exact ⟨fun c hc => key a c _ _ ha (h1 c hc) rfl, fun i hi => ⟨key b _ _ _ hb (h2 i hi).1 rfl, key b _ _ _ hb (h2 i hi).2 rfl⟩⟩
theorem evS_owes (h : HRel P g μ H w) {o : Oper} {c : Call} (ho : o.op = .call c) {f : Operand} (hcal : c.callee = .value f) {gg : FuncId} {first captured az : List AV} {fs cs : List Value} (hev : .func (.func gg) fs.toArray cs.toArray = a.eval f)
  {r : AV × Hp × Ef} (hr : evS P gg (first ++ az ++ captured) H = some r) (hargs : concs μ (first ++ az ++ captured) = some (fs ++ c.args.toList.map a.eval ++ cs)) : Owes P g μ H w a o r := by
 unfold evS at hr
 split at hr
 ·rename_i g2 s haz
  rw [Option.bind_eq_some_iff] at hr
  obtain ⟨F, _, hr⟩ := hr
  split at hr
  ·rename_i hc
   cases hr
   obtain ⟨⟨ρ, L, X, hf, he, he2, hu, hF, hF2⟩, hs⟩ := hc
   rw [haz] at hargs
   simp only [concs, conc, Option.bind_some, Option.map_some, Option.some.injEq] at hargs
   have hcall := Any.strings_Map_runes L X g2 #[] (fun az w => run_enters he2 az w) F ⟨s.toArray⟩ w (by show s.toArray.size < _; simpa using hs) (fun W x hx _ => hF W x hx) hF2 (u8_tabs h hu)
   rw [hf] at hcall
   intro K Q hK
   unfold Oper.wp
   have hrun : (execOp a.eval o).run P w = .ok (.enter gg #[.func (.func g2) #[] #[], .string ⟨s.toArray⟩]) w := by
    unfold execOp
    simp only [ho, resolve, hcal, Deferred.ofValue, ← hev, Sem.run_bind, Sem.run_pure, Result.andThen_ok, invoke]
    have hcf := run_enters he (fs ++ c.args.toList.map a.eval ++ cs).toArray w
    rw [← hargs] at hcf
    rw [show (#[.func (.func g2) #[] #[], .string ⟨s.toArray⟩] : Array Value) = [Value.func (.func g2) #[] #[], .string ⟨s.toArray⟩].toArray from rfl]
    rw [← hcf]
    congr 2
    apply Array.ext'
    rw [hargs]
    simp
   rw [hrun]
   refine hcall.mono (fun e w' he => ?_)
   obtain ⟨rfl, hb⟩ := he
   exact hK _ _ _ ⟨Le.refl μ, h.below hb, rfl, Nat.le_refl _, Inv.refl _ _ _, fun _ _ => rfl⟩
  ·cases hr
 ·cases hr

theorem call_ok (hC : CallsOk P C) (h : HRel P g μ H w) (hσ : concs μ σ = some a.tmps.toList) {o : Oper} {c : Call} (ho : o.op = .call c) (hy : isYl P σ o.op = false) {r : AV × Hp × Ef} (hr : evCall P C σ H c = some r) : Owes P g μ H w a o r := by
 unfold evCall at hr
 split at hr
 ·rename_i f hcal
  simp only [Option.bind_eq_some_iff] at hr
  obtain ⟨fv, hf, az, has, hr⟩ := hr
  have hfc := arg_ok h hσ hf
  have hac := args_ok h hσ has
  split at hr
  ·rename_i gg first captured
   split at hr
   ·rename_i hb
    simp only [conc, Option.bind_eq_some_iff, Option.map_eq_some_iff] at hfc
    obtain ⟨fs, hfs, cs, hcs, hev⟩ := hfc
    have hargs := concs_append_some (concs_append_some hfs hac) hcs
    have hlt : gg < P.funcs.size := by
     unfold hasBody at hb
     split at hb
     ·rename_i fn hfn; exact (Array.getElem?_eq_some_iff.1 hfn).1
     ·cases hb
    have hcall := hC.fn _ _ _ _ hlt hr g μ w _ h hargs
    intro K Q hK
    unfold Oper.wp
    have hrun : (execOp a.eval o).run P w = .ok (.enter gg (fs ++ c.args.toList.map a.eval ++ cs).toArray) w := by
     unfold hasBody at hb
     split at hb
     ·rename_i fn hfn
      simp only [Bool.and_eq_true, Bool.not_eq_true', beq_eq_false_iff_ne] at hb
      unfold execOp
      simp only [ho, resolve, hcal, Deferred.ofValue, ← hev, Sem.run_bind, Sem.run_pure, Result.andThen_ok, invoke, callFunc, run_program, hfn]
      rw [if_neg (by simpa using hb.1.2), if_neg (by cases hbb : fn.body <;> simp [hbb] at hb ⊢)]
      simp only [Sem.run_pure]
      congr 2
      apply Array.ext'
      simp
     ·cases hb
    rw [hrun]
    exact hcall.mono (fun e w' he => by
     obtain ⟨μ', v', rfl, hok⟩ := he
     exact hK _ _ _ hok)
   ·unfold evX at hr
    split at hr
    ·rename_i e0 hnz
     simp only [conc, Option.bind_eq_some_iff, Option.map_eq_some_iff] at hfc
     obtain ⟨fs, hfs, cs, hcs, hev⟩ := hfc
     have hargs := concs_append_some (concs_append_some hfs hac) hcs
     unfold isNZ at hnz
     split at hnz
     ·rename_i fn hfn
      split at hnz
      ·rename_i hb
       simp only [Bool.and_eq_true, Bool.not_eq_true', decide_eq_true_eq] at hb
       obtain ⟨⟨⟨⟨hb1, hb2⟩, hb3⟩, hname⟩, hrs⟩ := hb
       split at hnz
       ·rename_i e1 ht
        cases hnz
        unfold evNZ at hr
        split at hr
        ·rename_i n hasn
         split at hr
         ·rename_i hn
          cases hr
          obtain ⟨t, ht1, ht2⟩ := Option.bind_eq_some_iff.1 ht
          obtain ⟨hu, inf, hinf, hsz, hby⟩ := tsh_slice ht2
          have hrt : fn.resultTypes = #[t] := by
           clear ht
           generalize fn.resultTypes = rt at hrs ht1
           obtain ⟨l⟩ := rt
           match l, hrs, ht1 with
           | [x], _, h => simp at h; rw [h]
          have hfind : Extern.find fn = some (Extern.BytealgMakeNoZero.makeNoZero fn.params fn.resultTypes) := by unfold Extern.find; rw [hname]; kernel_rfl
          rw [hrt] at hfind
          rw [hasn] at hargs
          simp only [concs, conc, Option.bind_some, Option.map_some, Option.some.injEq] at hargs
          obtain ⟨m, rfl⟩ : ∃ m : Nat, n = (m : Int) := ⟨n.toNat, by omega⟩
          obtain ⟨cells, hrun, hle, _⟩ := Lib.run_makeNoZero (P := P) w fn.params t e0 hu m (by omega)
          have hnew := h.drew.drew.new (.cells cells e0) (.cells [] e0 (.op 0 false)) cells.size (by
           refine ⟨cells, (0, 0), [], heap_alloc_new _ _, rfl, by simp, (fun i v hv => by simp at hv), ⟨⟨inf, hinf, by omega, by simp [hsz]⟩, .inl (by simp)⟩⟩)
          intro K Q hK
          unfold Oper.wp
          have hex : (execOp a.eval o).run P w = .ok (.value (.slice (some ⟨w.heap.size, 0, none⟩) m cells.size)) (w.drew.drew.alloc (.cells cells e0)) := by
           unfold execOp
           simp only [ho, resolve, hcal, Deferred.ofValue, ← hev, Sem.run_bind, Sem.run_pure, Result.andThen_ok, invoke]
           have hcf := run_callFunc_extern (P := P) hfn hb2 hb1 (by simpa using hb3) hfind (fs ++ c.args.toList.map a.eval ++ cs).toArray w
           rw [← hargs] at hcf
           rw [show (#[Value.int IntKind.i64 (m : Int)] : Array Value) = [Value.int IntKind.i64 (m : Int)].toArray from rfl] at hrun
           rw [hrun] at hcf
           simp only [Result.andThen_ok] at hcf
           rw [← hcf]
           congr 2
           apply Array.ext'
           rw [hargs]
           simp
          rw [hex]
          refine hK _ _ _ ⟨h.le_upd _, hnew, by simp [conc, upd_same], by simp, Inv.snoc, upd_dom⟩
         ·cases hr
        ·cases hr
       ·cases hnz
      ·cases hnz
     ·cases hnz
    split at hr
    rotate_left
    ·simp only [conc, Option.bind_eq_some_iff, Option.map_eq_some_iff] at hfc
     obtain ⟨fs, hfs, cs, hcs, hev⟩ := hfc
     exact evS_owes h ho hcal hev hr (concs_append_some (concs_append_some hfs hac) hcs)
    rename_i xn hxn
    obtain ⟨u, hu, rfl⟩ := ret_some hr
    simp only [conc, Option.bind_eq_some_iff, Option.map_eq_some_iff] at hfc
    obtain ⟨fs, hfs, cs, hcs, hev⟩ := hfc
    have hargs := concs_append_some (concs_append_some hfs hac) hcs
    unfold isExt at hxn
    split at hxn
    ·rename_i fn hfn
     split at hxn
     ·rename_i hb
      simp only [Bool.and_eq_true, Bool.not_eq_true'] at hb
      obtain ⟨e, he, hall⟩ := ext_findM h hxn
      obtain ⟨v', e1, e2⟩ := hall _ _ _ hu hargs
      refine Owes.same h rfl (v' := v') ?_ e2
      unfold execOp
      simp only [ho, resolve, hcal, Deferred.ofValue, ← hev, Sem.run_bind, Sem.run_pure, Result.andThen_ok, invoke]
      have harr : (c.args.map a.eval) = (c.args.toList.map a.eval).toArray := by apply Array.ext'; simp
      have := run_callFunc_extern (P := P) hfn hb.1.2 hb.1.1 (by simpa using hb.2) he (fs ++ c.args.toList.map a.eval ++ cs).toArray w
      rw [e1] at this
      simp only [Result.andThen_ok] at this
      rw [← this]
      congr 2
      apply Array.ext'
      simp
     ·cases hxn
    ·cases hxn
  ·rename_i b
   rw [ho] at hy
   simp only [isYl, hcal, hf] at hy
   cases hy
  ·cases hr
 ·rename_i b hcal
  simp only [Option.bind_eq_some_iff] at hr
  obtain ⟨az, has, hr⟩ := hr
  have hac := args_ok h hσ has
  have hres : ∀ nx : Sem Value, (∀ cs, builtin b c.argTypes o.type cs (c.args.toList.map a.eval).toArray = (do pure (.value (← nx)))) → (execOp a.eval o).run P w = (do pure (.value (← nx)) : Sem Next).run P w := by
   intro nx hnx
   unfold execOp
   simp only [ho, resolve, hcal]
   simp only [pure_bind, invoke]
   rw [← hnx]
   congr 2
   apply Array.ext'
   simp
  have hl := concs_length hac
  split at hr
  ·-- len
   rename_i x t ts ht
   obtain ⟨u, hu, rfl⟩ := ret_some hr
   simp only [concs, Option.bind_eq_some_iff, Option.map_eq_some_iff, Option.some.injEq] at hac
   obtain ⟨x', hx', _, rfl, hmap⟩ := hac
   refine Owes.val h rfl (hres (Builtin.len_ c.argTypes o.type #[x']) (fun cs => by rw [← hmap]; rfl)) ?_
   obtain ⟨v', e1, e2⟩ := len_ok (w := w) (ty := o.type) h hu hx'
   refine ⟨v', ?_, e2⟩
   have : c.argTypes[0]? = some t := by rw [← Array.getElem?_toList, ht]; rfl
   simpa [Builtin.len_, this] using e1
  ·rename_i x t ts ht
   obtain ⟨u, hu, rfl⟩ := ret_some hr
   simp only [concs, Option.bind_eq_some_iff, Option.map_eq_some_iff, Option.some.injEq] at hac
   obtain ⟨x', hx', _, rfl, hmap⟩ := hac
   refine Owes.val h rfl (hres (Builtin.cap_ c.argTypes o.type #[x']) (fun cs => by rw [← hmap]; rfl)) ?_
   obtain ⟨v', e1, e2⟩ := cap_ok (w := w) (ty := o.type) hu hx'
   refine ⟨v', ?_, e2⟩
   have : c.argTypes[0]? = some t := by rw [← Array.getElem?_toList, ht]; rfl
   simpa [Builtin.cap_, this] using e1
  ·rename_i s x t u ht
   split at hr
   ·rename_i hu
    simp only [concs, Option.bind_eq_some_iff, Option.map_eq_some_iff, Option.some.injEq] at hac
    obtain ⟨s', hs', _, ⟨x', hx', _, rfl, rfl⟩, hmap⟩ := hac
    have hat : c.argTypes = #[t, u] := by apply Array.ext'; simpa using ht
    refine Owes.value (hres (Builtin.append_ c.argTypes o.type #[s', x']) (fun cs => by rw [← hmap]; rfl)) ?_
    rw [hat]
    refine append_ok h hr hs' hx' ?_
    unfold srcOk at hu
    split at hu
    ·cases hu
    ·rename_i sh hsh hne
     obtain ⟨d, hd, _⟩ := tsh_some hne
     refine ⟨d, hd, ?_⟩
     rintro k rfl
     unfold tsh at hne
     rw [hd] at hne
     simp only [Option.some.injEq] at hne
     exact hsh k hne.symm
    ·cases hu
   ·split at hr
    ·rename_i hu
     simp only [concs, Option.bind_eq_some_iff, Option.map_eq_some_iff, Option.some.injEq] at hac
     obtain ⟨s', hs', _, ⟨x', hx', _, rfl, rfl⟩, hmap⟩ := hac
     have hat : c.argTypes = #[t, u] := by apply Array.ext'; simpa using ht
     refine Owes.value (hres (Builtin.append_ c.argTypes o.type #[s', x']) (fun cs => by rw [← hmap]; rfl)) ?_
     rw [hat]
     exact appendZ_ok h hr hs' hx' hu
    ·cases hr
  ·rename_i d x t ts ht
   simp only [concs, Option.bind_eq_some_iff, Option.map_eq_some_iff, Option.some.injEq] at hac
   obtain ⟨d', hd', _, ⟨x', hx', _, rfl, rfl⟩, hmap⟩ := hac
   refine Owes.value (hres (Builtin.copy_ c.argTypes o.type #[d', x']) (fun cs => by rw [← hmap]; rfl)) ?_
   have hok := copy_ok (u := t) (ty := o.type) h hr hd' hx'
   have h0 : c.argTypes[0]? = some t := by rw [← Array.getElem?_toList, ht]; rfl
   obtain ⟨μ', v', w', e1, e2⟩ := hok
   exact ⟨μ', v', w', by simpa [Builtin.copy_, h0] using e1, e2⟩
  ·rename_i x y ht
   obtain ⟨u, hu, rfl⟩ := ret_some hr
   simp only [concs, Option.bind_eq_some_iff, Option.map_eq_some_iff, Option.some.injEq] at hac
   obtain ⟨x', hx', _, ⟨y', hy', _, rfl, rfl⟩, hmap⟩ := hac
   refine Owes.val h rfl (hres (Builtin.min_ c.argTypes o.type #[x', y']) (fun cs => by rw [← hmap]; rfl)) (min_ok hu hx' hy')
  ·rename_i x y ht
   obtain ⟨u, hu, rfl⟩ := ret_some hr
   simp only [concs, Option.bind_eq_some_iff, Option.map_eq_some_iff, Option.some.injEq] at hac
   obtain ⟨x', hx', _, ⟨y', hy', _, rfl, rfl⟩, hmap⟩ := hac
   refine Owes.val h rfl (hres (Builtin.max_ c.argTypes o.type #[x', y']) (fun cs => by rw [← hmap]; rfl)) (max_ok hu hx' hy')
  ·rename_i m k t ts ht
   simp only [Option.map_eq_some_iff] at hr
   obtain ⟨H', hH, rfl⟩ := hr
   simp only [concs, Option.bind_eq_some_iff, Option.map_eq_some_iff, Option.some.injEq] at hac
   obtain ⟨m', hm', _, ⟨k', hk', _, rfl, rfl⟩, hmap⟩ := hac
   have h0 : c.argTypes[0]? = some t := by rw [← Array.getElem?_toList, ht]; rfl
   exact Owes.value (hres (Builtin.delete_ c.argTypes o.type #[m', k']) (fun cs => by rw [← hmap]; rfl)) (delete_ok h hH hm' hk' h0)
  ·rename_i x ht
   obtain ⟨u, hu, rfl⟩ := ret_some hr
   simp only [concs, Option.bind_eq_some_iff, Option.map_eq_some_iff, Option.some.injEq] at hac
   obtain ⟨x', hx', _, rfl, hmap⟩ := hac
   exact Owes.val h rfl (hres (Builtin.unsafeSliceData_ c.argTypes o.type #[x']) (fun cs => by rw [← hmap]; rfl)) (sliceData_ok h hu hx')
  ·rename_i x i pt it ht
   simp only [concs, Option.bind_eq_some_iff, Option.map_eq_some_iff, Option.some.injEq] at hac
   obtain ⟨x', hx', _, ⟨i', hi', _, rfl, rfl⟩, hmap⟩ := hac
   have hat : c.argTypes = #[pt, it] := by apply Array.ext'; simpa using ht
   refine Owes.value (hres (Builtin.unsafeString_ c.argTypes o.type #[x', i']) (fun cs => by rw [← hmap]; rfl)) ?_
   rw [hat]
   exact string_ok h hr hx' hi'
  ·cases hr
 ·cases hr
end
end Go.Proofs.YtdppgaphcmhffaaGreatDoor.V
namespace Go.Proofs.YtdppgaphcmhffaaGreatDoor.V
open Go

section
variable {P : Program} {g : Gh} {μ : Mu} {H : Hp} {w : World} {a : Act} {σ : List AV} {C : CallO}

theorem conc_ptr {b o : Nat} {x : Value} (h : conc μ (.ptr b o) = some x) : ∃ l, μ b = some l ∧ x = .pointer (some ⟨l.blk, l.base + o, none⟩) := by
 simp only [conc, Option.map_eq_some_iff] at h
 obtain ⟨l, hl, rfl⟩ := h
 exact ⟨l, hl, rfl⟩

theorem assert_ok {t xt : TypeId} {v q : AV} {x : Value} (h : evAssert P t v = some q) (hx : conc μ v = some x) : ∃ v', (Instr.typeAssert x xt t true).run P w = .ok v' w ∧ conc μ q = some v' := by
 unfold evAssert at h
 split at h
 ·cases h
 ·rename_i s hs hne
  obtain ⟨d, hd, hdi⟩ := tsh_some hne
  have hdi' : ∀ ms, d ≠ .interface ms := hdi.resolve_left (fun e => hs e)
  have zer : ∀ z, tzeroV P t = some z → q = .tuple [z, .bool false] → ∃ v', (do pure (Value.tuple #[← zeroValue t, .bool false]) : Sem Value).run P w = .ok v' w ∧ conc μ q = some v' := by
   rintro z hz rfl
   obtain ⟨zv, e1, e2⟩ := zeroV_ok (μ := μ) (w := w) hz
   refine ⟨.tuple #[zv, .bool false], ?_, ?_⟩
   ·simp only [Sem.run_bind, e1, Result.andThen_ok, Sem.run_pure]
   ·simp only [conc, concs, e2, Option.bind_some, Option.map_some]
  split at h
  ·simp only [Option.map_eq_some_iff] at h
   obtain ⟨z, hz, rfl⟩ := h
   obtain ⟨v', e1, e2⟩ := zer z hz rfl
   cases hx
   refine ⟨v', ?_, e2⟩
   unfold Instr.typeAssert
   simp only [Sem.run_bind, run_underlying hd, Result.andThen_ok]
   cases d <;> first | exact e1 | exact absurd rfl (hdi' _)
  ·rename_i u y
   simp only [conc, Option.map_eq_some_iff] at hx
   obtain ⟨y', hy, rfl⟩ := hx
   split at h
   ·rename_i hut
    cases h
    refine ⟨.tuple #[y', .bool true], ?_, by simp only [conc, concs, hy, Option.bind_some, Option.map_some]⟩
    unfold Instr.typeAssert
    simp only [Sem.run_bind, run_underlying hd, Result.andThen_ok]
    cases d <;> first | (exact absurd rfl (hdi' _)) | (simp only [hut, if_true]; rfl)
   ·rename_i hut
    simp only [Option.map_eq_some_iff] at h
    obtain ⟨z, hz, rfl⟩ := h
    obtain ⟨v', e1, e2⟩ := zer z hz rfl
    refine ⟨v', ?_, e2⟩
    unfold Instr.typeAssert
    simp only [Sem.run_bind, run_underlying hd, Result.andThen_ok]
    cases d <;> first | (exact absurd rfl (hdi' _)) | (simp only [hut, if_false]; exact e1)
  ·cases h
 ·cases h

set_option maxHeartbeats 1000000 in
theorem op_ok (hC : CallsOk P C) (h : HRel P g μ H w) (hσ : concs μ σ = some a.tmps.toList) {o : Oper} (hy : isYl P σ o.op = false) {r : AV × Hp × Ef} (hr : evOp P C σ H o.op = some r) : Owes P g μ H w a o r := by
 unfold evOp at hr
 split at hr
 case h_1 x ho =>
  obtain ⟨u, hu, hr⟩ := ret_some hr
  exact Owes.same h hr (by unfold execOp; simp only [ho]; rfl) (arg_ok h hσ hu)
 case h_2 x ho =>
  obtain ⟨u, hu, hr⟩ := ret_some hr
  exact Owes.same h hr (by unfold execOp; simp only [ho]; rfl) (arg_ok h hσ hu)
 case h_3 c x y ho =>
  simp only [Option.bind_eq_some_iff] at hr
  obtain ⟨cv, hc, hr⟩ := hr
  split at hr
  ·rename_i t
   have hcc := arg_ok h hσ hc
   cases t <;> obtain ⟨u, hu, hr⟩ := ret_some hr
   ·refine Owes.same h hr ?_ (arg_ok h hσ hu)
    unfold execOp
    simp only [ho, ← (Option.some.inj hcc), asBool, Sem.run_bind, Sem.run_pure, Result.andThen_ok]
    rfl
   ·refine Owes.same h hr ?_ (arg_ok h hσ hu)
    unfold execOp
    simp only [ho, ← (Option.some.inj hcc), asBool, Sem.run_bind, Sem.run_pure, Result.andThen_ok]
    rfl
  ·cases hr
 case h_4 e ho =>
  simp only [Option.map_eq_some_iff] at hr
  obtain ⟨z, hz, rfl⟩ := hr
  exact Owes.value (by unfold execOp; simp only [ho]) (alloc_ok h hz)
 case h_5 e x ho =>
  simp only [Option.map_eq_some_iff] at hr
  obtain ⟨v, hv, rfl⟩ := hr
  exact Owes.value (by unfold execOp; simp only [ho]) (box_ok h (arg_ok h hσ hv))
 case h_6 t parts ho =>
  simp only [Option.bind_eq_some_iff] at hr
  obtain ⟨ps, hps, hr⟩ := hr
  obtain ⟨u, hu, hr⟩ := ret_some hr
  obtain ⟨p1, p2⟩ := parts_ok h hσ hps
  obtain ⟨v', e1, e2⟩ := build_ok (w := w) hu p1 p2
  refine Owes.val h hr (s := Instr.build t (parts.map fun (i, x) => (i, a.eval x))) (by unfold execOp; simp only [ho]) ⟨v', ?_, e2⟩
  rw [← e1]
  congr 2
  apply Array.ext'
  simp
 case h_7 t n parts ho =>
  simp only [Option.bind_eq_some_iff] at hr
  obtain ⟨ps, hps, hr⟩ := hr
  obtain ⟨u, hu, rfl⟩ := ret2_some hr
  obtain ⟨p1, p2⟩ := parts_ok h hσ hps
  refine Owes.value (s := Instr.buildSlice t n (parts.map fun (i, x) => (i, a.eval x))) (by unfold execOp; simp only [ho]) ?_
  have := buildSlice_ok h hu p1 p2
  have e : (parts.map fun (i, x) => (i, a.eval x)) = (parts.toList.map fun (i, x) => (i, a.eval x)).toArray := by
   apply Array.ext'
   simp
  rw [e]
  exact this
 case h_8 t x ho =>
  simp only [Option.bind_eq_some_iff] at hr
  obtain ⟨av, hav, hr⟩ := hr
  split at hr
  ·rename_i b off
   obtain ⟨u, hu, hr⟩ := ret_some hr
   obtain ⟨l, hl, hx⟩ := conc_ptr (arg_ok h hσ hav)
   obtain ⟨v', e1, e2⟩ := load_ok h hl hu
   exact Owes.val h hr (s := Instr.loadAt t (a.eval x)) (by unfold execOp; simp only [ho]) ⟨v', by simpa [hx, Instr.loadAt, Instr.sureAddr] using e1, e2⟩
  ·cases hr
 case h_9 t x y ho =>
  simp only [Option.bind_eq_some_iff] at hr
  obtain ⟨av, hav, v, hv, hr⟩ := hr
  split at hr
  ·rename_i b off
   simp only [Option.map_eq_some_iff] at hr
   obtain ⟨q, hq, rfl⟩ := hr
   obtain ⟨l, hl, hx⟩ := conc_ptr (arg_ok h hσ hav)
   obtain ⟨w', e1, e2, e3, e4⟩ := store_ok h hl (arg_ok h hσ hv) hq
   refine Owes.unit (s := Instr.storeAt t (a.eval x) (a.eval y)) (by unfold execOp; simp only [ho]) ⟨μ, w', ?_, Le.refl μ, e2, rfl, by rw [e3]; exact Nat.le_refl _, e4, fun _ _ => rfl⟩
   simpa [hx, Instr.storeAt, Instr.sureAddr] using e1
  ·cases hr
 case h_10 x ho =>
  simp only [Option.bind_eq_some_iff] at hr
  obtain ⟨v, hv, hr⟩ := hr
  have hx := arg_ok h hσ hv
  split at hr
  ·rename_i b off
   cases hr
   obtain ⟨l, hl, hx'⟩ := conc_ptr hx
   exact Owes.same h rfl (by unfold execOp; simp only [ho, hx']; rfl) (hx'.symm ▸ hx)
  ·rename_i f fs cs
   cases hr
   have hx2 := hx
   simp only [conc, Option.bind_eq_some_iff, Option.map_eq_some_iff] at hx2
   obtain ⟨x1, _, x2, _, hx'⟩ := hx2
   exact Owes.same h rfl (by unfold execOp; simp only [ho, ← hx']; rfl) (hx'.symm ▸ hx)
  ·cases hr
 case h_11 op t x y yt ho =>
  simp only [Option.bind_eq_some_iff] at hr
  obtain ⟨u, hu, v, hv, hr⟩ := hr
  have hx := arg_ok h hσ hu
  have hy := arg_ok h hσ hv
  split at hr
  ·have hx' : a.eval x = .nilIface := (Option.some.inj hx).symm
   have hy' : a.eval y = .nilIface := (Option.some.inj hy).symm
   split at hr
   ·rename_i hcst
    have hg : ∀ op', eqGuard op' t x y .nilIface .nilIface = Pure.pure () := by
     intro op'
     cases x <;> cases y <;> simp [evOp.isConst] at hcst <;> first | exact eqGuard_nil_constR _ _ _ _ | exact eqGuard_nil_constL _ _ _ _
    split at hr
    ·obtain ⟨q, hq, hr⟩ := ret_some hr
     split at hq
     ·rename_i hif
      cases hq
      have hif' : tsh P t = some .iface := by
       revert hif
       cases tsh P t with
       | none => simp
       | some s => cases s <;> simp
      obtain ⟨ms, hms⟩ := tsh_iface hif'
      refine Owes.same h hr (v' := .bool true) ?_ rfl
      unfold execOp
      simp only [ho, hx', hy', hg, pure_bind, binOp, Op.equal, Op.maxDepth, Sem.run_bind]
      have : (Op.equalIn 10000 t .nilIface .nilIface).run P w = .ok true w := by
       show (Op.equalIn (9999 + 1) t .nilIface .nilIface).run P w = .ok true w
       rw [Op.equalIn, Sem.run_bind, run_underlying hms]; rfl
      simp only [this, Result.andThen_ok, Sem.run_pure]
     ·cases hq
    ·obtain ⟨q, hq, hr⟩ := ret_some hr
     split at hq
     ·rename_i hif
      cases hq
      have hif' : tsh P t = some .iface := by
       revert hif
       cases tsh P t with
       | none => simp
       | some s => cases s <;> simp
      obtain ⟨ms, hms⟩ := tsh_iface hif'
      refine Owes.same h hr (v' := .bool false) ?_ rfl
      unfold execOp
      simp only [ho, hx', hy', hg, pure_bind, binOp, Op.equal, Op.maxDepth, Sem.run_bind]
      have : (Op.equalIn 10000 t .nilIface .nilIface).run P w = .ok true w := by
       show (Op.equalIn (9999 + 1) t .nilIface .nilIface).run P w = .ok true w
       rw [Op.equalIn, Sem.run_bind, run_underlying hms]; rfl
      simp only [this, Result.andThen_ok, Sem.run_pure]
      rfl
     ·cases hq
    ·cases hr
   ·cases hr
  ·obtain ⟨q, hq, hr⟩ := ret_some hr
   exact Owes.val h hr (s := do eqGuard op t x y (a.eval x) (a.eval y); binOp op t (a.eval x) (a.eval y)) (by unfold execOp; simp only [ho]) (evBin_ok hq hx hy)
 case h_12 op t x ho =>
  simp only [Option.bind_eq_some_iff] at hr
  obtain ⟨u, hu, hr⟩ := hr
  obtain ⟨q, hq, hr⟩ := ret_some hr
  exact Owes.val h hr (by unfold execOp; simp only [ho]) (un_ok hq (arg_ok h hσ hu))
 case h_13 s d x ho =>
  simp only [Option.bind_eq_some_iff] at hr
  obtain ⟨u, hu, hr⟩ := hr
  obtain ⟨q, hq, rfl⟩ := ret2_some hr
  exact Owes.value (by unfold execOp; simp only [ho]) (conv_ok h hq (arg_ok h hσ hu))
 case h_14 t x ho =>
  simp only [Option.bind_eq_some_iff] at hr
  obtain ⟨u, hu, hr⟩ := hr
  split at hr
  ·cases hr
  ·rename_i s hs hne
   obtain ⟨q, hq, hr⟩ := ret_some hr
   cases hq
   obtain ⟨d, hd, hdi⟩ := tsh_some hne
   have hdi' : ∀ ms, d ≠ .interface ms := hdi.resolve_left (fun e => hs e)
   have hx := arg_ok h hσ hu
   refine Owes.val h hr (s := Instr.makeInterface t (a.eval x)) (by unfold execOp; simp only [ho]) ⟨.iface t (a.eval x), ?_, by simp [conc, hx]⟩
   simp only [Instr.makeInterface, Sem.run_bind, run_underlying hd, Result.andThen_ok]
   cases d <;> first | rfl | (exact absurd rfl (hdi' _))
  ·cases hr
 case h_15 fn f c ho =>
  simp only [Option.bind_eq_some_iff] at hr
  obtain ⟨fs, hfs, cs, hcs, hr⟩ := hr
  obtain ⟨q, hq, hr⟩ := ret_some hr
  cases hq
  have h1 := args_ok h hσ hfs
  have h2 := args_ok h hσ hcs
  refine Owes.same h hr (v' := .func fn (f.map a.eval) (c.map a.eval)) (by unfold execOp; simp only [ho]; rfl) ?_
  simp only [conc, h1, h2, Option.bind_some, Option.map_some]
  congr 2 <;> (apply Array.ext'; simp)
 case h_16 t ho =>
  split at hr
  ·rename_i k e ht
   cases hr
   exact Owes.value (by unfold execOp; simp only [ho]; rfl) (makeMap_ok h ht none (by simp))
  ·cases hr
 case h_17 t x ho =>
  simp only [Option.bind_eq_some_iff] at hr
  obtain ⟨u, hu, hr⟩ := hr
  split at hr
  ·rename_i k e kk n ht
   cases hr
   have hx := arg_ok h hσ hu
   refine Owes.value (s := Instr.makeMap t (some (a.eval x))) (by unfold execOp; simp only [ho]; rfl) (makeMap_ok h ht _ ?_)
   intro v hv
   cases hv
   exact ⟨kk, n, (Option.some.inj hx).symm⟩
  ·cases hr
 case h_18 t l c ho =>
  simp only [Option.bind_eq_some_iff] at hr
  obtain ⟨u, hu, v, hv, hr⟩ := hr
  obtain ⟨q, hq, rfl⟩ := ret2_some hr
  exact Owes.value (by unfold execOp; simp only [ho]) (make_ok h hq (arg_ok h hσ hu) (arg_ok h hσ hv))
 case h_19 t x lo hi mx ho =>
  simp only [Option.bind_eq_some_iff] at hr
  obtain ⟨u, hu, lo', hlo, hi', hhi, mx', hmx, hr⟩ := hr
  split at hr
  rotate_left
  ·simp only [Option.map_eq_some_iff] at hr
   obtain ⟨q, hq, rfl⟩ := hr
   exact Owes.value (by unfold execOp; simp only [ho]) (sliceX_ok h hq (arg_ok h hσ hu) (opt_ok h hσ hlo) (opt_ok h hσ hhi) (opt_ok h hσ hmx))
  rename_i q hq
  simp only [Option.some.injEq] at hr
  exact Owes.val h hr.symm (by unfold execOp; simp only [ho]) (slice_ok h hq (arg_ok h hσ hu) (opt_ok h hσ hlo) (opt_ok h hσ hhi) (opt_ok h hσ hmx))
 case h_20 t x f ho =>
  simp only [Option.bind_eq_some_iff] at hr
  obtain ⟨u, hu, hr⟩ := hr
  split at hr
  ·rename_i b off
   simp only [Option.bind_eq_some_iff] at hr
   obtain ⟨q, hq, hr⟩ := hr
   split at hr
   ·cases hr
   ·rename_i hz
    cases hr
    obtain ⟨l, hl, hx⟩ := conc_ptr (arg_ok h hσ hu)
    exact Owes.val h rfl (s := Instr.fieldAt t (a.eval x) f) (by unfold execOp; simp only [ho]) (by rw [hx]; exact fieldAddr_ok hq hz hl)
  ·cases hr
 case h_21 t x f ho =>
  simp only [Option.bind_eq_some_iff] at hr
  obtain ⟨u, hu, hr⟩ := hr
  split at hr
  ·rename_i cs
   simp only [Option.bind_eq_some_iff] at hr
   obtain ⟨q, hq, hr⟩ := hr
   obtain ⟨v, hv, hr⟩ := ret_some hr
   have hx := arg_ok h hσ hu
   simp only [conc, Option.map_eq_some_iff] at hx
   obtain ⟨xs, hxs, hx'⟩ := hx
   exact Owes.val h hr (s := Instr.field t (a.eval x) f) (by unfold execOp; simp only [ho]) (by rw [← hx']; exact fieldVal_ok hq hxs hv)
  ·cases hr
 case h_22 t x i ho =>
  simp only [Option.bind_eq_some_iff] at hr
  obtain ⟨u, hu, v, hv, hr⟩ := hr
  obtain ⟨q, hq, hr⟩ := ret_some hr
  exact Owes.val h hr (by unfold execOp; simp only [ho]) (indexAddr_ok hq (arg_ok h hσ hu) (arg_ok h hσ hv))
 case h_23 t x i ho =>
  simp only [Option.bind_eq_some_iff] at hr
  obtain ⟨u, hu, v, hv, hr⟩ := hr
  obtain ⟨q, hq, hr⟩ := ret_some hr
  exact Owes.val h hr (by unfold execOp; simp only [ho]) (index_ok hq (arg_ok h hσ hu) (arg_ok h hσ hv))
 case h_24 t x i ok ho =>
  simp only [Option.bind_eq_some_iff] at hr
  obtain ⟨u, hu, v, hv, hr⟩ := hr
  obtain ⟨q, hq, hr⟩ := ret_some hr
  exact Owes.val h hr (by unfold execOp; simp only [ho]) (lookup_ok h hq (arg_ok h hσ hu) (arg_ok h hσ hv))
 case h_25 t m k v ho =>
  simp only [Option.bind_eq_some_iff, Option.map_eq_some_iff] at hr
  obtain ⟨m', hm, k', hk, v', hv, q, hq, rfl⟩ := hr
  exact Owes.unit (by unfold execOp; simp only [ho]) (mapSet_ok h hq (arg_ok h hσ hm) (arg_ok h hσ hk) (arg_ok h hσ hv))
 case h_26 t m k v ho =>
  simp only [Option.bind_eq_some_iff, Option.map_eq_some_iff] at hr
  obtain ⟨m', hm, k', hk, v', hv, q, hq, rfl⟩ := hr
  exact Owes.unit (by unfold execOp; simp only [ho]) (mapSet_ok h hq (arg_ok h hσ hm) (arg_ok h hσ hk) (arg_ok h hσ hv))
 case h_27 t x ho =>
  simp only [Option.bind_eq_some_iff] at hr
  obtain ⟨u, hu, hr⟩ := hr
  split at hr
  ·rename_i s ht
   cases hr
   have hx : a.eval x = .string ⟨s.toArray⟩ := (Option.some.inj (arg_ok h hσ hu)).symm
   exact Owes.value (s := Instr.range t (a.eval x)) (by unfold execOp; simp only [ho]) (by rw [hx]; exact range_ok h ht)
  ·cases hr
 case h_28 it ho =>
  simp only [Option.bind_eq_some_iff] at hr
  obtain ⟨u, hu, hr⟩ := hr
  split at hr
  ·rename_i b
   split at hr
   ·rename_i s p hb
    cases hr
    exact Owes.value (s := Instr.next (a.eval it) true o.type) (by unfold execOp; simp only [ho]) (next_ok h hb (arg_ok h hσ hu))
   ·cases hr
  ·cases hr
 case h_29 x i ho =>
  simp only [Option.bind_eq_some_iff] at hr
  obtain ⟨u, hu, hr⟩ := hr
  split at hr
  ·rename_i vs
   obtain ⟨v, hv, hr⟩ := ret_some hr
   have hx := arg_ok h hσ hu
   simp only [conc, Option.map_eq_some_iff] at hx
   obtain ⟨xs, hxs, hx'⟩ := hx
   have hg := concs_get hxs i
   rw [hv, Option.bind_some] at hg
   have hlt : i < vs.length := (List.getElem?_eq_some_iff.1 hv).1
   have hl := concs_length hxs
   rw [List.getElem?_eq_getElem (by omega)] at hg
   refine Owes.val h hr (s := Instr.extract (a.eval x) i) (by unfold execOp; simp only [ho]) ⟨xs[i]'(by omega), ?_, hg.symm⟩
   rw [← hx']
   simp [Instr.extract, show i < xs.length by omega]
  ·cases hr
 case h_30 c ho => exact call_ok hC h hσ ho hy hr
 case h_31 x xt t ho =>
  simp only [Option.bind_eq_some_iff] at hr
  obtain ⟨u, hu, hr⟩ := hr
  obtain ⟨q, hq, hr⟩ := ret_some hr
  exact Owes.val h hr (s := Instr.typeAssert (a.eval x) xt t true) (by unfold execOp; simp only [ho]) (assert_ok hq (arg_ok h hσ hu))
 case h_32 => cases hr
end
end Go.Proofs.YtdppgaphcmhffaaGreatDoor.V
namespace Go.Proofs.YtdppgaphcmhffaaGreatDoor.V
open Go

def Fr (ro : Option Nat) : Fence := { Fence.wide with round := ro }
theorem callsIn_fr {ro : Option Nat} {n : Nat} {P : Program} {f : FuncId} {args : Array Value} {w : World} {R : Ending → World → Prop} (h : Calls P f args w R) : CallsIn (Fr ro) n P f args w R :=
 (callsIn_wide (n := n)).2 h
theorem rowsIn_fr {ro : Option Nat} {n : Nat} {P : Program} {row : String} {args : Array Value} {w : World} {R : Value → World → Prop} (h : Rows P row args w R) : RowsIn (Fr ro) n P row args w R := by
 intro c cs _
 obtain ⟨v, w', r, s⟩ := h c cs
 exact ⟨v, w', r, stepsIn_wide.2 s⟩

theorem evOp_nodefer {P : Program} {C : CallO} {σ : List AV} {H : Hp} {op : Op} {q : AV × Hp × Ef} (h : evOp P C σ H op = some q) : ∀ c, op ≠ .defer c := by
 rintro c rfl
 simp [evOp] at h

theorem wpIn_of_wp {ro : Option Nat} {n : Nat} {P : Program} {o : Oper} {a : Act} {w : World} {K : Act → World → Prop} {Q : Exit → Act → World → Prop} (hd : ∀ c, o.op ≠ .defer c) (h : o.wp P a w K Q) : o.wpIn (Fr ro) n P a w K Q := by
 refine ⟨fun f _ => trivial, ?_⟩
 rw [Oper.semAt_eq _ _ _ hd]
 unfold Oper.wp at h
 generalize (execOp a.eval o).run P w = r at h
 cases r with
 | ok x w' =>
  cases x <;> simp only [Oper.upon] at h <;> simp only [Oper.uponIn] <;>
   first
    | exact h
    | exact ⟨fun h => by simp [Fr, Fence.wide] at h, callsIn_fr h⟩
    | exact ⟨fun h => by simp [Fr, Fence.wide] at h, rowsIn_fr h⟩
    | exact h.elim
 | halt x w' => cases x <;> simp only [Oper.upon] at h <;> simp only [Oper.uponIn] <;> first | exact h | exact h.elim

section
variable {P : Program} {g : Gh} {μ : Mu} {H : Hp} {w : World} {a : Act} {σ : List AV} {C : CallO}

def OwesIn (P : Program) (g : Gh) (μ : Mu) (H : Hp) (w : World) (a : Act) (o : Oper) (r : AV × Hp × Ef) : Prop :=
 ∀ ro n K Q, (∀ μ' v' w', Ok P g μ H r μ' v' w' → K (a.put o.dst v') w') → o.wpIn (Fr ro) n P a w K Q

theorem op_in (hC : CallsOk P C) (h : HRel P g μ H w) (hσ : concs μ σ = some a.tmps.toList) {o : Oper} {r : AV × Hp × Ef} (hr : evOp P C σ H o.op = some r) : OwesIn P g μ H w a o r := by
 intro ro n K Q hK
 have hd := evOp_nodefer hr
 cases hy : isYl P σ o.op with
 | false => exact wpIn_of_wp hd (op_ok hC h hσ hy hr K Q hK)
 | true =>
  unfold isYl at hy
  split at hy
  ·rename_i c ho
   split at hy
   ·rename_i f hcal
    split at hy
    ·rename_i b hf
     rw [ho] at hr
     simp only [evOp, evCall, hcal, hf, Option.bind_some, Option.bind_eq_some_iff] at hr
     obtain ⟨az, has, hr⟩ := hr
     have hfc := arg_ok h hσ hf
     have hac := args_ok h hσ has
     simp only [conc, Option.map_eq_some_iff] at hfc
     obtain ⟨l, hl, hev⟩ := hfc
     obtain ⟨rec, hrec, hlen, hround⟩ := hC.yl b az H r hr g μ w _ l h hac hl
     refine ⟨fun f _ => trivial, ?_⟩
     rw [Oper.semAt_eq _ _ _ hd]
     have hrun : (execOp a.eval o).run P w = .ok (.round l.blk rec.fn ((rec.params.zip (c.args.toList.map a.eval).toArray).foldl (fun t (p, v) => t.setIfInBounds p v) rec.tmps) rec.assign rec.body) w := by
      unfold execOp
      simp only [ho, resolve, hcal, Deferred.ofValue, ← hev, Sem.run_bind, Sem.run_pure, Result.andThen_ok, invoke]
      have hy := run_yield (P := P) (args := (c.args.toList.map a.eval).toArray) hrec (by simpa using hlen)
      rw [← hy]
      congr 2
      apply Array.ext'
      simp
     rw [hrun]
     simp only [Oper.uponIn]
     refine ⟨fun h => by simp [Fr, Fence.wide] at h, ?_⟩
     have := hround (n - 1)
     refine RoundIn.mono (F := Fr ro) this ?_
     rintro e w' ⟨μ', v', rfl, hok⟩
     exact hK _ _ _ hok
    ·cases hy
   ·cases hy
  ·cases hy
end

theorem OwesIn.ex {P : Program} {g : Gh} {μ : Mu} {H : Hp} {w : World} {a : Act} {o : Oper} {r : AV × Hp × Ef} (h : OwesIn P g μ H w a o r) : ∃ μ' v' w', Ok P g μ H r μ' v' w' := by
  have hw := h none 0 (fun _ _ => ∃ μ' v' w', Ok P g μ H r μ' v' w') (fun _ _ _ => False) (fun μ' v' w' hok => ⟨μ', v', w', hok⟩)
  have hw := hw.2
  generalize (o.semAt (Fr none).round a.eval).run P w = q at hw
  cases q with
  | ok x w1 =>
    cases x <;> simp only [Oper.uponIn] at hw
    all_goals first
      | exact hw
      | exact hw.elim
      | (obtain ⟨_, hw⟩ := hw
         obtain ⟨e, w', fr, hR, _⟩ := hw.2 [] (room_wide _)
         cases e with
         | returned v => exact hR
         | panicked ch => exact hR.elim
         | outgrown => obtain ⟨_, _, hf⟩ := hR; exact hf.elim)
      | (obtain ⟨_, hw⟩ := hw
         obtain ⟨v, w', hR, _⟩ := hw default [] (room_wide _)
         exact hR)
      | (obtain ⟨_, hw⟩ := hw
         obtain ⟨e, w', hR, _⟩ := hw.2 default [] (room_wide _)
         cases e with
         | returned v => exact hR
         | panicked ch => exact hR.elim
         | outgrown => obtain ⟨_, _, hf⟩ := hR; exact hf.elim)
  | halt x w1 => cases x <;> simp only [Oper.uponIn] at hw

structure GLe (g g' : Gh) : Prop where
 z : ∀ k, g.Z k → g'.Z k ∧ g'.W.heap[k]? = g.W.heap[k]?
 os : g'.W.os = g.W.os
 tape : g'.W.tape = g.W.tape
 output : g'.W.output = g.W.output
 size : g.W.heap.size ≤ g'.W.heap.size
 b : g'.B = g.B
 x : g'.X = g.X
theorem GLe.refl (g : Gh) : GLe g g := ⟨fun _ h => ⟨h, rfl⟩, rfl, rfl, rfl, Nat.le_refl _, rfl, rfl⟩
theorem GLe.trans {a b c : Gh} (h : GLe a b) (k : GLe b c) : GLe a c :=
 ⟨fun i hi => ⟨(k.z i (h.z i hi).1).1, (k.z i (h.z i hi).1).2.trans (h.z i hi).2⟩, k.os.trans h.os, k.tape.trans h.tape, k.output.trans h.output, Nat.le_trans h.size k.size, k.b.trans h.b, k.x.trans h.x⟩
theorem HRel.weaken {P : Program} {g g' : Gh} {μ : Mu} {H : Hp} {w : World} (h : HRel P g' μ H w) (hg : GLe g g') : HRel P g μ H w where
 dom := h.dom
 glob := h.glob
 lt := h.lt
 blk := h.blk
 sep := h.sep
 own := fun b l x e f hw hz => h.own b l x e f hw (hg.z _ hz).1
 old := fun k hk => ⟨(h.old k (hg.z k hk).1).1, (h.old k (hg.z k hk).1).2.trans (hg.z k hk).2⟩
 os := h.os.trans hg.os
 tape := h.tape.trans hg.tape
 output := h.output.trans hg.output
 size := Nat.le_trans hg.size h.size
theorem HRel.onX {P : Program} {g : Gh} {μ : Mu} {H : Hp} {w : World} (h : HRel P g μ H w) (X : List Deferred × Bool) : HRel P (g.on X) μ H w := ⟨h.dom, h.glob, h.lt, h.blk, h.sep, h.own, h.old, h.os, h.tape, h.output, h.size⟩
theorem HRel.offX {P : Program} {g : Gh} {μ : Mu} {H : Hp} {w : World} {X : List Deferred × Bool} (h : HRel P (g.on X) μ H w) : HRel P g μ H w := ⟨h.dom, h.glob, h.lt, h.blk, h.sep, h.own, h.old, h.os, h.tape, h.output, h.size⟩
theorem HRel.onBase {P : Program} {g : Gh} {μ : Mu} {H : Hp} {w : World} (h : HRel P g μ H w) : HRel P g.base μ H w := h.onX _
theorem HRel.offBase {P : Program} {g : Gh} {μ : Mu} {H : Hp} {w : World} (h : HRel P g.base μ H w) : HRel P g μ H w := h.offX

def Marks (g : Gh) (ds : List Deferred) : Prop :=
 (∀ k, g.B k → g.Z k) ∧ ∃ Ds : List Nat, ds = Ds.map (fun D => { target := .collected D, args := #[] }) ++ g.X.1 ∧ Ds.Nodup ∧ (∀ D ∈ Ds, ¬ g.B D ∧ g.Z D ∧ g.W.heap[D]? = some (.deferred (some []))) ∧ (g.X.2 = true → Ds = [])
theorem Marks.on (g : Gh) (X : List Deferred × Bool) : Marks (g.on X) X.1 := ⟨fun _ h => h, [], rfl, List.nodup_nil, fun _ h => (by cases h), fun _ => rfl⟩
theorem Marks.nil (g : Gh) : Marks g.base [] := Marks.on g ([], false)
theorem Marks.grow {g g' : Gh} {ds : List Deferred} (h : Marks g ds) (hg : GLe g g') : Marks g' ds := by
 obtain ⟨h0, Ds, h1, h2, h3, h4⟩ := h
 refine ⟨fun k hk => (hg.z k (h0 k (hg.b ▸ hk))).1, Ds, by rw [hg.x]; exact h1, h2, fun D hD => ?_, by rw [hg.x]; exact h4⟩
 obtain ⟨a, b, c⟩ := h3 D hD
 exact ⟨fun e => a (hg.b ▸ e), (hg.z D b).1, (hg.z D b).2.trans c⟩

theorem BRel.alive {P : Program} {μ : Mu} {w : World} {l : Loc} {x : ABlk} (h : BRel P μ w l x) (hx : live x = true) (ds : Option (List Deferred)) : w.heap[l.blk]? ≠ some (.deferred ds) := by
 intro hd
 cases x with
 | cells c e k => obtain ⟨cc, fr, vs, h1, _⟩ := h; rw [h1] at hd; cases hd
 | map es => obtain ⟨ms, ck, h1, _⟩ := h; rw [h1] at hd; cases hd
 | iter s p => rw [h.1] at hd; cases hd
 | loop σ ps az bd md => obtain ⟨r, h1, _⟩ := h; rw [h1] at hd; cases hd
 | ghost => cases hx
 | dead => cases hx
 | void => cases hx
theorem HRel.mark {P : Program} {g : Gh} {μ : Mu} {H : Hp} {w : World} (h : HRel P g μ H w) (o : Obj) : HRel P ⟨fun k => g.Z k ∨ k = w.heap.size, w.alloc o, g.B, g.X⟩ μ H (w.alloc o) where
 dom := h.dom
 glob := h.glob
 lt := fun b l e => by have := h.lt b l e; simp; omega
 blk := fun b l x e f => (h.blk b l x e f).mono (Le.refl μ) (fun _ => Go.RowKit.Below.heap_alloc w o _ (h.lt b l e))
 sep := h.sep
 own := fun b l x e f hw hz => by
  rcases hz with hz | hz
  ·exact h.own b l x e f hw hz
  ·have := h.lt b l e; omega
 old := fun k hk => by
  refine ⟨?_, rfl⟩
  rcases hk with hk | hk
  ·have := (h.old k hk).1; simp; omega
  ·simp; omega
 os := rfl
 tape := rfl
 output := rfl
 size := Nat.le_refl _
theorem GLe.mark {P : Program} {g : Gh} {μ : Mu} {H : Hp} {w : World} (h : HRel P g μ H w) (o : Obj) : GLe g ⟨fun k => g.Z k ∨ k = w.heap.size, w.alloc o, g.B, g.X⟩ :=
 ⟨fun k hk => ⟨.inl hk, (Go.RowKit.Below.heap_alloc w o k (h.old k hk).1).trans (h.old k hk).2⟩, h.os, h.tape, h.output, by have := h.size; simp; omega, rfl, rfl⟩
theorem HRel.take {P : Program} {g : Gh} {μ : Mu} {H : Hp} {w : World} (h : HRel P g μ H w) {D : Nat} {ds : Option (List Deferred)} (hD : w.heap[D]? = some (.deferred ds)) (hz : ¬ g.Z D) (o : Obj) : HRel P g μ H (w.putObj D o) where
 dom := h.dom
 glob := h.glob
 lt := fun b l e => by simpa using h.lt b l e
 blk := fun b l x e f => (h.blk b l x e f).mono (Le.refl μ) (fun hl => World.putObj_heap_other (fun eq => (h.blk b l x e f).alive hl ds (eq ▸ hD)))
 sep := h.sep
 own := h.own
 old := fun k hk => ⟨by simpa using (h.old k hk).1, (World.putObj_heap_other (fun eq : k = D => hz (eq ▸ hk))).trans (h.old k hk).2⟩
 os := h.os
 tape := h.tape
 output := h.output
 size := by simpa using h.size
theorem HRel.hold {P : Program} {g : Gh} {μ : Mu} {H : Hp} {w : World} (h : HRel P g μ H w) {k : Nat} (hk : k < w.heap.size) (hn : ∀ b l x, μ b = some l → H[b]? = some x → wrt x = true → l.blk ≠ k) : HRel P ⟨fun j => g.Z j ∨ j = k, w, g.B, g.X⟩ μ H w where
 dom := h.dom
 glob := h.glob
 lt := h.lt
 blk := h.blk
 sep := h.sep
 own := fun b l x e f hw hz => by
  rcases hz with hz | hz
  ·exact h.own b l x e f hw hz
  ·exact hn b l x e f hw hz
 old := fun j hj => by
  refine ⟨?_, rfl⟩
  rcases hj with hj | hj
  ·exact (h.old j hj).1
  ·omega
 os := rfl
 tape := rfl
 output := rfl
 size := Nat.le_refl _
theorem GLe.hold {P : Program} {g : Gh} {μ : Mu} {H : Hp} {w : World} (h : HRel P g μ H w) (k : Nat) : GLe g ⟨fun j => g.Z j ∨ j = k, w, g.B, g.X⟩ :=
 ⟨fun j hj => ⟨.inl hj, (h.old j hj).2⟩, h.os, h.tape, h.output, h.size, rfl, rfl⟩

def RoOk (g : Gh) (ro : Option Nat) : Prop := (∀ l, ro = some l → g.Z l ∧ ∃ r, g.W.heap[l]? = some (.loop r)) ∧ (ro = none → g.X.2 = false)
theorem RoOk.none (g : Gh) (h : g.X.2 = false) : RoOk g none := ⟨fun _ h => (by cases h), fun _ => h⟩
theorem RoOk.grow {g g' : Gh} {ro : Option Nat} (h : RoOk g ro) (hg : GLe g g') : RoOk g' ro := ⟨fun l e => by
 obtain ⟨a, r, b⟩ := h.1 l e
 exact ⟨(hg.z l a).1, r, (hg.z l a).2.trans b⟩, fun e => by rw [hg.x]; exact h.2 e⟩
end Go.Proofs.YtdppgaphcmhffaaGreatDoor.V
namespace Go.Proofs.YtdppgaphcmhffaaGreatDoor.V
open Go

theorem masks_append : ∀ (ops : List Oper) (acc : List Nat), ∃ r, masks ops acc = acc ++ r ∧ r.length = ops.length
 | [], acc => ⟨[], by simp [masks], rfl⟩
 | o :: ops, acc => by
  obtain ⟨r, hr, hl⟩ := masks_append ops (acc ++ [o.after.toList.foldl (fun s e => if Region.binds .any e = true then s ||| (2 ^ e.on ||| (acc[e.on]?).getD 0) else s) 0])
  exact ⟨_ :: r, by rw [masks, hr, List.append_assoc]; rfl, by simp [hl]⟩

def Closed (ops : List Oper) (D : Nat → Bool) : Prop := ∀ i o, ops[i]? = some o → D i = true → ∀ e ∈ o.after.toList, Region.binds .any e = true → D e.on = true

theorem fold_bit (es : List Edge) (acc : List Nat) (j : Nat) : ∀ s : Nat, (es.foldl (fun s e => if Region.binds .any e = true then s ||| (2 ^ e.on ||| (acc[e.on]?).getD 0) else s) s).testBit j = true →
  s.testBit j = true ∨ ∃ e ∈ es, Region.binds .any e = true ∧ (e.on = j ∨ ((acc[e.on]?).getD 0).testBit j = true) := by
 induction es with
 | nil => intro s h; exact .inl h
 | cons e es ih =>
  intro s h
  rw [List.foldl_cons] at h
  rcases ih _ h with h | ⟨e', he', hb, hh⟩
  ·by_cases hb : Region.binds .any e = true
   ·rw [if_pos hb, Nat.testBit_or, Nat.testBit_or, Bool.or_eq_true, Bool.or_eq_true] at h
    rcases h with h | h | h
    ·exact .inl h
    ·rw [Nat.testBit_two_pow] at h
     simp at h
     exact .inr ⟨e, by simp, hb, .inl h⟩
    ·exact .inr ⟨e, by simp, hb, .inr h⟩
   ·rw [if_neg hb] at h
    exact .inl h
  ·exact .inr ⟨e', by simp [he'], hb, hh⟩

theorem masks_sound (all : List Oper) (D : Nat → Bool) (hD : Closed all D) : ∀ (ops : List Oper) (acc : List Nat), (∀ k, ops[k]? = all[acc.length + k]?) →
  (∀ i j, i < acc.length → ((acc[i]?).getD 0).testBit j = true → D i = true → D j = true) → ∀ i j, (((masks ops acc)[i]?).getD 0).testBit j = true → D i = true → D j = true
 | [], acc, _, hacc, i, j, h, hi => by
  rw [masks] at h
  by_cases hl : i < acc.length
  ·exact hacc i j hl h hi
  ·rw [List.getElem?_eq_none (by omega)] at h
   simp at h
 | o :: ops, acc, hops, hacc, i, j, h, hi => by
  rw [masks] at h
  refine masks_sound all D hD ops _ (fun k => ?_) (fun i j hl hb hi => ?_) i j h hi
  ·have := hops (k + 1)
   simpa [Nat.add_assoc, Nat.add_comm 1 k] using this
  ·rw [List.length_append, List.length_singleton] at hl
   by_cases hl' : i < acc.length
   ·rw [List.getElem?_append_left hl'] at hb
    exact hacc i j hl' hb hi
   ·have : i = acc.length := by omega
    subst this
    rw [List.getElem?_append_right (Nat.le_refl _)] at hb
    simp only [Nat.sub_self, List.getElem?_cons_zero, Option.getD_some] at hb
    have ho : all[acc.length]? = some o := by have := hops 0; simpa using this.symm
    rcases fold_bit _ _ _ _ hb with hb | ⟨e, he, hbe, hh⟩
    ·simp at hb
    ·have hde := hD _ o ho hi e he hbe
     rcases hh with rfl | hh
     ·exact hde
     ·by_cases hle : e.on < acc.length
      ·exact hacc e.on j hle hh hde
      ·rw [List.getElem?_eq_none (by omega)] at hh
       simp at hh

theorem anc_sound {ops : List Oper} {D : Nat → Bool} (hD : Closed ops D) {i j : Nat} (h : anc (masks ops []) j i = true) (hi : D i = true) : D j = true :=
 masks_sound ops D hD ops [] (fun k => by simp) (fun i j hl => by simp at hl) i j h hi

theorem anc_next {ops : List Oper} {D : Nat → Bool} (hD : Closed ops D) {i j : Nat} {o : Oper} (ho : ops[i]? = some o) (hr : ∀ e ∈ o.after.toList, Region.binds .any e = true → D e.on = true) (h : anc (masks ops []) j i = true) (hij : j ≠ i) : D j = true := by
 have := anc_sound (D := fun k => D k || k == i) (fun k o' ho' hk e he hb => by
  simp only [Bool.or_eq_true, beq_iff_eq] at hk ⊢
  rcases hk with hk | rfl
  ·exact .inl (hD k o' ho' hk e he hb)
  ·rw [ho] at ho'; cases ho'
   exact .inl (hr e he hb)) h (by simp)
 simpa [hij] using this

theorem anc_free {ops : List Oper} {i j : Nat} {o : Oper} (ho : ops[i]? = some o) (hf : isFree o = true) : anc (masks ops []) j i = false := by
 cases h : anc (masks ops []) j i with
 | false => rfl
 | true =>
  have hemp : o.after.toList = [] := by
   unfold isFree at hf
   split at hf
   ·simp only [Bool.and_eq_true, List.isEmpty_iff] at hf
    exact hf.1
   ·cases hf
  by_cases hij : j = i
  ·subst hij
   have := anc_sound (D := fun k => decide (k < j)) (ops := ops) (i := j) (j := j)
   exfalso
   -- no edge: the mask is nought
   have h0 : ∀ (l : List Oper) (acc : List Nat), l[j - acc.length]? = some o → acc.length ≤ j → (((masks l acc)[j]?).getD 0).testBit j = false := by
    intro l
    induction l with
    | nil => intro acc hl; simp at hl
    | cons x l ih =>
     intro acc hl hle
     rw [masks]
     by_cases hj : j = acc.length
     ·rw [hj] at hl
      simp at hl
      subst hl
      obtain ⟨r, hr, _⟩ := masks_append l (acc ++ [x.after.toList.foldl (fun s e => if Region.binds .any e = true then s ||| (2 ^ e.on ||| (acc[e.on]?).getD 0) else s) 0])
      rw [hr, List.append_assoc, List.getElem?_append_right (by omega), hj]
      simp [hemp]
     ·refine ih _ ?_ (by simp; omega)
      rw [show j - acc.length = (j - (acc ++ [x.after.toList.foldl (fun s e => if Region.binds .any e = true then s ||| (2 ^ e.on ||| (acc[e.on]?).getD 0) else s) 0]).length) + 1 by simp; omega] at hl
      simpa using hl
   have := h0 ops [] (by simpa using ho) (Nat.zero_le _)
   unfold anc at h
   rw [this] at h
   cases h
  ·have := anc_next (D := fun _ => false) (fun _ _ _ hk => by cases hk) ho (fun e he => by rw [hemp] at he; cases he) h hij
   cases this

structure Rec where
 i : Nat
 o : Oper
 v : AV
 eff : Bool
 H : Hp
 ef : Ef
 wr : Option Nat

def wrB (P : Program) (σ : List AV) : Op → Option Nat
 | .store _ x _ => match evArg P σ x with
  | some (.ptr b _) => some b
  | _ => none
 | _ => none
inductive Tr (P : Program) (C : CallO) (ops : List Oper) : St → List Rec → St → Prop
 | nil (s : St) : Tr P C ops s [] s
 | run {s s' : St} {i : Nat} {o : Oper} {q : AV × Hp × Ef} {rs : List Rec} : wantedA ops s.σ o = true → evOp P C s.σ s.H o.op = some q → Inv s.H.length s.H q.2.1 q.2.2 → s.H.length ≤ q.2.1.length →
   Tr P C ops ⟨put s.σ o.dst q.1, q.2.1, s.ef.and q.2.2⟩ rs s' → Tr P C ops s (⟨i, o, q.1, !(isFree o || quiet q s.H), q.2.1, q.2.2, wrB P s.σ o.op⟩ :: rs) s'
 | skip {s s' : St} {i : Nat} {o : Oper} {rs : List Rec} : wantedA ops s.σ o = false → Tr P C ops ⟨put s.σ o.dst undefA, s.H, s.ef⟩ rs s' → Tr P C ops s (⟨i, o, undefA, false, s.H, z0, none⟩ :: rs) s'

structure SRel (P : Program) (g : Gh) (μ : Mu) (s : St) (w : World) (a : Act) : Prop where
 rel : HRel P g μ s.H w
 tm : concs μ s.σ = some a.tmps.toList
 df : Marks g a.defers

theorem put_conc {μ : Mu} {σ : List AV} {a : Act} {v : AV} {v' : Value} (dst : Option Tmp) (h : concs μ σ = some a.tmps.toList) (hv : conc μ v = some v') : concs μ (put σ dst v) = some (a.put dst v').tmps.toList := by
 cases dst with
 | none => exact h
 | some d =>
  have := concs_set d h hv
  simpa [put, Act.put] using this
theorem put_defers (a : Act) (dst : Option Tmp) (v : Value) : (a.put dst v).defers = a.defers := by cases dst <;> rfl

theorem SRel.step {P : Program} {g : Gh} {μ μ' : Mu} {s : St} {w w' : World} {a : Act} {r : AV × Hp × Ef} {v' : Value} (h : SRel P g μ s w a) (dst : Option Tmp) (k : Ok P g μ s.H r μ' v' w') (e : Ef) : SRel P g μ' ⟨put s.σ dst r.1, r.2.1, e⟩ w' (a.put dst v') :=
 ⟨k.rel, put_conc dst (concs_le k.le _ h.tm) k.val, by rw [put_defers]; exact h.df⟩

theorem SRel.undef {P : Program} {g : Gh} {μ : Mu} {s : St} {w : World} {a : Act} (h : SRel P g μ s w a) (dst : Option Tmp) (e : Ef) : SRel P g μ ⟨put s.σ dst undefA, s.H, e⟩ w (a.put dst undef) :=
 ⟨h.rel, put_conc dst h.tm rfl, by rw [put_defers]; exact h.df⟩

theorem evD_tr {P : Program} {C : CallO} (hC : CallsOk P C) {ops : List Oper} : ∀ (l : List (Nat × Oper)) {s s' : St} {effs : List Nat}, evD P C ops l s = some (s', effs) → ∀ {g : Gh} {μ : Mu} {w : World} {a : Act}, SRel P g μ s w a →
  ∃ rs, Tr P C ops s rs s' ∧ rs.map (fun r => (r.i, r.o)) = l ∧ effs = (rs.filter (·.eff)).map (fun r => tg r.i r.ef)
 | [], s, s', effs, h, g, μ, w, a, hr => by
  simp only [evD, Option.some.injEq, Prod.mk.injEq] at h
  obtain ⟨rfl, rfl⟩ := h
  exact ⟨[], .nil _, rfl, rfl⟩
 | (i, o) :: l, s, s', effs, h, g, μ, w, a, hr => by
  simp only [evD] at h
  split at h
  ·rename_i hw
   simp only [Option.bind_eq_some_iff, Option.map_eq_some_iff] at h
   obtain ⟨q, hq, ⟨s1, e1⟩, h1, h⟩ := h
   simp only [Prod.mk.injEq] at h
   obtain ⟨rfl, rfl⟩ := h
   obtain ⟨μ', v', w', hok⟩ := (op_in hC hr.rel hr.tm hq).ex
   obtain ⟨rs, t1, t2, t3⟩ := evD_tr hC l h1 (hr.step o.dst hok _)
   refine ⟨_ :: rs, .run (i := i) hw hq hok.inv hok.len t1, by simp [t2], ?_⟩
   subst t3
   cases hb : (isFree o || quiet q s.H) <;> simp [hb]
  ·rename_i hw
   obtain ⟨rs, t1, t2, t3⟩ := evD_tr hC l h (hr.undef o.dst s.ef)
   exact ⟨_ :: rs, .skip (i := i) (by simpa using hw) t1, by simp [t2], by simp [t3]⟩

def fD (D : Nat → Bool) (σ : List AV) (rs : List Rec) : List AV := rs.foldl (fun σ r => if D r.i = true then put σ r.o.dst r.v else σ) σ
def hp (D : Nat → Bool) (X : Hp) (rs : List Rec) : Hp := rs.foldl (fun X r => if D r.i = true ∧ r.eff = true then r.H else X) X
def efs (D : Nat → Bool) (e : Ef) (rs : List Rec) : Ef := rs.foldl (fun e r => if D r.i = true ∧ r.eff = true then e.and r.ef else e) e

theorem put_len (σ : List AV) (d : Option Tmp) (v : AV) : (put σ d v).length = σ.length := by cases d <;> simp [put]
theorem fD_len (D : Nat → Bool) (rs : List Rec) : ∀ σ, (fD D σ rs).length = σ.length := by
 induction rs with
 | nil => intro σ; rfl
 | cons r rs ih =>
  intro σ
  show (fD D (if D r.i = true then put σ r.o.dst r.v else σ) rs).length = _
  rw [ih]
  split
  ·exact put_len _ _ _
  ·rfl

theorem put_get_other {σ : List AV} {d : Option Tmp} {v : AV} {t : Nat} (h : d ≠ some t) : (put σ d v)[t]? = σ[t]? := by
 cases d with
 | none => rfl
 | some d => simp only [put]; rw [List.getElem?_set_ne]; rintro rfl; exact h rfl

theorem fD_none {D : Nat → Bool} {t : Nat} : ∀ (rs : List Rec) (σ : List AV), (∀ r ∈ rs, D r.i = true → r.o.dst ≠ some t) → (fD D σ rs)[t]? = σ[t]?
 | [], σ, _ => rfl
 | r :: rs, σ, h => by
  show (fD D (if D r.i = true then put σ r.o.dst r.v else σ) rs)[t]? = _
  rw [fD_none rs _ (fun r' hr' => h r' (by simp [hr']))]
  split
  ·rename_i hd
   exact put_get_other (h r (by simp) hd)
  ·rfl

theorem fD_some {D : Nat → Bool} {t : Nat} : ∀ (rs : List Rec) (σ : List AV) (r : Rec), r ∈ rs → D r.i = true → r.o.dst = some t → (∀ r' ∈ rs, r'.o.dst = some t → r' = r) → (fD D σ rs)[t]? = if t < σ.length then some r.v else none
 | [], _, _, h, _, _, _ => by cases h
 | r0 :: rs, σ, r, h, hd, ht, hu => by
  show (fD D (if D r0.i = true then put σ r0.o.dst r0.v else σ) rs)[t]? = _
  by_cases hin : r ∈ rs
  ·rw [fD_some rs _ r hin hd ht (fun r' hr' => hu r' (by simp [hr']))]
   split <;> simp [put_len]
  ·have h0 : r0 = r := by
    rcases List.mem_cons.1 h with h | h
    ·exact h.symm
    ·exact absurd h hin
   subst h0
   rw [if_pos hd, fD_none]
   ·rw [ht]
    simp only [put, List.getElem?_set_self']
    by_cases hl : t < σ.length
    ·simp [hl]
    ·simp [hl]
   ·intro r' hr' _ he
    have := hu r' (by simp [hr']) he
    subst this
    exact hin hr'

theorem hp_none {D : Nat → Bool} : ∀ (rs : List Rec) (X : Hp), (∀ r ∈ rs, r.eff = true → D r.i = false) → hp D X rs = X
 | [], _, _ => rfl
 | r :: rs, X, h => by
  show hp D (if D r.i = true ∧ r.eff = true then r.H else X) rs = X
  rw [if_neg (by rintro ⟨h1, h2⟩; rw [h r (by simp) h2] at h1; cases h1)]
  exact hp_none rs X (fun r' hr' => h r' (by simp [hr']))
theorem hp_congr {D D' : Nat → Bool} : ∀ (rs : List Rec) (X : Hp), (∀ r ∈ rs, r.eff = true → D r.i = D' r.i) → hp D X rs = hp D' X rs
 | [], _, _ => rfl
 | r :: rs, X, h => by
  show hp D (if D r.i = true ∧ r.eff = true then r.H else X) rs = hp D' (if D' r.i = true ∧ r.eff = true then r.H else X) rs
  by_cases he : r.eff = true
  ·rw [h r (by simp) he]; exact hp_congr rs _ (fun r' hr' => h r' (by simp [hr']))
  ·simp only [he, and_false, if_false, Bool.false_eq_true]; exact hp_congr rs _ (fun r' hr' => h r' (by simp [hr']))
theorem hp_append (D : Nat → Bool) (X : Hp) (a b : List Rec) : hp D X (a ++ b) = hp D (hp D X a) b := by simp [hp]
theorem hp_cons (D : Nat → Bool) (X : Hp) (r : Rec) (rs : List Rec) : hp D X (r :: rs) = hp D (if D r.i = true ∧ r.eff = true then r.H else X) rs := rfl
theorem efs_none {D : Nat → Bool} : ∀ (rs : List Rec) (e : Ef), (∀ r ∈ rs, r.eff = true → D r.i = false) → efs D e rs = e
 | [], _, _ => rfl
 | r :: rs, e, h => by
  show efs D (if D r.i = true ∧ r.eff = true then e.and r.ef else e) rs = e
  rw [if_neg (by rintro ⟨h1, h2⟩; rw [h r (by simp) h2] at h1; cases h1)]
  exact efs_none rs e (fun r' hr' => h r' (by simp [hr']))
theorem efs_congr {D D' : Nat → Bool} : ∀ (rs : List Rec) (e : Ef), (∀ r ∈ rs, r.eff = true → D r.i = D' r.i) → efs D e rs = efs D' e rs
 | [], _, _ => rfl
 | r :: rs, e, h => by
  show efs D (if D r.i = true ∧ r.eff = true then e.and r.ef else e) rs = efs D' (if D' r.i = true ∧ r.eff = true then e.and r.ef else e) rs
  by_cases he : r.eff = true
  ·rw [h r (by simp) he]; exact efs_congr rs _ (fun r' hr' => h r' (by simp [hr']))
  ·simp only [he, and_false, if_false, Bool.false_eq_true]; exact efs_congr rs _ (fun r' hr' => h r' (by simp [hr']))
theorem efs_cons (D : Nat → Bool) (e : Ef) (r : Rec) (rs : List Rec) : efs D e (r :: rs) = efs D (if D r.i = true ∧ r.eff = true then e.and r.ef else e) rs := rfl
theorem efs_append (D : Nat → Bool) (e : Ef) (a b : List Rec) : efs D e (a ++ b) = efs D (efs D e a) b := by simp [efs]

theorem quiet_same {q : AV × Hp × Ef} {H : Hp} (h : quiet q H = true) (hi : Inv H.length H q.2.1 q.2.2) : q.2.1 = H ∧ q.2.2 = z0 := by
 unfold quiet at h
 simp only [Bool.and_eq_true, Option.isNone_iff_eq_none, beq_iff_eq] at h
 obtain ⟨⟨h1, h2⟩, h3⟩ := h
 constructor
 ·apply List.ext_getElem?
  intro b
  by_cases hb : b < H.length
  ·exact hi.wi b hb (fun e he => by rw [h2] at he; cases he)
  ·rw [List.getElem?_eq_none (by omega), List.getElem?_eq_none (by omega)]
 ·cases hq : q.2.2 with
  | mk es ws =>
   rw [hq] at h1 h2
   simp only at h1 h2
   subst h1; subst h2; rfl

theorem Ef.and_z0 (e : Ef) : e.and z0 = e := by
 cases e with
 | mk a b => cases a <;> cases b <;> rfl
theorem Ef.z0_and (e : Ef) : z0.and e = e := by
 cases e with
 | mk a b => cases a <;> cases b <;> rfl
theorem omin_assoc (a b c : Option Nat) : omin (omin a b) c = omin a (omin b c) := by
 cases a <;> cases b <;> cases c <;> simp [omin, Nat.min_assoc]
theorem Ef.and_assoc (a b c : Ef) : (a.and b).and c = a.and (b.and c) := by
 simp [Ef.and, omin_assoc]

theorem Tr.split {P : Program} {C : CallO} {ops : List Oper} : ∀ {pre : List Rec} {s s' : St} {post : List Rec}, Tr P C ops s (pre ++ post) s' → ∃ m, Tr P C ops s pre m ∧ Tr P C ops m post s'
 | [], s, s', post, h => ⟨s, .nil s, h⟩
 | r :: pre, s, s', post, h => by
  cases h with
  | run h1 h2 h3 h4 h5 =>
   obtain ⟨m, m1, m2⟩ := Tr.split h5
   exact ⟨m, .run h1 h2 h3 h4 m1, m2⟩
  | skip h1 h2 =>
   obtain ⟨m, m1, m2⟩ := Tr.split h2
   exact ⟨m, .skip h1 m1, m2⟩

theorem Tr.frame {P : Program} {C : CallO} {ops : List Oper} : ∀ {rs : List Rec} {s s' : St}, Tr P C ops s rs s' → s'.σ = fD (fun _ => true) s.σ rs
 | [], s, s', h => by cases h; rfl
 | r :: rs, s, s', h => by
  cases h with
  | run h1 h2 h3 h4 h5 => exact h5.frame
  | skip h1 h2 => exact h2.frame

theorem Tr.heap {P : Program} {C : CallO} {ops : List Oper} : ∀ {rs : List Rec} {s s' : St}, Tr P C ops s rs s' → (∀ r ∈ rs, isFree r.o = false) → s'.H = hp (fun _ => true) s.H rs ∧ s'.ef = s.ef.and (efs (fun _ => true) z0 rs)
 | [], s, s', h, _ => by cases h; exact ⟨rfl, (Ef.and_z0 _).symm⟩
 | r :: rs, s, s', h, hf => by
  have key : ∀ (rs : List Rec) (e f : Ef), efs (fun _ => true) (e.and f) rs = e.and (efs (fun _ => true) f rs) := by
   intro rs
   induction rs with
   | nil => intro e f; rfl
   | cons r rs ih =>
    intro e f
    rw [efs_cons, efs_cons]
    by_cases he : r.eff = true
    ·simp only [he, and_self, if_true, Ef.and_assoc]; exact ih _ _
    ·simp only [he, and_false, if_false, Bool.false_eq_true]; exact ih _ _
  cases h with
  | @run _ _ i o q _ h1 h2 h3 h4 h5 =>
   obtain ⟨k1, k2⟩ := h5.heap (fun r hr => hf r (by simp [hr]))
   have hfo : isFree o = false := hf _ List.mem_cons_self
   by_cases hq : quiet q s.H = true
   ·obtain ⟨e1, e2⟩ := quiet_same hq h3
    constructor
    ·rw [k1, hp_cons]
     simp [hfo, hq, e1]
    ·rw [k2, efs_cons]
     simp [hfo, hq, e2, Ef.and_z0]
   ·have hq' : quiet q s.H = false := by simpa using hq
    constructor
    ·rw [k1, hp_cons]
     simp [hfo, hq']
    ·rw [k2, efs_cons]
     simp only [hfo, hq', Bool.or_self, Bool.not_false, and_self, if_true, Ef.z0_and]
     rw [Ef.and_assoc, ← key, Ef.and_z0]
  | skip h1 h2 =>
   obtain ⟨k1, k2⟩ := h2.heap (fun r hr => hf r (by simp [hr]))
   constructor
   ·rw [k1]
    rfl
   ·rw [k2]
    rfl
end Go.Proofs.YtdppgaphcmhffaaGreatDoor.V
namespace Go.Proofs.YtdppgaphcmhffaaGreatDoor.V
open Go

section
variable {P : Program} {C : CallO} {σ σ' : List AV} {H : Hp}

theorem evArgs_congr : ∀ {xs : List Operand}, (∀ x ∈ xs, evArg P σ x = evArg P σ' x) → evArgs P σ xs = evArgs P σ' xs
 | [], _ => rfl
 | x :: xs, h => by
  have ih := evArgs_congr (xs := xs) (fun y hy => h y (List.mem_cons_of_mem _ hy))
  simp only [evArgs, h x (by simp), ih]
theorem evParts_congr : ∀ {xs : List (Nat × Operand)}, (∀ x ∈ xs, evArg P σ x.2 = evArg P σ' x.2) → evParts P σ xs = evParts P σ' xs
 | [], _ => rfl
 | (i, x) :: xs, h => by
  have ih := evParts_congr (xs := xs) (fun y hy => h y (List.mem_cons_of_mem _ hy))
  simp only [evParts, h (i, x) (by simp), ih]
theorem evOpt_congr {x : Option Operand} (h : ∀ y, x = some y → evArg P σ y = evArg P σ' y) : evOpt P σ x = evOpt P σ' x := by
 cases x with
 | none => rfl
 | some y => simp only [evOpt, h y rfl]

theorem evCall_congr {c : Call} (h : ∀ x ∈ c.operands, evArg P σ x = evArg P σ' x) : evCall P C σ H c = evCall P C σ' H c := by
 have ha : evArgs P σ c.args.toList = evArgs P σ' c.args.toList := evArgs_congr (fun x hx => h x (by simp only [Call.operands, Array.mem_append]; right; simpa using hx))
 unfold evCall
 split
 ·rename_i f hf
  rw [h f (by simp [Call.operands, hf]), ha]
 ·rw [ha]
 ·rfl

theorem evOp_congr {op : Op} (h : ∀ x ∈ op.operands, evArg P σ x = evArg P σ' x) : evOp P C σ H op = evOp P C σ' H op := by
 cases op with
 | move x => simp only [evOp, h x (by simp [Op.operands])]
 | assign x => simp only [evOp, h x (by simp [Op.operands])]
 | pick c a b => simp only [evOp, h c (by simp [Op.operands]), h a (by simp [Op.operands]), h b (by simp [Op.operands])]
 | alloc e => simp only [evOp]
 | box e x => simp only [evOp, h x (by simp [Op.operands])]
 | build t ps => simp only [evOp]; rw [evParts_congr (fun x hx => h x.2 (by simp only [Op.operands, List.mem_toArray, List.mem_map]; exact ⟨x, hx, rfl⟩))]
 | buildSlice t n ps => simp only [evOp]; rw [evParts_congr (fun x hx => h x.2 (by simp only [Op.operands, List.mem_toArray, List.mem_map]; exact ⟨x, hx, rfl⟩))]
 | load t x => simp only [evOp, h x (by simp [Op.operands])]
 | store t x y => simp only [evOp, h x (by simp [Op.operands]), h y (by simp [Op.operands])]
 | nilCheck x => simp only [evOp, h x (by simp [Op.operands])]
 | binOp o t x y u => simp only [evOp, h x (by simp [Op.operands]), h y (by simp [Op.operands])]
 | unOp o t x => simp only [evOp, h x (by simp [Op.operands])]
 | convert s d x => simp only [evOp, h x (by simp [Op.operands])]
 | makeInterface t x => simp only [evOp, h x (by simp [Op.operands])]
 | makeFunc fn f c =>
  simp only [evOp]
  rw [evArgs_congr (xs := f.toList) (fun x hx => h x (by simp only [Op.operands, Array.mem_append]; left; simpa using hx)), evArgs_congr (xs := c.toList) (fun x hx => h x (by simp only [Op.operands, Array.mem_append]; right; simpa using hx))]
 | makeMap t r =>
  cases r with
  | none => simp only [evOp]
  | some x => simp only [evOp, h x (by simp [Op.operands])]
 | makeSlice t l c => simp only [evOp, h l (by simp [Op.operands]), h c (by simp [Op.operands])]
 | slice t x lo hi mx =>
  simp only [evOp]
  rw [h x (by simp [Op.operands]), evOpt_congr (x := lo) (fun y hy => h y (by simp [Op.operands, hy])), evOpt_congr (x := hi) (fun y hy => h y (by simp [Op.operands, hy])), evOpt_congr (x := mx) (fun y hy => h y (by simp [Op.operands, hy]))]
 | fieldAddr t x f => simp only [evOp, h x (by simp [Op.operands])]
 | field t x f => simp only [evOp, h x (by simp [Op.operands])]
 | indexAddr t x i => simp only [evOp, h x (by simp [Op.operands]), h i (by simp [Op.operands])]
 | index t x i => simp only [evOp, h x (by simp [Op.operands]), h i (by simp [Op.operands])]
 | lookup t x i ok => simp only [evOp, h x (by simp [Op.operands]), h i (by simp [Op.operands])]
 | mapUpdate t m k v => simp only [evOp, h m (by simp [Op.operands]), h k (by simp [Op.operands]), h v (by simp [Op.operands])]
 | insert t m k v => simp only [evOp, h m (by simp [Op.operands]), h k (by simp [Op.operands]), h v (by simp [Op.operands])]
 | range t x => simp only [evOp, h x (by simp [Op.operands])]
 | next it b => cases b <;> simp only [evOp, h it (by simp [Op.operands])]
 | extract x i => simp only [evOp, h x (by simp [Op.operands])]
 | typeAssert x xt t ok => cases ok <;> simp only [evOp, h x (by simp [Op.operands])]
 | call c => simp only [evOp]; exact evCall_congr (fun x hx => h x hx)
 | _ => rfl

theorem evArg_congr {x : Operand} (h : ∀ t, x = .tmp t → σ[t]? = σ'[t]?) : evArg P σ x = evArg P σ' x := by
 cases x with
 | tmp t => simp only [evArg, h t rfl]
 | _ => rfl

theorem evOp_pure {op : Op} (hp : pureOp op = true) {q : AV × Hp × Ef} (h : evOp P C σ H op = some q) : q = (q.1, H, z0) ∧ ∀ H' : Hp, evOp P C σ H' op = some (q.1, H', z0) := by
 have hret : ∀ {v : Option AV} {q : AV × Hp × Ef}, ret H v = some q → q = (q.1, H, z0) ∧ ∀ H' : Hp, ret H' v = some (q.1, H', z0) := by
  intro v q hv
  obtain ⟨u, rfl, rfl⟩ := ret_some hv
  exact ⟨rfl, fun _ => rfl⟩
 cases op <;> simp only [pureOp] at hp <;> first | (cases hp; done) | skip
 case move x => exact hret h
 case assign x => exact hret h
 case pick c a b =>
  simp only [evOp, Option.bind_eq_some_iff] at h ⊢
  obtain ⟨cv, hc, h⟩ := h
  split at h
  ·obtain ⟨h1, h2⟩ := hret h
   exact ⟨h1, fun H' => ⟨_, hc, h2 H'⟩⟩
  ·cases h
 case build t ps =>
  simp only [evOp, Option.bind_eq_some_iff] at h ⊢
  obtain ⟨cv, hc, h⟩ := h
  obtain ⟨h1, h2⟩ := hret h
  exact ⟨h1, fun H' => ⟨_, hc, h2 H'⟩⟩
 case nilCheck x =>
  simp only [evOp, Option.bind_eq_some_iff] at h ⊢
  obtain ⟨cv, hc, h⟩ := h
  split at h
  ·cases h; exact ⟨rfl, fun H' => ⟨_, hc, rfl⟩⟩
  ·cases h; exact ⟨rfl, fun H' => ⟨_, hc, rfl⟩⟩
  ·cases h
 case binOp o t x y u =>
  simp only [evOp, Option.bind_eq_some_iff] at h ⊢
  obtain ⟨xv, hx, yv, hy, h⟩ := h
  split at h
  ·split at h
   ·rename_i hcst
    split at h
    ·obtain ⟨h1, h2⟩ := hret h
     exact ⟨h1, fun H' => ⟨_, hx, _, hy, by simp only [hcst, if_true]; exact h2 H'⟩⟩
    ·obtain ⟨h1, h2⟩ := hret h
     exact ⟨h1, fun H' => ⟨_, hx, _, hy, by simp only [hcst, if_true]; exact h2 H'⟩⟩
    ·cases h
   ·cases h
  ·rename_i hne
   obtain ⟨h1, h2⟩ := hret h
   refine ⟨h1, fun H' => ⟨_, hx, _, hy, ?_⟩⟩
   have := h2 H'
   split
   ·exact (hne rfl rfl).elim
   ·exact this
 case unOp o t x =>
  simp only [evOp, Option.bind_eq_some_iff] at h ⊢
  obtain ⟨cv, hc, h⟩ := h
  obtain ⟨h1, h2⟩ := hret h
  exact ⟨h1, fun H' => ⟨_, hc, h2 H'⟩⟩
 case makeInterface t x =>
  simp only [evOp, Option.bind_eq_some_iff] at h ⊢
  obtain ⟨cv, hc, h⟩ := h
  split at h
  ·cases h
  ·rename_i s hs hne
   obtain ⟨h1, h2⟩ := hret h
   refine ⟨h1, fun H' => ⟨_, hc, ?_⟩⟩
   exact h2 H'
  ·cases h
 case makeFunc fn f c =>
  simp only [evOp, Option.bind_eq_some_iff] at h ⊢
  obtain ⟨xv, hx, yv, hy, h⟩ := h
  obtain ⟨h1, h2⟩ := hret h
  exact ⟨h1, fun H' => ⟨_, hx, _, hy, h2 H'⟩⟩
 case fieldAddr t x f =>
  simp only [evOp, Option.bind_eq_some_iff] at h ⊢
  obtain ⟨cv, hc, h⟩ := h
  split at h
  ·simp only [Option.bind_eq_some_iff] at h
   obtain ⟨y, hy, h⟩ := h
   split at h
   ·cases h
   ·rename_i hz
    cases h
    exact ⟨rfl, fun H' => ⟨_, hc, by simp only [hy, Option.bind_some, hz, if_false]⟩⟩
  ·cases h
 case field t x f =>
  simp only [evOp, Option.bind_eq_some_iff] at h ⊢
  obtain ⟨cv, hc, h⟩ := h
  split at h
  ·simp only [Option.bind_eq_some_iff] at h
   obtain ⟨y, hy, h⟩ := h
   obtain ⟨h1, h2⟩ := hret h
   exact ⟨h1, fun H' => ⟨_, hc, by simp only [hy, Option.bind_some]; exact h2 H'⟩⟩
  ·cases h
 case indexAddr t x i =>
  simp only [evOp, Option.bind_eq_some_iff] at h ⊢
  obtain ⟨xv, hx, yv, hy, h⟩ := h
  obtain ⟨h1, h2⟩ := hret h
  exact ⟨h1, fun H' => ⟨_, hx, _, hy, h2 H'⟩⟩
 case index t x i =>
  simp only [evOp, Option.bind_eq_some_iff] at h ⊢
  obtain ⟨xv, hx, yv, hy, h⟩ := h
  obtain ⟨h1, h2⟩ := hret h
  exact ⟨h1, fun H' => ⟨_, hx, _, hy, h2 H'⟩⟩
 case extract x i =>
  simp only [evOp, Option.bind_eq_some_iff] at h ⊢
  obtain ⟨cv, hc, h⟩ := h
  split at h
  ·obtain ⟨h1, h2⟩ := hret h
   exact ⟨h1, fun H' => ⟨_, hc, h2 H'⟩⟩
  ·cases h
 case typeAssert x xt t ok =>
  cases ok
  ·simp only [evOp] at h; cases h
  ·simp only [evOp, Option.bind_eq_some_iff] at h ⊢
   obtain ⟨cv, hc, h⟩ := h
   obtain ⟨h1, h2⟩ := hret h
   exact ⟨h1, fun H' => ⟨_, hc, h2 H'⟩⟩
end

theorem evLen_more {P : Program} {t : TypeId} {x : AV} {H : Hp} {u : AV} (X : Hp) (h : evLen P t x H = some u) : evLen P t x (H ++ X) = some u := by
 unfold evLen at h ⊢
 split at h <;> try (first | exact h | cases h)
 rename_i r ht
 try rw [ht]
 cases hb : H[r]? with
 | none => rw [hb] at h; cases h
 | some y => rw [hb] at h; rw [List.getElem?_append_left (List.getElem?_eq_some_iff.1 hb).1, hb]; exact h
theorem evLen_less {P : Program} {t : TypeId} {x : AV} {H : Hp} {u : AV} (X : Hp) (h : evLen P t x (H ++ X) = some u) (hx : ∀ r, x = .map r → r < H.length) : evLen P t x H = some u := by
 unfold evLen at h ⊢
 split at h <;> try (first | exact h | cases h)
 rename_i r ht
 try rw [ht]
 rw [List.getElem?_append_left (hx r rfl)] at h
 exact h
theorem evLoad_more {P : Program} {t : TypeId} {b o : Nat} {H : Hp} {u : AV} (X : Hp) (hu : evLoad P H t b o = some u) : evLoad P (H ++ X) t b o = some u := by
 have hrd : ∀ n x, rd H b o n = some x → rd (H ++ X) b o n = some x := by
  intro n x hx
  unfold rd at hx ⊢
  cases hb : H[b]? with
  | none => rw [hb] at hx; cases hx
  | some y => rw [hb] at hx; rw [List.getElem?_append_left (List.getElem?_eq_some_iff.1 hb).1, hb]; exact hx
 unfold evLoad at hu ⊢
 split at hu
 ·rename_i ht
  try rw [ht]
  simp only [Option.bind_eq_some_iff, Option.map_eq_some_iff] at hu ⊢
  obtain ⟨n, hn, x, hx, he⟩ := hu
  exact ⟨n, hn, x, hrd _ _ hx, he⟩
 ·rename_i ht
  try rw [ht]
  simp only [Option.bind_eq_some_iff] at hu ⊢
  obtain ⟨x, hx, he⟩ := hu
  exact ⟨x, hrd _ _ hx, he⟩
 ·cases hu
theorem evLoad_less {P : Program} {t : TypeId} {b o : Nat} {H : Hp} {u : AV} (X : Hp) (hu : evLoad P (H ++ X) t b o = some u) (hlt : b < H.length) : evLoad P H t b o = some u := by
 have hrd : ∀ n, rd (H ++ X) b o n = rd H b o n := by
  intro n
  unfold rd
  rw [List.getElem?_append_left hlt]
 unfold evLoad at hu ⊢
 simpa only [hrd] using hu

theorem evOp_load {P : Program} {C : CallO} {σ : List AV} {H : Hp} {op : Op} (hp : monoOp op = true) {q : AV × Hp × Ef} (h : evOp P C σ H op = some q) : q = (q.1, H, z0) ∧ ∀ X : Hp, evOp P C σ (H ++ X) op = some (q.1, H ++ X, z0) := by
 cases op <;> simp only [monoOp] at hp <;> first | (cases hp; done) | skip
 case load t a =>
  simp only [evOp, Option.bind_eq_some_iff] at h ⊢
  obtain ⟨av, ha, h⟩ := h
  split at h
  ·rename_i b o
   obtain ⟨u, hu, rfl⟩ := ret_some h
   refine ⟨rfl, fun X => ⟨_, ha, ?_⟩⟩
   simp only [evLoad_more X hu]; rfl
  ·cases h
 case call c =>
  split at hp
  ·rename_i hc
   simp only [evOp, evCall, hc, Option.bind_eq_some_iff] at h ⊢
   obtain ⟨az, has, h⟩ := h
   split at h <;> first | contradiction | skip
   rename_i x t ts ht hts
   obtain ⟨u, hu, rfl⟩ := ret_some h
   refine ⟨rfl, fun X => ⟨_, has, ?_⟩⟩
   simp only [hts, evLen_more X hu]; rfl
  ·cases hp
theorem evOp_back {P : Program} {C : CallO} {μ : Mu} {σ : List AV} {H : Hp} {op : Op} (hp : monoOp op = true) {q : AV × Hp × Ef} {X : Hp} (h : evOp P C σ (H ++ X) op = some q)
  (hv : ∀ x ∈ op.operands, ∀ v, evArg P σ x = some v → ∃ u, conc μ v = some u) (hd : ∀ b l, μ b = some l → b < H.length) : evOp P C σ H op = some (q.1, H, z0) := by
 cases op <;> simp only [monoOp] at hp <;> first | (cases hp; done) | skip
 case load t a =>
  simp only [evOp, Option.bind_eq_some_iff] at h ⊢
  obtain ⟨av, ha, h⟩ := h
  obtain ⟨u', hu'⟩ := hv a (by simp [Op.operands]) av ha
  split at h
  ·rename_i b o
   simp only [conc, Option.map_eq_some_iff] at hu'
   obtain ⟨l, hl, _⟩ := hu'
   obtain ⟨u, hu, rfl⟩ := ret_some h
   refine ⟨_, ha, ?_⟩
   simp only [evLoad_less X hu (hd b l hl)]; rfl
  ·cases h
 case call c =>
  split at hp
  ·rename_i hc
   simp only [evOp, evCall, hc, Option.bind_eq_some_iff] at h ⊢
   obtain ⟨az, has, h⟩ := h
   split at h <;> first | contradiction | skip
   rename_i x t ts ht hts
   obtain ⟨u, hu, rfl⟩ := ret_some h
   refine ⟨_, has, ?_⟩
   have hx : ∀ r, x = .map r → r < H.length := by
    rintro r rfl
    cases hcl : c.args.toList with
    | nil => rw [hcl] at has; simp [evArgs] at has
    | cons y ys =>
     rw [hcl] at has
     simp only [evArgs, Option.bind_eq_some_iff, Option.map_eq_some_iff] at has
     obtain ⟨v, hvv, l, hl, he⟩ := has
     injection he with he1 he2
     subst he1
     obtain ⟨u', hu'⟩ := hv y (by
      simp only [Op.operands, Call.operands, Array.mem_append]
      have : y ∈ c.args := by rw [← Array.mem_toList_iff, hcl]; simp
      simp [hc, this]) _ hvv
     simp only [conc, Option.map_eq_some_iff] at hu'
     obtain ⟨l', hl', _⟩ := hu'
     exact hd r l' hl'
   simp only [hts, evLen_less X hu hx]; rfl
  ·cases hp

theorem evLoad_at {P : Program} {t : TypeId} {b o : Nat} {H H' : Hp} (h : H'[b]? = H[b]?) : evLoad P H' t b o = evLoad P H t b o := by
 have hrd : ∀ n, rd H' b o n = rd H b o n := by
  intro n
  unfold rd
  rw [h]
 unfold evLoad
 simp only [hrd]
theorem evOp_ld {P : Program} {C : CallO} {σ : List AV} {H : Hp} {t : TypeId} {x : Operand} {q : AV × Hp × Ef} (h : evOp P C σ H (.load t x) = some q) : ∃ b o, evArg P σ x = some (.ptr b o) ∧ evLoad P H t b o = some q.1 ∧ q = (q.1, H, z0) ∧ ∀ H' : Hp, H'[b]? = H[b]? → evOp P C σ H' (.load t x) = some (q.1, H', z0) := by
 simp only [evOp, Option.bind_eq_some_iff] at h ⊢
 obtain ⟨av, ha, h⟩ := h
 split at h
 ·rename_i b o
  obtain ⟨u, hu, rfl⟩ := ret_some h
  refine ⟨b, o, ha, hu, rfl, fun H' hH => ⟨_, ha, ?_⟩⟩
  simp only [evLoad_at hH, hu]; rfl
 ·cases h
theorem store_only {P : Program} {C : CallO} {σ : List AV} {H : Hp} {op : Op} {q : AV × Hp × Ef} {c : Nat} (h : evOp P C σ H op = some q) (hc : wrB P σ op = some c) : ∀ b, b ≠ c → q.2.1[b]? = H[b]? := by
 intro b hb
 cases op <;> simp only [wrB] at hc <;> first | (cases hc; done) | skip
 rename_i t x y
 split at hc
 ·rename_i b0 o0 hx
  cases hc
  simp only [evOp, hx, Option.bind_some, Option.bind_eq_some_iff] at h
  obtain ⟨v, hv, h⟩ := h
  simp only [evStore] at h
  split at h
  ·split at h
   ·rw [Option.map_eq_some_iff] at h
    obtain ⟨r, hr, rfl⟩ := h
    unfold wr at hr
    split at hr
    ·split at hr
     ·cases hr
      simp only [List.getElem?_set_ne (Ne.symm hb)]
     ·cases hr
    ·cases hr
   ·cases h
  ·cases h
 ·cases hc
theorem Inv.grown {n : Nat} {H : Hp} {H' : Hp} (h : Inv n H H' z0) (hn : n = H.length) (hl : H.length ≤ H'.length) : ∃ X, H' = H ++ X := by
 refine ⟨H'.drop H.length, ?_⟩
 subst hn
 apply List.ext_getElem?
 intro b
 by_cases hb : b < H.length
 ·rw [List.getElem?_append_left hb]
  exact h.wi b hb (fun e he => by cases he)
 ·rw [List.getElem?_append_right (by omega), List.getElem?_drop]
  congr 1; omega

theorem conc_isBool {μ : Mu} {x : AV} {b : Bool} (h : conc μ x = some (.bool b)) : x = .bool b := by
 cases x <;> simp [conc, Option.bind_eq_some_iff] at h
 subst h; rfl

theorem wanted_ok {ops : Array Oper} {μ : Mu} {σ : List AV} {a : Act} (hσ : concs μ σ = some a.tmps.toList) (o : Oper) : Region.wanted o (yielded ops a.tmps) = wantedA ops.toList σ o := by
 unfold Region.wanted wantedA
 cases hg : o.guard with
 | none => rfl
 | some jw =>
  obtain ⟨j, want⟩ := jw
  simp only [yielded, Array.getElem?_toList]
  cases hd : (ops[j]?).bind (·.dst) with
  | none => simp
  | some d =>
   simp only [Option.bind_some]
   have hc := concs_get hσ d
   rw [Array.getElem?_toList] at hc
   rw [hc]
   cases hs : σ[d]? with
   | none => simp
   | some v =>
    simp only [Option.bind_some]
    by_cases hb : ∃ b, v = .bool b
    ·obtain ⟨b, rfl⟩ := hb
     simp [conc]
    ·have : ∀ b, conc μ v ≠ some (.bool b) := fun b hcb => hb ⟨b, conc_isBool hcb⟩
     have hr : (match (some v : Option AV) with | some (.bool b) => b == want | _ => false) = false := by
      cases v <;> first | (exact absurd ⟨_, rfl⟩ hb) | rfl
     cases hcv : conc μ v with
     | none => simp only [reduceCtorEq, beq_iff_eq]; cases v <;> first | (exact absurd ⟨_, rfl⟩ hb) | rfl
     | some x =>
      have hx : ∀ b, x ≠ .bool b := fun b e => this b (by rw [hcv, e])
      cases x <;> first | (exact absurd rfl (hx _)) | (cases v <;> first | (exact absurd ⟨_, rfl⟩ hb) | rfl)

theorem wantedA_congr {ops : List Oper} {σ σ' : List AV} {o : Oper} (h : ∀ t ∈ readsT ops o, σ[t]? = σ'[t]?) : wantedA ops σ o = wantedA ops σ' o := by
 unfold wantedA
 cases hg : o.guard with
 | none => rfl
 | some jw =>
  obtain ⟨j, want⟩ := jw
  simp only
  cases hd : (ops[j]?).bind (·.dst) with
  | none => rfl
  | some d =>
   simp only
   rw [h d (by simp [readsT, hg, hd])]

theorem HRel.newAt {P : Program} {g : Gh} {μ : Mu} {H : Hp} {w : World} (h : HRel P g μ H w) (o : Obj) {b : Nat} {x : ABlk} (hb : H[b]? = some x) (hm : μ b = none)
  (hx : BRel P μ (w.alloc o) ⟨w.heap.size, 0, 0⟩ x) : HRel P g (upd μ b ⟨w.heap.size, 0, 0⟩) H (w.alloc o) := by
 have hle : Le μ (upd μ b ⟨w.heap.size, 0, 0⟩) := by
  intro c l e
  rw [upd_other]
  ·exact e
  ·rintro rfl; rw [hm] at e; cases e
 exact {
  dom := fun c l e => by
   by_cases hc : c = b
   ·subst hc; exact (List.getElem?_eq_some_iff.1 hb).1
   ·rw [upd_other _ _ hc] at e; exact h.dom c l e
  glob := fun i hi => by
   obtain ⟨c, hc⟩ := h.glob i hi
   exact ⟨c, hle _ _ hc⟩
  lt := fun c l e => by
   by_cases hc : c = b
   ·subst hc; rw [upd_same] at e; cases e; simp
   ·rw [upd_other _ _ hc] at e
    have := h.lt c l e
    simp; omega
  blk := fun c l y e f => by
   by_cases hc : c = b
   ·subst hc
    rw [upd_same] at e; rw [hb] at f
    cases e; cases f
    exact hx.mono hle (fun _ => rfl)
   ·rw [upd_other _ _ hc] at e
    exact (h.blk c l y e f).mono hle (fun _ => Go.RowKit.Below.heap_alloc w o _ (h.lt c l e))
  sep := fun c c' l l' y y' hne e e' f f' hw hl => by
   by_cases hc : c = b <;> by_cases hc' : c' = b
   ·omega
   ·subst hc
    rw [upd_same] at e; cases e
    rw [upd_other _ _ hc'] at e'
    have := h.lt _ _ e'
    simp only; omega
   ·subst hc'
    rw [upd_same] at e'; cases e'
    rw [upd_other _ _ hc] at e
    have := h.lt _ _ e
    simp only; omega
   ·rw [upd_other _ _ hc] at e
    rw [upd_other _ _ hc'] at e'
    exact h.sep c c' l l' y y' hne e e' f f' hw hl
  own := fun c l y e f hw => by
   by_cases hc : c = b
   ·subst hc
    rw [upd_same] at e; cases e
    intro hz
    have := (h.old _ hz).1
    simp only at this
    omega
   ·rw [upd_other _ _ hc] at e
    exact h.own c l y e f hw
  old := fun k hk => by
   have := h.old k hk
   exact ⟨by simp; omega, (Go.RowKit.Below.heap_alloc w o k this.1).trans this.2⟩
  os := h.os
  tape := h.tape
  output := h.output
  size := by have := h.size; simp; omega }

theorem HRel.extend {P : Program} {g : Gh} {μ : Mu} {H : Hp} {w : World} (h : HRel P g μ H w) (X : Hp) : HRel P g μ (H ++ X) w := by
 have hget : ∀ {b l x}, μ b = some l → (H ++ X)[b]? = some x → H[b]? = some x := by
  intro b l x e f
  rwa [List.getElem?_append_left (h.dom b l e)] at f
 exact {
  dom := fun b l e => by have := h.dom b l e; simp; omega
  glob := h.glob
  lt := h.lt
  blk := fun b l x e f => h.blk b l x e (hget e f)
  sep := fun b b' l l' x x' hne e e' f f' => h.sep b b' l l' x x' hne e e' (hget e f) (hget e' f')
  own := fun b l x e f => h.own b l x e (hget e f)
  old := h.old
  os := h.os
  tape := h.tape
  output := h.output
  size := h.size }

theorem Inv.extend {n : Nat} {H : Hp} (hn : n ≤ H.length) (X : Hp) (e : Ef) : Inv n H (H ++ X) e :=
 ⟨fun b hb _ x' hx' => by
  rw [List.getElem?_append_left (by omega)] at hx'
  exact ⟨x', hx', fun _ hv => .inl hv⟩, fun b hb _ => List.getElem?_append_left (by omega)⟩
end Go.Proofs.YtdppgaphcmhffaaGreatDoor.V
namespace Go.Proofs.YtdppgaphcmhffaaGreatDoor.V
open Go

theorem num_get (ops : List Oper) {i : Nat} {o : Oper} (h : (i, o) ∈ num ops) : ops[i]? = some o := by
 simp only [num, List.mem_map, Prod.mk.injEq, Prod.exists] at h
 obtain ⟨o', i', h, rfl, rfl⟩ := h
 have := List.mem_zipIdx h
 simp only [Nat.zero_add] at this
 obtain ⟨_, h2, h3⟩ := this
 rw [List.getElem?_eq_getElem (by omega)]
 simp [h3]
theorem num_mem (ops : List Oper) {i : Nat} {o : Oper} (h : ops[i]? = some o) : (i, o) ∈ num ops := by
 simp only [num, List.mem_map, Prod.mk.injEq, Prod.exists]
 refine ⟨o, i, ?_, rfl, rfl⟩
 rw [List.mem_zipIdx_iff_getElem?]
 exact h
theorem num_sorted (ops : List Oper) : (num ops).Pairwise (fun x y => x.1 < y.1) := by
 have : ∀ (l : List Oper) (k : Nat), ((l.zipIdx k).map fun (o, i) => (i, o)).Pairwise (fun x y => x.1 < y.1) := by
  intro l
  induction l with
  | nil => intro k; simp
  | cons o l ih =>
   intro k
   rw [List.zipIdx_cons, List.map_cons, List.pairwise_cons]
   refine ⟨?_, ih (k + 1)⟩
   intro p hp
   simp only [List.mem_map, Prod.exists] at hp
   obtain ⟨o', i', h, rfl⟩ := hp
   have := List.mem_zipIdx h
   simp only; omega
 exact this ops 0

theorem Tr.frees {P : Program} {C : CallO} {ops : List Oper} : ∀ {rs : List Rec} {s s' : St}, Tr P C ops s rs s' → (∀ r ∈ rs, isFree r.o = true) →
  ∃ zs : List (List AV × TypeId), s'.H = s.H ++ zs.map (fun z => ABlk.cells z.1 z.2 .rw) ∧ s'.ef = s.ef ∧ zs.length = rs.length ∧
   ∀ (k : Nat) (r : Rec), rs[k]? = some r → ∃ z : List AV × TypeId, zs[k]? = some z ∧ r.o.op = .alloc z.2 ∧ tzero P z.2 = some z.1 ∧ r.v = .ptr (s.H.length + k) 0
 | [], s, s', h, _ => by
  cases h
  exact ⟨[], by simp, rfl, rfl, fun k r h => by simp at h⟩
 | r :: rs, s, s', h, hf => by
  have hfr := hf r (by simp)
  cases h with
  | @run _ _ i o q _ h1 h2 h3 h4 h5 =>
   have hfo : isFree o = true := hfr
   unfold isFree at hfo
   split at hfo
   ·rename_i e he
    rw [he] at h2
    simp only [evOp, Option.map_eq_some_iff] at h2
    obtain ⟨z, hz, rfl⟩ := h2
    obtain ⟨zs, k1, k2, k3, k4⟩ := h5.frees (fun r' hr' => hf r' (by simp [hr']))
    refine ⟨(z, e) :: zs, ?_, ?_, by simp [k3], ?_⟩
    ·rw [k1]; simp
    ·rw [k2]; exact Ef.and_z0 _
    ·intro k r' hk
     cases k with
     | zero =>
      simp only [List.getElem?_cons_zero, Option.some.injEq] at hk
      subst hk
      exact ⟨(z, e), rfl, he, hz, rfl⟩
     | succ k =>
      simp only [List.getElem?_cons_succ] at hk
      obtain ⟨y, y1, y2, y3, y4⟩ := k4 k r' hk
      refine ⟨y, by simpa using y1, y2, y3, ?_⟩
      rw [y4]
      simp only [List.length_append, List.length_singleton]
      congr 1
      omega
   ·cases hfo
  | @skip _ _ i o _ h1 h2 =>
   have hfo : isFree o = true := hfr
   unfold isFree at hfo
   split at hfo
   ·simp only [Bool.and_eq_true, Option.isNone_iff_eq_none] at hfo
    unfold wantedA at h1
    rw [hfo.2] at h1
    cases h1
   ·cases hfo

structure Plan (P : Program) (C : CallO) (l : List Oper) (s sm s' : St) (fr ot : List Rec) : Prop where
 tr1 : Tr P C l s fr sm
 tr2 : Tr P C l sm ot s'
 free : ∀ r ∈ fr, isFree r.o = true
 nonf : ∀ r ∈ ot, isFree r.o = false
 at_ : ∀ r ∈ fr ++ ot, l[r.i]? = some r.o
 all_ : ∀ i o, l[i]? = some o → ∃ r ∈ fr ++ ot, r.i = i
 uniq : ∀ r ∈ fr ++ ot, ∀ r' ∈ fr ++ ot, r.i = r'.i → r = r'
 ord : ot.Pairwise (fun x y => x.i < y.i)
 dst : ∀ r ∈ fr ++ ot, ∀ r' ∈ fr ++ ot, ∀ t, r.o.dst = some t → r'.o.dst = some t → r = r'
 edges : ∀ i o, l[i]? = some o → ∀ e ∈ o.after.toList, Region.binds .any e = true → e.on < i
 reads : ∀ r ∈ fr ++ ot, ∀ t ∈ readsT l r.o, ∀ r' ∈ fr ++ ot, r'.o.dst = some t → r'.i = r.i ∨ (r'.i < r.i ∧ anc (masks l []) r'.i r.i = true) ∨ (r.i < r'.i ∧ anc (masks l []) r.i r'.i = true)
 effs : ∀ e ∈ ot, e.eff = true → ∀ r ∈ fr ++ ot, r.i = e.i ∨ pureOp r.o.op = true ∨ (r.i < e.i ∧ anc (masks l []) r.i e.i = true) ∨ (e.i < r.i ∧ anc (masks l []) e.i r.i = true) ∨ (monoOp r.o.op = true ∧ e.ef = z0) ∨ apS l s'.σ (e.i, r.i)

theorem nodup_filterMap {α β : Type} [DecidableEq β] (f : α → Option β) : ∀ (l : List α), (l.filterMap f).Nodup → ∀ (i j : Nat) (x y : α) (b : β), l[i]? = some x → l[j]? = some y → f x = some b → f y = some b → i = j
 | [], _, i, j, x, y, b, h, _, _, _ => by simp at h
 | a :: l, hn, i, j, x, y, b, hi, hj, hx, hy => by
  have hn' : (l.filterMap f).Nodup := by
   rw [List.filterMap_cons] at hn
   split at hn
   ·exact hn
   ·exact (List.nodup_cons.1 hn).2
  cases i with
  | zero =>
   cases j with
   | zero => rfl
   | succ j =>
    simp only [List.getElem?_cons_zero, Option.some.injEq] at hi
    simp only [List.getElem?_cons_succ] at hj
    subst hi
    rw [List.filterMap_cons, hx] at hn
    exact absurd (List.mem_filterMap.2 ⟨y, List.mem_of_getElem? hj, hy⟩) (List.nodup_cons.1 hn).1
  | succ i =>
   cases j with
   | zero =>
    simp only [List.getElem?_cons_zero, Option.some.injEq] at hj
    simp only [List.getElem?_cons_succ] at hi
    subst hj
    rw [List.filterMap_cons, hy] at hn
    exact absurd (List.mem_filterMap.2 ⟨x, List.mem_of_getElem? hi, hx⟩) (List.nodup_cons.1 hn).1
   | succ j =>
    simp only [List.getElem?_cons_succ] at hi hj
    rw [nodup_filterMap f l hn' i j x y b hi hj hx hy]

theorem tg_half (i : Nat) (e : Ef) : tg i e / 2 = i := by
 unfold tg; split <;> omega
theorem tg_odd {i : Nat} {e : Ef} (h : tg i e % 2 = 1) : e = z0 := by
 unfold tg at h
 split at h
 ·rename_i hc
  obtain ⟨a, b⟩ := e
  simp only [Bool.and_eq_true, Option.isNone_iff_eq_none] at hc
  obtain ⟨rfl, rfl⟩ := hc
  rfl
 ·omega
theorem plan_ok {P : Program} {C : CallO} (hC : CallsOk P C) {l : List Oper} {s s' : St} (h : evDraw P C l s = some s') {g : Gh} {μ : Mu} {w : World} {a : Act} (hr : SRel P g μ s w a) : ∃ sm fr ot, Plan P C l s sm s' fr ot := by
 unfold evDraw at h
 simp only [Option.bind_eq_some_iff] at h
 obtain ⟨⟨s1, effs⟩, hD, h⟩ := h
 split at h
 ·rename_i hok
  obtain ⟨hst, hef⟩ := hok
  cases h
  obtain ⟨rs, t1, t2, t3⟩ := evD_tr hC _ hD hr
  -- the two parts
  unfold order at t2
  obtain ⟨fr, ot, rfl, hfr, hot⟩ := List.map_eq_append_iff.1 t2
  obtain ⟨sm, tr1, tr2⟩ := t1.split
  have hfree : ∀ r ∈ fr, isFree r.o = true := by
   intro r hrm
   have : (r.i, r.o) ∈ (num l).filter (fun p => isFree p.2) := by rw [← hfr]; exact List.mem_map.2 ⟨r, hrm, rfl⟩
   exact (List.mem_filter.1 this).2
  have hnonf : ∀ r ∈ ot, isFree r.o = false := by
   intro r hrm
   have : (r.i, r.o) ∈ (num l).filter (fun p => !isFree p.2) := by rw [← hot]; exact List.mem_map.2 ⟨r, hrm, rfl⟩
   simpa using (List.mem_filter.1 this).2
  have hat : ∀ r ∈ fr ++ ot, l[r.i]? = some r.o := by
   intro r hrm
   rcases List.mem_append.1 hrm with hrm | hrm
   ·have : (r.i, r.o) ∈ (num l).filter (fun p => isFree p.2) := by rw [← hfr]; exact List.mem_map.2 ⟨r, hrm, rfl⟩
    exact num_get l (List.mem_filter.1 this).1
   ·have : (r.i, r.o) ∈ (num l).filter (fun p => !isFree p.2) := by rw [← hot]; exact List.mem_map.2 ⟨r, hrm, rfl⟩
    exact num_get l (List.mem_filter.1 this).1
  have hsf : (fr.map fun r => (r.i, r.o)).Pairwise (fun x y => x.1 < y.1) := by rw [hfr]; exact (num_sorted l).filter _
  have hso : (ot.map fun r => (r.i, r.o)).Pairwise (fun x y => x.1 < y.1) := by rw [hot]; exact (num_sorted l).filter _
  have hsf' : fr.Pairwise (fun x y => x.i < y.i) := by rw [List.pairwise_map] at hsf; exact hsf
  have hso' : ot.Pairwise (fun x y => x.i < y.i) := by rw [List.pairwise_map] at hso; exact hso
  have huniq1 : ∀ {q : List Rec}, q.Pairwise (fun x y => x.i < y.i) → ∀ r ∈ q, ∀ r' ∈ q, r.i = r'.i → r = r' := by
   intro q hq
   induction q with
   | nil => intro r hr; cases hr
   | cons x q ih =>
    rw [List.pairwise_cons] at hq
    intro r hr r' hr' he
    rcases List.mem_cons.1 hr with h1 | h1 <;> rcases List.mem_cons.1 hr' with h2 | h2
    ·rw [h1, h2]
    ·subst h1; have := hq.1 r' h2; omega
    ·subst h2; have := hq.1 r h1; omega
    ·exact ih hq.2 r h1 r' h2 he
  have huniq : ∀ r ∈ fr ++ ot, ∀ r' ∈ fr ++ ot, r.i = r'.i → r = r' := by
   intro r hr r' hr' he
   have e1 := hat r hr
   have e2 := hat r' hr'
   rw [he, e2] at e1
   have heq : r'.o = r.o := Option.some.inj e1
   rcases List.mem_append.1 hr with hr1 | hr1 <;> rcases List.mem_append.1 hr' with hr2 | hr2
   ·exact huniq1 hsf' r hr1 r' hr2 he
   ·have h1 := hfree r hr1; have h2 := hnonf r' hr2; rw [← heq, h2] at h1; cases h1
   ·have h1 := hfree r' hr2; have h2 := hnonf r hr1; rw [heq, h2] at h1; cases h1
   ·exact huniq1 hso' r hr1 r' hr2 he
  unfold statOk at hst
  simp only [Bool.and_eq_true, decide_eq_true_eq, List.all_eq_true] at hst
  obtain ⟨hnd, hst⟩ := hst
  refine ⟨sm, fr, ot, tr1, tr2, hfree, hnonf, hat, ?_, huniq, hso', ?_, ?_, ?_, ?_⟩
  ·intro i o ho
   have hm := num_mem l ho
   by_cases hf : isFree o = true
   ·have : (i, o) ∈ fr.map fun r => (r.i, r.o) := by rw [hfr]; exact List.mem_filter.2 ⟨hm, hf⟩
    obtain ⟨r, hr, he⟩ := List.mem_map.1 this
    cases he
    exact ⟨r, List.mem_append_left _ hr, rfl⟩
   ·have : (i, o) ∈ ot.map fun r => (r.i, r.o) := by rw [hot]; exact List.mem_filter.2 ⟨hm, by simpa using hf⟩
    obtain ⟨r, hr, he⟩ := List.mem_map.1 this
    cases he
    exact ⟨r, List.mem_append_right _ hr, rfl⟩
  ·intro r hr r' hr' t ht ht'
   exact huniq r hr r' hr' (nodup_filterMap _ l hnd r.i r'.i r.o r'.o t (hat r hr) (hat r' hr') ht ht')
  ·intro i o ho e he hb
   have := (hst (i, o) (num_mem l ho)).1 e he
   simpa [hb] using this
  ·intro r hr t ht r' hr' hd
   have := (hst (r.i, r.o) (num_mem l (hat r hr))).2 t ht (r'.i, r'.o) (num_mem l (hat r' hr'))
   simp only [Bool.or_eq_true, bne_iff_ne, ne_eq, beq_iff_eq, Bool.and_eq_true, decide_eq_true_eq] at this
   rcases this with ((h1 | h1) | h1) | h1
   ·exact absurd hd h1
   ·exact .inl h1
   ·exact .inr (.inl h1)
   ·exact .inr (.inr h1)
  ·intro e he heff r hr
   have hmem : tg e.i e.ef ∈ effs := by
    rw [t3]
    exact List.mem_map.2 ⟨e, List.mem_filter.2 ⟨List.mem_append_right _ he, heff⟩, rfl⟩
   rcases hef with hef | ⟨bad, hef, hap⟩
   ·unfold effOk at hef
    simp only [List.all_eq_true] at hef
    have := hef _ hmem (r.i, r.o) (num_mem l (hat r hr))
    rw [tg_half] at this
    simp only [Bool.or_eq_true, beq_iff_eq, Bool.and_eq_true, decide_eq_true_eq] at this
    rcases this with (((h1 | h1) | h1) | h1) | h1
    ·exact .inl h1
    ·exact .inr (.inl h1)
    ·exact .inr (.inr (.inl h1))
    ·exact .inr (.inr (.inr (.inl h1)))
    ·exact .inr (.inr (.inr (.inr (.inl ⟨h1.1, tg_odd h1.2⟩))))
   ·unfold effX at hef
    simp only [List.all_eq_true] at hef
    have := hef _ hmem (r.i, r.o) (num_mem l (hat r hr))
    rw [tg_half] at this
    simp only [Bool.or_eq_true, beq_iff_eq, Bool.and_eq_true, decide_eq_true_eq, List.contains_iff_mem] at this
    rcases this with ((((h1 | h1) | h1) | h1) | h1) | h1
    ·exact .inl h1
    ·exact .inr (.inl h1)
    ·exact .inr (.inr (.inl h1))
    ·exact .inr (.inr (.inr (.inl h1)))
    ·exact .inr (.inr (.inr (.inr (.inl ⟨h1.1, tg_odd h1.2⟩))))
    ·exact .inr (.inr (.inr (.inr (.inr (hap _ h1)))))
 ·cases h
end Go.Proofs.YtdppgaphcmhffaaGreatDoor.V
namespace Go.Proofs.YtdppgaphcmhffaaGreatDoor.V
open Go

def dn (listed : Array Bool) : Nat → Bool := fun i => listed.getD i false

structure DI (P : Program) (g : Gh) (μ0 : Mu) (l : List Oper) (s sm : St) (fr ot : List Rec) (listed : Array Bool) (μ : Mu) (a : Act) (w : World) : Prop where
 sz : listed.size = l.length
 cl : Closed l (dn listed)
 tm : concs μ (fD (dn listed) s.σ (fr ++ ot)) = some a.tmps.toList
 df : Marks g a.defers
 rel : HRel P g μ (hp (dn listed) sm.H ot) w
 le : Le μ0 μ
 dom : ∀ b, b < s.H.length → μ b = μ0 b
 fre : ∀ (k : Nat) (r : Rec), fr[k]? = some r → dn listed r.i = false → μ (s.H.length + k) = none
 inv : Inv s.H.length s.H (hp (dn listed) sm.H ot) (efs (dn listed) z0 ot)
 len : sm.H.length ≤ (hp (dn listed) sm.H ot).length

theorem dn_set {listed : Array Bool} {i : Nat} (h : i < listed.size) (j : Nat) : dn (listed.setIfInBounds i true) j = if j = i then true else dn listed j := by
 unfold dn
 simp only [Array.getD_eq_getD_getElem?, Array.getElem?_setIfInBounds]
 by_cases hj : i = j
 ·subst hj; simp [h]
 ·simp [hj, Ne.symm hj]

theorem fD_append (D : Nat → Bool) (σ : List AV) (a b : List Rec) : fD D σ (a ++ b) = fD D (fD D σ a) b := by simp [fD]

theorem fD_add {D D' : Nat → Bool} {rs : List Rec} {σ : List AV} {r : Rec} (hr : r ∈ rs) (hu : ∀ x ∈ rs, ∀ y ∈ rs, x.i = y.i → x = y) (hd : ∀ x ∈ rs, ∀ y ∈ rs, ∀ t, x.o.dst = some t → y.o.dst = some t → x = y)
  (h0 : D r.i = false) (h1 : ∀ j, D' j = if j = r.i then true else D j) : fD D' σ rs = put (fD D σ rs) r.o.dst r.v := by
 have hDr : D' r.i = true := by rw [h1]; simp
 apply List.ext_getElem?
 intro t
 by_cases ht : r.o.dst = some t
 ·rw [fD_some rs σ r hr hDr ht (fun r' hr' he => hd r' hr' r hr t he ht), ht]
  simp only [put, List.getElem?_set_self']
  rw [← fD_len D rs σ]
  by_cases hl : t < (fD D σ rs).length
  ·simp [hl]
  ·simp [hl]
 ·rw [put_get_other ht]
  by_cases hex : ∃ r' ∈ rs, r'.o.dst = some t
  ·obtain ⟨r', hr', ht'⟩ := hex
   have hne : r'.i ≠ r.i := by
    intro e
    have := hu r' hr' r hr e
    subst this
    exact ht ht'
   have he : D' r'.i = D r'.i := by rw [h1]; simp [hne]
   cases hDr' : D r'.i with
   | true =>
    rw [fD_some rs σ r' hr' (by rw [he]; exact hDr') ht' (fun x hx hxe => hd x hx r' hr' t hxe ht'), fD_some rs σ r' hr' hDr' ht' (fun x hx hxe => hd x hx r' hr' t hxe ht')]
   | false =>
    rw [fD_none, fD_none]
    ·intro x hx hDx hxe
     have := hd x hx r' hr' t hxe ht'
     subst this; rw [hDr'] at hDx; cases hDx
    ·intro x hx hDx hxe
     have := hd x hx r' hr' t hxe ht'
     subst this; rw [he, hDr'] at hDx; cases hDx
  ·rw [fD_none, fD_none]
   ·intro x hx _ hxe; exact hex ⟨x, hx, hxe⟩
   ·intro x hx _ hxe; exact hex ⟨x, hx, hxe⟩

section
variable {P : Program} {C : CallO} {l : List Oper} {s sm s' : St} {fr ot : List Rec} {g : Gh} {μ0 : Mu}

theorem Plan.frame_eq (pl : Plan P C l s sm s' fr ot) {D : Nat → Bool} (hcl : Closed l D) {pre post : List Rec} {r : Rec} (hs : ot = pre ++ r :: post) {m : St} (hm : Tr P C l sm pre m)
  (hr : ∀ e ∈ r.o.after.toList, Region.binds .any e = true → D e.on = true) (h0 : D r.i = false) : ∀ t ∈ readsT l r.o, (fD D s.σ (fr ++ ot))[t]? = m.σ[t]? := by
 intro t ht
 have hrot : r ∈ ot := by rw [hs]; simp
 have hrin : r ∈ fr ++ ot := List.mem_append_right _ hrot
 have hmσ : m.σ = fD (fun _ => true) s.σ (fr ++ pre) := by rw [fD_append, ← pl.tr1.frame]; exact hm.frame
 have hlr := pl.at_ r hrin
 have hord := pl.ord
 rw [hs, List.pairwise_append, List.pairwise_cons] at hord
 have hpre : ∀ x ∈ pre, x.i < r.i := fun x hx => hord.2.2 x hx r (by simp)
 have hpost : ∀ x ∈ post, r.i < x.i := hord.2.1.1
 have hsub : ∀ x ∈ fr ++ pre, x ∈ fr ++ ot := by
  intro x hx
  rcases List.mem_append.1 hx with hx | hx
  ·exact List.mem_append_left _ hx
  ·exact List.mem_append_right _ (by rw [hs]; exact List.mem_append_left _ hx)
 rw [hmσ]
 by_cases hex : ∃ r' ∈ fr ++ ot, r'.o.dst = some t
 ·obtain ⟨r', hr', ht'⟩ := hex
  have huq : ∀ x ∈ fr ++ ot, x.o.dst = some t → x = r' := fun x hx hxe => pl.dst x hx r' hr' t hxe ht'
  rcases pl.reads r hrin t ht r' hr' ht' with he | ⟨h1, h2⟩ | ⟨h1, h2⟩
  ·have := pl.uniq r' hr' r hrin he
   subst this
   rw [fD_none, fD_none]
   ·intro x hx _ hxe
    have := huq x (hsub x hx) hxe
    subst this
    rcases List.mem_append.1 hx with hx | hx
    ·have h3 := pl.free _ hx; have h4 := pl.nonf _ hrot; rw [h4] at h3; cases h3
    ·have := hpre _ hx; omega
   ·intro x hx hDx hxe
    have := huq x hx hxe
    subst this
    rw [h0] at hDx; cases hDx
  ·have hD := anc_next hcl hlr hr h2 (by omega)
   rw [fD_some _ _ r' hr' hD ht' huq]
   have hin : r' ∈ fr ++ pre := by
    rcases List.mem_append.1 hr' with hx | hx
    ·exact List.mem_append_left _ hx
    ·rw [hs] at hx
     rcases List.mem_append.1 hx with hx | hx
     ·exact List.mem_append_right _ hx
     ·rcases List.mem_cons.1 hx with hx | hx
      ·subst hx; omega
      ·have := hpost _ hx; omega
   rw [fD_some _ _ r' hin rfl ht' (fun x hx hxe => huq x (hsub x hx) hxe)]
  ·have hD : D r'.i = false := by
    cases hDr : D r'.i with
    | false => rfl
    | true => have := anc_sound hcl h2 hDr; rw [h0] at this; cases this
   rw [fD_none, fD_none]
   ·intro x hx _ hxe
    have := huq x (hsub x hx) hxe
    subst this
    rcases List.mem_append.1 hx with hx | hx
    ·have := anc_free (j := r.i) (pl.at_ x hr') (pl.free x hx)
     rw [this] at h2; cases h2
    ·have := hpre _ hx; omega
   ·intro x hx hDx hxe
    have := huq x hx hxe
    subst this
    rw [hD] at hDx; cases hDx
 ·rw [fD_none, fD_none]
  ·intro x hx _ hxe; exact hex ⟨x, hsub x hx, hxe⟩
  ·intro x hx _ hxe; exact hex ⟨x, hx, hxe⟩

theorem Plan.around (pl : Plan P C l s sm s' fr ot) {D : Nat → Bool} (hcl : Closed l D) {pre post : List Rec} {r : Rec} (hs : ot = pre ++ r :: post)
  (hr : ∀ e ∈ r.o.after.toList, Region.binds .any e = true → D e.on = true) (h0 : D r.i = false) (hp : pureOp r.o.op = false) :
  (∀ x ∈ pre, x.eff = true → D x.i = true ∨ (monoOp r.o.op = true ∧ (x.ef = z0 ∨ apS l s'.σ (x.i, r.i)))) ∧ ∀ x ∈ post, x.eff = true → D x.i = false ∨ (monoOp r.o.op = true ∧ (x.ef = z0 ∨ apS l s'.σ (x.i, r.i))) := by
 have hrot : r ∈ ot := by rw [hs]; simp
 have hrin : r ∈ fr ++ ot := List.mem_append_right _ hrot
 have hlr := pl.at_ r hrin
 have hord := pl.ord
 have hml : ∀ x : Rec, apS l s'.σ (x.i, r.i) → monoOp r.o.op = true := by
  rintro x ⟨oi, oj, c, a, b, o, b', o', t, t', v, h1, h2, h3, h4, _⟩
  have h2 : l[r.i]? = some oj := h2
  rw [hlr] at h2
  cases h2
  rw [h4]; rfl
 rw [hs, List.pairwise_append, List.pairwise_cons] at hord
 constructor
 ·intro x hx he
  have hlt : x.i < r.i := hord.2.2 x hx r (by simp)
  rcases pl.effs x (by rw [hs]; exact List.mem_append_left _ hx) he r hrin with h1 | h1 | h1 | h1 | h1 | h1
  ·omega
  ·rw [hp] at h1; cases h1
  ·omega
  ·exact .inl (anc_next hcl hlr hr h1.2 (by omega))
  ·exact .inr ⟨h1.1, .inl h1.2⟩
  ·exact .inr ⟨hml x h1, .inr h1⟩
 ·intro x hx he
  have hlt : r.i < x.i := hord.2.1.1 x hx
  rcases pl.effs x (by rw [hs]; simp [hx]) he r hrin with h1 | h1 | h1 | h1 | h1 | h1
  ·omega
  ·rw [hp] at h1; cases h1
  ·cases hD : D x.i with
   | false => exact .inl rfl
   | true => have := anc_sound hcl h1.2 hD; rw [h0] at this; cases this
  ·omega
  ·exact .inr ⟨h1.1, .inl h1.2⟩
  ·exact .inr ⟨hml x h1, .inr h1⟩

theorem Tr.calm {P : Program} {C : CallO} {ops : List Oper} : ∀ {rs : List Rec} {s s' : St}, Tr P C ops s rs s' → ∀ r ∈ rs, pureOp r.o.op = true ∨ monoOp r.o.op = true → r.eff = false
 | [], s, s', h, r, hr, _ => by cases hr
 | r0 :: rs, s, s', h, r, hr, hq => by
  cases h with
  | @run _ _ i o q _ h1 h2 h3 h4 h5 =>
   rcases List.mem_cons.1 hr with rfl | hr
   ·have : q = (q.1, s.H, z0) := by
     rcases hq with hq | hq
     ·exact (evOp_pure hq h2).1
     ·exact (evOp_load hq h2).1
    have : quiet q s.H = true := by rw [this]; simp [quiet, z0]
    simp [this]
   ·exact h5.calm r hr hq
  | @skip _ _ i o _ h1 h2 =>
   rcases List.mem_cons.1 hr with rfl | hr
   ·rfl
   ·exact h2.calm r hr hq

theorem grown_post {P : Program} {C : CallO} {ops : List Oper} {D : Nat → Bool} : ∀ {rs : List Rec} {s s' : St}, Tr P C ops s rs s' → (∀ r ∈ rs, isFree r.o = false) → (∀ r ∈ rs, r.eff = true → D r.i = true → r.ef = z0) →
  rs.Pairwise (fun x y => x.eff = true → y.eff = true → D y.i = true → D x.i = true) → ∃ X, hp D s.H rs = s.H ++ X
 | [], s, s', h, _, _, _ => ⟨[], by simp [hp]⟩
 | r :: rs, s, s', h, hf, hg, hpw => by
  rw [List.pairwise_cons] at hpw
  by_cases hd : r.eff = true ∧ D r.i = false
  ·refine ⟨[], ?_⟩
   rw [hp_cons, if_neg (by rw [hd.2]; rintro ⟨h1, _⟩; cases h1), List.append_nil]
   refine hp_none rs _ (fun x hx he => ?_)
   cases hDx : D x.i with
   | false => rfl
   | true => have := hpw.1 x hx hd.1 he hDx; rw [hd.2] at this; cases this
  ·cases h with
   | @run _ _ i o q _ h1 h2 h3 h4 h5 =>
    obtain ⟨X, hX⟩ := grown_post (D := D) h5 (fun r hr => hf r (by simp [hr])) (fun r hr => hg r (by simp [hr])) hpw.2
    by_cases he : (!(isFree o || quiet q s.H)) = true
    ·have hDi : D i = true := by
      cases hDi : D i with
      | true => rfl
      | false => exact absurd ⟨he, hDi⟩ hd
     have hz : q.2.2 = z0 := hg _ List.mem_cons_self he hDi
     rw [hz] at h3
     obtain ⟨Y, hY⟩ := h3.grown rfl h4
     refine ⟨Y ++ X, ?_⟩
     rw [hp_cons, if_pos ⟨hDi, he⟩]
     show hp D q.2.1 rs = _
     have hX' : hp D q.2.1 rs = q.2.1 ++ X := hX
     rw [hX', hY, List.append_assoc]
    ·have hfo : isFree o = false := hf _ List.mem_cons_self
     have hq : quiet q s.H = true := by simpa [hfo] using he
     obtain ⟨e1, e2⟩ := quiet_same hq h3
     refine ⟨X, ?_⟩
     rw [hp_cons, if_neg (by rintro ⟨_, h⟩; exact he h)]
     have hX' : hp D q.2.1 rs = q.2.1 ++ X := hX
     rw [e1] at hX'
     exact hX'
   | @skip _ _ i o _ h1 h2 =>
    obtain ⟨X, hX⟩ := grown_post (D := D) h2 (fun r hr => hf r (by simp [hr])) (fun r hr => hg r (by simp [hr])) hpw.2
    exact ⟨X, by rw [hp_cons, if_neg (by rintro ⟨_, h⟩; cases h)]; exact hX⟩

theorem grown_pre {P : Program} {C : CallO} {ops : List Oper} {D : Nat → Bool} : ∀ {rs : List Rec} {s s' : St}, Tr P C ops s rs s' → (∀ r ∈ rs, isFree r.o = false) → (∀ r ∈ rs, r.eff = true → D r.i = false → r.ef = z0) →
  rs.Pairwise (fun x y => x.eff = true → y.eff = true → D y.i = true → D x.i = true) → ∃ X, s'.H = hp D s.H rs ++ X
 | [], s, s', h, _, _, _ => by cases h; exact ⟨[], by simp [hp]⟩
 | r :: rs, s, s', h, hf, hg, hpw => by
  have hheap := (h.heap hf).1
  rw [List.pairwise_cons] at hpw
  by_cases hd : r.eff = true ∧ D r.i = false
  ·have hnone : ∀ x ∈ rs, x.eff = true → D x.i = false := by
    intro x hx he
    cases hDx : D x.i with
    | false => rfl
    | true => have := hpw.1 x hx hd.1 he hDx; rw [hd.2] at this; cases this
   have e1 : hp D s.H (r :: rs) = s.H := by
    rw [hp_cons, if_neg (by rw [hd.2]; rintro ⟨h1, _⟩; cases h1)]
    exact hp_none rs _ hnone
   rw [e1, hheap]
   refine grown_post (D := fun _ => true) h hf (fun x hx he _ => ?_) ?_
   ·rcases List.mem_cons.1 hx with rfl | hx'
    ·exact hg _ (by simp) hd.1 hd.2
    ·exact hg _ (by simp [hx']) he (hnone x hx' he)
   ·exact List.pairwise_of_forall (fun _ _ _ _ _ => rfl)
  ·cases h with
   | @run _ _ i o q _ h1 h2 h3 h4 h5 =>
    obtain ⟨X, hX⟩ := grown_pre (D := D) h5 (fun r hr => hf r (by simp [hr])) (fun r hr => hg r (by simp [hr])) hpw.2
    refine ⟨X, ?_⟩
    rw [hX, hp_cons]
    by_cases he : (!(isFree o || quiet q s.H)) = true
    ·have hDi : D i = true := by
      cases hDi : D i with
      | true => rfl
      | false => exact absurd ⟨he, hDi⟩ hd
     rw [if_pos ⟨hDi, he⟩]
    ·have hfo : isFree o = false := hf _ List.mem_cons_self
     have hq : quiet q s.H = true := by simpa [hfo] using he
     obtain ⟨e1, e2⟩ := quiet_same hq h3
     rw [if_neg (by rintro ⟨_, h⟩; exact he h)]
     simp only [e1]
   | @skip _ _ i o _ h1 h2 =>
    obtain ⟨X, hX⟩ := grown_pre (D := D) h2 (fun r hr => hf r (by simp [hr])) (fun r hr => hg r (by simp [hr])) hpw.2
    exact ⟨X, by rw [hX, hp_cons, if_neg (by rintro ⟨_, h⟩; cases h)]⟩

theorem Plan.chain (pl : Plan P C l s sm s' fr ot) {D : Nat → Bool} (hcl : Closed l D) : ot.Pairwise (fun x y => x.eff = true → y.eff = true → D y.i = true → D x.i = true) := by
 have hcalm := pl.tr2.calm
 refine List.Pairwise.imp_of_mem (fun {x y} hx hy hlt he1 he2 hD => ?_) pl.ord
 rcases pl.effs y hy he2 x (List.mem_append_right _ hx) with h1 | h1 | h1 | h1 | h1 | h1
 ·omega
 ·have := hcalm x hx (.inl h1); rw [he1] at this; cases this
 ·exact anc_sound hcl h1.2 hD
 ·omega
 ·have := hcalm x hx (.inr h1.1); rw [he1] at this; cases this
 ·obtain ⟨oi, oj, c, a, b, o, b', o', t, t', v, _, h2, _, h4, _⟩ := h1
  have h2 : l[x.i]? = some oj := h2
  rw [pl.at_ x (List.mem_append_right _ hx)] at h2
  cases h2
  have := hcalm x hx (.inr (by rw [h4]; rfl)); rw [he1] at this; cases this

theorem Plan.final (pl : Plan P C l s sm s' fr ot) {pre post : List Rec} {r : Rec} (hs : ot = pre ++ r :: post) {m : St} (hm : Tr P C l sm pre m) {t : Tmp} (hlate : ∀ k x, l[k]? = some x → x.dst = some t → k < r.i) : s'.σ[t]? = m.σ[t]? := by
 have hmσ : m.σ = fD (fun _ => true) s.σ (fr ++ pre) := by rw [fD_append, ← pl.tr1.frame]; exact hm.frame
 have hsσ : s'.σ = fD (fun _ => true) s.σ (fr ++ ot) := by rw [fD_append, ← pl.tr1.frame]; exact pl.tr2.frame
 have hord := pl.ord
 rw [hs, List.pairwise_append, List.pairwise_cons] at hord
 have hpost : ∀ x ∈ post, r.i < x.i := hord.2.1.1
 have hsub : ∀ x ∈ fr ++ pre, x ∈ fr ++ ot := by
  intro x hx
  rcases List.mem_append.1 hx with hx | hx
  ·exact List.mem_append_left _ hx
  ·exact List.mem_append_right _ (by rw [hs]; exact List.mem_append_left _ hx)
 rw [hmσ, hsσ]
 by_cases hex : ∃ r' ∈ fr ++ ot, r'.o.dst = some t
 ·obtain ⟨r', hr', ht'⟩ := hex
  have huq : ∀ x ∈ fr ++ ot, x.o.dst = some t → x = r' := fun x hx hxe => pl.dst x hx r' hr' t hxe ht'
  have hlt := hlate _ _ (pl.at_ r' hr') ht'
  have hin : r' ∈ fr ++ pre := by
   rcases List.mem_append.1 hr' with hx | hx
   ·exact List.mem_append_left _ hx
   ·rw [hs] at hx
    rcases List.mem_append.1 hx with hx | hx
    ·exact List.mem_append_right _ hx
    ·rcases List.mem_cons.1 hx with hx | hx
     ·subst hx; omega
     ·have := hpost _ hx; omega
  rw [fD_some _ _ r' hr' rfl ht' huq, fD_some _ _ r' hin rfl ht' (fun x hx hxe => huq x (hsub x hx) hxe)]
 ·rw [fD_none, fD_none]
  ·intro x hx _ hxe; exact hex ⟨x, hsub x hx, hxe⟩
  ·intro x hx _ hxe; exact hex ⟨x, hx, hxe⟩
theorem Plan.wrote (pl : Plan P C l s sm s' fr ot) {x : Rec} (hx : x ∈ ot) (he : x.eff = true) {t : TypeId} {c b o : Nat} {v : Operand} (ho : x.o.op = .store t (.tmp c) v) (hc : s'.σ[c]? = some (.ptr b o)) (hlate : ∀ k y, l[k]? = some y → y.dst = some c → k < x.i) : x.wr = some b := by
 obtain ⟨pre, post, hs⟩ := List.append_of_mem hx
 have htr := pl.tr2
 rw [hs] at htr
 obtain ⟨m, hm, htr2⟩ := htr.split
 have hf := pl.final hs hm (t := c) hlate
 cases htr2 with
 | @run _ _ i o' q _ h1 h2 h3 h4 h5 =>
  have ho : o'.op = .store t (.tmp c) v := ho
  show wrB P m.σ o'.op = some b
  rw [ho]
  simp only [wrB, evArg, ← hf, hc]
  rfl
 | @skip _ _ i o' _ h1 h2 => cases he

def Kb (b : Nat) (r : Rec) : Prop := r.ef = z0 ∨ ∃ c, r.wr = some c ∧ c ≠ b
theorem Kb.step {P : Program} {C : CallO} {σ : List AV} {H : Hp} {o : Oper} {q : AV × Hp × Ef} {i : Nat} {f : Bool} {b : Nat} (h : Kb b ⟨i, o, q.1, f, q.2.1, q.2.2, wrB P σ o.op⟩) (h2 : evOp P C σ H o.op = some q) (h3 : Inv H.length H q.2.1 q.2.2) {y : ABlk} (hy : H[b]? = some y) : q.2.1[b]? = some y := by
 rcases h with h | ⟨c, hc, hne⟩
 ·have h : q.2.2 = z0 := h
  rw [h] at h3
  rw [h3.wi b (List.getElem?_eq_some_iff.1 hy).1 (fun e he => by cases he)]; exact hy
 ·rw [store_only h2 hc b (Ne.symm hne)]; exact hy
theorem keep_post {P : Program} {C : CallO} {ops : List Oper} {D : Nat → Bool} {b : Nat} : ∀ {rs : List Rec} {s s' : St}, Tr P C ops s rs s' → (∀ r ∈ rs, isFree r.o = false) → (∀ r ∈ rs, r.eff = true → D r.i = true → Kb b r) →
  rs.Pairwise (fun x y => x.eff = true → y.eff = true → D y.i = true → D x.i = true) → ∀ y, s.H[b]? = some y → (hp D s.H rs)[b]? = some y
 | [], s, s', h, _, _, _, y, hy => hy
 | r :: rs, s, s', h, hf, hg, hpw, y, hy => by
  rw [List.pairwise_cons] at hpw
  by_cases hd : r.eff = true ∧ D r.i = false
  ·rw [hp_cons, if_neg (by rw [hd.2]; rintro ⟨h1, _⟩; cases h1)]
   rw [hp_none rs _ (fun x hx he => ?_)]
   ·exact hy
   ·cases hDx : D x.i with
    | false => rfl
    | true => have := hpw.1 x hx hd.1 he hDx; rw [hd.2] at this; cases this
  ·cases h with
   | @run _ _ i o q _ h1 h2 h3 h4 h5 =>
    have ih := keep_post (D := D) (b := b) h5 (fun r hr => hf r (by simp [hr])) (fun r hr => hg r (by simp [hr])) hpw.2
    by_cases he : (!(isFree o || quiet q s.H)) = true
    ·have hDi : D i = true := by
      cases hDi : D i with
      | true => rfl
      | false => exact absurd ⟨he, hDi⟩ hd
     rw [hp_cons, if_pos ⟨hDi, he⟩]
     exact ih y ((hg _ List.mem_cons_self he hDi).step h2 h3 hy)
    ·have hfo : isFree o = false := hf _ List.mem_cons_self
     have hq : quiet q s.H = true := by simpa [hfo] using he
     obtain ⟨e1, e2⟩ := quiet_same hq h3
     rw [hp_cons, if_neg (by rintro ⟨_, h⟩; exact he h)]
     have ih' := ih y (by show q.2.1[b]? = _; rw [e1]; exact hy)
     have ih'' : (hp D q.2.1 rs)[b]? = some y := ih'
     rw [e1] at ih''
     exact ih''
   | @skip _ _ i o _ h1 h2 =>
    rw [hp_cons, if_neg (by rintro ⟨_, h⟩; cases h)]
    exact keep_post (D := D) h2 (fun r hr => hf r (by simp [hr])) (fun r hr => hg r (by simp [hr])) hpw.2 y hy
theorem keep_pre {P : Program} {C : CallO} {ops : List Oper} {D : Nat → Bool} {b : Nat} : ∀ {rs : List Rec} {s s' : St}, Tr P C ops s rs s' → (∀ r ∈ rs, isFree r.o = false) → (∀ r ∈ rs, r.eff = true → D r.i = false → Kb b r) →
  rs.Pairwise (fun x y => x.eff = true → y.eff = true → D y.i = true → D x.i = true) → ∀ y, (hp D s.H rs)[b]? = some y → s'.H[b]? = some y
 | [], s, s', h, _, _, _, y, hy => by cases h; exact hy
 | r :: rs, s, s', h, hf, hg, hpw, y, hy => by
  have hheap := (h.heap hf).1
  rw [List.pairwise_cons] at hpw
  by_cases hd : r.eff = true ∧ D r.i = false
  ·have hnone : ∀ x ∈ rs, x.eff = true → D x.i = false := by
    intro x hx he
    cases hDx : D x.i with
    | false => rfl
    | true => have := hpw.1 x hx hd.1 he hDx; rw [hd.2] at this; cases this
   have e1 : hp D s.H (r :: rs) = s.H := by
    rw [hp_cons, if_neg (by rw [hd.2]; rintro ⟨h1, _⟩; cases h1)]
    exact hp_none rs _ hnone
   rw [e1] at hy
   rw [hheap]
   refine keep_post (D := fun _ => true) h hf (fun x hx he _ => ?_) (List.pairwise_of_forall (fun _ _ _ _ _ => rfl)) y hy
   rcases List.mem_cons.1 hx with rfl | hx'
   ·exact hg _ (by simp) hd.1 hd.2
   ·exact hg _ (by simp [hx']) he (hnone x hx' he)
  ·cases h with
   | @run _ _ i o q _ h1 h2 h3 h4 h5 =>
    refine keep_pre (D := D) (b := b) h5 (fun r hr => hf r (by simp [hr])) (fun r hr => hg r (by simp [hr])) hpw.2 y ?_
    rw [hp_cons] at hy
    by_cases he : (!(isFree o || quiet q s.H)) = true
    ·have hDi : D i = true := by
      cases hDi : D i with
      | true => rfl
      | false => exact absurd ⟨he, hDi⟩ hd
     rw [if_pos ⟨hDi, he⟩] at hy
     exact hy
    ·have hfo : isFree o = false := hf _ List.mem_cons_self
     have hq : quiet q s.H = true := by simpa [hfo] using he
     obtain ⟨e1, e2⟩ := quiet_same hq h3
     rw [if_neg (by rintro ⟨_, h⟩; exact he h)] at hy
     show (hp D q.2.1 rs)[b]? = _
     rw [e1]; exact hy
   | @skip _ _ i o _ h1 h2 =>
    rw [hp_cons, if_neg (by rintro ⟨_, h⟩; cases h)] at hy
    exact keep_pre (D := D) h2 (fun r hr => hf r (by simp [hr])) (fun r hr => hg r (by simp [hr])) hpw.2 y hy

theorem wpOpIn_of {ro : Option Nat} {n : Nat} {P : Program} {ops : Array Oper} {Q : Exit → Act → World → Prop} {i : Nat} {o : Oper} {K : Act → World → Prop} {a : Act} {w : World} (ho : ops[i]? = some o)
  (h1 : Region.wanted o (yielded ops a.tmps) = true → o.wpIn (Fr ro) n P a w K Q) (h2 : Region.wanted o (yielded ops a.tmps) = false → K (a.put o.dst undef) w) : wpOpIn (Fr ro) n P ops Q i K a w := by
 unfold wpOpIn
 rw [ho]
 simp only
 by_cases h : Region.wanted o (yielded ops a.tmps) = true
 ·rw [if_pos h]; exact h1 h
 ·rw [if_neg h]; exact ⟨fun _ _ => trivial, h2 (by simpa using h)⟩

theorem DI.step {ro : Option Nat} {n : Nat} (hC : CallsOk P C) {ops : Array Oper} (hl : l = ops.toList) (pl : Plan P C l s sm s' fr ot) {listed : Array Bool} {μ : Mu} {a : Act} {w : World} (di : DI P g μ0 l s sm fr ot listed μ a w)
  {Q : Exit → Act → World → Prop} {K : Act → World → Prop} {i : Nat} {o : Oper} (ho : l[i]? = some o) (h0 : dn listed i = false) (hr : ∀ e ∈ o.after.toList, Region.binds .any e = true → dn listed e.on = true)
  (hK : ∀ μ' a' w', DI P g μ0 l s sm fr ot (listed.setIfInBounds i true) μ' a' w' → K a' w') : wpOpIn (Fr ro) n P ops Q i K a w := by
 have hi : i < listed.size := by rw [di.sz]; exact (List.getElem?_eq_some_iff.1 ho).1
 have hD' := dn_set hi
 obtain ⟨r, hrin, hri⟩ := pl.all_ i o ho
 subst hri
 have hro : r.o = o := by have := pl.at_ r hrin; rw [ho] at this; exact (Option.some.inj this).symm
 subst hro
 have hoa : ops[r.i]? = some r.o := by rw [← Array.getElem?_toList, ← hl]; exact ho
 have hcl' : Closed l (dn (listed.setIfInBounds r.i true)) := by
  intro k o' hk hd e he hb
  rw [hD'] at hd ⊢
  by_cases hkr : k = r.i
  ·subst hkr
   rw [ho] at hk; cases hk
   rw [hr e he hb]; simp
  ·rw [if_neg hkr] at hd
   rw [di.cl k o' hk hd e he hb]; simp
 have hfa : ∀ σ, fD (dn (listed.setIfInBounds r.i true)) σ (fr ++ ot) = put (fD (dn listed) σ (fr ++ ot)) r.o.dst r.v := fun σ => fD_add hrin pl.uniq pl.dst h0 hD'
 have hkeep : r.eff = false ∨ r ∈ fr → hp (dn (listed.setIfInBounds r.i true)) sm.H ot = hp (dn listed) sm.H ot ∧ efs (dn (listed.setIfInBounds r.i true)) z0 ot = efs (dn listed) z0 ot := by
  intro hq
  have : ∀ x ∈ ot, x.eff = true → dn (listed.setIfInBounds r.i true) x.i = dn listed x.i := by
   intro x hx he
   rw [hD']
   have hne : x.i ≠ r.i := by
    intro e
    have hxr := pl.uniq x (List.mem_append_right _ hx) r hrin e
    subst hxr
    rcases hq with hq | hq
    ·rw [he] at hq; cases hq
    ·have h1 := pl.free x hq; have h2 := pl.nonf x hx; rw [h1] at h2; cases h2
   simp [hne]
  exact ⟨hp_congr ot _ this, efs_congr ot _ this⟩
 rcases List.mem_append.1 hrin with hrf | hrot
 ·-- a free allocation
  obtain ⟨k, hk, hkr⟩ := List.mem_iff_getElem.1 hrf
  have hkr' : fr[k]? = some r := by rw [List.getElem?_eq_getElem hk, hkr]
  obtain ⟨zs, z1, z2, z3, z4⟩ := pl.tr1.frees pl.free
  obtain ⟨z, hz, hop, hzero, hv⟩ := z4 k r hkr'
  have hX : hp (dn listed) sm.H ot = sm.H := by
   refine hp_none ot _ (fun x hx he => ?_)
   cases hD : dn listed x.i with
   | false => rfl
   | true =>
    rcases pl.effs x hx he r hrin with h1 | h1 | h1 | h1 | h1 | h1
    rotate_right
    ·obtain ⟨oi, oj, c, a, b, o, b', o', t, t', v, _, h2, _, h4, _⟩ := h1
     have h2 : l[r.i]? = some oj := h2
     rw [ho] at h2
     cases h2
     rw [hop] at h4; cases h4
    ·have := pl.uniq r hrin x (List.mem_append_right _ hx) h1
     subst this
     have h1 := pl.free r hrf; have h2 := pl.nonf r hx; rw [h1] at h2; cases h2
    ·rw [hop] at h1; simp [pureOp] at h1
    ·have := anc_sound di.cl h1.2 hD; rw [h0] at this; cases this
    ·have := anc_free (j := x.i) ho (pl.free r hrf); rw [this] at h1; cases h1.2
    ·rw [hop] at h1; simp [monoOp] at h1
  have hblk : sm.H[s.H.length + k]? = some (.cells z.1 z.2 .rw) := by
   rw [z1, List.getElem?_append_right (by omega)]
   simp [hz]
  have hmk := di.fre k r hkr' h0
  have hw : Region.wanted r.o (yielded ops a.tmps) = true := by
   have hf := pl.free r hrf
   unfold isFree at hf
   rw [hop] at hf
   simp only [Bool.and_eq_true, Option.isNone_iff_eq_none] at hf
   simp [Region.wanted, hf.2]
  refine wpOpIn_of hoa (fun _ => ?_) (fun h => by rw [hw] at h; cases h)
  obtain ⟨zv, e1, e2⟩ := zero_ok (w := w) (μ := μ) hzero
  have hrel := di.rel
  rw [hX] at hrel
  have hzl : z.1.length = zv.cells.size := by rw [← Array.length_toList]; exact (concs_length e2).symm
  have hnew := hrel.newAt (.cells zv.cells z.2) hblk hmk ⟨zv.cells, (0, 0), _, heap_alloc_new w _, e2, by simp [hzl], fun j v hv => by simpa using hv, rfl, hzl.symm, rfl⟩
  refine wpIn_of_wp (by rw [hop]; intro c h; cases h) ?_
  unfold Oper.wp
  have hrun : (execOp a.eval r.o).run P w = .ok (.value (.pointer (some ⟨w.heap.size, 0, none⟩))) (w.alloc (.cells zv.cells z.2)) := by
   unfold execOp
   simp only [hop]
   simp [Instr.alloc, e1, newVar, newRow]
  rw [hrun]
  have hle : Le μ (upd μ (s.H.length + k) ⟨w.heap.size, 0, 0⟩) := by
   intro c q e
   rw [upd_other]
   ·exact e
   ·rintro rfl; rw [hmk] at e; cases e
  refine hK (upd μ (s.H.length + k) ⟨w.heap.size, 0, 0⟩) _ _ ⟨by simpa using di.sz, hcl', ?_, by rw [put_defers]; exact di.df, ?_, di.le.trans hle, ?_, ?_, ?_, ?_⟩
  ·rw [hfa]
   refine put_conc _ (concs_le hle _ di.tm) ?_
   rw [hv]
   simp [conc, upd_same]
  ·rw [(hkeep (.inr hrf)).1, hX]
   exact hnew
  ·intro b hb
   rw [upd_other _ _ (by omega)]
   exact di.dom b hb
  ·intro k' r' hk' hd'
   rw [hD'] at hd'
   have hne : k' ≠ k := by
    rintro rfl
    rw [hkr'] at hk'; cases hk'
    simp at hd'
   rw [upd_other _ _ (by omega)]
   refine di.fre k' r' hk' ?_
   split at hd'
   ·cases hd'
   ·exact hd'
  ·rw [(hkeep (.inr hrf)).1, (hkeep (.inr hrf)).2]; exact di.inv
  ·rw [(hkeep (.inr hrf)).1]; exact di.len
 ·-- any other
  have hnf := pl.nonf r hrot
  obtain ⟨pre, post, hs⟩ := List.append_of_mem hrot
  have htr := pl.tr2
  rw [hs] at htr
  obtain ⟨m, hm, htr2⟩ := htr.split
  have hfe := pl.frame_eq di.cl hs hm hr h0
  have hwc : Region.wanted r.o (yielded ops a.tmps) = wantedA l m.σ r.o := by
   rw [wanted_ok di.tm r.o, ← hl]
   exact wantedA_congr hfe
  have hargs : ∀ x ∈ r.o.op.operands, evArg P (fD (dn listed) s.σ (fr ++ ot)) x = evArg P m.σ x := by
   intro x hx
   refine evArg_congr (fun t ht => hfe t ?_)
   subst ht
   simp only [readsT, List.mem_append, List.mem_filterMap]
   exact .inl ⟨_, by simpa using hx, rfl⟩
  have hmheap := (hm.heap (fun x hx => pl.nonf x (by rw [hs]; exact List.mem_append_left _ hx))).1
  cases htr2 with
  | @skip _ _ i' o' _ h1 h2 =>
   refine wpOpIn_of hoa (fun h => by rw [hwc] at h; rw [h1] at h; cases h) (fun _ => ?_)
   have hk := hkeep (.inl rfl)
   refine hK μ _ _ ⟨by simpa using di.sz, hcl', ?_, by rw [put_defers]; exact di.df, by rw [hk.1]; exact di.rel, di.le, di.dom, ?_, by rw [hk.1, hk.2]; exact di.inv, by rw [hk.1]; exact di.len⟩
   ·rw [hfa]; exact put_conc _ di.tm rfl
   ·intro k' r' hk' hd'
    refine di.fre k' r' hk' ?_
    rw [hD'] at hd'
    split at hd'
    ·cases hd'
    ·exact hd'
  | @run _ _ i' o' q _ h1 h2 h3 h4 h5 =>
   refine wpOpIn_of hoa (fun _ => ?_) (fun h => by rw [hwc] at h; rw [h1] at h; cases h)
   have h2' : evOp P C (fD (dn listed) s.σ (fr ++ ot)) m.H o'.op = some q := by rw [evOp_congr hargs]; exact h2
   -- what is left to show, once the operation has been done
   have fin : ∀ {X' : Hp} {e' : Ef}, hp (dn (listed.setIfInBounds i' true)) sm.H ot = X' → efs (dn (listed.setIfInBounds i' true)) z0 ot = (efs (dn listed) z0 ot).and e' →
     ∀ μ' v' w', Ok P g μ (hp (dn listed) sm.H ot) (q.1, X', e') μ' v' w' → K (a.put o'.dst v') w' := by
    intro X' e' hX' hE' μ' v' w' hok
    refine hK μ' _ _ ⟨by simpa using di.sz, hcl', ?_, by rw [put_defers]; exact di.df, by rw [hX']; exact hok.rel, di.le.trans hok.le, ?_, ?_, ?_, ?_⟩
    ·rw [hfa]; exact put_conc _ (concs_le hok.le _ di.tm) hok.val
    ·intro b hb
     have hls : s.H.length ≤ sm.H.length := by
      obtain ⟨zs, z1, _⟩ := pl.tr1.frees pl.free
      rw [z1]; simp
     have := di.len
     rw [hok.dom b (by omega)]
     exact di.dom b hb
    ·intro k' r' hk' hd'
     have hkl : s.H.length + k' < sm.H.length := by
      obtain ⟨zs, z1, _, z3, _⟩ := pl.tr1.frees pl.free
      have : k' < fr.length := (List.getElem?_eq_some_iff.1 hk').1
      rw [z1]; simp; omega
     have := di.len
     rw [hok.dom _ (by omega)]
     refine di.fre k' r' hk' ?_
     rw [hD'] at hd'
     split at hd'
     ·cases hd'
     ·exact hd'
    ·rw [hX', hE']
     have hls : s.H.length ≤ sm.H.length := by
      obtain ⟨zs, z1, _⟩ := pl.tr1.frees pl.free
      rw [z1]; simp
     exact di.inv.trans hok.inv (Nat.le_trans hls di.len)
    ·rw [hX']
     exact Nat.le_trans di.len hok.len
   by_cases hp' : pureOp o'.op = true
   ·obtain ⟨hq, hall⟩ := evOp_pure hp' h2'
    have hqz : quiet q m.H = true := by rw [hq]; simp [quiet, z0]
    have hk := hkeep (.inl (by simp [hqz]))
    have hok := op_in hC di.rel di.tm (hall (hp (dn listed) sm.H ot))
    exact hok ro n K Q (fin hk.1 (by rw [hk.2, Ef.and_z0]))
   ·have hp0 : pureOp o'.op = false := by simpa using hp'
    obtain ⟨ar1', ar2'⟩ := pl.around di.cl hs hr h0 hp0
    by_cases hmo : monoOp o'.op = true
    ·by_cases hld : ∃ t a, o'.op = .load t (.tmp a)
     ·obtain ⟨tl, al, hld⟩ := hld
      have hh0 : dn listed i' = false := h0
      have hch := pl.chain di.cl
      rw [hs, List.pairwise_append, List.pairwise_cons] at hch
      have hqz : quiet q m.H = true := by rw [(evOp_load hmo h2).1]; simp [quiet, z0]
      obtain ⟨e1, e2⟩ := quiet_same hqz h3
      have h2l := h2'
      rw [hld] at h2l
      obtain ⟨b, ob, g1, g2, g3, g4⟩ := evOp_ld h2l
      have hma : m.σ[al]? = some (.ptr b ob) := by
       have := hargs (.tmp al) (by rw [hld]; simp [Op.operands])
       rw [g1] at this
       have h : some (AV.ptr b ob) = some ((m.σ[al]?).getD undefA) := this
       cases hx : m.σ[al]? with
       | none => rw [hx] at h; cases h
       | some z => rw [hx] at h; rw [Option.some.inj h]; rfl
      have hkb : ∀ x ∈ ot, x.eff = true → (x.ef = z0 ∨ apS l s'.σ (x.i, i')) → Kb b x := by
       intro x hx he hz
       rcases hz with hz | ⟨oi, oj, c, a, bs, o, b', o', t, t', v, k1, k2, k3, k4, k5, k6, k7, k8, k9⟩
       ·exact .inl hz
       ·have k1 : l[x.i]? = some oi := k1
        rw [pl.at_ x (List.mem_append_right _ hx)] at k1
        cases k1
        have k2 : l[i']? = some oj := k2
        rw [ho] at k2
        cases k2
        rw [hld] at k4
        cases k4
        have hf := pl.final hs hm (t := al) k9
        rw [k6, hma] at hf
        cases hf
        exact .inr ⟨bs, pl.wrote hx he k3 k5 k8, k7⟩
      have hby : ∃ y, m.H[b]? = some y := by
       cases hb : m.H[b]? with
       | some y => exact ⟨y, rfl⟩
       | none =>
        exfalso
        obtain ⟨u, hu⟩ : ∃ u, μ b = some u := by
         have hv := arg_ok di.rel di.tm (x := .tmp al) g1
         simp only [conc, Option.map_eq_some_iff] at hv
         obtain ⟨lc, hl, _⟩ := hv
         exact ⟨lc, hl⟩
        have hlt := di.rel.dom b u hu
        have hrd : ∀ n, rd m.H b ob n = none := fun n => by unfold rd; rw [hb]
        unfold evLoad at g2
        simp only [hrd] at g2
        split at g2 <;> simp at g2
      obtain ⟨y, hy⟩ := hby
      have hag : (hp (dn listed) sm.H ot)[b]? = m.H[b]? := by
       by_cases hall : ∀ x ∈ pre, x.eff = true → dn listed x.i = true
       ·have hk := keep_post (D := dn listed) (b := b) h5 (fun x hx => pl.nonf x (by rw [hs]; simp [hx])) (fun x hx he hD => by
         rcases ar2' x hx he with h1 | h1
         ·rw [hD] at h1; cases h1
         ·exact hkb x (by rw [hs]; simp [hx]) he h1.2) hch.2.1.2 y (by show q.2.1[b]? = _; rw [e1]; exact hy)
        have hk : (hp (dn listed) q.2.1 post)[b]? = some y := hk
        rw [e1] at hk
        rw [hy, hs, hp_append, hp_cons]
        rw [hp_congr (D' := fun _ => true) pre sm.H (fun x hx he => hall x hx he), ← hmheap]
        simp only [hh0, Bool.false_eq_true, false_and, if_false]
        exact hk
       ·obtain ⟨x0, hx0, he0, hd0⟩ : ∃ x ∈ pre, x.eff = true ∧ dn listed x.i = false := by
         apply Classical.byContradiction
         intro hno
         refine hall (fun x hx he => ?_)
         cases hD : dn listed x.i with
         | true => rfl
         | false => exact absurd ⟨x, hx, he, hD⟩ hno
        have hpn : ∀ x ∈ post, x.eff = true → dn listed x.i = false := by
         intro x hx he
         cases hD : dn listed x.i with
         | false => rfl
         | true => have := hch.2.2 x0 hx0 x (by simp [hx]) he0 he hD; rw [hd0] at this; cases this
        have hXm : hp (dn listed) sm.H ot = hp (dn listed) sm.H pre := by
         rw [hs, hp_append, hp_cons]
         simp only [hh0, Bool.false_eq_true, false_and, if_false]
         rw [hp_none post _ hpn]
        have hk := keep_pre (D := dn listed) (b := b) hm (fun x hx => pl.nonf x (by rw [hs]; exact List.mem_append_left _ hx)) (fun x hx he hD => by
         rcases ar1' x hx he with h1 | h1
         ·rw [hD] at h1; cases h1
         ·exact hkb x (by rw [hs]; simp [hx]) he h1.2) hch.1
        rw [hXm]
        have hlt : b < (hp (dn listed) sm.H pre).length := by
         rw [← hXm]
         obtain ⟨v', hv⟩ : ∃ v', conc μ (.ptr b ob) = some v' := ⟨_, arg_ok di.rel di.tm (x := .tmp al) g1⟩
         simp only [conc, Option.map_eq_some_iff] at hv
         obtain ⟨lc, hl, _⟩ := hv
         exact di.rel.dom b lc hl
        obtain ⟨z, hz⟩ : ∃ z, (hp (dn listed) sm.H pre)[b]? = some z := ⟨_, List.getElem?_eq_getElem hlt⟩
        rw [hz, hk z hz]
      have h2m := g4 _ hag
      rw [← hld] at h2m
      have hok := op_in hC di.rel di.tm (o := o') h2m
      have hk := hkeep (.inl (by simp [hqz]))
      exact hok ro n K Q (fun μ' v' w' hok' => fin (X' := hp (dn listed) sm.H ot) (e' := z0) hk.1 (by rw [hk.2, Ef.and_z0]) μ' v' w' hok')
     have hna : ∀ x : Rec, ¬ apS l s'.σ (x.i, i') := by
      rintro x ⟨oi, oj, c, a, bs, o, b', o', t, t', v, k1, k2, k3, k4, _⟩
      have k2 : l[i']? = some oj := k2
      rw [ho] at k2
      cases k2
      exact hld ⟨t', a, k4⟩
     ·have hh0 : dn listed i' = false := h0
      have hch := pl.chain di.cl
      rw [hs, List.pairwise_append, List.pairwise_cons] at hch
      have hqz : quiet q m.H = true := by rw [(evOp_load hmo h2).1]; simp [quiet, z0]
      obtain ⟨e1, e2⟩ := quiet_same hqz h3
      by_cases hall : ∀ x ∈ pre, x.eff = true → dn listed x.i = true
      ·obtain ⟨X, hX⟩ := grown_post (D := dn listed) h5 (fun x hx => pl.nonf x (by rw [hs]; simp [hx])) (fun x hx he hD => by
        rcases ar2' x hx he with h1 | h1
        ·rw [hD] at h1; cases h1
        ·exact h1.2.resolve_right (hna x)) hch.2.1.2
       have hXm : hp (dn listed) sm.H ot = m.H ++ X := by
        rw [hmheap, hs, hp_append, hp_cons]
        rw [hp_congr (D' := fun _ => true) pre sm.H (fun x hx he => hall x hx he), ← hmheap]
        simp only [hh0, Bool.false_eq_true, false_and, if_false]
        have hX' : hp (dn listed) q.2.1 post = q.2.1 ++ X := hX
        rw [e1] at hX'
        exact hX'
       have h2m := (evOp_load hmo h2').2 X
       rw [← hXm] at h2m
       have hok := op_in hC di.rel di.tm (o := o') h2m
       have hk := hkeep (.inl (by simp [hqz]))
       exact hok ro n K Q (fun μ' v' w' hok' => fin (X' := hp (dn listed) sm.H ot) (e' := z0) hk.1 (by rw [hk.2, Ef.and_z0]) μ' v' w' hok')
      ·-- something ahead of it that lays blocks has not been done
       obtain ⟨x0, hx0, he0, hd0⟩ : ∃ x ∈ pre, x.eff = true ∧ dn listed x.i = false := by
        apply Classical.byContradiction
        intro hno
        refine hall (fun x hx he => ?_)
        cases hD : dn listed x.i with
        | true => rfl
        | false => exact absurd ⟨x, hx, he, hD⟩ hno
       have hpn : ∀ x ∈ post, x.eff = true → dn listed x.i = false := by
        intro x hx he
        cases hD : dn listed x.i with
        | false => rfl
        | true => have := hch.2.2 x0 hx0 x (by simp [hx]) he0 he hD; rw [hd0] at this; cases this
       obtain ⟨X, hX⟩ := grown_pre (D := dn listed) hm (fun x hx => pl.nonf x (by rw [hs]; exact List.mem_append_left _ hx)) (fun x hx he hD => by
        rcases ar1' x hx he with h1 | h1
        ·rw [hD] at h1; cases h1
        ·exact h1.2.resolve_right (hna x)) hch.1
       have hXm : m.H = hp (dn listed) sm.H ot ++ X := by
        rw [hX, hs, hp_append, hp_cons]
        simp only [hh0, Bool.false_eq_true, false_and, if_false]
        rw [hp_none post _ hpn]
       rw [hXm] at h2'
       have h2m := evOp_back hmo h2' (fun x _ v hv => ⟨_, arg_ok di.rel di.tm hv⟩) di.rel.dom
       have hok := op_in hC di.rel di.tm (o := o') h2m
       have hk := hkeep (.inl (by simp [hqz]))
       exact hok ro n K Q (fun μ' v' w' hok' => fin (X' := hp (dn listed) sm.H ot) (e' := z0) hk.1 (by rw [hk.2, Ef.and_z0]) μ' v' w' hok')
    have ar1 : ∀ x ∈ pre, x.eff = true → dn listed x.i = true := fun x hx he => (ar1' x hx he).resolve_right (fun h => hmo h.1)
    have ar2 : ∀ x ∈ post, x.eff = true → dn listed x.i = false := fun x hx he => (ar2' x hx he).resolve_right (fun h => hmo h.1)
    have hXm : hp (dn listed) sm.H ot = m.H := by
     rw [hmheap, hs, hp_append, hp_cons]
     rw [hp_congr (D' := fun _ => true) pre sm.H (fun x hx he => ar1 x hx he)]
     have h0' : dn listed i' = false := h0
     simp only [h0', Bool.false_eq_true, false_and, if_false]
     exact hp_none post _ ar2
    have hok := op_in hC di.rel di.tm (o := o') (by rw [hXm]; exact h2')
    by_cases hqz : quiet q m.H = true
    ·obtain ⟨q1, q2⟩ := quiet_same hqz h3
     have hk := hkeep (.inl (by simp [hqz]))
     refine hok ro n K Q (fun μ' v' w' hok' => fin (X' := q.2.1) (e' := q.2.2) (by rw [hk.1, hXm, q1]) (by rw [hk.2, q2, Ef.and_z0]) μ' v' w' hok')
    ·have hqf : quiet q m.H = false := by simpa using hqz
     have heff : (!(isFree o' || quiet q m.H)) = true := by
      have : isFree o' = false := hnf
      rw [this, hqf]; rfl
     have hpre' : ∀ x ∈ pre, x.eff = true → dn (listed.setIfInBounds i' true) x.i = dn listed x.i := by
      intro x hx he
      rw [hD', ar1 x hx he]; simp
     have hpost' : ∀ x ∈ post, x.eff = true → dn (listed.setIfInBounds i' true) x.i = false := by
      intro x hx he
      rw [hD', ar2 x hx he]
      have hord := pl.ord
      rw [hs, List.pairwise_append, List.pairwise_cons] at hord
      have := hord.2.1.1 x hx
      simp only at this
      simp; omega
     have h0' : dn listed i' = false := h0
     have hDi : dn (listed.setIfInBounds i' true) i' = true := by rw [hD']; simp
     refine hok ro n K Q (fun μ' v' w' hok' => fin (X' := q.2.1) (e' := q.2.2) ?_ ?_ μ' v' w' hok')
     ·rw [hs, hp_append, hp_cons]
      simp only [hDi, heff, and_self, if_true]
      exact hp_none post _ hpost'
     ·rw [hs, efs_append, efs_cons, efs_append, efs_cons]
      simp only [hDi, heff, and_self, if_true, h0', Bool.false_eq_true, false_and, if_false]
      rw [efs_none post _ hpost', efs_none post _ ar2, efs_congr pre z0 hpre']
end
end Go.Proofs.YtdppgaphcmhffaaGreatDoor.V
namespace Go.Proofs.YtdppgaphcmhffaaGreatDoor.V
open Go

theorem countP_lt {α : Type} {p q : α → Bool} : ∀ {l : List α}, (∀ x ∈ l, q x = true → p x = true) → (∃ x ∈ l, p x = true ∧ q x = false) → l.countP q < l.countP p
 | [], _, ⟨x, hx, _⟩ => by cases hx
 | a :: l, h, ⟨x, hx, h1, h2⟩ => by
  have hle : l.countP q ≤ l.countP p := List.countP_mono_left (fun y hy => h y (by simp [hy]))
  rcases List.mem_cons.1 hx with rfl | hx
  ·rw [List.countP_cons, List.countP_cons, h1, h2]
   simp only [Bool.false_eq_true, if_false, if_true]; omega
  ·have ih := countP_lt (fun y hy => h y (by simp [hy])) ⟨x, hx, h1, h2⟩
   rw [List.countP_cons, List.countP_cons]
   by_cases hq : q a = true
   ·rw [hq, h a (by simp) hq]; simpa using ih
   ·simp only [hq, Bool.false_eq_true, if_false, Nat.add_zero]; omega

theorem ready_iff {ops : Array Oper} {listed : Array Bool} (hs : listed.size = ops.size) {j : Nat} : j ∈ Region.ready .any ops listed ↔ dn listed j = false ∧ ∃ o, ops.toList[j]? = some o ∧ ∀ e ∈ o.after.toList, Region.binds .any e = true → dn listed e.on = true := by
 rw [mem_ready]
 have key : ∀ o, ops[j]? = some o → (listed.getD j true = false ↔ dn listed j = false) := by
  intro o ho
  have hlt : j < ops.size := (Array.getElem?_eq_some_iff.1 ho).1
  unfold dn
  simp only [Array.getD_eq_getD_getElem?]
  rw [Array.getElem?_eq_getElem (by omega)]
  simp
 constructor
 ·rintro ⟨h1, o, ho, h2⟩
  exact ⟨(key o ho).1 h1, o, by rw [Array.getElem?_toList]; exact ho, fun e he hb => h2 e (by simpa using he) hb⟩
 ·rintro ⟨h1, o, ho, h2⟩
  rw [Array.getElem?_toList] at ho
  exact ⟨(key o ho).2 h1, o, ho, fun e he hb => h2 e (by simpa using he) hb⟩

section
variable {P : Program} {C : CallO} {l : List Oper} {s sm s' : St} {fr ot : List Rec} {g : Gh} {μ0 : Mu}

def SInv (s s' : St) : Prop := s.H.length ≤ s'.H.length ∧ ∃ e, s'.ef = s.ef.and e ∧ Inv s.H.length s.H s'.H e

def After (P : Program) (g : Gh) (μ : Mu) (s s' : St) (Q : Act → World → Prop) : Prop :=
 ∀ g' μ' a' w', GLe g g' → Le μ μ' → (∀ b, b < s.H.length → μ' b = μ b) → SRel P g' μ' s' w' a' → SInv s s' → Q a' w'

theorem any_ok {ro : Option Nat} {m : Nat} (hC : CallsOk P C) {ops : Array Oper} (hl : l = ops.toList) (pl : Plan P C l s sm s' fr ot) {Q : Exit → Act → World → Prop} (hQ : After P g μ0 s s' (Q .normal)) :
  ∀ (fuel : Nat) {listed : Array Bool} {μ : Mu} {a : Act} {w : World}, DI P g μ0 l s sm fr ot listed μ a w → (List.range ops.size).countP (fun i => !dn listed i) ≤ fuel → wpAnyIn (Fr ro) m P .any ops Q fuel listed a w := by
 have done : ∀ {listed : Array Bool} {μ : Mu} {a : Act} {w : World}, DI P g μ0 l s sm fr ot listed μ a w → (∀ i, i < ops.size → dn listed i = true) → Q .normal a w := by
  intro listed μ a w di hall
  have hlen : l.length = ops.size := by rw [hl]; simp
  have hD : ∀ r ∈ fr ++ ot, dn listed r.i = true := by
   intro r hr
   refine hall r.i ?_
   have := (List.getElem?_eq_some_iff.1 (pl.at_ r hr)).1
   omega
  have hf : fD (dn listed) s.σ (fr ++ ot) = s'.σ := by
   rw [pl.tr2.frame, pl.tr1.frame, ← fD_append]
   have : ∀ (rs : List Rec) (σ : List AV), (∀ r ∈ rs, dn listed r.i = true) → fD (dn listed) σ rs = fD (fun _ => true) σ rs := by
    intro rs
    induction rs with
    | nil => intro σ _; rfl
    | cons r rs ih =>
     intro σ h
     show fD (dn listed) (if dn listed r.i = true then put σ r.o.dst r.v else σ) rs = fD (fun _ => true) (if true = true then put σ r.o.dst r.v else σ) rs
     rw [h r (by simp)]
     exact ih _ (fun r' hr' => h r' (by simp [hr']))
   exact this _ _ hD
  have hh := pl.tr2.heap pl.nonf
  have hX : hp (dn listed) sm.H ot = s'.H := by
   rw [hh.1]
   exact hp_congr ot _ (fun r hr _ => hD r (List.mem_append_right _ hr))
  have hE : efs (dn listed) z0 ot = efs (fun _ => true) z0 ot := efs_congr ot _ (fun r hr _ => hD r (List.mem_append_right _ hr))
  obtain ⟨zs, z1, z2, _⟩ := pl.tr1.frees pl.free
  refine hQ g μ a w (GLe.refl g) di.le di.dom ⟨by rw [← hX]; exact di.rel, by rw [← hf]; exact di.tm, di.df⟩ ⟨?_, efs (fun _ => true) z0 ot, ?_, ?_⟩
  ·rw [← hX]
   have h2 : s.H.length ≤ sm.H.length := by rw [z1]; simp
   exact Nat.le_trans h2 di.len
  ·rw [hh.2, z2]
  ·rw [← hX, ← hE]; exact di.inv
 intro fuel
 induction fuel with
 | zero =>
  intro listed μ a w di hc
  have hall : ∀ i, i < ops.size → dn listed i = true := by
   intro i hi
   have h0 : (List.range ops.size).countP (fun i => !dn listed i) = 0 := by omega
   rw [List.countP_eq_zero] at h0
   have := h0 i (by simpa using hi)
   simpa using this
  refine ⟨?_, done di hall⟩
  have hsz : listed.size = ops.size := by rw [di.sz, hl]; simp
  apply List.eq_nil_iff_forall_not_mem.2
  intro i hi
  rw [ready_iff hsz] at hi
  obtain ⟨h1, o, ho, _⟩ := hi
  have := hall i (by have := (List.getElem?_eq_some_iff.1 ho).1; simpa using this)
  rw [h1] at this; cases this
 | succ fuel ih =>
  intro listed μ a w di hc
  have hsz : listed.size = ops.size := by rw [di.sz, hl]; simp
  constructor
  ·intro hready
   refine done di (fun i hi => ?_)
   -- the least that is left would be ready
   cases hd : dn listed i with
   | true => rfl
   | false =>
    exfalso
    have key : ∀ n, ∀ j, j ≤ n → j < ops.size → dn listed j = true := by
     intro n
     induction n using Nat.strongRecOn with
     | _ n ihn =>
      intro j hj hjs
      cases hd0 : dn listed j with
      | true => rfl
      | false =>
       exfalso
       have : j ∈ Region.ready .any ops listed := by
        rw [ready_iff hsz]
        refine ⟨hd0, ops[j], by rw [Array.getElem?_toList, Array.getElem?_eq_getElem hjs], fun e he hb => ?_⟩
        have hlt := pl.edges j ops[j] (by rw [hl, Array.getElem?_toList, Array.getElem?_eq_getElem hjs]) e he hb
        exact ihn e.on (by omega) e.on (Nat.le_refl _) (by omega)
       rw [hready] at this; cases this
    have := key i i (Nat.le_refl _) hi
    rw [hd] at this; cases this
  ·intro i hi
   rw [ready_iff hsz] at hi
   obtain ⟨hd, o, ho, hi3⟩ := hi
   have hi1 : i < ops.size := by have := (List.getElem?_eq_some_iff.1 ho).1; simpa using this
   rw [← hl] at ho
   refine di.step hC hl pl ho hd (fun e he hb => hi3 e he hb) (fun μ' a' w' di' => ih di' ?_)
   ·have hlt := countP_lt (p := fun j => !dn listed j) (q := fun j => !dn (listed.setIfInBounds i true) j) (l := List.range ops.size) (fun x _ hx => by
      rw [dn_set (by omega)] at hx
      split at hx
      ·cases hx
      ·exact hx) ⟨i, by simpa using hi1, by simp [hd], by rw [dn_set (by omega)]; simp⟩
    omega
end
end Go.Proofs.YtdppgaphcmhffaaGreatDoor.V
namespace Go.Proofs.YtdppgaphcmhffaaGreatDoor.V
open Go

section
variable {P : Program} {C : CallO} {g : Gh}

theorem SInv.refl (s : St) : SInv s s := ⟨Nat.le_refl _, z0, (Ef.and_z0 _).symm, Inv.refl _ _ _⟩
theorem SInv.trans {a b c : St} (h : SInv a b) (k : SInv b c) : SInv a c := by
 obtain ⟨h1, e, h2, h3⟩ := h
 obtain ⟨k1, f, k2, k3⟩ := k
 exact ⟨Nat.le_trans h1 k1, e.and f, by rw [k2, h2, Ef.and_assoc], h3.trans k3 h1⟩

theorem After.trans {μ : Mu} {s s1 s2 : St} {Q : Act → World → Prop} (h : After P g μ s s2 Q) {g1 : Gh} {μ1 : Mu} (hg : GLe g g1) (hle : Le μ μ1) (hd : ∀ b, b < s.H.length → μ1 b = μ b) (hi : SInv s s1) : After P g1 μ1 s1 s2 Q := by
 intro g' μ' a' w' l0 l1 l2 l3 l4
 refine h g' μ' a' w' (hg.trans l0) (hle.trans l1) (fun b hb => ?_) l3 (hi.trans l4)
 rw [l2 b (Nat.lt_of_lt_of_le hb hi.1), hd b hb]

theorem After.refl {μ : Mu} {s : St} {Q : Act → World → Prop} {a : Act} {w : World} (h : After P g μ s s Q) (hr : SRel P g μ s w a) : Q a w := h g μ a w (GLe.refl g) (Le.refl μ) (fun _ _ => rfl) hr (SInv.refl s)

def Ex.to : Ex → Exit
 | .normal => .normal
 | .exit id => .exit id
 | .goto l => .goto l
 | .ret => .ret
 | .pan => .normal
def one1 (v : Value) : Exit := .panic [{ v := v, recovered := false }]
def Ends (P : Program) (g : Gh) (μ : Mu) (ex : Ex) (s : St) (w : World) (a : Act) (x : Exit) : Prop :=
 (ex ≠ .pan ∧ x = ex.to ∧ SRel P g μ s w a) ∨ (ex = .pan ∧ ∃ v σ v', s.σ = v :: σ ∧ conc μ v = some v' ∧ x = one1 v' ∧ SRel P g μ ⟨σ, s.H, s.ef⟩ w a)
def AfterX (P : Program) (g : Gh) (μ : Mu) (s s' : St) (ex : Ex) (Q : Exit → Act → World → Prop) : Prop :=
 ∀ g' μ' a' w' x, GLe g g' → Le μ μ' → (∀ b, b < s.H.length → μ' b = μ b) → Ends P g' μ' ex s' w' a' x → SInv s s' → Q x a' w'
theorem AfterX.of {μ : Mu} {s s' : St} {ex : Ex} {Q : Exit → Act → World → Prop} (hx : ex ≠ .pan) (h : AfterX P g μ s s' ex Q) : After P g μ s s' (Q ex.to) :=
 fun g' μ' a' w' l0 l1 l2 l3 l4 => h g' μ' a' w' _ l0 l1 l2 (.inl ⟨hx, rfl, l3⟩) l4
theorem AfterX.trans {μ : Mu} {s s1 s2 : St} {ex : Ex} {Q : Exit → Act → World → Prop} (h : AfterX P g μ s s2 ex Q) {g1 : Gh} {μ1 : Mu} (hg : GLe g g1) (hle : Le μ μ1) (hd : ∀ b, b < s.H.length → μ1 b = μ b) (hi : SInv s s1) : AfterX P g1 μ1 s1 s2 ex Q := by
 intro g' μ' a' w' x l0 l1 l2 l3 l4
 refine h g' μ' a' w' x (hg.trans l0) (hle.trans l1) (fun b hb => ?_) l3 (hi.trans l4)
 rw [l2 b (Nat.lt_of_lt_of_le hb hi.1), hd b hb]
theorem AfterX.refl {μ : Mu} {s : St} {ex : Ex} {Q : Exit → Act → World → Prop} {w : World} {a : Act} (hx : ex ≠ .pan) (h : AfterX P g μ s s ex Q) (hr : SRel P g μ s w a) : Q ex.to a w :=
 (h.of hx).refl hr
theorem Ends.then {μ : Mu} {s : St} {ex : Ex} {w : World} {a : Act} {x : Exit} (h : Ends P g μ ex s w a x) (hn : ex ≠ .normal) (f : Act → World → Prop) (Q : Exit → Act → World → Prop) : Exit.then f Q x = Q x := by
 rcases h with ⟨h1, rfl, _⟩ | ⟨_, v, σ, v', _, _, rfl, _⟩
 ·cases ex <;> first | (exact absurd rfl hn) | (exact absurd rfl h1) | rfl
 ·rfl

theorem SInv.of_ok {μ μ' : Mu} {s : St} {r : AV × Hp × Ef} {v' : Value} {w' : World} (h : Ok P g μ s.H r μ' v' w') (σ : List AV) : SInv s ⟨σ, r.2.1, s.ef.and r.2.2⟩ := ⟨h.len, r.2.2, rfl, h.inv⟩

theorem ops_ok {ro : Option Nat} {m : Nat} (hC : CallsOk P C) {ops : Array Oper} : ∀ (l : List Oper) {s s' : St}, evOps P C ops.toList l s = some s' → ∀ {μ : Mu} {w : World} {a : Act} {Q : Exit → Act → World → Prop}, SRel P g μ s w a → After P g μ s s' (Q .normal) → wpListIn (Fr ro) m P ops Q l a w
 | [], s, s', h, μ, w, a, Q, hr, hQ => by
  simp only [evOps] at h
  cases h
  exact hQ.refl hr
 | o :: l, s, s', h, μ, w, a, Q, hr, hQ => by
  simp only [evOps] at h
  have hw := wanted_ok hr.tm o (ops := ops)
  unfold wpListIn
  split at h
  ·rename_i hwa
   simp only [Option.bind_eq_some_iff] at h
   obtain ⟨r, hr1, h⟩ := h
   rw [if_pos (by rw [hw]; exact hwa)]
   refine op_in hC hr.rel hr.tm hr1 ro m _ _ (fun μ' v' w' hok => ?_)
   exact ops_ok hC l h (hr.step o.dst hok _) (hQ.trans (GLe.refl g) hok.le hok.dom (SInv.of_ok hok _))
  ·rename_i hwa
   rw [if_neg (by rw [hw]; exact hwa)]
   refine ⟨fun _ _ => trivial, ?_⟩
   refine ops_ok hC l h (hr.undef o.dst s.ef) (hQ.trans (GLe.refl g) (Le.refl μ) (fun _ _ => rfl) ⟨Nat.le_refl _, z0, (Ef.and_z0 _).symm, Inv.refl _ _ _⟩)

theorem region_ok {ro : Option Nat} {m : Nat} (hC : CallsOk P C) {ops : Array Oper} {id : Nat} {d : Bool} {s s' : St} (h : evRegion P C ops.toList d s = some s') {μ : Mu} {w : World} {a : Act} {Q : Exit → Act → World → Prop} (hr : SRel P g μ s w a) (hQ : After P g μ s s' (Q .normal)) :
  (Code.region id ops d).wpIn (Fr ro) m P Q a w := by
 unfold evRegion at h
 cases d with
 | false => exact wpIn_region_list (ops_ok hC ops.toList h hr hQ)
 | true =>
  simp only [if_true] at h
  split at h
  ·rename_i hm
   have hr' : SRel P g μ s { w with drawn := w.drawn + 1 } a := ⟨hr.rel.congr rfl rfl rfl rfl, hr.tm, hr.df⟩
   obtain ⟨sm, fr, ot, pl⟩ := plan_ok hC h hr'
   have hdn : ∀ i, dn (Array.replicate ops.size false) i = false := by
    intro i
    unfold dn
    simp only [Array.getD_eq_getD_getElem?, Array.getElem?_replicate]
    split <;> rfl
   refine wpIn_region_any hm (any_ok hC rfl pl hQ ops.size (μ := μ) ⟨by simp, ?_, ?_, hr.df, ?_, Le.refl μ, fun _ _ => rfl, ?_, ?_, ?_⟩ ?_)
   ·intro i o _ hd
    rw [hdn] at hd; cases hd
   ·have : fD (dn (Array.replicate ops.size false)) s.σ (fr ++ ot) = s.σ := by
     apply List.ext_getElem?
     intro t
     exact fD_none _ _ (fun r _ hd => by rw [hdn] at hd; cases hd)
    rw [this]; exact hr.tm
   ·rw [hp_none ot _ (fun r _ _ => hdn _)]
    obtain ⟨zs, z1, _⟩ := pl.tr1.frees pl.free
    rw [z1]
    exact hr'.rel.extend _
   ·intro k r hk _
    cases he : μ (s.H.length + k) with
    | none => rfl
    | some l => have := hr.rel.dom _ _ he; omega
   ·rw [hp_none ot _ (fun r _ _ => hdn _), efs_none ot _ (fun r _ _ => hdn _)]
    obtain ⟨zs, z1, _⟩ := pl.tr1.frees pl.free
    rw [z1]
    exact Inv.extend (Nat.le_refl _) _ _
   ·rw [hp_none ot _ (fun r _ _ => hdn _)]; exact Nat.le_refl _
   ·have := List.countP_le_length (p := fun i => !dn (Array.replicate ops.size false) i) (l := List.range ops.size)
    simpa using this
  ·cases h

structure PansOk (P : Program) (C' : CallO) : Prop where
 fn : ∀ f args H r, f < P.funcs.size → C' f args H = some r → ∀ (g : Gh) (μ : Mu) (w : World) (vs : List Value), HRel P g μ H w → concs μ args = some vs →
  Calls P f vs.toArray w (fun e w' => ∃ μ' v', e = .panicked [{ v := v', recovered := false }] ∧ Ok P g μ H r μ' v' w')

theorem pan_in {C' : CallO} (hP : PansOk P C') {μ : Mu} {H : Hp} {σ : List AV} {w : World} {a : Act} (h : HRel P g μ H w) (hσ : concs μ σ = some a.tmps.toList) {o : Oper} {r : AV × Hp × Ef} (hr : evPanOp P C' σ H o.op = some r) (ro : Option Nat) (n : Nat) (K : Act → World → Prop) (Q : Exit → Act → World → Prop)
  (hQ : ∀ μ' v' w', Ok P g μ H r μ' v' w' → Q (one1 v') a w') : o.wpIn (Fr ro) n P a w K Q := by
 have hd : ∀ c, o.op ≠ .defer c := by
  intro c hc
  rw [hc] at hr
  simp [evPanOp] at hr
 refine ⟨fun f _ => trivial, ?_⟩
 rw [Oper.semAt_eq _ _ _ hd]
 unfold evPanOp at hr
 split at hr
 ·rename_i x ho
  simp only [Option.bind_eq_some_iff] at hr
  obtain ⟨v, hv, hr⟩ := hr
  have hx := arg_ok h hσ hv
  split at hr
  ·rename_i t u
   cases hr
   have hx0 := hx
   simp only [conc, Option.map_eq_some_iff] at hx0
   obtain ⟨u', hu, hx'⟩ := hx0
   have hrun : (execOp a.eval o).run P w = .halt (.panic (a.eval x)) w := by
    unfold execOp
    simp only [ho, Instr.panic, ← hx']
    rfl
   rw [hrun]
   exact hQ μ (a.eval x) w ⟨Le.refl μ, h, hx, Nat.le_refl _, Inv.refl _ _ _, fun _ _ => rfl⟩
  ·cases hr
 ·rename_i c ho
  split at hr
  ·rename_i f hcal
   simp only [Option.bind_eq_some_iff] at hr
   obtain ⟨fv, hf, az, has, hr⟩ := hr
   have hfc := arg_ok h hσ hf
   have hac := args_ok h hσ has
   split at hr
   ·rename_i gg first captured
    split at hr
    ·rename_i hb
     simp only [conc, Option.bind_eq_some_iff, Option.map_eq_some_iff] at hfc
     obtain ⟨fs, hfs, cs, hcs, hev⟩ := hfc
     have hargs := concs_append_some (concs_append_some hfs hac) hcs
     have hlt : gg < P.funcs.size := by
      unfold hasBody at hb
      split at hb
      ·rename_i fn hfn; exact (Array.getElem?_eq_some_iff.1 hfn).1
      ·cases hb
     have hcall := hP.fn _ _ _ _ hlt hr g μ w _ h hargs
     have hrun : (execOp a.eval o).run P w = .ok (.enter gg (fs ++ c.args.toList.map a.eval ++ cs).toArray) w := by
      unfold hasBody at hb
      split at hb
      ·rename_i fn hfn
       simp only [Bool.and_eq_true, Bool.not_eq_true', beq_eq_false_iff_ne] at hb
       unfold execOp
       simp only [ho, resolve, hcal, Deferred.ofValue, ← hev, Sem.run_bind, Sem.run_pure, Result.andThen_ok, invoke, callFunc, run_program, hfn]
       rw [if_neg (by simpa using hb.1.2), if_neg (by cases hbb : fn.body <;> simp [hbb] at hb ⊢)]
       simp only [Sem.run_pure]
       congr 2
       apply Array.ext'
       simp
      ·cases hb
     rw [hrun]
     refine ⟨fun h => by simp [Fr, Fence.wide] at h, callsIn_fr (hcall.mono ?_)⟩
     rintro e w' ⟨μ', v', rfl, hok⟩
     exact hQ _ _ _ hok
    ·cases hr
   ·cases hr
  ·cases hr
 ·cases hr

theorem opsP_ok {C' : CallO} {ro : Option Nat} {m : Nat} (hC : CallsOk P C) (hP : PansOk P C') {ops : Array Oper} : ∀ (l : List Oper) {s s' : St}, evOpsP P C C' ops.toList l s = some s' → ∀ {μ : Mu} {w : World} {a : Act} {Q : Exit → Act → World → Prop}, SRel P g μ s w a → AfterX P g μ s s' .pan Q → wpListIn (Fr ro) m P ops Q l a w
 | [], s, s', h, μ, w, a, Q, hr, hQ => by simp only [evOpsP] at h; cases h
 | o :: l, s, s', h, μ, w, a, Q, hr, hQ => by
  simp only [evOpsP] at h
  have hw := wanted_ok hr.tm o (ops := ops)
  unfold wpListIn
  split at h
  ·rename_i hwa
   rw [if_pos (by rw [hw]; exact hwa)]
   split at h
   ·rename_i r hr1
    simp only [Option.some.injEq] at h
    subst h
    refine pan_in hP hr.rel hr.tm hr1 ro m _ _ (fun μ' v' w' hok => ?_)
    exact hQ g μ' a w' _ (GLe.refl g) hok.le hok.dom (.inr ⟨rfl, r.1, s.σ, v', rfl, hok.val, rfl, ⟨hok.rel, concs_le hok.le _ hr.tm, hr.df⟩⟩) (SInv.of_ok hok _)
   ·simp only [Option.bind_eq_some_iff] at h
    obtain ⟨r, hr1, h⟩ := h
    refine op_in hC hr.rel hr.tm hr1 ro m _ _ (fun μ' v' w' hok => ?_)
    exact opsP_ok hC hP l h (hr.step o.dst hok _) (hQ.trans (GLe.refl g) hok.le hok.dom (SInv.of_ok hok _))
  ·rename_i hwa
   rw [if_neg (by rw [hw]; exact hwa)]
   refine ⟨fun _ _ => trivial, ?_⟩
   refine opsP_ok hC hP l h (hr.undef o.dst s.ef) (hQ.trans (GLe.refl g) (Le.refl μ) (fun _ _ => rfl) ⟨Nat.le_refl _, z0, (Ef.and_z0 _).symm, Inv.refl _ _ _⟩)

theorem reg_ok {C' : CallO} {ro : Option Nat} {m : Nat} (hC : CallsOk P C) (hP : PansOk P C') {ops : Array Oper} {id : Nat} {d : Bool} {s s' : St} {ex : Ex} (h : evReg P C C' ops.toList d s = some (ex, s')) {μ : Mu} {w : World} {a : Act} {Q : Exit → Act → World → Prop} (hr : SRel P g μ s w a) (hQ : AfterX P g μ s s' ex Q) :
  (Code.region id ops d).wpIn (Fr ro) m P Q a w := by
 unfold evReg at h
 split at h
 ·rename_i s1 h1
  cases h
  exact region_ok hC h1 hr (hQ.of (by decide))
 ·split at h
  ·cases h
  ·rename_i hd
   have hd' : d = false := by simpa using hd
   subst hd'
   simp only [Option.map_eq_some_iff, Prod.mk.injEq] at h
   obtain ⟨s1, h1, rfl, rfl⟩ := h
   exact wpIn_region_list (opsP_ok hC hP ops.toList h1 hr hQ)

theorem iter_ok {ro : Option Nat} {m : Nat} {step : St → Rc} {c : Code} {ok : Gh → Prop} (hgrow : ∀ {g g' : Gh}, ok g → GLe g g' → ok g') (hstep : ∀ {s s' : St} {ex : Ex}, step s = some (ex, s') → ∀ {g : Gh}, ok g → ∀ {μ : Mu} {w : World} {a : Act} {Q : Exit → Act → World → Prop}, SRel P g μ s w a → AfterX P g μ s s' ex Q → c.wpIn (Fr ro) m P Q a w) :
  ∀ (n : Nat) {s s' : St} {ex : Ex}, iter step n s = some (ex, s') → ∀ {g : Gh}, ok g → ∀ {μ : Mu} {w : World} {a : Act} {Q : Exit → Act → World → Prop}, SRel P g μ s w a → AfterX P g μ s s' ex Q → Code.roundsIn (Fr ro) m P c Q n a w
 | 0, s, s', ex, h, g, hg, μ, w, a, Q, hr, hQ => by simp [iter] at h
 | n + 1, s, s', ex, h, g, hg, μ, w, a, Q, hr, hQ => by
  simp only [iter] at h
  rw [roundsIn_succ]
  split at h
  ·rename_i s1 h1
   refine hstep h1 hg (Q := Exit.then (Code.roundsIn (Fr ro) m P c Q n) Q) hr ?_
   intro g' μ' a' w' x l0 l1 l2 l3 l4
   rcases l3 with ⟨_, rfl, l3⟩ | ⟨e, _⟩
   ·exact iter_ok hgrow hstep n h (hgrow hg l0) l3 (hQ.trans l0 l1 l2 l4)
   ·cases e
  ·rename_i hne
   have hn : ex ≠ .normal := by
    rintro rfl
    exact hne _ h
   refine hstep h hg hr ?_
   intro g' μ' a' w' x l0 l1 l2 l3 l4
   rw [l3.then hn]
   exact hQ g' μ' a' w' x l0 l1 l2 l3 l4

theorem evRange_pan {f : Operand} {ps : List Tmp} {az bd : Code} {s s' : St} {ex : Ex} (h : evRange P C f ps az bd s = some (ex, s')) : ex ≠ .pan := by
 unfold evRange at h
 split at h
 ·split at h
  ·simp only [Option.bind_eq_some_iff] at h
   obtain ⟨r, _, h⟩ := h
   split at h
   ·cases h; decide
   ·split at h
    ·cases h
    ·rename_i hp
     cases h; exact hp
   ·cases h
  ·cases h
 ·cases h
theorem ranged_ok {ro : Option Nat} {m : Nat} (hC : CallsOk P C) {f : Operand} {ps : Array Tmp} {az bd : Code} {s s' : St} {ex : Ex} (h : evRange P C f ps.toList az bd s = some (ex, s')) (hro : RoOk g ro) {μ : Mu} {w : World} {a : Act} {Q : Exit → Act → World → Prop} (hr : SRel P g μ s w a) (hQ : AfterX P g μ s s' ex Q) (hxp : ex ≠ .pan) :
  (Code.rangeFunc f ps az bd).wpIn (Fr ro) m P Q a w := by
 refine wpIn_rangeFunc ?_
 intro fn _
 unfold evRange at h
 split at h
 ·rename_i gg first captured hf
  have hfc := arg_ok hr.rel hr.tm hf
  simp only [conc, Option.bind_eq_some_iff, Option.map_eq_some_iff] at hfc
  obtain ⟨fs, hfs, cs, hcs, hev⟩ := hfc
  split at h
  ·rename_i hb
   simp only [Option.bind_eq_some_iff] at h
   obtain ⟨r, hcall, h⟩ := h
   -- the record is laid
   have lay : ∃ (W0 : World) (mark : List Deferred) (g1 : Gh) (D : Nat), (Instr.enterLoop fn a.tmps ps az bd (Fr ro).round).run P w = .ok (W0.heap.size, mark) (W0.alloc (.loop { state := .ready, pending := none, fn, tmps := a.tmps, params := ps, assign := az, body := bd, defers := D })) ∧
     HRel P g1 μ s.H W0 ∧ GLe g g1 ∧ Marks g1 (mark ++ a.defers) := by
    cases ro with
    | none =>
     refine ⟨w.alloc (.deferred (some [])), [{ target := .collected w.heap.size, args := #[] }], _, w.heap.size, ?_, hr.rel.mark _, GLe.mark hr.rel _, ?_⟩
     ·have := run_enterLoop_outer (P := P) (w := w) fn a.tmps ps az bd
      rw [World.size_alloc]
      exact this
     ·obtain ⟨h0, Ds, h1, h2, h3, h4⟩ := hr.df
      refine ⟨fun k hk => .inl (h0 k hk), w.heap.size :: Ds, by rw [h1]; rfl, ?_, ?_, fun hb => by have := hro.2 rfl; rw [this] at hb; cases hb⟩
      ·refine List.nodup_cons.2 ⟨fun hm => ?_, h2⟩
       have := (hr.rel.old _ (h3 _ hm).2.1).1
       omega
      ·intro D hD
       rcases List.mem_cons.1 hD with rfl | hD
       ·refine ⟨fun hB => ?_, .inr rfl, World.alloc_heap_new w _⟩
        have := (hr.rel.old _ (h0 _ hB)).1
        omega
       ·obtain ⟨x, y, z⟩ := h3 D hD
        exact ⟨x, .inl y, (Go.RowKit.Below.heap_alloc w _ D (hr.rel.old D y).1).trans ((hr.rel.old D y).2.trans z)⟩
    | some l0 =>
     obtain ⟨hz, r0, hr0⟩ := hro.1 l0 rfl
     exact ⟨w, [], g, r0.defers, run_enterLoop_inner ((hr.rel.old l0 hz).2.trans hr0) _ _ _ _ _, hr.rel, GLe.refl g, hr.df⟩
   obtain ⟨W0, mark, g1, D, he, hrel0, hg1, hmk⟩ := lay
   obtain ⟨rec, hrec⟩ : ∃ rec : Loop, rec = { state := .ready, pending := none, fn, tmps := a.tmps, params := ps, assign := az, body := bd, defers := D } := ⟨_, rfl⟩
   rw [← hrec] at he
   have hrel1 : HRel P g1 (upd μ s.H.length ⟨W0.heap.size, 0, 0⟩) (s.H ++ [.loop s.σ ps.toList az bd .ready]) (W0.alloc (.loop rec)) :=
    hrel0.new (.loop rec) _ 0 ⟨rec, World.alloc_heap_new W0 _, by rw [hrec]; exact hr.tm, by rw [hrec], by rw [hrec], by rw [hrec], by rw [hrec]; rfl, by rw [hrec]; rfl⟩
   have hle1 := hrel0.le_upd ⟨W0.heap.size, 0, 0⟩
   have hargs : concs (upd μ s.H.length ⟨W0.heap.size, 0, 0⟩) (first ++ [.yld s.H.length] ++ captured) = some (fs ++ [.func (.yield W0.heap.size) #[] #[]] ++ cs) :=
    concs_append_some (concs_append_some (concs_le hle1 _ hfs) (by simp only [concs, conc, upd_same]; rfl)) (concs_le hle1 _ hcs)
   have hlt : gg < P.funcs.size := by
    unfold hasBody at hb
    split at hb
    ·rename_i fn hfn; exact (Array.getElem?_eq_some_iff.1 hfn).1
    ·cases hb
   have hcalls := hC.fn _ _ _ _ hlt hcall g1 _ _ _ hrel1 hargs
   refine ⟨W0.heap.size, mark, _, { target := .fn (.func gg) cs.toArray, args := fs.toArray ++ #[.func (.yield W0.heap.size) #[] #[]] }, W0.alloc (.loop rec), gg, (fs ++ [Value.func (.yield W0.heap.size) #[] #[]] ++ cs).toArray, W0.alloc (.loop rec), he, ?_, fun _ _ => trivial, ?_, fun h => by simp [Fr, Fence.wide] at h, ?_⟩
   ·simp only [resolve, ← hev, Deferred.ofValue]
    simp [go_sem, Act.eval]
   ·unfold hasBody at hb
    split at hb
    ·rename_i fn hfn
     simp only [Bool.and_eq_true, Bool.not_eq_true', beq_eq_false_iff_ne] at hb
     simp only [invoke, callFunc, Sem.run_bind, run_program, Result.andThen_ok, hfn]
     rw [if_neg (by simpa using hb.1.2), if_neg (by cases hbb : fn.body <;> simp [hbb] at hb ⊢)]
     simp only [Sem.run_pure]
     congr 2
     apply Array.ext'
     simp
    ·cases hb
   ·refine callsIn_fr (hcalls.mono ?_)
    rintro e w' ⟨μ', v', rfl, hok⟩
    have hμ : μ' s.H.length = some ⟨W0.heap.size, 0, 0⟩ := hok.le _ _ (upd_same _ _ _)
    -- the pending jump
    have fin : ∀ σ' ps' as' bd' md (e : Ex), r.2.1[s.H.length]? = some (.loop σ' ps' as' bd' md) → md.st ≠ .busy → (e = .normal → md.pe = none) → ex = e → s' = ⟨s.σ, r.2.1.set s.H.length .dead, s.ef.and (r.2.2.and ⟨none, some s.H.length⟩)⟩ →
      ∃ w4, (Instr.endLoop W0.heap.size).run P w' = .ok md.pe w4 ∧ Q e.to { a with defers := mark ++ a.defers } w4 := by
     intro σ' ps' as' bd' md e hblk hst hpe hex hs'
     subst hex hs'
     obtain ⟨rc, k1, k2, k3, k4, k5, k6, k7⟩ := hok.rel.blk _ _ _ hμ hblk
     have hend : (Instr.endLoop W0.heap.size).run P w' = .ok md.pe (w'.putObj W0.heap.size (.loop { rc with state := .exhausted })) := by
      rw [← k7]
      exact run_endLoop (P := P) k1 (by rw [k6]; exact hst)
     refine ⟨_, hend, ?_⟩
     have hw : wrt (.loop σ' ps' as' bd' md) = true := by cases md <;> first | rfl | exact absurd rfl hst
     have hrel4 := hok.rel.change hμ hblk hw (x' := .dead) (w' := w'.putObj W0.heap.size (.loop { rc with state := .exhausted })) (fun k hk => World.putObj_heap_other hk) (by simp) rfl rfl rfl trivial
     refine hQ.of hxp g1 μ' _ _ hg1 (hle1.trans hok.le) (fun b hb => ?_) ⟨hrel4, concs_le (hle1.trans hok.le) _ hr.tm, hmk⟩ ?_
     ·rw [hok.dom b (by simp; omega), upd_dom b hb]
     ·have hi := hok.inv
      have hl := hok.len
      simp only [List.length_append, List.length_singleton] at hl hi
      refine ⟨by simp; omega, _, rfl, ?_⟩
      have i1 : Inv s.H.length s.H (s.H ++ [.loop s.σ ps.toList az bd .ready]) z0 := Inv.snoc
      have i2 := i1.trans hi (by omega)
      rw [Ef.z0_and] at i2
      exact i2.trans (Inv.set (n := s.H.length) (e := ⟨none, some s.H.length⟩) hblk (y := .dead) (.inr (by simp [cont])) rfl) (Nat.le_refl _)
    split at h
    ·rename_i σ' ps' as' bd' hblk
     simp only [Option.some.injEq, Prod.mk.injEq] at h
     obtain ⟨w4, e1, e2⟩ := fin _ _ _ _ _ .normal hblk (by simp [Md.st]) (fun _ => rfl) h.1.symm h.2.symm
     exact ⟨none, w4, e1, e2⟩
    ·rename_i σ' ps' as' bd' e hblk
     split at h
     ·cases h
     rename_i hep
     simp only [Option.some.injEq, Prod.mk.injEq] at h
     obtain ⟨w4, e1, e2⟩ := fin _ _ _ _ _ e hblk (by simp [Md.st]) (fun he => by subst he; rfl) h.1.symm h.2.symm
     refine ⟨_, w4, e1, ?_⟩
     cases e with
     | normal => exact e2
     | exit id => exact wpIn_exit e2
     | goto l => exact wpIn_goto e2
     | ret => exact wpIn_ret e2
     | pan => exact absurd rfl hep
    ·cases h
  ·cases h
 ·cases h

def Exit.lab (c : Code) (J : Code → Act → World → Prop) (Q : Exit → Act → World → Prop) : Exit → Act → World → Prop
 | .goto l, a, w => match findLabel c l with
  | some r => J r a w
  | none => Q (.goto l) a w
 | e, a, w => Q e a w
def scopeIn (F : Fence) (n : Nat) (P : Program) (c : Code) (Q : Exit → Act → World → Prop) : Nat → Exit → Act → World → Prop
 | 0 => Exit.lab c (fun _ _ _ => False) Q
 | m + 1 => Exit.lab c (fun r => r.wpIn F n P (scopeIn F n P c Q m)) Q
theorem scopeIn_else {F : Fence} {n : Nat} {P : Program} {c : Code} {Q : Exit → Act → World → Prop} {m : Nat} {x : Exit} {a : Act} {w : World} (h : ∀ l, x = .goto l → findLabel c l = none) (hq : Q x a w) : scopeIn F n P c Q m x a w := by
 cases m <;> cases x <;> first | exact hq | (rename_i l; simp only [scopeIn, Exit.lab, h l rfl]; exact hq)

theorem stepR_scope {P : Program} {b : Frame} {a : Act} {k : List Item} {cs : List Frame} {w : World} {c : Code} : step P (lone (b.atR a (.code (.scope c) :: k)) cs w) = .next (lone (b.atR a (.code c :: .inScope c :: k)) cs w) :=
 step_lone_go (by simp [stepG, stepG.exec, Frame.atR])
theorem stepR_inScope {P : Program} {b : Frame} {a : Act} {k : List Item} {cs : List Frame} {w : World} {c : Code} : step P (lone (b.atR a (.inScope c :: k)) cs w) = .next (lone (b.atR a k) cs w) :=
 step_lone_go (by simp [stepG, stepG.exec, Frame.atR])

theorem wpIn_scope {F : Fence} {n : Nat} {P : Program} {Q : Exit → Act → World → Prop} {a : Act} {w : World} {c : Code} (m : Nat) (h : c.wpIn F n P (scopeIn F n P c Q m) a w) : (Code.scope c).wpIn F n P Q a w := by
 intro b k cs hro hb hr
 have key : ∀ m (c0 : Code) a w, c0.wpIn F n P (scopeIn F n P c Q m) a w → ∃ e a' w', Q e a' w' ∧ ArrivesIn (Machine.fenced P F) P (lone (b.atR a (.code c0 :: .inScope c :: k)) cs w) b k cs e a' w' := by
  intro m
  induction m with
  | zero =>
   intro c0 a w h
   obtain ⟨e, a₁, w₁, hq, harr⟩ := h b (.inScope c :: k) cs hro hb hr
   cases e with
   | normal => exact ⟨.normal, a₁, w₁, hq, StepsIn.trans harr (.one (fenced_calm hb hr rfl) stepR_inScope)⟩
   | exit id => exact ⟨_, a₁, w₁, hq, fun k' hk => harr.1 k' (by simpa [exitTo] using hk), fun hr' hk => harr.2 hr' (by simpa [exitTo] using hk)⟩
   | goto l =>
    simp only [scopeIn, Exit.lab] at hq
    split at hq
    ·exact hq.elim
    ·rename_i hf
     exact ⟨_, a₁, w₁, hq, fun k' hk => harr.1 k' (by simpa [gotoIn, hf] using hk), fun hr' hk => harr.2 hr' (by simpa [gotoIn, hf] using hk)⟩
   | ret => exact ⟨_, a₁, w₁, hq, harr⟩
   | panic ch => exact ⟨_, a₁, w₁, hq, harr⟩
   | outgrown => exact ⟨_, a₁, w₁, hq, harr⟩
  | succ m ih =>
   intro c0 a w h
   obtain ⟨e, a₁, w₁, hq, harr⟩ := h b (.inScope c :: k) cs hro hb hr
   cases e with
   | normal => exact ⟨.normal, a₁, w₁, hq, StepsIn.trans harr (.one (fenced_calm hb hr rfl) stepR_inScope)⟩
   | exit id => exact ⟨_, a₁, w₁, hq, fun k' hk => harr.1 k' (by simpa [exitTo] using hk), fun hr' hk => harr.2 hr' (by simpa [exitTo] using hk)⟩
   | goto l =>
    simp only [scopeIn, Exit.lab] at hq
    split at hq
    ·rename_i r hf
     obtain ⟨e₂, a₂, w₂, hq₂, harr₂⟩ := ih r a₁ w₁ hq
     exact ⟨e₂, a₂, w₂, hq₂, .of_steps (harr.1 _ (by simp [gotoIn, hf])) harr₂⟩
    ·rename_i hf
     exact ⟨_, a₁, w₁, hq, fun k' hk => harr.1 k' (by simpa [gotoIn, hf] using hk), fun hr' hk => harr.2 hr' (by simpa [gotoIn, hf] using hk)⟩
   | ret => exact ⟨_, a₁, w₁, hq, harr⟩
   | panic ch => exact ⟨_, a₁, w₁, hq, harr⟩
   | outgrown => exact ⟨_, a₁, w₁, hq, harr⟩
 obtain ⟨e, a', w', hq, harr⟩ := key m c a w h
 exact ⟨e, a', w', hq, .of_steps (.one (fenced_calm hb hr rfl) stepR_scope) harr⟩

theorem noRange_label : ∀ {c r : Code} {l : Nat}, findLabel c l = some r → noRange c = true → noRange r = true := by
 intro c
 induction c with
 | seq x y ihx ihy =>
  intro r l h hn
  simp only [noRange, Bool.and_eq_true] at hn
  simp only [findLabel] at h
  split at h
  ·rename_i r' hr
   cases h
   simp only [noRange, ihx hr hn.1, hn.2, Bool.and_self]
  ·exact ihy h hn.2
 | label l' =>
  intro r l h hn
  simp only [findLabel] at h
  split at h
  ·cases h; rfl
  ·cases h
 | _ => intro r l h; simp [findLabel] at h

theorem code_ok {C' : CallO} {ro : Option Nat} {m : Nat} (hC : CallsOk P C) (hP : PansOk P C') (n : Nat) : ∀ (c : Code) {s s' : St} {ex : Ex}, evCode P C C' n c s = some (ex, s') → ∀ {g : Gh}, (noRange c = true ∨ RoOk g ro) → ∀ {μ : Mu} {w : World} {a : Act} {Q : Exit → Act → World → Prop}, SRel P g μ s w a → AfterX P g μ s s' ex Q → c.wpIn (Fr ro) m P Q a w := by
 intro c
 induction c using code_ind with
 | skip => intro s s' ex h g hg μ w a Q hr hQ; simp only [evCode] at h; cases h; exact wpIn_skip (hQ.refl (by decide) hr)
 | region id ops d =>
  intro s s' ex h g hg μ w a Q hr hQ
  simp only [evCode] at h
  exact reg_ok hC hP h hr hQ
 | seq x y ihx ihy =>
  intro s s' ex h g hg μ w a Q hr hQ
  simp only [evCode] at h
  simp only [noRange, Bool.and_eq_true] at hg
  apply wpIn_seq
  split at h
  ·rename_i s1 h1
   refine ihx h1 (hg.imp_left And.left) hr ?_
   intro g' μ' a' w' x l0 l1 l2 l3 l4
   rcases l3 with ⟨_, rfl, l3⟩ | ⟨e, _⟩
   ·exact ihy h (hg.imp And.right (fun k => k.grow l0)) l3 (hQ.trans l0 l1 l2 l4)
   ·cases e
  ·rename_i hne
   have hn : ex ≠ .normal := by
    rintro rfl
    exact hne _ h
   refine ihx h (hg.imp_left And.left) hr ?_
   intro g' μ' a' w' x l0 l1 l2 l3 l4
   rw [l3.then hn]
   exact hQ g' μ' a' w' x l0 l1 l2 l3 l4
 | cond c x y ihx ihy =>
  intro s s' ex h g hg μ w a Q hr hQ
  simp only [evCode] at h
  simp only [noRange, Bool.and_eq_true] at hg
  split at h
  ·rename_i hc
   have := arg_ok hr.rel hr.tm hc
   exact wpIn_cond_true (Option.some.inj this).symm (ihx h (hg.imp_left And.left) hr hQ)
  ·rename_i hc
   have := arg_ok hr.rel hr.tm hc
   exact wpIn_cond_false (Option.some.inj this).symm (ihy h (hg.imp_left And.right) hr hQ)
  ·cases h
 | block id c ih =>
  intro s s' ex h g hg μ w a Q hr hQ
  simp only [evCode] at h
  simp only [noRange] at hg
  apply wpIn_block
  split at h
  ·rename_i i s1 h1
   split at h
   ·rename_i hi
    cases h
    refine ih h1 hg hr ?_
    intro g' μ' a' w' x l0 l1 l2 l3 l4
    rcases l3 with ⟨_, rfl, l3⟩ | ⟨e, _⟩
    ·simp only [Ex.to, Exit.inBlock, hi, if_true]
     exact hQ.of (by decide) g' μ' a' w' l0 l1 l2 l3 l4
    ·cases e
   ·rename_i hi
    cases h
    refine ih h1 hg hr ?_
    intro g' μ' a' w' x l0 l1 l2 l3 l4
    rcases l3 with ⟨_, rfl, l3⟩ | ⟨e, _⟩
    ·simp only [Ex.to, Exit.inBlock, hi, if_false]
     exact hQ.of (by simp) g' μ' a' w' l0 l1 l2 l3 l4
    ·cases e
  ·rename_i hne
   refine ih h hg hr ?_
   intro g' μ' a' w' x l0 l1 l2 l3 l4
   have hq := hQ g' μ' a' w' x l0 l1 l2 l3 l4
   rcases l3 with ⟨h1, rfl, _⟩ | ⟨_, v, σ, v', _, _, rfl, _⟩
   ·cases ex <;> first | (exact (hne _ _ h).elim) | (exact absurd rfl h1) | exact hq
   ·exact hq
 | loop c ih =>
  intro s s' ex h g hg μ w a Q hr hQ
  simp only [evCode] at h
  exact wpIn_loop_rounds n (iter_ok (ok := fun g => noRange c = true ∨ RoOk g ro) (fun k l => k.imp_right (fun k => k.grow l)) (fun h1 => ih h1) n h hg hr hQ)
 | exit id => intro s s' ex h g hg μ w a Q hr hQ; simp only [evCode] at h; cases h; exact wpIn_exit (hQ.refl (by simp) hr)
 | goto l => intro s s' ex h g hg μ w a Q hr hQ; simp only [evCode] at h; cases h; exact wpIn_goto (hQ.refl (by simp) hr)
 | label l => intro s s' ex h g hg μ w a Q hr hQ; simp only [evCode] at h; cases h; exact wpIn_label (hQ.refl (by decide) hr)
 | ret => intro s s' ex h g hg μ w a Q hr hQ; simp only [evCode] at h; cases h; exact wpIn_ret (hQ.refl (by decide) hr)
 | rangeFunc f ps az bd ih1 ih2 =>
  intro s s' ex h g hg μ w a Q hr hQ
  simp only [evCode] at h
  rcases hg with hg | hg
  ·simp [noRange] at hg
  ·exact ranged_ok hC h hg hr hQ (evRange_pan h)
 | scope c ih ihr =>
  intro s s' ex h g hg μ w a Q hr hQ
  rw [evCode_scope] at h
  simp only [noRange] at hg
  refine wpIn_scope n ?_
  have key : ∀ (k : Nat) (c0 : Code) {s0 : St}, (∀ {s s' : St} {ex : Ex}, evCode P C C' n c0 s = some (ex, s') → ∀ {g : Gh}, (noRange c0 = true ∨ RoOk g ro) → ∀ {μ : Mu} {w : World} {a : Act} {Q : Exit → Act → World → Prop}, SRel P g μ s w a → AfterX P g μ s s' ex Q → c0.wpIn (Fr ro) m P Q a w) →
    scopeIt (fun l s => (findLabel c l).map fun r => evCode P C C' n r s) k (evCode P C C' n c0 s0) = some (ex, s') → ∀ {g : Gh}, (noRange c0 = true ∨ RoOk g ro) → (noRange c = true ∨ RoOk g ro) → ∀ {μ : Mu} {w : World} {a : Act}, SRel P g μ s0 w a → AfterX P g μ s0 s' ex Q → c0.wpIn (Fr ro) m P (scopeIn (Fr ro) m P c Q k) a w := by
   intro k
   induction k with
   | zero =>
    intro c0 s0 hA h g hg0 hg μ w a hr hQ
    cases hev : evCode P C C' n c0 s0 with
    | none => rw [hev] at h; simp [scopeIt] at h
    | some q =>
     obtain ⟨ex1, s1⟩ := q
     rw [hev] at h
     have h' : (∀ l, ex1 = .goto l → findLabel c l = none) ∧ (ex1, s1) = (ex, s') := by
      cases ex1 with
      | goto l =>
       simp only [scopeIt] at h
       split at h
       ·rename_i h0
        simp only [Option.map_eq_none_iff] at h0
        refine ⟨fun l' e => ?_, Option.some.inj h⟩
        cases e; exact h0
       ·cases h
      | _ => exact ⟨fun l' e => (by cases e), by simpa [scopeIt] using h⟩
     obtain ⟨hl, h'⟩ := h'
     cases h'
     refine hA hev hg0 hr ?_
     intro g' μ' a' w' x l0 l1 l2 l3 l4
     refine scopeIn_else (fun l e => ?_) (hQ g' μ' a' w' x l0 l1 l2 l3 l4)
     rcases l3 with ⟨h1, rfl, _⟩ | ⟨_, v, σ, v', _, _, rfl, _⟩
     ·cases ex <;> simp [Ex.to] at e
      subst e; exact hl _ rfl
     ·cases e
   | succ k ihk =>
    intro c0 s0 hA h g hg0 hg μ w a hr hQ
    cases hev : evCode P C C' n c0 s0 with
    | none => rw [hev] at h; simp [scopeIt] at h
    | some q =>
     obtain ⟨ex1, s1⟩ := q
     rw [hev] at h
     have h' : (∃ l r, ex1 = .goto l ∧ findLabel c l = some r ∧ scopeIt (fun l s => (findLabel c l).map fun r => evCode P C C' n r s) k (evCode P C C' n r s1) = some (ex, s')) ∨ (∀ l, ex1 = .goto l → findLabel c l = none) ∧ (ex1, s1) = (ex, s') := by
      cases ex1 with
      | goto l =>
       cases hf : findLabel c l with
       | none =>
        simp only [scopeIt, hf, Option.map_none] at h
        refine .inr ⟨fun l' e => ?_, Option.some.inj h⟩
        cases e; exact hf
       | some r =>
        simp only [scopeIt, hf, Option.map_some] at h
        exact .inl ⟨l, r, rfl, hf, h⟩
      | _ => exact .inr ⟨fun l' e => (by cases e), by simpa [scopeIt] using h⟩
     rcases h' with ⟨l, r, rfl, hf, h'⟩ | ⟨hl, h'⟩
     ·refine hA hev hg0 hr ?_
      intro g' μ' a' w' x l0 l1 l2 l3 l4
      rcases l3 with ⟨h1, rfl, l3⟩ | ⟨e, _⟩
      ·show Exit.lab c (fun r => r.wpIn (Fr ro) m P (scopeIn (Fr ro) m P c Q k)) Q (.goto l) a' w'
       simp only [Exit.lab, hf]
       have hg' : noRange c = true ∨ RoOk g' ro := hg.imp_right (fun k => k.grow l0)
       exact ihk r (ihr l r hf) h' (hg'.imp_left (noRange_label hf)) hg' l3 (hQ.trans l0 l1 l2 l4)
      ·cases e
     ·cases h'
      refine hA hev hg0 hr ?_
      intro g' μ' a' w' x l0 l1 l2 l3 l4
      refine scopeIn_else (fun l e => ?_) (hQ g' μ' a' w' x l0 l1 l2 l3 l4)
      rcases l3 with ⟨h1, rfl, _⟩ | ⟨_, v, σ, v', _, _, rfl, _⟩
      ·cases ex <;> simp [Ex.to] at e
       subst e; exact hl _ rfl
      ·cases e
  exact key n c ih h hg hg hr hQ
 | refuse why => intro s s' ex h; simp [evCode] at h

def resOne (a : Act) : ResultVar → Sem Value
 | .tmp t => pure (a.tmps.getD t undef)
 | .cell x t => do loadVar t (← asAddr (a.tmps.getD x undef))

theorem res_ok {μ : Mu} {s : St} {w : World} {a : Act} (hr : HRel P g μ s.H w) (ht : concs μ s.σ = some a.tmps.toList) : ∀ {rs : List ResultVar} {vs : List AV}, evRes P s rs = some vs →
  ∃ vs', concs μ vs = some vs' ∧ (rs.mapM (resOne a)).run P w = .ok vs' w
 | [], vs, h => by simp only [evRes] at h; cases h; exact ⟨[], rfl, rfl⟩
 | .tmp t :: rs, vs, h => by
  simp only [evRes, Option.map_eq_some_iff] at h
  obtain ⟨us, hus, rfl⟩ := h
  obtain ⟨vs', h1, h2⟩ := res_ok hr ht hus
  have := arg_ok (P := P) (x := .tmp t) hr ht rfl
  refine ⟨a.tmps.getD t undef :: vs', ?_, ?_⟩
  ·simp only [concs, this, h1, Option.bind_some, Option.map_some]; rfl
  ·rw [List.mapM_cons]
   simp only [Sem.run_bind, resOne, Sem.run_pure, Result.andThen_ok, h2]
 | .cell x t :: rs, vs, h => by
  simp only [evRes] at h
  split at h
  ·rename_i b o hx
   simp only [Option.bind_eq_some_iff, Option.map_eq_some_iff] at h
   obtain ⟨v, hv, us, hus, rfl⟩ := h
   obtain ⟨vs', h1, h2⟩ := res_ok hr ht hus
   have := arg_ok (P := P) (x := .tmp x) hr ht rfl
   rw [hx] at this
   obtain ⟨l, hl, hxl⟩ := conc_ptr this
   obtain ⟨v', e1, e2⟩ := load_ok hr hl hv
   have hxl' : a.tmps.getD x undef = .pointer (some ⟨l.blk, l.base + o, none⟩) := hxl
   refine ⟨v' :: vs', ?_, ?_⟩
   ·simp only [concs, e2, h1, Option.bind_some, Option.map_some]
   ·have e0 : (resOne a (.cell x t)).run P w = .ok v' w := by
     simp only [resOne, Sem.run_bind, hxl', asAddr, Sem.run_pure, Result.andThen_ok, e1]
    rw [List.mapM_cons]
    simp only [Sem.run_bind, e0, Sem.run_pure, Result.andThen_ok, h2]
  ·cases h

theorem pack_ok {μ : Mu} {vs : List AV} {vs' : List Value} (h : concs μ vs = some vs') : conc μ (pack vs) = some (if h : vs'.toArray.size = 1 then vs'.toArray[0] else .tuple vs'.toArray) := by
 have hl := concs_length h
 match vs, h with
 | [], h => cases h; rfl
 | [v], h =>
  simp only [concs, Option.bind_eq_some_iff, Option.map_eq_some_iff, Option.some.injEq] at h
  obtain ⟨x, hx, _, rfl, rfl⟩ := h
  simpa [pack] using hx
 | v :: u :: vs, h =>
  have hs : ¬ vs'.toArray.size = 1 := by simp only [List.size_toArray]; simp only [List.length_cons] at hl; omega
  rw [dif_neg hs]
  simp [pack, conc, h]

theorem low_none {n : Nat} {e : Option Nat} (h : low n e = none) : ∀ k, e = some k → n ≤ k := by
 intro k hk
 subst hk
 simp only [low] at h
 split at h
 ·assumption
 ·cases h

theorem Inv.low {H H' : Hp} {e : Ef} (h : Inv H.length H H' e) : Inv H.length H H' ⟨V.low H.length e.es, V.low H.length e.ws⟩ := by
 constructor
 ·intro b hb he
  refine h.ei b hb (fun k hk => ?_)
  by_cases hn : H.length ≤ k
  ·omega
  ·exact he k (by simp [V.low, hk, hn])
 ·intro b hb he
  refine h.wi b hb (fun k hk => ?_)
  by_cases hn : H.length ≤ k
  ·omega
  ·exact he k (by simp [V.low, hk, hn])

theorem leave_ok {μ μ' : Mu} {H H' : Hp} {v : AV} {e : Ef} {v' : Value} {w w' : World} (h0 : HRel P g μ H w) (h : Ok P g μ H (v, H', e) μ' v' w') : ∃ μ'', Ok P g μ H (leave H.length v H' e) μ'' v' w' := by
 unfold leave
 by_cases hc : flat v = true ∧ V.low H.length e.es = none
 ·rw [if_pos hc]
  obtain ⟨hf, hlow⟩ := hc
  have hlen : H.length ≤ H'.length := h.len
  have htake : ∀ b x, (H'.take H.length)[b]? = some x → b < H.length ∧ H'[b]? = some x := by
   intro b x hx
   rw [List.getElem?_take] at hx
   split at hx
   ·exact ⟨by assumption, hx⟩
   ·cases hx
  -- what a block holds has its meaning without the new ones
  have hcont : ∀ b l x, μ b = some l → H'[b]? = some x → ∀ u ∈ cont x, ∃ y, conc μ u = some y := by
   intro b l x hb hx u hu
   have hbl := h0.dom b l hb
   obtain ⟨x0, hx0, hk⟩ := h.inv.ei b hbl (fun k hk => Nat.lt_of_lt_of_le hbl (low_none hlow k hk)) x hx
   rcases hk u hu with hm | hm
   ·have := h0.blk b l x0 hb hx0
    cases x0 with
    | cells c e k =>
     obtain ⟨cc, fr, vs, _, h2, _⟩ := this
     exact concs_mem h2 u hm
    | map es =>
     obtain ⟨ms, ck, _, h2, h3⟩ := this
     simp only [cont, List.mem_append] at hm
     rcases hm with hm | hm
     ·exact concs_mem h2 u hm
     ·exact concs_mem h3 u hm
    | loop σ ps az bd md =>
     obtain ⟨r, _, h2, _⟩ := this
     exact concs_mem h2 u hm
    | _ => simp [cont] at hm
   ·exact conc_flat_some μ u hm
  have hsame : ∀ {cs : List AV} {ys : List Value}, (∀ u ∈ cs, ∃ y, conc μ u = some y) → concs μ' cs = some ys → concs μ cs = some ys := by
   intro cs ys hm hy
   obtain ⟨zs, hz⟩ := concs_mk cs hm
   rw [concs_le h.le cs hz] at hy
   rw [hz]; exact hy
  refine ⟨μ, Le.refl μ, ?_, ?_, ?_, ?_, fun _ _ => rfl⟩
  ·exact {
    dom := fun b l hb => by have := h0.dom b l hb; simp only [List.length_take]; omega
    glob := h0.glob
    lt := fun b l hb => h.rel.lt b l (h.le b l hb)
    blk := fun b l x hb hx => by
     obtain ⟨hbl, hx'⟩ := htake b x hx
     have hc := hcont b l x hb hx'
     have := h.rel.blk b l x (h.le b l hb) hx'
     cases x with
     | cells c e k =>
      obtain ⟨cc, fr, vs, h1, h2, h3⟩ := this
      exact ⟨cc, fr, vs, h1, hsame hc h2, h3⟩
     | map es =>
      obtain ⟨ms, ck, h1, h2, h3⟩ := this
      exact ⟨ms, ck, h1, hsame (fun u hu => hc u (List.mem_append_left _ hu)) h2, hsame (fun u hu => hc u (List.mem_append_right _ hu)) h3⟩
     | iter s p => exact this
     | loop σ ps az bd md =>
      obtain ⟨r, h1, h2, h3⟩ := this
      exact ⟨r, h1, hsame hc h2, h3⟩
     | ghost => trivial
     | dead => trivial
     | void => trivial
    sep := fun b b' l l' x x' hne hb hb' hx hx' => h.rel.sep b b' l l' x x' hne (h.le b l hb) (h.le b' l' hb') (htake b x hx).2 (htake b' x' hx').2
    own := fun b l x hb hx => h.rel.own b l x (h.le b l hb) (htake b x hx).2
    old := h.rel.old
    os := h.rel.os
    tape := h.rel.tape
    output := h.rel.output
    size := h.rel.size }
  ·rw [conc_flat μ μ' v hf]; exact h.val
  ·simp only [List.length_take]; omega
  ·have hl := h.inv.low
   constructor
   ·intro b hb he x hx
    exact hl.ei b hb he x (htake b x hx).2
   ·intro b hb he
    rw [List.getElem?_take, if_pos hb]
    exact hl.wi b hb he
 ·rw [if_neg hc]
  exact ⟨μ', h.le, h.rel, h.val, h.len, h.inv.low, h.dom⟩

theorem putAll_conc {μ : Mu} : ∀ (ps : List Tmp) {σ az : List AV} {ts : Array Value} {vs : List Value}, concs μ σ = some ts.toList → concs μ az = some vs →
  concs μ (putAll σ ps az) = some ((ps.zip vs).foldl (fun t (p, v) => t.setIfInBounds p v) ts).toList
 | [], σ, az, ts, vs, h, k => by cases az <;> exact h
 | p :: ps, σ, [], ts, vs, h, k => by cases k; exact h
 | p :: ps, σ, v :: az, ts, vs, h, k => by
  simp only [concs, Option.bind_eq_some_iff, Option.map_eq_some_iff] at k
  obtain ⟨x, hx, xs, hxs, rfl⟩ := k
  simp only [putAll, List.zip_cons_cons, List.foldl_cons]
  exact putAll_conc ps (by have := concs_set p h hx; simpa using this) hxs

theorem round_ok {C' : CallO} (hC : CallsOk P C) (hP : PansOk P C') (n b : Nat) (args : List AV) (H : Hp) (r : AV × Hp × Ef) (h : evRound P C C' n b args H = some r) (g : Gh) (μ : Mu) (w : World) (vs : List Value) (l : Loc) (hrel : HRel P g μ H w) (hargs : concs μ args = some vs) (hl : μ b = some l) :
  ∃ rec : Loop, w.heap[l.blk]? = some (.loop rec) ∧ vs.length = rec.params.size ∧
   ∀ m, RoundIn Fence.wide m P l.blk rec.fn ((rec.params.zip vs.toArray).foldl (fun t (p, v) => t.setIfInBounds p v) rec.tmps) rec.assign rec.body w (fun e w' => ∃ μ' v', e = .returned v' ∧ Ok P g μ H r μ' v' w') := by
 unfold evRound at h
 split at h
 ·rename_i σ ps az bd hb
  obtain ⟨rec, k1, k2, k3, k4, k5, k6, k7⟩ := hrel.blk _ _ _ hl hb
  split at h
  ·rename_i hlen
   obtain ⟨hlen, hnr⟩ := hlen
   refine ⟨rec, k1, by rw [k3]; simp [← hlen, concs_length hargs], fun m => ?_⟩
   split at h
   ·rename_i s1 hs1
    split at h
    ·rename_i σ' ps' as' bd' hb1
     split at h
     ·rename_i e s2 hs2
      split at h
      ·rename_i σ'' ps'' as'' bd'' hb2
       split at h
       ·cases h
       rename_i hep
       simp only [Option.some.injEq] at h
       subst h
       refine roundIn_of_wpIn (F := Fence.wide) trivial ?_
       have h0 : SRel P g.base μ ⟨putAll σ ps args, H, z0⟩ w { tmps := (rec.params.zip vs.toArray).foldl (fun t (p, v) => t.setIfInBounds p v) rec.tmps, defers := [] } := by
        refine ⟨hrel.onBase, ?_, Marks.nil g⟩
        have := putAll_conc ps k2 hargs
        rw [this, k3]
        congr 2
        rw [← Array.foldl_toList]
        simp
       rw [k4, k5]
       refine code_ok (ro := some l.blk) hC hP n az hs1 (.inl hnr) h0 ?_
       intro g1 μ1 a1 w1 x1 q0 q1 q2 q3 q4
       rcases q3 with ⟨_, rfl, q3⟩ | ⟨e1, _⟩
       rotate_left
       ·cases e1
       have hl1 : μ1 b = some l := q1 _ _ hl
       obtain ⟨rec1, m1, m2, m3, m4, m5, m6, m7⟩ := q3.rel.blk _ _ _ hl1 hb1
       refine ⟨_, run_beginRound m1 m6, ?_⟩
       have hlt1 : l.blk < w1.heap.size := q3.rel.lt _ _ hl1
       have hbl1 : b < s1.H.length := q3.rel.dom _ _ hl1
       have r1 : HRel P g1 μ1 (s1.H.set b (.loop σ' ps' as' bd' .busy)) (w1.putObj l.blk (.loop { rec1 with state := .busy })) :=
        q3.rel.change hl1 hb1 rfl (fun k hk => World.putObj_heap_other hk) (by simp) rfl rfl rfl ⟨_, World.putObj_heap_same hlt1, m2, m3, m4, m5, rfl, m7⟩
       have r2 := r1.hold (k := l.blk) (by simpa using hlt1) (fun b' l' x e f hw eq => by
        rw [List.getElem?_set] at f
        split at f
        ·cases f; cases hw
        ·rename_i hne
         refine q3.rel.sep b b' l l' _ x hne hl1 e hb1 f rfl ?_ eq.symm
         cases x <;> first | rfl | cases hw)
       have hgl := GLe.hold r1 l.blk
       have ro2 : RoOk ⟨fun j => g1.Z j ∨ j = l.blk, w1.putObj l.blk (.loop { rec1 with state := .busy }), g1.B, g1.X⟩ (some l.blk) := by
        refine ⟨fun l' e => ?_, fun e => by cases e⟩
        cases e
        exact ⟨.inr rfl, _, World.putObj_heap_same hlt1⟩
       refine code_ok (ro := some l.blk) hC hP n bd hs2 (.inr ro2) (s := ⟨s1.σ, s1.H.set b (.loop σ' ps' as' bd' .busy), s1.ef.and ⟨none, some b⟩⟩) ⟨r2, q3.tm, q3.df.grow hgl⟩ ?_
       intro g3 μ3 a3 w3 x3 p0 p1 p2 p3 p4
       rcases p3 with ⟨_, rfl, p3⟩ | ⟨e1, _⟩
       rotate_left
       ·exact absurd e1 hep
       have hl3 : μ3 b = some l := p1 _ _ hl1
       obtain ⟨rec3, n1, n2, n3, n4, n5, n6, n7⟩ := p3.rel.blk _ _ _ hl3 hb2
       have hlt3 : l.blk < w3.heap.size := p3.rel.lt _ _ hl3
       have hnz : ¬ g.Z l.blk := hrel.own _ _ _ hl hb rfl
       have w3rel : HRel P g μ3 s2.H w3 := (((p3.rel.weaken p0).weaken hgl).weaken q0).offBase
       have fin : ∀ (jump : Option Code), jump = Ex.code e →
         (Instr.endRound l.blk jump).run P w3 = .ok (.bool jump.isNone) (w3.putObj l.blk (.loop { rec3 with state := if jump.isNone then .ready else .done, pending := jump })) ∧
         ∃ μ' v', (Ending.returned (.bool jump.isNone)) = .returned v' ∧ Ok P g μ H (leave H.length (.bool (decide (e = .normal))) (s2.H.set b (.loop σ'' ps'' as'' bd'' (if e = .normal then .ready else .done e))) (s2.ef.and ⟨none, some b⟩)) μ' v' (w3.putObj l.blk (.loop { rec3 with state := if jump.isNone then .ready else .done, pending := jump })) := by
        intro jump hj
        refine ⟨run_endRound jump n1, ?_⟩
        have hjn : jump.isNone = decide (e = .normal) := by subst hj; cases e <;> rfl
        have r4 : HRel P g μ3 (s2.H.set b (.loop σ'' ps'' as'' bd'' (if e = .normal then .ready else .done e))) (w3.putObj l.blk (.loop { rec3 with state := if jump.isNone then .ready else .done, pending := jump })) := by
         refine w3rel.change' hl3 hb2 rfl rfl hnz (fun k hk => World.putObj_heap_other hk) (by simp) rfl rfl rfl ⟨_, World.putObj_heap_same hlt3, n2, n3, n4, n5, ?_, ?_⟩
         ·subst hj; cases e <;> rfl
         ·subst hj; cases e <;> rfl
        have hok : Ok P g μ H (.bool (decide (e = .normal)), s2.H.set b (.loop σ'' ps'' as'' bd'' (if e = .normal then .ready else .done e)), s2.ef.and ⟨none, some b⟩) μ3 (.bool jump.isNone) (w3.putObj l.blk (.loop { rec3 with state := if jump.isNone then .ready else .done, pending := jump })) := by
         refine ⟨q1.trans p1, r4, by rw [hjn]; rfl, ?_, ?_, fun c hc => ?_⟩
         ·have h1 := q4.1
          have h2 := p4.1
          simp only [List.length_set] at h1 h2 ⊢
          exact Nat.le_trans h1 h2
         ·obtain ⟨h1, e1, he1, i1⟩ := q4
          obtain ⟨h2, e2, he2, i2⟩ := p4
          have i1 : Inv H.length H s1.H e1 := i1
          have he1 : s1.ef = z0.and e1 := he1
          rw [Ef.z0_and] at he1
          subst he1
          rw [he2]
          have j1 := i1.trans (Inv.set (n := s1.H.length) (e := ⟨none, some b⟩) hb1 (y := .loop σ' ps' as' bd' .busy) (.inr (by
           intro v hv
           exact .inl hv)) rfl) h1
          have j2 := j1.trans i2 (by simpa using h1)
          refine j2.trans (Inv.set (n := s2.H.length) (e := ⟨none, some b⟩) hb2 (y := .loop σ'' ps'' as'' bd'' (if e = .normal then .ready else .done e)) (.inr (fun v hv => .inl hv)) rfl) ?_
          have h2' := h2
          simp only [List.length_set] at h2'
          exact Nat.le_trans h1 h2'
         ·have h1 := q4.1
          rw [p2 c (by simp only [List.length_set]; exact Nat.lt_of_lt_of_le hc h1), q2 c hc]
        obtain ⟨μ'', hok'⟩ := leave_ok hrel hok
        exact ⟨μ'', _, rfl, hok'⟩
       cases e with
       | normal => obtain ⟨h1, h2⟩ := fin none rfl; exact ⟨_, _, h1, h2⟩
       | exit id => obtain ⟨h1, h2⟩ := fin (some (.exit id)) rfl; exact ⟨_, _, h1, h2⟩
       | goto t => obtain ⟨h1, h2⟩ := fin (some (.goto t)) rfl; exact ⟨_, _, h1, h2⟩
       | ret => obtain ⟨h1, h2⟩ := fin (some .ret) rfl; exact ⟨_, _, h1, h2⟩
       | pan => exact absurd rfl hep
      ·cases h
     ·cases h
    ·cases h
   ·cases h
  ·cases h
 ·cases h

end
end Go.Proofs.YtdppgaphcmhffaaGreatDoor.V
namespace Go.Proofs.YtdppgaphcmhffaaGreatDoor.V
open Go

section
variable {P : Program} {C C' : CallO} {g : Gh}

theorem wpSIn_recover {F : Fence} {n : Nat} {id : Nat} {ops : Array Oper} {o : Oper} {l : List Oper} {az : Array Operand} {ts : Array TypeId} {a : Act} {cs cs' : List Frame} {w : World} {v : Value} {Q : Exit → Act → List Frame → World → Prop} (hops : ops.toList = o :: l) (ho : o.op = .call ⟨.builtin .recover, az, ts⟩) (hg : o.guard = none)
  (hF : ∀ f, F.fn f) (hro : F.round = none) (hrec : (match recoverD cs with | some (v, cs') => (v, cs') | none => (Value.nilIface, cs)) = (v, cs'))
  (h : wpListIn F n P ops (fun e a' w' => Q e a' cs' w') l (a.put o.dst v) w) : (Code.region id ops false).wpSIn F n P Q a cs w := by
 intro b k hb hr hFb hroom
 have hsz : ops.size = l.length + 1 := by rw [← Array.length_toList, hops]; rfl
 have ho0 : ops[0]? = some o := by rw [← Array.getElem?_toList, hops]; rfl
 have hlen : cs'.length = cs.length := by
  cases hc : recoverD cs with
  | none => rw [hc] at hrec; cases hrec; rfl
  | some p => rw [hc] at hrec; obtain ⟨p1, p2⟩ := p; cases hrec; exact recoverD_length hc
 have hl : wpOpsIn F n P ops (fun e a' w' => Q e a' cs' w') (List.range' 1 l.length) (a.put o.dst v) w := by
  rw [wpOpsIn_eq_wpListIn l 1 (fun j => by rw [← Array.getElem?_toList, hops, Nat.add_comm]; rfl)]
  exact h
 obtain ⟨e, a', w', hq, harr⟩ := wp_opsIn _ _ _ hl b k cs' (hr.trans hro.symm) hFb (hlen ▸ hroom)
 have hrng : List.range ops.size = 0 :: List.range' 1 l.length := by rw [hsz, List.range_eq_range', List.range'_succ]
 have i0 : (lone (b.atR a (.code (.region id ops false) :: k)) cs w).fenced P F := fenced_calm hFb hroom rfl
 have i1 : (lone (b.atR a (.inRegion ops (0 :: List.range' 1 l.length) :: k)) cs w).fenced P F := fenced_oper hFb hroom ho0 (fun f _ => hF f)
 have hw : Region.wanted o (yielded ops a.tmps) = true := by unfold Region.wanted; rw [hg]
 have hgo := stepGR_op (P := P) (b := b) (k := k) (cs := cs) (w := w) (rest := List.range' 1 l.length) ho0 hw
 rw [hr, Oper.semAt_none] at hgo
 have hfin : ∀ v, (b.atR a (.inRegion ops (0 :: List.range' 1 l.length) :: k)).finish v = b.atR (a.put o.dst v) (.inRegion ops (List.range' 1 l.length) :: k) := by
  intro v; rw [Frame.finish_atR, ho0]; rfl
 have hrun : (execOp a.eval o).run P w = .ok .recover w := by
  unfold execOp
  simp only [ho, resolve, Sem.run_bind, Sem.run_pure, Result.andThen_ok, invoke, builtin]
 have hk : (b.atR a (.inRegion ops (0 :: List.range' 1 l.length) :: k)).kind = .deferred := hb
 have htr := tryRecover_deferred hk cs
 have hstep : step P (lone (b.atR a (.inRegion ops (0 :: List.range' 1 l.length) :: k)) cs w) = .next (lone (b.atR (a.put o.dst v) (.inRegion ops (List.range' 1 l.length) :: k)) cs' w) := by
  refine step_lone_go ?_
  rw [hgo, ← hfin]
  simp only [Frame.atR, hr] at htr ⊢
  cases hc : recoverD cs with
  | none => rw [hc] at hrec htr; cases hrec; simp [stepG.apply, hrun, htr]
  | some p => rw [hc] at hrec htr; obtain ⟨p1, p2⟩ := p; cases hrec; simp [stepG.apply, hrun, htr]
 refine ⟨e, a', cs', w', hlen, hq, .of_steps (.head i0 (by rw [stepR_region, hrng]) (.one i1 hstep)) harr⟩

def mode (u : Option Value) : FrameMode :=
 match u with
 | none => .returning
 | some v => .panicking [{ v := v, recovered := false }]

theorem def_ok (hC : CallsOk P C) (hP : PansOk P C') (n : Nat) {d : Dc} {u : Option AV} {H H' : Hp} {e : Ef} (h : evDef P C C' n d u H = some (H', e)) {μ : Mu} {w : World} {dv : Value} {az : List Value} {uv : Option Value} (hrel : HRel P g μ H w) (hd : conc μ d.1 = some dv) (ha : concs μ d.2 = some az) (hu : ∀ v, u = some v → ∃ x, conc μ v = some x ∧ uv = some x) (hu0 : u = none → uv = none) :
  ∃ gg cap args0, Deferred.ofValue dv az.toArray = pure { target := .fn (.func gg) cap, args := args0 } ∧ (invoke (.fn (.func gg) cap) args0).run P w = .ok (.enter gg (args0 ++ cap)) w ∧
   CallsDIn Fence.wide 0 P gg (args0 ++ cap) (mode uv) w (fun e1 u' w' => ∃ v μ', e1 = .returned v ∧ settle u' = .returning ∧ HRel P g μ' H' w' ∧ Le μ μ' ∧ (∀ b, b < H.length → μ' b = μ b) ∧ H.length ≤ H'.length ∧ Inv H.length H H' e) := by
 unfold evDef at h
 split at h
 ·rename_i gg first captured hd1
  split at h
  ·rename_i fn hfn
   split at h
   ·cases h
   rename_i hname
   split at h
   ·rename_i c hb
    split at h
    ·rename_i o l b hcut
     split at h
     ·rename_i hrs0
      simp only [Option.bind_eq_some_iff] at h
      obtain ⟨s1, hs1, h⟩ := h
      split at h
      ·rename_i ex s2 hs2
       split at h
       ·rename_i hex
        obtain ⟨hex, hnr⟩ := hex
        simp only [Option.some.injEq, Prod.mk.injEq] at h
        obtain ⟨rfl, rfl⟩ := h
        rw [hd1] at hd
        simp only [conc, Option.bind_eq_some_iff, Option.map_eq_some_iff] at hd
        obtain ⟨fs, hfs, cs, hcs, rfl⟩ := hd
        have hargs := concs_append_some (concs_append_some hfs ha) hcs
        have hal := concs_length hargs
        refine ⟨gg, cs.toArray, fs.toArray ++ az.toArray, rfl, ?_, ?_⟩
        ·simp only [invoke, callFunc, Sem.run_bind, run_program, Result.andThen_ok, hfn]
         rw [if_neg (by simpa using hname), if_neg (by simp [hb])]
         rfl
        ·have hc : ∃ id ops az0 ts, c = .seq (.region id ops false) b ∧ ops.toList = o :: l ∧ o.op = .call ⟨.builtin .recover, az0, ts⟩ ∧ o.guard = none := by
          unfold cutR at hcut
          split at hcut
          ·split at hcut
           ·rename_i h1 h2
            cases hcut
            exact ⟨_, _, _, _, rfl, rfl, h1, h2⟩
           ·cases hcut
          ·cases hcut
         obtain ⟨id, ops, az0, ts, rfl, hops, hop, hgd⟩ := hc
         refine callsDIn_of_wpSIn hfn hb trivial ?_
         intro c₀ cs0 hm
         -- what is recovered
         obtain ⟨v, c1, hrec, hset, hval⟩ : ∃ v c1, (match recoverD (c₀ :: cs0) with | some (v, cs') => (v, cs') | none => (Value.nilIface, c₀ :: cs0)) = (v, { c₀ with mode := c1 } :: cs0) ∧ settle c1 = .returning ∧ conc μ (u.getD .nili) = some v := by
          cases hu1 : u with
          | none =>
           rw [hu0 hu1] at hm
           refine ⟨.nilIface, .returning, ?_, rfl, rfl⟩
           have : recoverD (c₀ :: cs0) = none := by simp only [recoverD, hm, mode]
           rw [this]
           have : ({ c₀ with mode := .returning } : Frame) = c₀ := by rw [← show c₀.mode = .returning from hm]
           rw [this]
          | some v0 =>
           obtain ⟨x, hx, hux⟩ := hu _ hu1
           rw [hux] at hm
           refine ⟨x, .panicking [{ v := x, recovered := true }], ?_, rfl, hx⟩
           have : recoverD (c₀ :: cs0) = some (x, { c₀ with mode := .panicking [{ v := x, recovered := true }] } :: cs0) := by simp only [recoverD, hm, mode]
           rw [this]
         refine wpSIn_seq (wpSIn_recover hops hop hgd (fun _ => trivial) rfl hrec ?_)
         have hrep : ∀ k, concs μ (List.replicate k undefA) = some (List.replicate k undef) := by
          intro k
          induction k with
          | zero => rfl
          | succ k ih => rw [List.replicate_succ, List.replicate_succ, concs, ih]; rfl
         have hts := concs_append_some hargs (hrep (fn.ntmps - (first ++ d.2 ++ captured).length))
         have h0 : SRel P (g.on ([], true)) μ ⟨put (first ++ d.2 ++ captured ++ List.replicate (fn.ntmps - (first ++ d.2 ++ captured).length) undefA) o.dst (u.getD .nili), H, z0⟩ w
           (({ tmps := fs.toArray ++ az.toArray ++ cs.toArray ++ Array.replicate (fn.ntmps - (fs.toArray ++ az.toArray ++ cs.toArray).size) undef, defers := [] } : Act).put o.dst v) := by
          refine ⟨hrel.onX _, put_conc o.dst ?_ hval, by rw [put_defers]; exact Marks.on g ([], true)⟩
          rw [hts]
          congr 1
          simp only [List.length_append] at hal
          simp only [List.length_append, List.append_toArray, List.size_toArray, Array.toList_append, Array.toList_replicate, List.append_assoc]
          rw [show first.length + (d.2.length + captured.length) = fs.length + (az.length + cs.length) by omega]
         rw [← hops] at hs1
         refine ops_ok hC (ro := none) l hs1 h0 ?_
         intro g1 μ1 a1 w1 q0 q1 q2 q3 q4
         show b.wpSIn Fence.wide 0 P _ a1 ({ c₀ with mode := c1 } :: cs0) w1
         refine wpSIn_of_wpIn rfl (code_ok (ro := none) hC hP n b hs2 (.inl hnr) q3 ?_)
         intro g2 μ2 a2 w2 x p0 p1 p2 p3 p4
         rcases p3 with ⟨_, rfl, p3⟩ | ⟨e1, _⟩
         rotate_left
         ·subst e1; rcases hex with h | h <;> cases h
         have hx2 : g2.X = ([], true) := p0.x.trans q0.x
         have hdf : a2.defers = [] := by
          obtain ⟨_, Ds, d1, _, _, d4⟩ := p3.df
          rw [hx2] at d1 d4
          rw [d4 rfl] at d1
          exact d1
         have hrs : (results fn a2.tmps).run P w2 = .ok (.tuple #[]) w2 := by
          have : fn.results = #[] := by
           apply Array.ext'
           rw [hrs0]
          unfold results
          rw [this, Array.mapM_eq_mapM_toList]
          simp only [Sem.run_bind, Sem.run_map, List.mapM_nil, Sem.run_pure, Result.andThen_ok]
          rfl
         have hfin : bodyPostS P fn c₀ cs0 (fun e1 u' w' => ∃ v μ', e1 = .returned v ∧ settle u' = .returning ∧ HRel P g μ' s2.H w' ∧ Le μ μ' ∧ (∀ b, b < H.length → μ' b = μ b) ∧ H.length ≤ s2.H.length ∧ Inv H.length H s2.H s2.ef) .ret a2 ({ c₀ with mode := c1 } :: cs0) w2 := by
          refine ⟨hdf, c1, rfl, _, hrs, _, μ2, rfl, hset, ((p3.rel.weaken p0).weaken q0).offX, q1.trans p1, ?_, ?_, ?_⟩
          ·intro b hb'
           have hq4 : H.length ≤ s1.H.length := q4.1
           rw [p2 b (Nat.lt_of_lt_of_le hb' hq4), q2 b hb']
          ·exact Nat.le_trans q4.1 p4.1
          ·obtain ⟨_, e', he', hi⟩ := q4.trans p4
           rw [he', Ef.z0_and]
           exact hi
         rcases hex with rfl | rfl
         ·exact hfin
         ·exact hfin
       ·cases h
      ·cases h
     ·cases h
    ·cases h
   ·cases h
  ·cases h
 ·cases h

theorem leavesK {fn : Func} {tmps : Array Value} {μ : Mu} {H : Hp} {R : Ending → World → Prop} (g : Gh) {rest : List Deferred} {u : FrameMode} (hu : u ≠ .run) (K : ∀ w', HRel P g μ H w' → LeavesInM Fence.wide 0 P fn tmps R rest u w') :
  ∀ (Ds : List Nat) (w : World), HRel P g μ H w → Ds.Nodup → (∀ D ∈ Ds, ¬ g.Z D ∧ w.heap[D]? = some (.deferred (some []))) →
   LeavesInM Fence.wide 0 P fn tmps R (Ds.map (fun D => { target := .collected D, args := #[] }) ++ rest) u w
 | [], w, h, _, _ => K w h
 | D :: Ds, w, h, hn, hD => by
  obtain ⟨hz, hd⟩ := hD D (by simp)
  rw [List.nodup_cons] at hn
  refine ⟨hu, .inl ⟨D, _, rfl, run_takeDeferred hd, ?_⟩⟩
  refine leavesK g hu K Ds _ (h.take hd hz _) hn.2 (fun D' hD' => ?_)
  obtain ⟨hz', hd'⟩ := hD D' (by simp [hD'])
  exact ⟨hz', (World.putObj_heap_other (fun e : D' = D => hn.1 (e ▸ hD'))).trans hd'⟩

theorem resEnd {fn : Func} {a : Act} {σ : List AV} {H : Hp} {ef : Ef} {μ : Mu} {rs : List AV} {R : Ending → World → Prop} {w : World} (h : HRel P g μ H w) (ht : concs μ σ = some a.tmps.toList) (hrs : evRes P ⟨σ, H, ef⟩ fn.results.toList = some rs)
  (hR : ∀ v', conc μ (pack rs) = some v' → R (.returned v') w) : LeavesInM Fence.wide 0 P fn a.tmps R [] .returning w := by
 obtain ⟨vs', v1, v2⟩ := res_ok (s := ⟨σ, H, ef⟩) h ht hrs
 have hres : (results fn a.tmps).run P w = .ok (if h : vs'.toArray.size = 1 then vs'.toArray[0] else .tuple vs'.toArray) w := by
  have e0 : results fn a.tmps = (do let vs ← fn.results.mapM (resOne a); pure (if h : vs.size = 1 then vs[0] else .tuple vs)) := by
   unfold results
   congr 2
  rw [e0, Array.mapM_eq_mapM_toList]
  simp only [Sem.run_bind, Sem.run_map, v2, Result.andThen_ok, Sem.run_pure]
 exact ⟨_, hres, hR _ (pack_ok v1)⟩

def EndR (P : Program) (g : Gh) (μ : Mu) (H : Hp) (t : Bool) (r : AV × Hp × Ef) (e : Ending) (w : World) : Prop :=
 ∃ μ' v', e = (if t = true then .returned v' else .panicked [{ v := v', recovered := false }]) ∧ Ok P g μ H r μ' v' w

theorem end_ok {fn : Func} {H : Hp} {μ : Mu} {w0 : World} (h0 : HRel P g μ H w0) {ex : Ex} {s s0 : St} {t : Bool} {r : AV × Hp × Ef} (hs0 : s0.H = H ∧ s0.ef = z0) (h : evEnd P fn H.length (some (ex, s)) = (t, some r)) {g' : Gh} {μ' : Mu} {a' : Act} {w' : World} {x : Exit} (l0 : GLe g.base g') (l1 : Le μ μ') (l2 : ∀ b, b < H.length → μ' b = μ b) (l3 : Ends P g' μ' ex s w' a' x) (l4 : SInv s0 s) :
  bodyPostM Fence.wide 0 P fn (EndR P g μ H t r) x a' w' := by
 have hinv : H.length ≤ s.H.length ∧ Inv H.length H s.H s.ef := by
  obtain ⟨h1, e', he', hi⟩ := l4
  rw [hs0.1] at h1 hi
  rw [hs0.2, Ef.z0_and] at he'
  rw [he']
  exact ⟨h1, hi⟩
 rcases l3 with ⟨hp, rfl, l3⟩ | ⟨rfl, v, σ, v', hσ, hv, rfl, l3⟩
 ·simp only [evEnd] at h
  split at h
  ·rename_i hex
   simp only [Prod.mk.injEq, Option.map_eq_some_iff] at h
   obtain ⟨rfl, rs, hrs, rfl⟩ := h
   have hrel' : HRel P g μ' s.H w' := (l3.rel.weaken l0).offBase
   obtain ⟨_, Ds, d1, d2, d3, _⟩ := l3.df
   have hx : g'.X = ([], false) := l0.x
   rw [hx] at d1
   have hend : LeavesInM Fence.wide 0 P fn a'.tmps (EndR P g μ H true (leave H.length (pack rs) s.H s.ef)) a'.defers .returning w' := by
    rw [d1]
    refine leavesK g (by simp) (fun w2 hr2 => ?_) Ds w' hrel' d2 (fun D hD => ?_)
    ·refine resEnd hr2 l3.tm hrs (fun v2 hv2 => ?_)
     have hok : Ok P g μ H (pack rs, s.H, s.ef) μ' v2 w2 := ⟨l1, hr2, hv2, hinv.1, hinv.2, l2⟩
     obtain ⟨μ'', hok'⟩ := leave_ok h0 hok
     exact ⟨μ'', _, rfl, hok'⟩
    ·obtain ⟨x, y, z⟩ := d3 D hD
     rw [l0.b] at x
     exact ⟨x, (l3.rel.old D y).2.trans z⟩
   rcases hex with rfl | rfl
   ·exact hend
   ·exact hend
  ·simp [hp] at h
 ·simp only [evEnd, hσ] at h
  split at h
  ·rename_i hh; rcases hh with hh | hh <;> cases hh
  ·simp only [if_true, Prod.mk.injEq, Option.some.injEq] at h
   obtain ⟨rfl, rfl⟩ := h
   have hrel' : HRel P g μ' s.H w' := (l3.rel.weaken l0).offBase
   obtain ⟨_, Ds, d1, d2, d3, _⟩ := l3.df
   have hx : g'.X = ([], false) := l0.x
   rw [hx] at d1
   show LeavesInM Fence.wide 0 P fn a'.tmps (EndR P g μ H false (leave H.length v s.H s.ef)) a'.defers (.panicking [{ v := v', recovered := false }]) w'
   rw [d1]
   refine leavesK g (by simp) (fun w2 hr2 => ?_) Ds w' hrel' d2 (fun D hD => ?_)
   ·have hok : Ok P g μ H (v, s.H, s.ef) μ' v' w2 := ⟨l1, hr2, hv, hinv.1, hinv.2, l2⟩
    obtain ⟨μ'', hok'⟩ := leave_ok h0 hok
    exact ⟨μ'', _, rfl, hok'⟩
   ·obtain ⟨x, y, z⟩ := d3 D hD
    rw [l0.b] at x
    exact ⟨x, (l3.rel.old D y).2.trans z⟩

def wpSeqs (m : Nat) (P : Program) : List Code → (Act → World → Prop) → (Exit → Act → World → Prop) → Act → World → Prop
 | [], K, _, a, w => K a w
 | c :: cs, K, Q, a, w => match c with
  | .region _ ops false => wpListIn (Fr none) m P ops (Exit.then (wpSeqs m P cs K Q) Q) ops.toList a w
  | c => c.wpIn (Fr none) m P (Exit.then (wpSeqs m P cs K Q) Q) a w
theorem wpSeqs_cons {m : Nat} {c : Code} {cs : List Code} {K : Act → World → Prop} {Q : Exit → Act → World → Prop} {a : Act} {w : World} (h : wpSeqs m P (c :: cs) K Q a w) : c.wpIn (Fr none) m P (Exit.then (wpSeqs m P cs K Q) Q) a w := by
 unfold wpSeqs at h
 split at h
 ·exact wpIn_region_list h
 ·exact h
theorem wpSeqs_of {m : Nat} {c : Code} {cs : List Code} {K : Act → World → Prop} {Q : Exit → Act → World → Prop} {a : Act} {w : World} (hn : ∀ id ops, c ≠ .region id ops false) (h : c.wpIn (Fr none) m P (Exit.then (wpSeqs m P cs K Q) Q) a w) : wpSeqs m P (c :: cs) K Q a w := by
 unfold wpSeqs
 split
 ·exact absurd rfl (hn _ _)
 ·exact h

theorem cut_guard : ∀ (c : Code) {l : List Code} {o : Oper} {b : Code}, cutD c = some (l, o, b) → o.guard = none := by
 intro c
 induction c with
 | seq x y ihx ihy =>
  intro l o b h
  have gen : ∀ z, (cutD y).map (fun r => (z :: r.1, r.2)) = some (l, o, b) → o.guard = none := by
   intro z hz
   simp only [Option.map_eq_some_iff, Prod.mk.injEq] at hz
   obtain ⟨⟨l', o', b'⟩, h1, _, rfl, rfl⟩ := hz
   exact ihy h1
  unfold cutD at h
  split at h
  ·rename_i id o0 b0 heq
   cases heq
   split at h
   ·rename_i hd hg
    simp only [Option.some.injEq, Prod.mk.injEq] at h
    obtain ⟨_, rfl, _⟩ := h
    exact hg
   ·exact gen _ h
  ·rename_i id p0 o0 b0 heq
   cases heq
   split at h
   ·rename_i hd hg hp
    simp only [Option.some.injEq, Prod.mk.injEq] at h
    obtain ⟨_, rfl, _⟩ := h
    exact hg
   ·exact gen _ h
  ·rename_i a0 b0 hne heq
   cases heq
   exact gen _ h
  ·cases h
 | _ => intro l o b h; simp [cutD] at h

theorem wpIn_ends {F : Fence} {n : Nat} {o : Oper} {a : Act} {w : World} {K : Act → World → Prop} {Q Q' : Exit → Act → World → Prop} (h : ∀ e a w, e ≠ .normal → Q e a w → Q' e a w) (hh : o.wpIn F n P a w K Q) : o.wpIn F n P a w K Q' := by
 have hl : LetsOut Q → LetsOut Q' := by
  rintro ⟨a, w, hq⟩
  exact ⟨a, w, h _ _ _ (by simp) hq⟩
 unfold Oper.wpIn at *
 refine ⟨hh.1, ?_⟩
 have hh := hh.2
 generalize (o.semAt F.round a.eval).run P w = r at *
 cases r with
 | ok x w' =>
  cases x <;> simp only [Oper.uponIn] at hh ⊢ <;>
   first
    | exact hh
    | exact ⟨hh.1, CallsIn.mono hh.2 (fun e w'' he => by cases e <;> first | exact he | exact h _ _ _ (by simp) he | exact hl he)⟩
    | exact ⟨hh.1, RoundIn.mono hh.2 (fun e w'' he => by cases e <;> first | exact he | exact h _ _ _ (by simp) he | exact hl he)⟩
 | halt x w' => cases x <;> simp only [Oper.uponIn] at hh ⊢ <;> first | exact hh | exact h _ _ _ (by simp) hh

theorem cut_wp {m : Nat} : ∀ (c : Code) {l : List Code} {o : Oper} {b : Code}, cutD c = some (l, o, b) → o.guard = none → ∀ {Q : Exit → Act → World → Prop} {a : Act} {w : World},
  wpSeqs m P l (fun a w => o.wpIn (Fr none) m P a w (fun a w => b.wpIn (Fr none) m P Q a w) Q) Q a w → c.wpIn (Fr none) m P Q a w := by
 intro c
 induction c with
 | seq x y ihx ihy =>
  intro l o b h hg Q a w hw
  apply wpIn_seq
  have gen : ∀ z, (cutD y).map (fun r => (z :: r.1, r.2)) = some (l, o, b) → z = x → x.wpIn (Fr none) m P (Exit.then (y.wpIn (Fr none) m P Q) Q) a w := by
   rintro z hz rfl
   simp only [Option.map_eq_some_iff, Prod.mk.injEq] at hz
   obtain ⟨⟨l', o', b'⟩, h1, rfl, rfl, rfl⟩ := hz
   refine Go.wpIn_mono (wpSeqs_cons hw) (fun e a w hq => ?_)
   cases e with
   | normal => exact ihy h1 hg hq
   | _ => exact hq
  unfold cutD at h
  split at h
  ·rename_i id o0 b0 heq
   cases heq
   split at h
   ·rename_i hd
    simp only [Option.some.injEq, Prod.mk.injEq] at h
    obtain ⟨rfl, rfl, rfl⟩ := h
    refine wpIn_region_list ?_
    show wpListIn (Fr none) m P _ _ [o0] a w
    unfold wpListIn
    rw [if_pos (by unfold Region.wanted; rw [hg])]
    exact hw
   ·exact gen _ h rfl
  ·rename_i id p0 o0 b0 heq
   cases heq
   split at h
   ·rename_i hd hg0 hp
    simp only [Option.some.injEq, Prod.mk.injEq] at h
    obtain ⟨rfl, rfl, rfl⟩ := h
    refine wpIn_region_list ?_
    show wpListIn (Fr none) m P _ _ [p0, o0] a w
    have hw : wpListIn (Fr none) m P ⟨[p0]⟩ _ [p0] a w := hw
    unfold wpListIn at hw ⊢
    rw [if_pos (by unfold Region.wanted; rw [hp])] at hw ⊢
    refine Oper.wpIn_mono (K := fun a w => o0.wpIn (Fr none) m P a w (fun a w => y.wpIn (Fr none) m P Q a w) Q) (fun a w hk => ?_) (wpIn_ends (fun e a w he hq => ?_) hw)
    ·unfold wpListIn
     rw [if_pos (by unfold Region.wanted; rw [hg])]
     refine Oper.wpIn_mono (fun a w h => h) (wpIn_ends (fun e a w he hq => ?_) hk)
     cases e <;> first | exact absurd rfl he | exact hq
    ·cases e <;> first | exact absurd rfl he | exact hq
   ·exact gen _ h rfl
  ·rename_i a0 b0 hne heq
   cases heq
   exact gen _ h rfl
  ·cases h
 | _ => intro l o b h; simp [cutD] at h

theorem regl_ok {ro : Option Nat} {m : Nat} (hC : CallsOk P C) (hP : PansOk P C') {ops : Array Oper} {s s' : St} {ex : Ex} (h : evReg P C C' ops.toList false s = some (ex, s')) {μ : Mu} {w : World} {a : Act} {Q : Exit → Act → World → Prop} (hr : SRel P g μ s w a) (hQ : AfterX P g μ s s' ex Q) :
  wpListIn (Fr ro) m P ops Q ops.toList a w := by
 unfold evReg at h
 split at h
 ·rename_i s1 h1
  cases h
  exact ops_ok hC ops.toList h1 hr (hQ.of (by decide))
 ·simp only [Bool.false_eq_true, if_false, Option.map_eq_some_iff, Prod.mk.injEq] at h
  obtain ⟨s1, h1, rfl, rfl⟩ := h
  exact opsP_ok hC hP ops.toList h1 hr hQ
theorem seqs_ok {m : Nat} (hC : CallsOk P C) (hP : PansOk P C') (n : Nat) : ∀ (l : List Code) {s s' : St} {ex : Ex}, evSeqs P C C' n l s = some (ex, s') → ∀ {g : Gh}, RoOk g none → ∀ {μ : Mu} {w : World} {a : Act} {K : Act → World → Prop} {Q : Exit → Act → World → Prop}, SRel P g μ s w a →
  (ex = .normal → After P g μ s s' K) → (ex ≠ .normal → AfterX P g μ s s' ex Q) → wpSeqs m P l K Q a w
 | [], s, s', ex, h, g, hg, μ, w, a, K, Q, hr, h1, h2 => by
  simp only [evSeqs, Option.some.injEq, Prod.mk.injEq] at h
  obtain ⟨rfl, rfl⟩ := h
  exact (h1 rfl).refl (Q := K) (P := P) (g := g) (μ := μ) (s := s) hr
 | c :: cs, s, s', ex, h, g, hg, μ, w, a, K, Q, hr, h1, h2 => by
  simp only [evSeqs] at h
  have key : ∀ {s1 : St} {ex1 : Ex}, evCode P C C' n c s = some (ex1, s1) → AfterX P g μ s s1 ex1 (Exit.then (wpSeqs m P cs K Q) Q) → wpSeqs m P (c :: cs) K Q a w := by
   intro s1 ex1 hs1 hq
   by_cases hn : ∃ id ops, c = .region id ops false
   ·obtain ⟨id, ops, rfl⟩ := hn
    show wpListIn (Fr none) m P ops (Exit.then (wpSeqs m P cs K Q) Q) ops.toList a w
    simp only [evCode] at hs1
    exact regl_ok hC hP hs1 hr hq
   ·exact wpSeqs_of (fun id ops e => hn ⟨id, ops, e⟩) (code_ok (ro := none) hC hP n c hs1 (.inr hg) hr hq)
  split at h
  ·rename_i s1 hs1
   refine key hs1 ?_
   intro g' μ' a' w' x l0 l1 l2 l3 l4
   rcases l3 with ⟨_, rfl, l3⟩ | ⟨e, _⟩
   ·exact seqs_ok hC hP n cs h (hg.grow l0) l3 (fun he => (h1 he).trans l0 l1 l2 l4) (fun he => (h2 he).trans l0 l1 l2 l4)
   ·cases e
  ·rename_i hne
   have hn : ex ≠ .normal := by
    rintro rfl
    exact hne _ h
   refine key h ?_
   intro g' μ' a' w' x l0 l1 l2 l3 l4
   rw [l3.then hn]
   exact h2 hn g' μ' a' w' x l0 l1 l2 l3 l4

theorem tail_ok (hC : CallsOk P C) (hP : PansOk P C') (n : Nat) {fn : Func} {H : Hp} {μ : Mu} {w0 : World} (h0 : HRel P g μ H w0) {d : Dc} {b : Code} {s : St} {r : AV × Hp × Ef} (h : evTail P C C' n fn H.length d b s = some r)
  {g1 : Gh} {μ1 : Mu} {a1 : Act} {w1 : World} {Ds : List Nat} {dv : Value} {az : List Value} {d0 : Deferred}
  (hd : conc μ1 d.1 = some dv) (ha : concs μ1 d.2 = some az) (hd0 : Deferred.ofValue dv az.toArray = pure d0)
  (l0 : GLe g.base g1) (l1 : Le μ μ1) (l2 : ∀ b, b < H.length → μ1 b = μ b) (hrel : HRel P g1 μ1 s.H w1) (htm : concs μ1 s.σ = some a1.tmps.toList)
  (hdf : a1.defers = d0 :: Ds.map (fun D => { target := .collected D, args := #[] })) (hnd : Ds.Nodup) (hDs : ∀ D ∈ Ds, ¬ g.Z D ∧ g1.Z D ∧ g1.W.heap[D]? = some (.deferred (some [])))
  (hlen : H.length ≤ s.H.length) (hinv : Inv H.length H s.H s.ef) :
  b.wpIn (Fr none) 0 P (bodyPostM Fence.wide 0 P fn (EndR P g μ H true r)) a1 w1 := by
 have hsr : SRel P (g1.on (a1.defers, false)) μ1 s w1 a1 := ⟨hrel.onX _, htm, Marks.on g1 (a1.defers, false)⟩
 -- the deferred call, and what comes behind
 have fin : ∀ {g2 : Gh} {μ2 : Mu} {a2 : Act} {w2 : World} {σ : List AV} {H2 : Hp} {ef2 : Ef} {q : Hp × Ef} {rs : List AV} {u : Option AV} {uv : Option Value}, GLe (g1.on (a1.defers, false)) g2 → Le μ1 μ2 → (∀ b, b < s.H.length → μ2 b = μ1 b) → SRel P g2 μ2 ⟨σ, H2, ef2⟩ w2 a2 → s.H.length ≤ H2.length → Inv H.length H H2 ef2 →
   evDef P C C' n d u H2 = some q → evRes P ⟨σ, q.1, ef2.and q.2⟩ fn.results.toList = some rs → r = leave H.length (pack rs) q.1 (ef2.and q.2) → (∀ v, u = some v → ∃ x, conc μ2 v = some x ∧ uv = some x) → (u = none → uv = none) →
   LeavesInM Fence.wide 0 P fn a2.tmps (EndR P g μ H true r) a2.defers (mode uv) w2 := by
  intro g2 μ2 a2 w2 σ H2 ef2 q rs u uv k0 k1 k2 k3 k4 k5 hq hrs hr hu hu0
  obtain ⟨_, D2, d1, d2, d3, _⟩ := k3.df
  have hx : g2.X = (a1.defers, false) := k0.x
  rw [hx] at d1
  have hrel2 : HRel P g1 μ2 H2 w2 := (k3.rel.weaken k0).offX
  have hmode : mode uv ≠ .run := by unfold mode; split <;> simp
  rw [d1, hdf]
  refine leavesK g1 hmode (fun w3 hr3 => ?_) D2 w2 hrel2 d2 (fun D hD => ?_)
  ·obtain ⟨H4, e4⟩ := q
   obtain ⟨gg, cap, args0, o1, o2, o3⟩ := def_ok (g := g1) hC hP n hq hr3 (conc_le k1 _ hd) (concs_le k1 _ ha) hu hu0
   have hdd : d0 = { target := .fn (.func gg) cap, args := args0 } := by
    have := hd0.symm.trans o1
    have h2 := congrArg (fun (m : Sem Deferred) => m.run P w3) this
    simp only [Sem.run_pure] at h2
    cases h2
    rfl
   subst hdd
   refine ⟨hmode, .inr ⟨fun h => by simp [Fence.wide] at h, .func gg, cap, gg, args0 ++ cap, rfl, o2, fun _ _ => trivial, ?_⟩⟩
   refine o3.mono ?_
   rintro e1 u' w4 ⟨v, μ4, rfl, hset, hr4, m1, m2, m3, m4⟩
   show LeavesInM Fence.wide 0 P fn a2.tmps _ _ (settle u') w4
   rw [hset]
   have hrg : HRel P g μ4 H4 w4 := (hr4.weaken l0).offBase
   have := leavesK (P := P) (fn := fn) (tmps := a2.tmps) (R := EndR P g μ H true r) g (rest := []) (u := .returning) (by simp) (K := fun w5 hr5 => by
    refine resEnd (ef := ef2.and e4) hr5 (concs_le m1 _ k3.tm) hrs (fun v2 hv2 => ?_)
    have hok : Ok P g μ H (pack rs, H4, ef2.and e4) μ4 v2 w5 := by
     refine ⟨(l1.trans k1).trans m1, hr5, hv2, Nat.le_trans (Nat.le_trans hlen k4) m3, ?_, fun b hb => ?_⟩
     ·exact k5.trans m4 (Nat.le_trans hlen k4)
     ·rw [m2 b (Nat.lt_of_lt_of_le hb (Nat.le_trans hlen k4)), k2 b (Nat.lt_of_lt_of_le hb hlen), l2 b hb]
    obtain ⟨μ'', hok'⟩ := leave_ok h0 hok
    subst hr
    exact ⟨μ'', _, rfl, hok'⟩) Ds w4 hrg hnd (fun D hD => by
     obtain ⟨x, y, z⟩ := hDs D hD
     exact ⟨x, (hr4.old D y).2.trans z⟩)
   simpa using this
  ·obtain ⟨x, y, z⟩ := d3 D hD
   rw [k0.b] at x
   exact ⟨x, (k3.rel.old D y).2.trans z⟩
 unfold evTail at h
 split at h
 ·rename_i s2 hs2
  split at h
  ·rename_i v σ hσ
   simp only [Option.bind_eq_some_iff, Option.map_eq_some_iff] at h
   obtain ⟨q, hq, rs, hrs, hr⟩ := h
   refine code_ok (ro := none) hC hP n b hs2 (.inr (RoOk.none _ rfl)) hsr ?_
   intro g2 μ2 a2 w2 x k0 k1 k2 k3 k4
   rcases k3 with ⟨e, _⟩ | ⟨_, v0, σ0, v', hσ0, hv, rfl, k3⟩
   ·exact absurd rfl e
   rw [hσ] at hσ0
   cases hσ0
   obtain ⟨k41, e', he', hi⟩ := k4
   exact fin (u := some v) (uv := some v') k0 k1 k2 k3 k41 (by
    show Inv H.length H s2.H s2.ef
    rw [he']
    exact hinv.trans hi hlen) hq hrs hr.symm (fun v1 h1 => by cases h1; exact ⟨v', hv, rfl⟩) (fun h => by cases h)
  ·cases h
 ·rename_i ex s2 hne hs2
  split at h
  ·rename_i hex
   simp only [Option.bind_eq_some_iff, Option.map_eq_some_iff] at h
   obtain ⟨q, hq, rs, hrs, hr⟩ := h
   refine code_ok (ro := none) hC hP n b hs2 (.inr (RoOk.none _ rfl)) hsr ?_
   intro g2 μ2 a2 w2 x k0 k1 k2 k3 k4
   rcases k3 with ⟨_, rfl, k3⟩ | ⟨e, _⟩
   rotate_left
   ·subst e; rcases hex with h | h <;> cases h
   obtain ⟨k41, e', he', hi⟩ := k4
   have := fin (u := none) (uv := none) (σ := s2.σ) (H2 := s2.H) (ef2 := s2.ef) k0 k1 k2 k3 k41 (by
    rw [he']
    exact hinv.trans hi hlen) hq hrs hr.symm (fun v1 h1 => by cases h1) (fun _ => rfl)
   rcases hex with rfl | rfl
   ·exact this
   ·exact this
  ·cases h
 ·cases h

theorem body_ok (hC : CallsOk P C) (hP : PansOk P C') (n : Nat) {f : FuncId} {fn : Func} {c : Code} {args : List AV} {H : Hp} {t : Bool} {r : AV × Hp × Ef} (hfn : P.funcs[f]? = some fn) (hb : fn.body = some c)
  (h : evBody P C C' n fn c ⟨args ++ List.replicate (fn.ntmps - args.length) undefA, H, z0⟩ = (t, some r)) (g : Gh) (μ : Mu) (w : World) (vs : List Value) (hrel : HRel P g μ H w) (hargs : concs μ args = some vs) : Calls P f vs.toArray w (EndR P g μ H t r) := by
 have hal := concs_length hargs
 refine (callsIn_wide (n := 0)).1 (callsIn_of_wp_marks hfn hb trivial ?_)
 have h0 : SRel P g.base μ ⟨args ++ List.replicate (fn.ntmps - args.length) undefA, H, z0⟩ w { tmps := vs.toArray ++ Array.replicate (fn.ntmps - vs.toArray.size) undef, defers := [] } := by
  refine ⟨hrel.onBase, ?_, Marks.nil g⟩
  have hrep : ∀ k, concs μ (List.replicate k undefA) = some (List.replicate k undef) := by
   intro k
   induction k with
   | zero => rfl
   | succ k ih => rw [List.replicate_succ, List.replicate_succ, concs, ih]; rfl
  have := concs_append_some hargs (hrep (fn.ntmps - args.length))
  simpa [hal] using this
 unfold evBody at h
 split at h
 ·cases hev : evCode P C C' n c ⟨args ++ List.replicate (fn.ntmps - args.length) undefA, H, z0⟩ with
  | none => rw [hev] at h; simp [evEnd] at h
  | some q =>
   obtain ⟨ex, s⟩ := q
   rw [hev] at h
   refine code_ok (ro := none) hC hP n c hev (.inr (RoOk.none _ rfl)) h0 ?_
   intro g' μ' a' w' x l0 l1 l2 l3 l4
   exact end_ok hrel ⟨rfl, rfl⟩ h l0 l1 l2 l3 l4
 ·rename_i l o b hcut
  split at h
  ·rename_i s1 hs1
   have hgd := cut_guard c hcut
   split at h
   ·rename_i k hop
    split at h
    ·rename_i fo hcal
     simp only [Prod.mk.injEq, Option.bind_eq_some_iff] at h
     obtain ⟨rfl, fv, hf, az, has, h⟩ := h
     refine cut_wp c hcut hgd (seqs_ok hC hP n l hs1 (RoOk.none _ rfl) h0 (fun _ => ?_) (fun e => absurd rfl e))
     intro g1 μ1 a1 w1 l0 l1 l2 l3 l4
     have hfc := arg_ok l3.rel l3.tm hf
     have hac := args_ok l3.rel l3.tm has
     obtain ⟨_, Ds, d1, d2, d3, _⟩ := l3.df
     have hx : g1.X = ([], false) := l0.x
     rw [hx, List.append_nil] at d1
     -- what is deferred is a function's value
     obtain ⟨d0, hd0⟩ : ∃ d0, Deferred.ofValue (a1.eval fo) (k.args.toList.map a1.eval).toArray = pure d0 := by
      have : ∃ gg first captured, fv = .func (.func gg) first captured := by
       unfold evTail at h
       have key : ∀ {u : Option AV} {H2 : Hp} {q : Hp × Ef}, evDef P C C' n (fv, az) u H2 = some q → ∃ gg first captured, fv = .func (.func gg) first captured := by
        intro u H2 q hq
        unfold evDef at hq
        split at hq
        ·rename_i gg first captured heq; exact ⟨gg, first, captured, heq⟩
        ·cases hq
       split at h
       ·split at h
        ·simp only [Option.bind_eq_some_iff] at h
         obtain ⟨q, hq, _⟩ := h
         exact key hq
        ·cases h
       ·split at h
        ·simp only [Option.bind_eq_some_iff] at h
         obtain ⟨q, hq, _⟩ := h
         exact key hq
        ·cases h
       ·cases h
      obtain ⟨gg, first, captured, rfl⟩ := this
      simp only [conc, Option.bind_eq_some_iff, Option.map_eq_some_iff] at hfc
      obtain ⟨fs, _, cs, _, hev⟩ := hfc
      rw [← hev]
      exact ⟨_, rfl⟩
     refine ⟨fun f _ => trivial, ?_⟩
     have hrun : (o.semAt (Fr none).round a1.eval).run P w1 = .ok (.defer d0) w1 := by
      show (o.semAt none a1.eval).run P w1 = _
      rw [Oper.semAt_none]
      unfold execOp
      have e1 : (k.args.map a1.eval) = (k.args.toList.map a1.eval).toArray := by
       apply Array.ext'
       simp
      simp only [hop, resolve, hcal, e1, hd0, Sem.run_bind, Sem.run_pure, Result.andThen_ok]
     rw [hrun, Oper.uponIn_defer]
     obtain ⟨h41, e', he', hi⟩ := l4
     refine tail_ok (Ds := Ds) hC hP n hrel h (dv := a1.eval fo) (az := k.args.toList.map a1.eval) (d0 := d0) hfc hac hd0 l0 l1 l2 l3.rel ?_ ?_ d2 ?_ h41 ?_
     ·exact put_conc o.dst (a := { a1 with defers := d0 :: a1.defers }) l3.tm rfl
     ·rw [put_defers, d1]
     ·intro D hD
      obtain ⟨x, y, z⟩ := d3 D hD
      rw [l0.b] at x
      exact ⟨x, y, z⟩
     ·show Inv H.length H s1.H s1.ef
      rw [he', Ef.z0_and]
      exact hi
    ·simp at h
   ·simp at h
  ·rename_i q hne
   cases hev : evSeqs P C C' n l ⟨args ++ List.replicate (fn.ntmps - args.length) undefA, H, z0⟩ with
   | none => rw [hev] at h; simp [evEnd] at h
   | some q0 =>
    obtain ⟨ex, s⟩ := q0
    rw [hev] at h
    have hn : ex ≠ .normal := by
     rintro rfl
     exact hne _ hev
    refine cut_wp c hcut (cut_guard c hcut) (seqs_ok hC hP n l hev (RoOk.none _ rfl) h0 (fun e => absurd e hn) (fun _ => ?_))
    intro g' μ' a' w' x l0 l1 l2 l3 l4
    exact end_ok hrel ⟨rfl, rfl⟩ h l0 l1 l2 l3 l4

theorem fun_ok (hC : CallsOk P C) (hP : PansOk P C') (n : Nat) : CallsOk P (evFun P C C' n false) := by
 constructor
 ·intro f args H r hlt h g μ w vs hrel hargs
  unfold evFun at h
  split at h
  ·rename_i fn hfn
   split at h
   ·rename_i c hb
    split at h
    rename_i t q hq
    split at h
    ·cases h
    ·rename_i ht
     subst h
     refine (body_ok hC hP n hfn hb hq g μ w vs hrel hargs).mono ?_
     rintro e w' ⟨μ', v', rfl, hok⟩
     have : t = true := by simpa using ht
     subst this
     exact ⟨μ', v', rfl, hok⟩
   ·cases h
  ·rename_i hf
   have : P.funcs[f]? ≠ none := by simp [hlt]
   exact absurd hf this
 ·intro b args H r h g μ w vs l hrel hargs hl
  have hf : P.funcs[P.funcs.size + b]? = none := by simp
  unfold evFun at h
  rw [hf] at h
  simp only [Nat.add_sub_cancel_left, Bool.false_eq_true, if_false] at h
  exact round_ok hC hP n b args H r h g μ w vs l hrel hargs hl

theorem funP_ok (hC : CallsOk P C) (hP : PansOk P C') (n : Nat) : PansOk P (evFun P C C' n true) := by
 constructor
 intro f args H r hlt h g μ w vs hrel hargs
 unfold evFun at h
 split at h
 ·rename_i fn hfn
  split at h
  ·rename_i c hb
   split at h
   rename_i t q hq
   split at h
   ·cases h
   ·rename_i ht
    subst h
    refine (body_ok hC hP n hfn hb hq g μ w vs hrel hargs).mono ?_
    rintro e w' ⟨μ', v', rfl, hok⟩
    have : t = false := by simpa using ht
    subst this
    exact ⟨μ', v', rfl, hok⟩
  ·cases h
 ·simp at h

theorem evNN_ok (P : Program) : ∀ n, CallsOk P (evNN P n).1 ∧ PansOk P (evNN P n).2
 | 0 => ⟨⟨fun f args H r _ h => by simp [evNN] at h, fun b args H r h => by simp [evNN] at h⟩, ⟨fun f args H r _ h => by simp [evNN] at h⟩⟩
 | n + 1 => ⟨fun_ok (evNN_ok P n).1 (evNN_ok P n).2 (n + 1), funP_ok (evNN_ok P n).1 (evNN_ok P n).2 (n + 1)⟩
theorem evN_ok (P : Program) (n : Nat) : CallsOk P (evN P n) := (evNN_ok P n).1
end
end Go.Proofs.YtdppgaphcmhffaaGreatDoor.V
