/- What the evaluator 'V' answers the machine answers: operations, regions, code, calls. No conditions. -/
import Derived.Test.YtgkpgpdkolpfkaaDoorVOph
import Derived.KernelRfl
import Derived.Lib.MakeNoZero
import Derived.RangeFuncLeaves
import Derived.RangeFuncNested
import Derived.RangeFuncRecord
import Derived.RangeFuncCalls
import Derived.OrdersIn
import Derived.LoopNIn
import Derived.TacticsIn
namespace Go.Proofs.YtgkpgpdkolpfkaaDoor.V
open Go
set_option linter.unusedSimpArgs false
set_option linter.unusedVariables false

/-- What calls owe: of functions, and of a range's yields. -/
structure CallsOk (P : Program) (C : CallO) : Prop where
  fn : ∀ f args H r, f < P.funcs.size → C f args H = some r → ∀ g μ w vs, HRel P g μ H w → concs μ args = some vs →
    Calls P f vs.toArray w (fun e w' => ∃ μ' v', e = .returned v' ∧ Ok P g μ H r μ' v' w')
  yl : ∀ b args H r, C (P.funcs.size + b) args H = some r → ∀ g μ w vs l, HRel P g μ H w → concs μ args = some vs → μ b = some l →
    ∃ rec : Loop, w.heap[l.blk]? = some (.loop rec) ∧ vs.length = rec.params.size ∧
      ∀ n, RoundIn Fence.wide n P l.blk rec.fn ((rec.params.zip vs.toArray).foldl (fun t (p, v) => t.setIfInBounds p v) rec.tmps) rec.assign rec.body w (fun e w' => ∃ μ' v', e = .returned v' ∧ Ok P g μ H r μ' v' w')
/-- A call of a yield. -/
def isYl (P : Program) (σ : List AV) : Op → Bool
  | .call c => match c.callee with
    | .value f => match evArg P σ f with
      | some (.yld _) => true
      | _ => false
    | _ => false
  | _ => false

section
variable {P : Program} {g : Gh} {μ : Mu} {H : Hp} {w : World} {a : Act} {σ : List AV} {C : CallO}

theorem arg_ok (h : HRel P g μ H w) (hσ : concs μ σ = some a.tmps.toList) {x : Operand} {v : AV} (hv : evArg P σ x = some v) : conc μ v = some (a.eval x) := by
  cases x with
  | tmp t =>
    simp only [evArg, Option.some.injEq] at hv
    subst hv
    have hg := concs_get hσ t
    have hl := concs_length hσ
    simp only [Act.eval]
    cases ht : σ[t]? with
    | none =>
      rw [ht] at hg
      simp only [Option.bind_none, Array.getElem?_toList] at hg
      simp only [Option.getD_none]
      have : a.tmps.getD t undef = undef := by simp [Array.getD_eq_getD_getElem?, hg]
      rw [this]
      rfl
    | some u =>
      rw [ht] at hg
      simp only [Option.bind_some, Array.getElem?_toList] at hg
      simp only [Option.getD_some]
      have hlt : t < a.tmps.size := by
        have := (List.getElem?_eq_some_iff.1 ht).1
        simp only [Array.length_toList] at hl
        exact Nat.lt_of_lt_of_eq this hl.symm
      have : a.tmps[t]? = some (a.tmps.getD t undef) := by simp [Array.getD_eq_getD_getElem?, hlt]
      rw [← hg, this]
  | const c => exact conc_abs μ c hv
  | global i =>
    simp only [evArg] at hv
    split at hv
    · rename_i hi
      cases hv
      obtain ⟨c, hc⟩ := h.glob i hi
      simp [conc, hc, Act.eval]
    · cases hv
  | func f => cases hv; rfl

theorem args_ok (h : HRel P g μ H w) (hσ : concs μ σ = some a.tmps.toList) : ∀ {xs : List Operand} {vs : List AV}, evArgs P σ xs = some vs → concs μ vs = some (xs.map a.eval)
  | [], vs, e => by cases e; rfl
  | x :: xs, vs, e => by
    simp only [evArgs, Option.bind_eq_some_iff, Option.map_eq_some_iff] at e
    obtain ⟨v, hv, us, hus, rfl⟩ := e
    simp [concs, arg_ok h hσ hv, args_ok h hσ hus]

theorem parts_ok (h : HRel P g μ H w) (hσ : concs μ σ = some a.tmps.toList) : ∀ {xs : List (Nat × Operand)} {vs : List (Nat × AV)}, evParts P σ xs = some vs →
    (xs.map fun (i, x) => (i, a.eval x)).map (·.1) = vs.map (·.1) ∧ concs μ (vs.map (·.2)) = some ((xs.map fun (i, x) => (i, a.eval x)).map (·.2))
  | [], vs, e => by cases e; exact ⟨rfl, rfl⟩
  | (i, x) :: xs, vs, e => by
    simp only [evParts, Option.bind_eq_some_iff, Option.map_eq_some_iff] at e
    obtain ⟨v, hv, us, hus, rfl⟩ := e
    obtain ⟨h1, h2⟩ := parts_ok h hσ hus
    refine ⟨by simpa using h1, ?_⟩
    simp only [List.map_cons, concs, arg_ok h hσ hv, Option.bind_some]
    rw [h2]
    rfl

theorem opt_ok (h : HRel P g μ H w) (hσ : concs μ σ = some a.tmps.toList) {x : Option Operand} {v : Option AV} (e : evOpt P σ x = some v) : (x.map a.eval).map some = v.map (conc μ) := by
  cases x with
  | none => cases e; rfl
  | some x =>
    simp only [evOpt, Option.map_eq_some_iff] at e
    obtain ⟨u, hu, rfl⟩ := e
    simp [arg_ok h hσ hu]

/-- What an operation owes. -/
def Owes (P : Program) (g : Gh) (μ : Mu) (H : Hp) (w : World) (a : Act) (o : Oper) (r : AV × Hp × Ef) : Prop :=
  ∀ K Q, (∀ μ' v' w', Ok P g μ H r μ' v' w' → K (a.put o.dst v') w') → o.wp P a w K Q

theorem Owes.value {o : Oper} {s : Sem Value} {r : AV × Hp × Ef} (hs : (execOp a.eval o).run P w = (do pure (.value (← s)) : Sem Next).run P w) (h : Yields P g μ H w s r) : Owes P g μ H w a o r := by
  intro K Q hK
  obtain ⟨μ', v', w', h1, h2⟩ := h
  unfold Oper.wp
  rw [hs]
  simp only [Sem.run_bind, h1, Result.andThen_ok, Sem.run_pure]
  exact hK _ _ _ h2

theorem Owes.unit {o : Oper} {s : Sem Unit} {r : AV × Hp × Ef} (hs : (execOp a.eval o).run P w = (do s; pure .skip : Sem Next).run P w) (h : Does P g μ H w s r) : Owes P g μ H w a o r := by
  intro K Q hK
  obtain ⟨μ', w', h1, h2⟩ := h
  unfold Oper.wp
  rw [hs]
  simp only [Sem.run_bind, h1, Result.andThen_ok, Sem.run_pure]
  exact hK _ _ _ h2

theorem Owes.same (h : HRel P g μ H w) {o : Oper} {v : AV} {r : AV × Hp × Ef} {v' : Value} (hr : r = (v, H, z0)) (hs : (execOp a.eval o).run P w = .ok (.value v') w) (hv : conc μ v = some v') : Owes P g μ H w a o r := by
  subst hr
  intro K Q hK
  unfold Oper.wp
  rw [hs]
  exact hK μ v' w ⟨Le.refl μ, h, hv, Nat.le_refl _, Inv.refl _ _ _, fun _ _ => rfl⟩

theorem Owes.val (h : HRel P g μ H w) {o : Oper} {v : AV} {r : AV × Hp × Ef} {s : Sem Value} (hr : r = (v, H, z0)) (hs : (execOp a.eval o).run P w = (do pure (.value (← s)) : Sem Next).run P w) (hv : ∃ v', s.run P w = .ok v' w ∧ conc μ v = some v') : Owes P g μ H w a o r := by
  subst hr
  exact Owes.value hs (Yields.pure h hv)

theorem ret_some {H : Hp} {v : Option AV} {r : AV × Hp × Ef} (h : ret H v = some r) : ∃ u, v = some u ∧ r = (u, H, z0) := by
  simp only [ret, Option.map_eq_some_iff] at h
  obtain ⟨u, hu, rfl⟩ := h
  exact ⟨u, hu, rfl⟩
theorem ret2_some {v : Option (AV × Hp)} {r : AV × Hp × Ef} (h : ret2 v = some r) : ∃ u, v = some u ∧ r = (u.1, u.2, z0) := by
  simp only [ret2, Option.map_eq_some_iff] at h
  obtain ⟨u, hu, rfl⟩ := h
  exact ⟨u, hu, rfl⟩

theorem ext_find {fn : Func} {x : Xn} (h : xnName fn.name = some x) : ∃ e, Extern.find fn = some e ∧
    ∀ as v xs, evExt x as = some v → concs μ as = some xs → ∃ v', (e xs.toArray).run P w = .ok v' w ∧ conc μ v = some v' := by
  unfold xnName at h
  split at h
  · rename_i hn
    cases h
    refine ⟨Extern.AbiNoEscape.same, by unfold Extern.find; rw [hn]; kernel_rfl, ?_⟩
    intro as v xs hv hx
    unfold evExt at hv
    split at hv
    case h_1 => 
      cases hv
      simp only [concs, Option.bind_eq_some_iff, Option.map_eq_some_iff, Option.some.injEq] at hx
      obtain ⟨y, hy, _, rfl, rfl⟩ := hx
      exact ⟨y, rfl, hy⟩
    all_goals first | contradiction | cases hv
  split at h
  · rename_i hn
    cases h
    refine ⟨Extern.BytealgIndexByte.indexByte, by unfold Extern.find; rw [hn]; kernel_rfl, ?_⟩
    intro as v xs hv hx
    unfold evExt at hv
    split at hv
    case h_2 =>
      cases hv
      simp only [concs, conc, Option.bind_some, Option.map_some, Option.some.injEq] at hx
      subst hx
      exact ⟨_, Lib.run_indexByteString _ _ _, by simp [conc]⟩
    all_goals first | contradiction | cases hv
  split at h
  · rename_i hn
    cases h
    refine ⟨Extern.BytealgCount.count, by unfold Extern.find; rw [hn]; kernel_rfl, ?_⟩
    intro as v xs hv hx
    unfold evExt at hv
    split at hv
    case h_3 =>
      cases hv
      simp only [concs, conc, Option.bind_some, Option.map_some, Option.some.injEq] at hx
      subst hx
      exact ⟨_, Lib.run_countString _ _ _, by simp [conc]⟩
    all_goals first | contradiction | cases hv
  split at h
  · rename_i hn
    cases h
    refine ⟨Extern.BytealgCompare.compare, by unfold Extern.find; rw [hn]; kernel_rfl, ?_⟩
    intro as v xs hv hx
    unfold evExt at hv
    split at hv
    case h_4 =>
      cases hv
      simp only [concs, conc, Option.bind_some, Option.map_some, Option.some.injEq] at hx
      subst hx
      exact ⟨_, Lib.run_compareString _ _ _, by simp [conc]⟩
    all_goals first | contradiction | cases hv
  cases h

theorem call_ok (hC : CallsOk P C) (h : HRel P g μ H w) (hσ : concs μ σ = some a.tmps.toList) {o : Oper} {c : Call} (ho : o.op = .call c) (hy : isYl P σ o.op = false) {r : AV × Hp × Ef} (hr : evCall P C σ H c = some r) : Owes P g μ H w a o r := by
  unfold evCall at hr
  split at hr
  · rename_i f hcal
    simp only [Option.bind_eq_some_iff] at hr
    obtain ⟨fv, hf, as, has, hr⟩ := hr
    have hfc := arg_ok h hσ hf
    have hac := args_ok h hσ has
    split at hr
    · rename_i gg first captured
      split at hr
      · rename_i hb
        simp only [conc, Option.bind_eq_some_iff, Option.map_eq_some_iff] at hfc
        obtain ⟨fs, hfs, cs, hcs, hev⟩ := hfc
        have hargs := concs_append_some (concs_append_some hfs hac) hcs
        have hlt : gg < P.funcs.size := by
          unfold hasBody at hb
          split at hb
          · rename_i fn hfn; exact (Array.getElem?_eq_some_iff.1 hfn).1
          · cases hb
        have hcall := hC.fn _ _ _ _ hlt hr g μ w _ h hargs
        intro K Q hK
        unfold Oper.wp
        have hrun : (execOp a.eval o).run P w = .ok (.enter gg (fs ++ c.args.toList.map a.eval ++ cs).toArray) w := by
          unfold hasBody at hb
          split at hb
          · rename_i fn hfn
            simp only [Bool.and_eq_true, Bool.not_eq_true', beq_eq_false_iff_ne] at hb
            unfold execOp
            simp only [ho, resolve, hcal, Deferred.ofValue, ← hev, Sem.run_bind, Sem.run_pure, Result.andThen_ok, invoke, callFunc, run_program, hfn]
            rw [if_neg (by simpa using hb.2), if_neg (by cases hbb : fn.body <;> simp [hbb] at hb ⊢)]
            simp only [Sem.run_pure]
            congr 2
            apply Array.ext'
            simp
          · cases hb
        rw [hrun]
        exact hcall.mono (fun e w' he => by
          obtain ⟨μ', v', rfl, hok⟩ := he
          exact hK _ _ _ hok)
      · unfold evX at hr
        split at hr
        · rename_i e0 hnz
          simp only [conc, Option.bind_eq_some_iff, Option.map_eq_some_iff] at hfc
          obtain ⟨fs, hfs, cs, hcs, hev⟩ := hfc
          have hargs := concs_append_some (concs_append_some hfs hac) hcs
          unfold isNZ at hnz
          split at hnz
          · rename_i fn hfn
            split at hnz
            · rename_i hb
              simp only [Bool.and_eq_true, Bool.not_eq_true', decide_eq_true_eq] at hb
              obtain ⟨⟨⟨⟨hb1, hb2⟩, hb3⟩, hname⟩, hrs⟩ := hb
              split at hnz
              · rename_i e1 ht
                cases hnz
                unfold evNZ at hr
                split at hr
                · rename_i n hasn
                  split at hr
                  · rename_i hn
                    cases hr
                    obtain ⟨t, ht1, ht2⟩ := Option.bind_eq_some_iff.1 ht
                    obtain ⟨hu, inf, hinf, hsz, hby⟩ := tsh_slice ht2
                    have hrt : fn.resultTypes = #[t] := by
                      clear ht
                      generalize fn.resultTypes = rt at hrs ht1
                      obtain ⟨l⟩ := rt
                      match l, hrs, ht1 with
                      | [x], _, h => simp at h; rw [h]
                    have hfind : Extern.find fn = some (Extern.BytealgMakeNoZero.makeNoZero fn.params fn.resultTypes) := by unfold Extern.find; rw [hname]; kernel_rfl
                    rw [hrt] at hfind
                    rw [hasn] at hargs
                    simp only [concs, conc, Option.bind_some, Option.map_some, Option.some.injEq] at hargs
                    obtain ⟨m, rfl⟩ : ∃ m : Nat, n = (m : Int) := ⟨n.toNat, by omega⟩
                    obtain ⟨cells, hrun, hle, _⟩ := Lib.run_makeNoZero (P := P) w fn.params t e0 hu m (by omega)
                    have hnew := h.drew.drew.new (.cells cells e0) (.cells [] e0 (.op 0 false)) cells.size (by
                      refine ⟨cells, (0, 0), [], heap_alloc_new _ _, rfl, by simp, (fun i v hv => by simp at hv), ⟨⟨inf, hinf, by omega, by simp [hsz]⟩, .inl (by simp)⟩⟩)
                    intro K Q hK
                    unfold Oper.wp
                    have hex : (execOp a.eval o).run P w = .ok (.value (.slice (some ⟨w.heap.size, 0, none⟩) m cells.size)) (w.drew.drew.alloc (.cells cells e0)) := by
                      unfold execOp
                      simp only [ho, resolve, hcal, Deferred.ofValue, ← hev, Sem.run_bind, Sem.run_pure, Result.andThen_ok, invoke]
                      have hcf := run_callFunc_extern (P := P) hfn hb2 hb1 (by simpa using hb3) hfind (fs ++ c.args.toList.map a.eval ++ cs).toArray w
                      rw [← hargs] at hcf
                      rw [show (#[Value.int IntKind.i64 (m : Int)] : Array Value) = [Value.int IntKind.i64 (m : Int)].toArray from rfl] at hrun
                      rw [hrun] at hcf
                      simp only [Result.andThen_ok] at hcf
                      rw [← hcf]
                      congr 2
                      apply Array.ext'
                      rw [hargs]
                      simp
                    rw [hex]
                    refine hK _ _ _ ⟨h.le_upd _, hnew, by simp [conc, upd_same], by simp, Inv.snoc, upd_dom⟩
                  · cases hr
                · cases hr
              · cases hnz
            · cases hnz
          · cases hnz
        obtain ⟨u, hu, rfl⟩ := ret_some hr
        simp only [Option.bind_eq_some_iff] at hu
        obtain ⟨xn, hxn, hu⟩ := hu
        simp only [conc, Option.bind_eq_some_iff, Option.map_eq_some_iff] at hfc
        obtain ⟨fs, hfs, cs, hcs, hev⟩ := hfc
        have hargs := concs_append_some (concs_append_some hfs hac) hcs
        unfold isExt at hxn
        split at hxn
        · rename_i fn hfn
          split at hxn
          · rename_i hb
            simp only [Bool.and_eq_true, Bool.not_eq_true'] at hb
            obtain ⟨e, he, hall⟩ := ext_find (P := P) (μ := μ) (w := w) hxn
            obtain ⟨v', e1, e2⟩ := hall _ _ _ hu hargs
            refine Owes.same h rfl (v' := v') ?_ e2
            unfold execOp
            simp only [ho, resolve, hcal, Deferred.ofValue, ← hev, Sem.run_bind, Sem.run_pure, Result.andThen_ok, invoke]
            have harr : (c.args.map a.eval) = (c.args.toList.map a.eval).toArray := by apply Array.ext'; simp
            have := run_callFunc_extern (P := P) hfn hb.1.2 hb.1.1 (by simpa using hb.2) he (fs ++ c.args.toList.map a.eval ++ cs).toArray w
            rw [e1] at this
            simp only [Result.andThen_ok] at this
            rw [← this]
            congr 2
            apply Array.ext'
            simp
          · cases hxn
        · cases hxn
    · rename_i b
      rw [ho] at hy
      simp only [isYl, hcal, hf] at hy
      cases hy
    · cases hr
  · rename_i b hcal
    simp only [Option.bind_eq_some_iff] at hr
    obtain ⟨as, has, hr⟩ := hr
    have hac := args_ok h hσ has
    have hres : ∀ nx : Sem Value, (∀ cs, builtin b c.argTypes o.type cs (c.args.toList.map a.eval).toArray = (do pure (.value (← nx)))) → (execOp a.eval o).run P w = (do pure (.value (← nx)) : Sem Next).run P w := by
      intro nx hnx
      unfold execOp
      simp only [ho, resolve, hcal]
      simp only [pure_bind, invoke]
      rw [← hnx]
      congr 2
      apply Array.ext'
      simp
    have hl := concs_length hac
    split at hr
    · -- len
      rename_i x t ts ht
      obtain ⟨u, hu, rfl⟩ := ret_some hr
      simp only [concs, Option.bind_eq_some_iff, Option.map_eq_some_iff, Option.some.injEq] at hac
      obtain ⟨x', hx', _, rfl, hmap⟩ := hac
      refine Owes.val h rfl (hres (Builtin.len_ c.argTypes o.type #[x']) (fun cs => by rw [← hmap]; rfl)) ?_
      obtain ⟨v', e1, e2⟩ := len_ok (w := w) (ty := o.type) h hu hx'
      refine ⟨v', ?_, e2⟩
      have : c.argTypes[0]? = some t := by rw [← Array.getElem?_toList, ht]; rfl
      simpa [Builtin.len_, this] using e1
    · rename_i x t ts ht
      obtain ⟨u, hu, rfl⟩ := ret_some hr
      simp only [concs, Option.bind_eq_some_iff, Option.map_eq_some_iff, Option.some.injEq] at hac
      obtain ⟨x', hx', _, rfl, hmap⟩ := hac
      refine Owes.val h rfl (hres (Builtin.cap_ c.argTypes o.type #[x']) (fun cs => by rw [← hmap]; rfl)) ?_
      obtain ⟨v', e1, e2⟩ := cap_ok (w := w) (ty := o.type) hu hx'
      refine ⟨v', ?_, e2⟩
      have : c.argTypes[0]? = some t := by rw [← Array.getElem?_toList, ht]; rfl
      simpa [Builtin.cap_, this] using e1
    · rename_i s x t u ht
      split at hr
      · rename_i hu
        simp only [concs, Option.bind_eq_some_iff, Option.map_eq_some_iff, Option.some.injEq] at hac
        obtain ⟨s', hs', _, ⟨x', hx', _, rfl, rfl⟩, hmap⟩ := hac
        have hat : c.argTypes = #[t, u] := by apply Array.ext'; simpa using ht
        refine Owes.value (hres (Builtin.append_ c.argTypes o.type #[s', x']) (fun cs => by rw [← hmap]; rfl)) ?_
        rw [hat]
        refine append_ok h hr hs' hx' ?_
        unfold srcOk at hu
        split at hu
        · cases hu
        · rename_i sh hsh hne
          obtain ⟨d, hd, _⟩ := tsh_some hne
          refine ⟨d, hd, ?_⟩
          rintro k rfl
          unfold tsh at hne
          rw [hd] at hne
          simp only [Option.some.injEq] at hne
          exact hsh k hne.symm
        · cases hu
      · cases hr
    · rename_i d x t ts ht
      simp only [concs, Option.bind_eq_some_iff, Option.map_eq_some_iff, Option.some.injEq] at hac
      obtain ⟨d', hd', _, ⟨x', hx', _, rfl, rfl⟩, hmap⟩ := hac
      refine Owes.value (hres (Builtin.copy_ c.argTypes o.type #[d', x']) (fun cs => by rw [← hmap]; rfl)) ?_
      have hok := copy_ok (u := t) (ty := o.type) h hr hd' hx'
      have h0 : c.argTypes[0]? = some t := by rw [← Array.getElem?_toList, ht]; rfl
      obtain ⟨μ', v', w', e1, e2⟩ := hok
      exact ⟨μ', v', w', by simpa [Builtin.copy_, h0] using e1, e2⟩
    · rename_i x y ht
      obtain ⟨u, hu, rfl⟩ := ret_some hr
      simp only [concs, Option.bind_eq_some_iff, Option.map_eq_some_iff, Option.some.injEq] at hac
      obtain ⟨x', hx', _, ⟨y', hy', _, rfl, rfl⟩, hmap⟩ := hac
      refine Owes.val h rfl (hres (Builtin.min_ c.argTypes o.type #[x', y']) (fun cs => by rw [← hmap]; rfl)) (min_ok hu hx' hy')
    · rename_i x y ht
      obtain ⟨u, hu, rfl⟩ := ret_some hr
      simp only [concs, Option.bind_eq_some_iff, Option.map_eq_some_iff, Option.some.injEq] at hac
      obtain ⟨x', hx', _, ⟨y', hy', _, rfl, rfl⟩, hmap⟩ := hac
      refine Owes.val h rfl (hres (Builtin.max_ c.argTypes o.type #[x', y']) (fun cs => by rw [← hmap]; rfl)) (max_ok hu hx' hy')
    · rename_i m k t ts ht
      simp only [Option.map_eq_some_iff] at hr
      obtain ⟨H', hH, rfl⟩ := hr
      simp only [concs, Option.bind_eq_some_iff, Option.map_eq_some_iff, Option.some.injEq] at hac
      obtain ⟨m', hm', _, ⟨k', hk', _, rfl, rfl⟩, hmap⟩ := hac
      have h0 : c.argTypes[0]? = some t := by rw [← Array.getElem?_toList, ht]; rfl
      exact Owes.value (hres (Builtin.delete_ c.argTypes o.type #[m', k']) (fun cs => by rw [← hmap]; rfl)) (delete_ok h hH hm' hk' h0)
    · rename_i x ht
      obtain ⟨u, hu, rfl⟩ := ret_some hr
      simp only [concs, Option.bind_eq_some_iff, Option.map_eq_some_iff, Option.some.injEq] at hac
      obtain ⟨x', hx', _, rfl, hmap⟩ := hac
      exact Owes.val h rfl (hres (Builtin.unsafeSliceData_ c.argTypes o.type #[x']) (fun cs => by rw [← hmap]; rfl)) (sliceData_ok h hu hx')
    · rename_i x i pt it ht
      simp only [concs, Option.bind_eq_some_iff, Option.map_eq_some_iff, Option.some.injEq] at hac
      obtain ⟨x', hx', _, ⟨i', hi', _, rfl, rfl⟩, hmap⟩ := hac
      have hat : c.argTypes = #[pt, it] := by apply Array.ext'; simpa using ht
      refine Owes.value (hres (Builtin.unsafeString_ c.argTypes o.type #[x', i']) (fun cs => by rw [← hmap]; rfl)) ?_
      rw [hat]
      exact string_ok h hr hx' hi'
    · cases hr
  · cases hr
end
end Go.Proofs.YtgkpgpdkolpfkaaDoor.V
