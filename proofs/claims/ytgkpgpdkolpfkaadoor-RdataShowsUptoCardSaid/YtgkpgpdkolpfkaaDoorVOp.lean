/- Each operation of 'V' against the machine's. No conditions. -/
import Derived.Test.YtgkpgpdkolpfkaaDoorVSound
namespace Go.Proofs.YtgkpgpdkolpfkaaDoor.V
open Go
set_option linter.unusedSimpArgs false
set_option linter.unusedVariables false

section
variable {P : Program} {g : Gh} {μ : Mu} {H : Hp} {w : World} {a : Act} {σ : List AV} {C : CallO}

theorem conc_ptr {b o : Nat} {x : Value} (h : conc μ (.ptr b o) = some x) : ∃ l, μ b = some l ∧ x = .pointer (some ⟨l.blk, l.base + o, none⟩) := by
  simp only [conc, Option.map_eq_some_iff] at h
  obtain ⟨l, hl, rfl⟩ := h
  exact ⟨l, hl, rfl⟩

set_option maxHeartbeats 1000000 in
theorem op_ok (hC : CallsOk P C) (h : HRel P g μ H w) (hσ : concs μ σ = some a.tmps.toList) {o : Oper} (hy : isYl P σ o.op = false) {r : AV × Hp × Ef} (hr : evOp P C σ H o.op = some r) : Owes P g μ H w a o r := by
  unfold evOp at hr
  split at hr
  case h_1 x ho =>
    obtain ⟨u, hu, hr⟩ := ret_some hr
    exact Owes.same h hr (by unfold execOp; simp only [ho]; rfl) (arg_ok h hσ hu)
  case h_2 x ho =>
    obtain ⟨u, hu, hr⟩ := ret_some hr
    exact Owes.same h hr (by unfold execOp; simp only [ho]; rfl) (arg_ok h hσ hu)
  case h_3 c x y ho =>
    simp only [Option.bind_eq_some_iff] at hr
    obtain ⟨cv, hc, hr⟩ := hr
    split at hr
    · rename_i t
      have hcc := arg_ok h hσ hc
      cases t <;> obtain ⟨u, hu, hr⟩ := ret_some hr
      · refine Owes.same h hr ?_ (arg_ok h hσ hu)
        unfold execOp
        simp only [ho, ← (Option.some.inj hcc), asBool, Sem.run_bind, Sem.run_pure, Result.andThen_ok]
        rfl
      · refine Owes.same h hr ?_ (arg_ok h hσ hu)
        unfold execOp
        simp only [ho, ← (Option.some.inj hcc), asBool, Sem.run_bind, Sem.run_pure, Result.andThen_ok]
        rfl
    · cases hr
  case h_4 e ho =>
    simp only [Option.map_eq_some_iff] at hr
    obtain ⟨z, hz, rfl⟩ := hr
    exact Owes.value (by unfold execOp; simp only [ho]) (alloc_ok h hz)
  case h_5 e x ho =>
    simp only [Option.map_eq_some_iff] at hr
    obtain ⟨v, hv, rfl⟩ := hr
    exact Owes.value (by unfold execOp; simp only [ho]) (box_ok h (arg_ok h hσ hv))
  case h_6 t parts ho =>
    simp only [Option.bind_eq_some_iff] at hr
    obtain ⟨ps, hps, hr⟩ := hr
    obtain ⟨u, hu, hr⟩ := ret_some hr
    obtain ⟨p1, p2⟩ := parts_ok h hσ hps
    obtain ⟨v', e1, e2⟩ := build_ok (w := w) hu p1 p2
    refine Owes.val h hr (s := Instr.build t (parts.map fun (i, x) => (i, a.eval x))) (by unfold execOp; simp only [ho]) ⟨v', ?_, e2⟩
    rw [← e1]
    congr 2
    apply Array.ext'
    simp
  case h_7 t n parts ho =>
    simp only [Option.bind_eq_some_iff] at hr
    obtain ⟨ps, hps, hr⟩ := hr
    obtain ⟨u, hu, rfl⟩ := ret2_some hr
    obtain ⟨p1, p2⟩ := parts_ok h hσ hps
    refine Owes.value (s := Instr.buildSlice t n (parts.map fun (i, x) => (i, a.eval x))) (by unfold execOp; simp only [ho]) ?_
    have := buildSlice_ok h hu p1 p2
    have e : (parts.map fun (i, x) => (i, a.eval x)) = (parts.toList.map fun (i, x) => (i, a.eval x)).toArray := by
      apply Array.ext'
      simp
    rw [e]
    exact this
  case h_8 t x ho =>
    simp only [Option.bind_eq_some_iff] at hr
    obtain ⟨av, hav, hr⟩ := hr
    split at hr
    · rename_i b off
      obtain ⟨u, hu, hr⟩ := ret_some hr
      obtain ⟨l, hl, hx⟩ := conc_ptr (arg_ok h hσ hav)
      obtain ⟨v', e1, e2⟩ := load_ok h hl hu
      exact Owes.val h hr (s := Instr.loadAt t (a.eval x)) (by unfold execOp; simp only [ho]) ⟨v', by simpa [hx, Instr.loadAt, Instr.sureAddr] using e1, e2⟩
    · cases hr
  case h_9 t x y ho =>
    simp only [Option.bind_eq_some_iff] at hr
    obtain ⟨av, hav, v, hv, hr⟩ := hr
    split at hr
    · rename_i b off
      simp only [Option.map_eq_some_iff] at hr
      obtain ⟨q, hq, rfl⟩ := hr
      obtain ⟨l, hl, hx⟩ := conc_ptr (arg_ok h hσ hav)
      obtain ⟨w', e1, e2, e3, e4⟩ := store_ok h hl (arg_ok h hσ hv) hq
      refine Owes.unit (s := Instr.storeAt t (a.eval x) (a.eval y)) (by unfold execOp; simp only [ho]) ⟨μ, w', ?_, Le.refl μ, e2, rfl, by rw [e3]; exact Nat.le_refl _, e4, fun _ _ => rfl⟩
      simpa [hx, Instr.storeAt, Instr.sureAddr] using e1
    · cases hr
  case h_10 x ho =>
    simp only [Option.bind_eq_some_iff] at hr
    obtain ⟨v, hv, hr⟩ := hr
    have hx := arg_ok h hσ hv
    split at hr
    · rename_i b off
      cases hr
      obtain ⟨l, hl, hx'⟩ := conc_ptr hx
      exact Owes.same h rfl (by unfold execOp; simp only [ho, hx']; rfl) (hx'.symm ▸ hx)
    · rename_i f fs cs
      cases hr
      have hx2 := hx
      simp only [conc, Option.bind_eq_some_iff, Option.map_eq_some_iff] at hx2
      obtain ⟨x1, _, x2, _, hx'⟩ := hx2
      exact Owes.same h rfl (by unfold execOp; simp only [ho, ← hx']; rfl) (hx'.symm ▸ hx)
    · cases hr
  case h_11 op t x y yt ho =>
    simp only [Option.bind_eq_some_iff] at hr
    obtain ⟨u, hu, v, hv, hr⟩ := hr
    have hx := arg_ok h hσ hu
    have hy := arg_ok h hσ hv
    split at hr
    · have hx' : a.eval x = .nilIface := (Option.some.inj hx).symm
      have hy' : a.eval y = .nilIface := (Option.some.inj hy).symm
      split at hr
      · rename_i hcst
        have hg : ∀ op', eqGuard op' t x y .nilIface .nilIface = Pure.pure () := by
          intro op'
          cases x <;> cases y <;> simp [evOp.isConst] at hcst <;> first | exact eqGuard_nil_constR _ _ _ _ | exact eqGuard_nil_constL _ _ _ _
        split at hr
        · obtain ⟨q, hq, hr⟩ := ret_some hr
          split at hq
          · rename_i hif
            cases hq
            have hif' : tsh P t = some .iface := by
              revert hif
              cases tsh P t with
              | none => simp
              | some s => cases s <;> simp
            obtain ⟨ms, hms⟩ := tsh_iface hif'
            refine Owes.same h hr (v' := .bool true) ?_ rfl
            unfold execOp
            simp only [ho, hx', hy', hg, pure_bind, binOp, Op.equal, Op.maxDepth, Sem.run_bind]
            have : (Op.equalIn 10000 t .nilIface .nilIface).run P w = .ok true w := by
              show (Op.equalIn (9999 + 1) t .nilIface .nilIface).run P w = .ok true w
              rw [Op.equalIn, Sem.run_bind, run_underlying hms]; rfl
            simp only [this, Result.andThen_ok, Sem.run_pure]
          · cases hq
        · obtain ⟨q, hq, hr⟩ := ret_some hr
          split at hq
          · rename_i hif
            cases hq
            have hif' : tsh P t = some .iface := by
              revert hif
              cases tsh P t with
              | none => simp
              | some s => cases s <;> simp
            obtain ⟨ms, hms⟩ := tsh_iface hif'
            refine Owes.same h hr (v' := .bool false) ?_ rfl
            unfold execOp
            simp only [ho, hx', hy', hg, pure_bind, binOp, Op.equal, Op.maxDepth, Sem.run_bind]
            have : (Op.equalIn 10000 t .nilIface .nilIface).run P w = .ok true w := by
              show (Op.equalIn (9999 + 1) t .nilIface .nilIface).run P w = .ok true w
              rw [Op.equalIn, Sem.run_bind, run_underlying hms]; rfl
            simp only [this, Result.andThen_ok, Sem.run_pure]
            rfl
          · cases hq
        · cases hr
      · cases hr
    · obtain ⟨q, hq, hr⟩ := ret_some hr
      exact Owes.val h hr (s := do eqGuard op t x y (a.eval x) (a.eval y); binOp op t (a.eval x) (a.eval y)) (by unfold execOp; simp only [ho]) (evBin_ok hq hx hy)
  case h_12 op t x ho =>
    simp only [Option.bind_eq_some_iff] at hr
    obtain ⟨u, hu, hr⟩ := hr
    obtain ⟨q, hq, hr⟩ := ret_some hr
    exact Owes.val h hr (by unfold execOp; simp only [ho]) (un_ok hq (arg_ok h hσ hu))
  case h_13 s d x ho =>
    simp only [Option.bind_eq_some_iff] at hr
    obtain ⟨u, hu, hr⟩ := hr
    obtain ⟨q, hq, rfl⟩ := ret2_some hr
    exact Owes.value (by unfold execOp; simp only [ho]) (conv_ok h hq (arg_ok h hσ hu))
  case h_14 t x ho =>
    simp only [Option.bind_eq_some_iff] at hr
    obtain ⟨u, hu, hr⟩ := hr
    split at hr
    · cases hr
    · rename_i s hs hne
      obtain ⟨q, hq, hr⟩ := ret_some hr
      cases hq
      obtain ⟨d, hd, hdi⟩ := tsh_some hne
      have hdi' : ∀ ms, d ≠ .interface ms := hdi.resolve_left (fun e => hs e)
      have hx := arg_ok h hσ hu
      refine Owes.val h hr (s := Instr.makeInterface t (a.eval x)) (by unfold execOp; simp only [ho]) ⟨.iface t (a.eval x), ?_, by simp [conc, hx]⟩
      simp only [Instr.makeInterface, Sem.run_bind, run_underlying hd, Result.andThen_ok]
      cases d <;> first | rfl | (exact absurd rfl (hdi' _))
    · cases hr
  case h_15 fn f c ho =>
    simp only [Option.bind_eq_some_iff] at hr
    obtain ⟨fs, hfs, cs, hcs, hr⟩ := hr
    obtain ⟨q, hq, hr⟩ := ret_some hr
    cases hq
    have h1 := args_ok h hσ hfs
    have h2 := args_ok h hσ hcs
    refine Owes.same h hr (v' := .func fn (f.map a.eval) (c.map a.eval)) (by unfold execOp; simp only [ho]; rfl) ?_
    simp only [conc, h1, h2, Option.bind_some, Option.map_some]
    congr 2 <;> (apply Array.ext'; simp)
  case h_16 t ho =>
    split at hr
    · rename_i k e ht
      cases hr
      exact Owes.value (by unfold execOp; simp only [ho]; rfl) (makeMap_ok h ht none (by simp))
    · cases hr
  case h_17 t x ho =>
    simp only [Option.bind_eq_some_iff] at hr
    obtain ⟨u, hu, hr⟩ := hr
    split at hr
    · rename_i k e kk n ht
      cases hr
      have hx := arg_ok h hσ hu
      refine Owes.value (s := Instr.makeMap t (some (a.eval x))) (by unfold execOp; simp only [ho]; rfl) (makeMap_ok h ht _ ?_)
      intro v hv
      cases hv
      exact ⟨kk, n, (Option.some.inj hx).symm⟩
    · cases hr
  case h_18 t l c ho =>
    simp only [Option.bind_eq_some_iff] at hr
    obtain ⟨u, hu, v, hv, hr⟩ := hr
    obtain ⟨q, hq, rfl⟩ := ret2_some hr
    exact Owes.value (by unfold execOp; simp only [ho]) (make_ok h hq (arg_ok h hσ hu) (arg_ok h hσ hv))
  case h_19 t x lo hi mx ho =>
    simp only [Option.bind_eq_some_iff] at hr
    obtain ⟨u, hu, lo', hlo, hi', hhi, mx', hmx, hr⟩ := hr
    split at hr
    rotate_left
    · simp only [Option.map_eq_some_iff] at hr
      obtain ⟨q, hq, rfl⟩ := hr
      exact Owes.value (by unfold execOp; simp only [ho]) (sliceX_ok h hq (arg_ok h hσ hu) (opt_ok h hσ hlo) (opt_ok h hσ hhi) (opt_ok h hσ hmx))
    rename_i q hq
    simp only [Option.some.injEq] at hr
    exact Owes.val h hr.symm (by unfold execOp; simp only [ho]) (slice_ok h hq (arg_ok h hσ hu) (opt_ok h hσ hlo) (opt_ok h hσ hhi) (opt_ok h hσ hmx))
  case h_20 t x f ho =>
    simp only [Option.bind_eq_some_iff] at hr
    obtain ⟨u, hu, hr⟩ := hr
    split at hr
    · rename_i b off
      simp only [Option.bind_eq_some_iff] at hr
      obtain ⟨q, hq, hr⟩ := hr
      split at hr
      · cases hr
      · rename_i hz
        cases hr
        obtain ⟨l, hl, hx⟩ := conc_ptr (arg_ok h hσ hu)
        exact Owes.val h rfl (s := Instr.fieldAt t (a.eval x) f) (by unfold execOp; simp only [ho]) (by rw [hx]; exact fieldAddr_ok hq hz hl)
    · cases hr
  case h_21 t x f ho =>
    simp only [Option.bind_eq_some_iff] at hr
    obtain ⟨u, hu, hr⟩ := hr
    split at hr
    · rename_i cs
      simp only [Option.bind_eq_some_iff] at hr
      obtain ⟨q, hq, hr⟩ := hr
      obtain ⟨v, hv, hr⟩ := ret_some hr
      have hx := arg_ok h hσ hu
      simp only [conc, Option.map_eq_some_iff] at hx
      obtain ⟨xs, hxs, hx'⟩ := hx
      exact Owes.val h hr (s := Instr.field t (a.eval x) f) (by unfold execOp; simp only [ho]) (by rw [← hx']; exact fieldVal_ok hq hxs hv)
    · cases hr
  case h_22 t x i ho =>
    simp only [Option.bind_eq_some_iff] at hr
    obtain ⟨u, hu, v, hv, hr⟩ := hr
    obtain ⟨q, hq, hr⟩ := ret_some hr
    exact Owes.val h hr (by unfold execOp; simp only [ho]) (indexAddr_ok hq (arg_ok h hσ hu) (arg_ok h hσ hv))
  case h_23 t x i ho =>
    simp only [Option.bind_eq_some_iff] at hr
    obtain ⟨u, hu, v, hv, hr⟩ := hr
    obtain ⟨q, hq, hr⟩ := ret_some hr
    exact Owes.val h hr (by unfold execOp; simp only [ho]) (index_ok hq (arg_ok h hσ hu) (arg_ok h hσ hv))
  case h_24 t x i ok ho =>
    simp only [Option.bind_eq_some_iff] at hr
    obtain ⟨u, hu, v, hv, hr⟩ := hr
    obtain ⟨q, hq, hr⟩ := ret_some hr
    exact Owes.val h hr (by unfold execOp; simp only [ho]) (lookup_ok h hq (arg_ok h hσ hu) (arg_ok h hσ hv))
  case h_25 t m k v ho =>
    simp only [Option.bind_eq_some_iff, Option.map_eq_some_iff] at hr
    obtain ⟨m', hm, k', hk, v', hv, q, hq, rfl⟩ := hr
    exact Owes.unit (by unfold execOp; simp only [ho]) (mapSet_ok h hq (arg_ok h hσ hm) (arg_ok h hσ hk) (arg_ok h hσ hv))
  case h_26 t m k v ho =>
    simp only [Option.bind_eq_some_iff, Option.map_eq_some_iff] at hr
    obtain ⟨m', hm, k', hk, v', hv, q, hq, rfl⟩ := hr
    exact Owes.unit (by unfold execOp; simp only [ho]) (mapSet_ok h hq (arg_ok h hσ hm) (arg_ok h hσ hk) (arg_ok h hσ hv))
  case h_27 t x ho =>
    simp only [Option.bind_eq_some_iff] at hr
    obtain ⟨u, hu, hr⟩ := hr
    split at hr
    · rename_i s ht
      cases hr
      have hx : a.eval x = .string ⟨s.toArray⟩ := (Option.some.inj (arg_ok h hσ hu)).symm
      exact Owes.value (s := Instr.range t (a.eval x)) (by unfold execOp; simp only [ho]) (by rw [hx]; exact range_ok h ht)
    · cases hr
  case h_28 it ho =>
    simp only [Option.bind_eq_some_iff] at hr
    obtain ⟨u, hu, hr⟩ := hr
    split at hr
    · rename_i b
      split at hr
      · rename_i s p hb
        cases hr
        exact Owes.value (s := Instr.next (a.eval it) true o.type) (by unfold execOp; simp only [ho]) (next_ok h hb (arg_ok h hσ hu))
      · cases hr
    · cases hr
  case h_29 x i ho =>
    simp only [Option.bind_eq_some_iff] at hr
    obtain ⟨u, hu, hr⟩ := hr
    split at hr
    · rename_i vs
      obtain ⟨v, hv, hr⟩ := ret_some hr
      have hx := arg_ok h hσ hu
      simp only [conc, Option.map_eq_some_iff] at hx
      obtain ⟨xs, hxs, hx'⟩ := hx
      have hg := concs_get hxs i
      rw [hv, Option.bind_some] at hg
      have hlt : i < vs.length := (List.getElem?_eq_some_iff.1 hv).1
      have hl := concs_length hxs
      rw [List.getElem?_eq_getElem (by omega)] at hg
      refine Owes.val h hr (s := Instr.extract (a.eval x) i) (by unfold execOp; simp only [ho]) ⟨xs[i]'(by omega), ?_, hg.symm⟩
      rw [← hx']
      simp [Instr.extract, show i < xs.length by omega]
    · cases hr
  case h_30 c ho => exact call_ok hC h hσ ho hy hr
  case h_31 => cases hr
end
end Go.Proofs.YtgkpgpdkolpfkaaDoor.V
