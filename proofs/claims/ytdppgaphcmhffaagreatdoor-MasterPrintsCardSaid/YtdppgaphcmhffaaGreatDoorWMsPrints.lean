/- The row of the law 'MasterPrints' and its card, out of its run in 'V'. It holds for every input. -/
import Derived.Test.YtdppgaphcmhffaaGreatDoorJ6
namespace Go.Proofs.YtdppgaphcmhffaaGreatDoor.V
open Go Go.ChangeShapes Go.WideShapes Go.ChangeAt Go.RowKit
set_option linter.unusedSimpArgs false
set_option linter.unusedVariables false
open Go.ChangeMaps (open_string shut_string)
abbrev E9 : Array Value := #[.string ByteArray.empty, .slice none 0 0]
theorem GF (os : Os) : laidMet Tryz.prog Rows.masterPrintsRow.laid ((World.laidAll Tryz.prog os Rows.masterPrintsRow.laid).forCall (fun _ _ => 0) ⟨#[], E9, []⟩).memory :=
  laidMet_laidAll _ (by kernel_rfl) (by kernel_rfl)
theorem Pt (os : Os) {H : Type} (enc : TypeId × Value → H) : ∃ places, DataW.whole enc Tryz.prog ((World.laidAll Tryz.prog os Rows.masterPrintsRow.laid).forCall (fun _ _ => 0) ⟨#[], E9, []⟩).memory Tryz.f5.params.toList Rows.masterPrintsSpec.vars false E9.toList 8 = some ([.lit (.string []), .nil], [], places) :=
  ⟨[], by kernel_rfl⟩
set_option maxRecDepth 100000 in
theorem Nf (os : Os) (started : os.Started) (H : Type) (enc : TypeId × Value → H) (F : Stop.Interp) :
    ReturnsInHanded {} Tryz.checked os 5 .any ((OpenSpec.ofChange Rows.masterPrintsSpec).preRow enc Tryz.prog Tryz.f5 Rows.masterPrintsRow.domain false Rows.masterPrintsRow.laid) (((OpenSpec.ofChange Rows.masterPrintsSpec).at F).post enc Tryz.prog Tryz.f5 false true false false) := by
  obtain ⟨places, hx⟩ := Pt os enc
  refine returnsInHanded_of_row (C := Tryz.checked) (s := OpenSpec.ofChange Rows.masterPrintsSpec) own started (by kernel_rfl) Tryz.func5
    (witness_row_at (enc := enc) (C := Tryz.checked) false (World.laidAll Tryz.prog os Rows.masterPrintsRow.laid) E9 (World.laidAll_os _ _ _) (by kernel_rfl) (by kernel_rfl) (by kernel_rfl)
      (OpenSpec.preRow_of_cond 8 hx (by kernel_rfl) (fun k hk => by cases hk) (by kernel_rfl) (GF os))) ?_
  intro W base args ds gs before hval0 hW _ _ _ hL hsh _
  have hval : ∀ (j : Nat) t v, Tryz.f5.params[j]? = some t → args[j]? = some v → Value.okWide Tryz.prog W .any base t v := hval0
  have hW' := hW
  obtain ⟨p, q, hA0, hV, rfl, hfz, hnd⟩ := hW
  have hA : DataW.TrodAll enc Tryz.prog W 0 (fun _ => true) true Tryz.f5.params.toList args.toList ds p := hA0
  rw [Tryz.params5] at hA hval
  obtain ⟨v0, vs0, d0, ds0, p0, q0, hargs, rfl, rfl, h0, r0⟩ := trodAll_cons hA
  obtain ⟨v1, vs1, d1, ds1, p1, q1, rfl, rfl, rfl, h1, r1⟩ := trodAll_cons r0
  obtain ⟨rfl, rfl, rfl⟩ := trodAll_nil r1
  obtain rfl : args = #[v0, v1] := by cases args; simp_all
  obtain ⟨rfl, rfl⟩ := trodVars_none hV
  have k1 := h1
  have lt1 : ∀ x ∈ p1, x.block < W.heap.size := by obtain ⟨m, hm⟩ := k1; exact DataW.trod_lt m _ _ _ hm
  obtain ⟨s, rfl, rfl, rfl, y0⟩ := open_string Tryz.underlying24 (hval 0 24 v0 rfl rfl) h0
  obtain ⟨Bs, μ0, hR, hBw, hBn, hGl, hTb, hDb⟩ := Jk hsh hL
  obtain ⟨lv, R, L, μ, hR2, _, hcv, hlv, hwf⟩ := Gk hR hBw (hval 1 26 v1 rfl rfl) h1
  have hrun := B0 (Bs ++ L) s.data.toList lv R (hGl.old L) (hTb.old L) (hDb.old L) (by simp; omega) hlv hwf
  have hargs : aA μ [.str s.data.toList, lv] = some [.string s, v1] := by
    have hstr : aB μ (.str s.data.toList) = some (.string s) := by simp [aB]
    simp [aA, hcv, hstr]
  clear hA0 hval0
  refine (KU (by kernel_rfl) hrun hR2 hargs).mono fun e W' ⟨μ', v', he, ho⟩ => ?_
  subst he
  have bel := yL ho.rel
  have hv' := ho.val
  simp only [aB, Option.some.injEq] at hv'
  subst hv'
  exact ⟨_, rfl, _, _, _, [], _, [], hW', trodAll_mk1 (shut_bool Tryz.underlying4 _), trodAll_mk2 (shut_string Tryz.underlying24 y0) (Below.trod laidOut (by kernel_rfl) (of_decide_eq_true (by kernel_rfl)) k1 bel lt1), rfl, bel.frame _, fun h => by cases h⟩
theorem RW : Rows.MasterPrintsSaid :=
  OpenClaim.holds_of_cond 5 Tryz.f5 rfl rfl rfl rfl rfl rfl rfl ⟨rfl, rfl, rfl, rfl, rfl⟩ rfl rfl rfl rfl rfl (by kernel_rfl) Tryz.func5 (by kernel_rfl)
    (of_decide_eq_true (by kernel_rfl)) (by unfold Func.isWrapper; first | (rw [if_pos (by decide +kernel)]; kernel_rfl) | (rw [if_neg (by decide +kernel)]; exact ⟨rfl, rfl⟩))
    (fun os started H enc _ F => by rw [OpenClaim.pre_eq_preRow]; exact Nf os started H enc F)
theorem PA (f : FuncId) (fn : Func) (hf : Tryz.pinned.checked.prog.funcNamed "hearsay/hearsaylaw09.MasterPrints" = some f) (hfn : Tryz.pinned.checked.prog.funcs[f]? = some fn) :
    true = Tryz.pinned.checked.prog.looks [] ∧ ∀ (j : Nat) t, fn.params[j]? = some t → Tryz.pinned.checked.prog.wantsStandIn t = false := by
  obtain rfl : f = 5 := Option.some.inj ((show Tryz.prog.funcNamed "hearsay/hearsaylaw09.MasterPrints" = some 5 by kernel_rfl).symm.trans hf) |>.symm
  obtain rfl : fn = Tryz.f5 := (Option.some.inj (Tryz.func5.symm.trans hfn)).symm
  refine ⟨by kernel_rfl, fun j t ht => ?_⟩
  rw [Tryz.params5] at ht
  have hm : t ∈ [24, 26] := by simpa using Array.mem_of_getElem? ht
  have hall : ([24, 26].all fun u => !Tryz.prog.wantsStandIn u) = true := by kernel_rfl
  exact (show Tryz.prog.wantsStandIn t = false by simpa using List.all_eq_true.1 hall t hm)
end Go.Proofs.YtdppgaphcmhffaaGreatDoor.V
namespace Go.Proofs.YtdppgaphcmhffaaGreatDoor
open Go
/-- The row, tied. -/
theorem masterPrints_holds : Rows.MasterPrintsCardSaid :=
  Claim7.holds_tied_plain_at .later [] _ _ _ _ V.RW (fun _ h => by cases h) (by kernel_rfl) (fun _ h => by cases h) masterPrints_row_tie rfl ⟨rfl, rfl⟩ (by kernel_rfl) rfl V.PA (by kernel_rfl)
#print axioms masterPrints_holds
end Go.Proofs.YtdppgaphcmhffaaGreatDoor
