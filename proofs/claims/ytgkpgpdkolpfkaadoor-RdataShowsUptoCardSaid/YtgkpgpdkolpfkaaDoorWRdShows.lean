/- The row of the law 'RdataShows', where what it reads is small, and its card, out of its run in 'V'. -/
import Derived.Test.YtgkpgpdkolpfkaaDoorWRdBase
import Derived.Test.YtgkpgpdkolpfkaaDoorWLawS
namespace Go.Proofs.YtgkpgpdkolpfkaaDoor.V
open Go Go.ChangeShapes Go.WideShapes Go.ChangeAt Go.RowKit
set_option linter.unusedSimpArgs false
set_option linter.unusedVariables false
open Go.ChangeMaps (open_string shut_string)
abbrev wArgs : Array Value := #[.int .u16 0, .agg #[.string ByteArray.empty, .string ByteArray.empty, .string ByteArray.empty, .int .u32 0, .int .u32 0, .int .u32 0, .int .u32 0, .int .u32 0]]
theorem laidS_met (os : Os) : laidMet Tryd.prog Rows.rdataShowsUptoRow.laid ((World.laidAll Tryd.prog os Rows.rdataShowsUptoRow.laid).forCall (fun _ _ => 0) ⟨#[], wArgs, []⟩).memory :=
  laidMet_laidAll _ (by kernel_rfl) (by kernel_rfl)
theorem readsS (os : Os) {H : Type} (enc : TypeId × Value → H) : ∃ places, DataW.whole enc Tryd.prog ((World.laidAll Tryd.prog os Rows.rdataShowsUptoRow.laid).forCall (fun _ _ => 0) ⟨#[], wArgs, []⟩).memory Tryd.f4.params.toList Rows.rdataShowsSpec.vars false wArgs.toList 8 = some ([.lit (.int .u16 0), .agg [.lit (.string []), .lit (.string []), .lit (.string []), .agg [.lit (.int .u32 0), .lit (.int .u32 0), .lit (.int .u32 0), .lit (.int .u32 0), .lit (.int .u32 0)]]], [], places) :=
  ⟨[], by kernel_rfl⟩
set_option maxRecDepth 100000 in
theorem liftedS (os : Os) (started : os.Started) (H : Type) (enc : TypeId × Value → H) (F : Stop.Interp) :
    ReturnsInHanded {} Tryd.checked os 4 .any ((Rows.OpenSpec.upto Rows.rdataShowsSpec).preRow enc Tryd.prog Tryd.f4 Rows.rdataShowsUptoRow.domain false Rows.rdataShowsUptoRow.laid) (((Rows.OpenSpec.upto Rows.rdataShowsSpec).at F).post enc Tryd.prog Tryd.f4 false true false false) := by
  obtain ⟨places, hx⟩ := readsS os enc
  refine returnsInHanded_of_row (C := Tryd.checked) (s := Rows.OpenSpec.upto Rows.rdataShowsSpec) own started (by kernel_rfl) Tryd.func4
    (witness_row_at (enc := enc) (C := Tryd.checked) false (World.laidAll Tryd.prog os Rows.rdataShowsUptoRow.laid) wArgs (World.laidAll_os _ _ _) (by kernel_rfl) (by kernel_rfl) (by kernel_rfl)
      (OpenSpec.preRow_of_cond 8 hx (by kernel_rfl) (fun k hk => by cases hk; kernel_rfl) (by kernel_rfl) (laidS_met os))) ?_
  intro W base args ds gs before hval0 hW _ hk _ hL hsh _
  have hk := hk _ rfl
  have hval : ∀ (j : Nat) t v, Tryd.f4.params[j]? = some t → args[j]? = some v → Value.okWide Tryd.prog W .any base t v := hval0
  have hW' := hW
  obtain ⟨p, q, hA0, hV, rfl, hfz, hnd⟩ := hW
  have hA : DataW.TrodAll enc Tryd.prog W 0 (fun _ => true) true Tryd.f4.params.toList args.toList ds p := hA0
  rw [Tryd.params4] at hA hval
  obtain ⟨v0, vs0, d0, ds0, p0, q0, hargs, rfl, rfl, h0, r0⟩ := trodAll_cons hA
  obtain ⟨v1, vs1, d1, ds1, p1, q1, hargs1, rfl, rfl, h1, r1⟩ := trodAll_cons r0
  obtain ⟨rfl, rfl, rfl⟩ := trodAll_nil r1
  subst hargs1
  obtain rfl : args = #[v0, v1] := by cases args; simp_all
  obtain ⟨rfl, rfl⟩ := trodVars_none hV
  have k1 := h1
  have lt1 : ∀ x ∈ p1, x.block < W.heap.size := by obtain ⟨m, hm⟩ := k1; exact DataW.trod_lt m _ _ _ hm
  obtain ⟨t, rfl, rfl, rfl, wt⟩ := open_int Tryd.underlying32 (hval 0 32 v0 rfl rfl) h0
  obtain ⟨x, hcx, ⟨n0, n1, n2, n3, n4⟩, hbk⟩ := open_data (hval 1 37 v1 rfl rfl) h1
  have hbound : Rows.uptoBulk d1 ≤ 1048576 := by
    have h := of_decide_eq_true hk
    simp only [List.append_nil, Rows.uptoBulkAll, Rows.uptoBulk] at h
    omega
  have hwf : x.wf := ⟨by omega, by omega, by omega, n0, n1, n2, n3, n4⟩
  obtain ⟨Bs, hBl, hBw, hR, hTk, hTb, hDb⟩ := of_laid hsh (show laidMetH Tryd.prog Rows.rdataChecksUptoRow.laid W from hL)
  have hrun := lawShows t x Bs hTk hTb hDb hwf
  have hargs : concs (mu0 7) [.int .u16 t, .agg x.cells] = some [.int .u16 t, v1] := by
    rw [concs, conc]; simp [concs, hcx]
  clear hA0 hval0
  refine (calls_of (by kernel_rfl) hrun hR hargs).mono fun e W' ⟨μ', v', he, ho⟩ => ?_
  subst he
  have bel := start_below ho.rel
  have hv' := ho.val
  simp only [conc, Option.some.injEq] at hv'
  subst hv'
  exact ⟨_, rfl, _, _, _, [], _, [], hW', trodAll_mk1 (shut_bool Tryd.underlying4 _), trodAll_mk2 (shut_int Tryd.underlying32 wt) (Below.trod laidOut (by kernel_rfl) (of_decide_eq_true (by kernel_rfl)) k1 bel lt1), rfl, bel.frame _, fun h => by cases h⟩
theorem saidS : Rows.RdataShowsUptoSaid :=
  OpenClaim.holds_of_cond 4 Tryd.f4 rfl rfl rfl rfl rfl rfl rfl ⟨rfl, rfl, rfl, rfl, rfl⟩ rfl rfl rfl rfl rfl (by kernel_rfl) Tryd.func4 (by kernel_rfl)
    (of_decide_eq_true (by kernel_rfl)) (by unfold Func.isWrapper; first | (rw [if_pos (by decide +kernel)]; kernel_rfl) | (rw [if_neg (by decide +kernel)]; exact ⟨rfl, rfl⟩))
    (fun os started H enc _ F => by rw [OpenClaim.pre_eq_preRow]; exact liftedS os started H enc F)
theorem plainS (f : FuncId) (fn : Func) (hf : Tryd.pinned.checked.prog.funcNamed "hearsay/hearsaylaw04.RdataShows" = some f) (hfn : Tryd.pinned.checked.prog.funcs[f]? = some fn) :
    true = Tryd.pinned.checked.prog.looks [] ∧ ∀ (j : Nat) t, fn.params[j]? = some t → Tryd.pinned.checked.prog.wantsStandIn t = false := by
  obtain rfl : f = 4 := Option.some.inj ((show Tryd.prog.funcNamed "hearsay/hearsaylaw04.RdataShows" = some 4 by kernel_rfl).symm.trans hf) |>.symm
  obtain rfl : fn = Tryd.f4 := (Option.some.inj (Tryd.func4.symm.trans hfn)).symm
  refine ⟨by kernel_rfl, fun j t ht => ?_⟩
  rw [Tryd.params4] at ht
  have hm : t ∈ [32, 37] := by simpa using Array.mem_of_getElem? ht
  have hall : ([32, 37].all fun u => !Tryd.prog.wantsStandIn u) = true := by kernel_rfl
  exact (show Tryd.prog.wantsStandIn t = false by simpa using List.all_eq_true.1 hall t hm)
end Go.Proofs.YtgkpgpdkolpfkaaDoor.V
namespace Go.Proofs.YtgkpgpdkolpfkaaDoor
open Go
/-- The row, tied. -/
theorem rdataShowsUpto_holds : Rows.RdataShowsUptoCardSaid :=
  Claim7.holds_tied_plain_at .later [] _ _ _ _ V.saidS (fun _ h => by cases h) (by kernel_rfl) (fun _ h => by cases h) rdataShowsUpto_row_tie rfl ⟨rfl, rfl⟩ (by kernel_rfl) rfl V.plainS (by kernel_rfl)
#print axioms rdataShowsUpto_holds
end Go.Proofs.YtgkpgpdkolpfkaaDoor
