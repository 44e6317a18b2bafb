/- The row of the law 'MasterHolds' and its card, out of its run in 'V'. It holds for every input. -/
import Derived.Test.YtdppgaphcmhffaaGreatDoorJ5
namespace Go.Proofs.YtdppgaphcmhffaaGreatDoor.V
open Go Go.ChangeShapes Go.WideShapes Go.ChangeAt Go.RowKit
set_option linter.unusedSimpArgs false
set_option linter.unusedVariables false
open Go.ChangeMaps (open_string shut_string)
abbrev hArgs : Array Value := #[.slice none 0 0, .int .u16 0]
theorem laidH_met (os : Os) : laidMet Tryz.prog Rows.masterHoldsRow.laid ((World.laidAll Tryz.prog os Rows.masterHoldsRow.laid).forCall (fun _ _ => 0) ⟨#[], hArgs, []⟩).memory :=
  laidMet_laidAll _ (by kernel_rfl) (by kernel_rfl)
theorem readsH (os : Os) {H : Type} (enc : TypeId × Value → H) : ∃ places, DataW.whole enc Tryz.prog ((World.laidAll Tryz.prog os Rows.masterHoldsRow.laid).forCall (fun _ _ => 0) ⟨#[], hArgs, []⟩).memory Tryz.f3.params.toList Rows.masterHoldsSpec.vars false hArgs.toList 8 = some ([.nil, .lit (.int .u16 0)], [], places) :=
  ⟨[], by kernel_rfl⟩
set_option maxRecDepth 100000 in
theorem liftedH (os : Os) (started : os.Started) (H : Type) (enc : TypeId × Value → H) (F : Stop.Interp) :
    ReturnsInHanded {} Tryz.checked os 3 .any ((OpenSpec.ofChange Rows.masterHoldsSpec).preRow enc Tryz.prog Tryz.f3 Rows.masterHoldsRow.domain false Rows.masterHoldsRow.laid) (((OpenSpec.ofChange Rows.masterHoldsSpec).at F).post enc Tryz.prog Tryz.f3 false true false false) := by
  obtain ⟨places, hx⟩ := readsH os enc
  refine returnsInHanded_of_row (C := Tryz.checked) (s := OpenSpec.ofChange Rows.masterHoldsSpec) own started (by kernel_rfl) Tryz.func3
    (witness_row_at (enc := enc) (C := Tryz.checked) false (World.laidAll Tryz.prog os Rows.masterHoldsRow.laid) hArgs (World.laidAll_os _ _ _) (by kernel_rfl) (by kernel_rfl) (by kernel_rfl)
      (OpenSpec.preRow_of_cond 8 hx (by kernel_rfl) (fun k hk => by cases hk) (by kernel_rfl) (laidH_met os))) ?_
  intro W base args ds gs before hval0 hW _ _ _ hL hsh _
  have hval : ∀ (j : Nat) t v, Tryz.f3.params[j]? = some t → args[j]? = some v → Value.okWide Tryz.prog W .any base t v := hval0
  have hW' := hW
  obtain ⟨p, q, hA0, hV, rfl, hfz, hnd⟩ := hW
  have hA : DataW.TrodAll enc Tryz.prog W 0 (fun _ => true) true Tryz.f3.params.toList args.toList ds p := hA0
  rw [Tryz.params3] at hA hval
  obtain ⟨v0, vs0, d0, ds0, p0, q0, hargs, rfl, rfl, h0, r0⟩ := trodAll_cons hA
  obtain ⟨v1, vs1, d1, ds1, p1, q1, rfl, rfl, rfl, h1, r1⟩ := trodAll_cons r0
  obtain ⟨rfl, rfl, rfl⟩ := trodAll_nil r1
  obtain rfl : args = #[v0, v1] := by cases args; simp_all
  obtain ⟨rfl, rfl⟩ := trodVars_none hV
  have k0 := h0
  have lt0 : ∀ x ∈ p0, x.block < W.heap.size := by obtain ⟨m, hm⟩ := k0; exact DataW.trod_lt m _ _ _ hm
  have hv0 := hval 0 22 v0 rfl rfl
  obtain ⟨t, rfl, rfl, rfl, wt⟩ := open_int Tryz.underlying23 (hval 1 23 v1 rfl rfl) h1
  obtain ⟨n, rfl, hn⟩ := u16n_of wt
  obtain ⟨Bs, μ0, hR, hBw, hBn, hGl⟩ := of_laidM hsh hL
  obtain ⟨lv, R, L, μ, hR2, hcv, hlv, hwf⟩ : ∃ (lv : AV) (R : List Ln) (L : Hp) (μ : Mu), HRel Tryz.prog (start W) μ (Bs ++ L) W ∧ conc μ lv = some v0 ∧ Hv (Bs ++ L) lv R ∧ (∀ x ∈ R, x.how ≤ 255 ∧ x.own ≤ 255 ∧ x.ttl ≤ 65535) := by
    obtain ⟨fuel, ht⟩ := h0
    obtain ⟨oa, ol, oc, rfl⟩ := okWide_slice Tryz.underlying22 hv0
    rcases DataW.trod_slice Tryz.underlying22 ht with ⟨hs, _⟩ | ⟨a, len, cap, elems, rest, n, _, hs, hd, _, hl, hm, hlen, hel, _, _⟩
    · have hs : [Value.slice oa ol oc] = [.slice none 0 0] := hs
      simp only [List.cons.injEq, Value.slice.injEq, and_true] at hs
      obtain ⟨rfl, rfl, rfl⟩ := hs
      exact ⟨.nils, [], [], _, by rw [List.append_nil]; exact hR, rfl, .inl ⟨rfl, rfl⟩, by simp⟩
    · have hs : [Value.slice oa ol oc] = [.slice (some a) len cap] := hs
      simp only [List.cons.injEq, Value.slice.injEq, and_true] at hs
      obtain ⟨rfl, rfl, rfl⟩ := hs
      unfold Value.okWide at hv0
      rw [Tryz.underlying22] at hv0
      have hok : Cell.ok Tryz.prog W .any base 22 (.slice (some a) ol oc) := by
        simpa [Cell.okWide, Tryz.underlying22] using hv0
      simp only [Cell.ok, Tryz.underlying22] at hok
      obtain ⟨_, _, _, hspot, row, cells, hsh, hlies⟩ := hok
      rw [cellsL] at hel
      obtain ⟨R, hRl, ⟨vs, hvs, hvl, hvc⟩, h1⟩ := lines_ok ol elems hlen hel
      have hB := fun μ => ro_block (P := Tryz.prog) (cap := oc) (μ := μ) hspot (hvs μ) hvc hsh (liesAt_le hlies)
      have hblk : a.block < W.heap.size := by
        unfold World.shape? at hsh
        cases hh : W.heap[a.block]? with
        | none => rw [hh] at hsh; cases hsh
        | some o => exact (Array.getElem?_eq_some_iff.1 hh).1
      refine ⟨.slice Bs.length 0 R.length (.ex oc), R, [.cells (lnC R) row .ro], _, hR.ro hBw hblk (hB _), ?_, .inr ⟨Bs.length, _, row, .ro, rfl, by simp⟩, h1⟩
      obtain ⟨ab, ao, asp⟩ := a
      simp only at hspot
      subst hspot
      rw [hRl]
      simp [conc, upd]
  have hrun := law_Holds (Bs ++ L) lv R n hn (hGl.old L) (by simp; omega) hlv hwf
  have hargs : concs μ [lv, .int .u16 (n : Nat)] = some [v0, .int .u16 (n : Nat)] := by
    have hint : conc μ (.int .u16 (n : Nat)) = some (.int .u16 (n : Nat)) := rfl
    simp [concs, hcv, hint]
  clear hA0 hval0
  refine (calls_of (by kernel_rfl) hrun hR2 hargs).mono fun e W' ⟨μ', v', he, ho⟩ => ?_
  subst he
  have bel := start_below ho.rel
  have hv' := ho.val
  simp only [conc, Option.some.injEq] at hv'
  subst hv'
  exact ⟨_, rfl, _, _, _, [], _, [], hW', trodAll_mk1 (shut_bool Tryz.underlying4 _), trodAll_mk2 (Below.trod laidOut (by kernel_rfl) (of_decide_eq_true (by kernel_rfl)) k0 bel lt0) (shut_int Tryz.underlying23 wt), rfl, bel.frame _, fun h => by cases h⟩
theorem saidH : Rows.MasterHoldsSaid :=
  OpenClaim.holds_of_cond 3 Tryz.f3 rfl rfl rfl rfl rfl rfl rfl ⟨rfl, rfl, rfl, rfl, rfl⟩ rfl rfl rfl rfl rfl (by kernel_rfl) Tryz.func3 (by kernel_rfl)
    (of_decide_eq_true (by kernel_rfl)) (by unfold Func.isWrapper; first | (rw [if_pos (by decide +kernel)]; kernel_rfl) | (rw [if_neg (by decide +kernel)]; exact ⟨rfl, rfl⟩))
    (fun os started H enc _ F => by rw [OpenClaim.pre_eq_preRow]; exact liftedH os started H enc F)
theorem plainH (f : FuncId) (fn : Func) (hf : Tryz.pinned.checked.prog.funcNamed "hearsay/hearsaylaw09.MasterHolds" = some f) (hfn : Tryz.pinned.checked.prog.funcs[f]? = some fn) :
    true = Tryz.pinned.checked.prog.looks [] ∧ ∀ (j : Nat) t, fn.params[j]? = some t → Tryz.pinned.checked.prog.wantsStandIn t = false := by
  obtain rfl : f = 3 := Option.some.inj ((show Tryz.prog.funcNamed "hearsay/hearsaylaw09.MasterHolds" = some 3 by kernel_rfl).symm.trans hf) |>.symm
  obtain rfl : fn = Tryz.f3 := (Option.some.inj (Tryz.func3.symm.trans hfn)).symm
  refine ⟨by kernel_rfl, fun j t ht => ?_⟩
  rw [Tryz.params3] at ht
  have hm : t ∈ [22, 23] := by simpa using Array.mem_of_getElem? ht
  have hall : ([22, 23].all fun u => !Tryz.prog.wantsStandIn u) = true := by kernel_rfl
  exact (show Tryz.prog.wantsStandIn t = false by simpa using List.all_eq_true.1 hall t hm)
end Go.Proofs.YtdppgaphcmhffaaGreatDoor.V
namespace Go.Proofs.YtdppgaphcmhffaaGreatDoor
open Go
/-- The row, tied. -/
theorem masterHolds_holds : Rows.MasterHoldsCardSaid :=
  Claim7.holds_tied_plain_at .later [] _ _ _ _ V.saidH (fun _ h => by cases h) (by kernel_rfl) (fun _ h => by cases h) masterHolds_row_tie rfl ⟨rfl, rfl⟩ (by kernel_rfl) rfl V.plainH (by kernel_rfl)
#print axioms masterHolds_holds
end Go.Proofs.YtdppgaphcmhffaaGreatDoor
