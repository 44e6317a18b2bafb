/- The row of the law 'RdataBack', where what it reads is small, and its card, out of its run in 'V'. -/
import Derived.Test.YtgkpgpdkolpfkaaDoorJ5
import Derived.Test.YtgkpgpdkolpfkaaDoorJ6
namespace Go.Proofs.YtgkpgpdkolpfkaaDoor.V
open Go Go.ChangeShapes Go.WideShapes Go.ChangeAt Go.RowKit
set_option linter.unusedSimpArgs false
set_option linter.unusedVariables false
open Go.ChangeMaps (open_string shut_string)
abbrev wArgs : Array Value := #[.slice none 0 0, .slice none 0 0]
theorem laidB_met (os : Os) : laidMet Tryd.prog Rows.rdataBackUptoRow.laid ((World.laidAll Tryd.prog os Rows.rdataBackUptoRow.laid).forCall (fun _ _ => 0) ⟨#[], wArgs, []⟩).memory :=
  laidMet_laidAll _ (by kernel_rfl) (by kernel_rfl)
theorem readsB (os : Os) {H : Type} (enc : TypeId × Value → H) : ∃ places, DataW.whole enc Tryd.prog ((World.laidAll Tryd.prog os Rows.rdataBackUptoRow.laid).forCall (fun _ _ => 0) ⟨#[], wArgs, []⟩).memory Tryd.f6.params.toList Rows.rdataBackSpec.vars false wArgs.toList 8 = some ([.nil, .nil], [], places) :=
  ⟨[], by kernel_rfl⟩
set_option maxRecDepth 100000 in
theorem liftedB (os : Os) (started : os.Started) (H : Type) (enc : TypeId × Value → H) (F : Stop.Interp) :
    ReturnsInHanded {} Tryd.checked os 6 .any ((Rows.OpenSpec.upto Rows.rdataBackSpec).preRow enc Tryd.prog Tryd.f6 Rows.rdataBackUptoRow.domain false Rows.rdataBackUptoRow.laid) (((Rows.OpenSpec.upto Rows.rdataBackSpec).at F).post enc Tryd.prog Tryd.f6 false true false false) := by
  obtain ⟨places, hx⟩ := readsB os enc
  refine returnsInHanded_of_row (C := Tryd.checked) (s := Rows.OpenSpec.upto Rows.rdataBackSpec) own started (by kernel_rfl) Tryd.func6
    (witness_row_at (enc := enc) (C := Tryd.checked) false (World.laidAll Tryd.prog os Rows.rdataBackUptoRow.laid) wArgs (World.laidAll_os _ _ _) (by kernel_rfl) (by kernel_rfl) (by kernel_rfl)
      (OpenSpec.preRow_of_cond 8 hx (by kernel_rfl) (fun k hk => by cases hk; kernel_rfl) (by kernel_rfl) (laidB_met os))) ?_
  intro W base args ds gs before hval0 hW _ hk _ hL hsh _
  have hk := hk _ rfl
  have hval : ∀ (j : Nat) t v, Tryd.f6.params[j]? = some t → args[j]? = some v → Value.okWide Tryd.prog W .any base t v := hval0
  have hW' := hW
  obtain ⟨p, q, hA0, hV, rfl, hfz, hnd⟩ := hW
  have hA : DataW.TrodAll enc Tryd.prog W 0 (fun _ => true) true Tryd.f6.params.toList args.toList ds p := hA0
  rw [Tryd.params6] at hA hval
  obtain ⟨v0, vs0, d0, ds0, p0, q0, hargs, rfl, rfl, h0, r0⟩ := trodAll_cons hA
  obtain ⟨v1, vs1, d1, ds1, p1, q1, rfl, rfl, rfl, h1, r1⟩ := trodAll_cons r0
  obtain ⟨rfl, rfl, rfl⟩ := trodAll_nil r1
  obtain rfl : args = #[v0, v1] := by cases args; simp_all
  obtain ⟨rfl, rfl⟩ := trodVars_none hV
  have k0 := h0
  have k1 := h1
  have lt0 : ∀ x ∈ p0, x.block < W.heap.size := by obtain ⟨m, hm⟩ := k0; exact DataW.trod_lt m _ _ _ hm
  have lt1 : ∀ x ∈ p1, x.block < W.heap.size := by obtain ⟨m, hm⟩ := k1; exact DataW.trod_lt m _ _ _ hm
  have hv0 := hval 0 22 v0 rfl rfl
  have hv1 := hval 1 31 v1 rfl rfl
  have hbound : Rows.uptoBulk d0 + Rows.uptoBulk d1 ≤ 1048576 := by
    have h := of_decide_eq_true hk
    simp only [List.append_nil, Rows.uptoBulkAll] at h
    omega
  obtain ⟨Bs, hBl, hBw, hR, hTk, hTb, hDb⟩ := of_laid hsh (show laidMetH Tryd.prog Rows.rdataChecksUptoRow.laid W from hL)
  obtain ⟨lv, R, L, μ, hR2, hcv, hlv, hwf, hRl, hLf⟩ : ∃ (lv : AV) (R : List Itm) (L : Hp) (μ : Mu), HRel Tryd.prog (start W) μ (Bs ++ L) W ∧ conc μ lv = some v0 ∧ ((lv = .nils ∧ R = []) ∨ ∃ lb c e kd, lv = .slice lb 0 R.length c ∧ (Bs ++ L)[lb]? = some (.cells (itsC R) e kd)) ∧ (∀ x ∈ R, x.d.wf) ∧ R.length ≤ 1048576 ∧ (∀ x ∈ L, apart x = false) := by
    obtain ⟨fuel, ht⟩ := h0
    obtain ⟨oa, ol, oc, rfl⟩ := okWide_slice Tryd.underlying22 hv0
    rcases DataW.trod_slice Tryd.underlying22 ht with ⟨hs, _⟩ | ⟨a, len, cap, elems, rest, n, _, hs, hd, _, hl, hm, hlen, hel, _, _⟩
    · have hs : [Value.slice oa ol oc] = [.slice none 0 0] := hs
      simp only [List.cons.injEq, Value.slice.injEq, and_true] at hs
      obtain ⟨rfl, rfl, rfl⟩ := hs
      exact ⟨.nils, [], [], _, by rw [List.append_nil]; exact hR, rfl, .inl ⟨rfl, rfl⟩, by simp, by simp, by simp⟩
    · have hs : [Value.slice oa ol oc] = [.slice (some a) len cap] := hs
      simp only [List.cons.injEq, Value.slice.injEq, and_true] at hs
      obtain ⟨rfl, rfl, rfl⟩ := hs
      unfold Value.okWide at hv0
      rw [Tryd.underlying22] at hv0
      have hok : Cell.ok Tryd.prog W .any base 22 (.slice (some a) ol oc) := by
        simpa [Cell.okWide, Tryd.underlying22] using hv0
      simp only [Cell.ok, Tryd.underlying22] at hok
      obtain ⟨_, _, _, hspot, row, cells, hsh, hlies⟩ := hok
      rw [cells39] at hel
      obtain ⟨R, hRl, ⟨vs, hvs, hvl, hvc⟩, h1, h2, h3⟩ := items_ok ol elems hlen hel
      have hB := fun μ => ro_block (P := Tryd.prog) (cap := oc) (μ := μ) hspot (hvs μ) hvc hsh (liesAt_le hlies)
      have hblk : a.block < W.heap.size := by
        unfold World.shape? at hsh
        cases hh : W.heap[a.block]? with
        | none => rw [hh] at hsh; cases hsh
        | some o => exact (Array.getElem?_eq_some_iff.1 hh).1
      have hbw : Rows.uptoBulkAll (elems.map (·.1)) ≤ 1048576 := by
        simp only [Prod.mk.injEq] at hd
        obtain ⟨rfl, _⟩ := hd
        simp only [Rows.uptoBulk] at hbound
        omega
      refine ⟨.slice Bs.length 0 R.length (.ex oc), R, [.cells (itsC R) row .ro], _, hR.ro hBw hblk (hB _), ?_, .inr ⟨Bs.length, _, row, .ro, rfl, by simp⟩, fun x hx => ?_, by omega, fun y hy => by rw [List.mem_singleton] at hy; subst hy; rfl⟩
      · obtain ⟨ab, ao, asp⟩ := a
        simp only at hspot
        subst hspot
        rw [hRl]
        simp [conc, upd]
      · have := h2 x hx
        obtain ⟨q0, q1, q2, q3, q4⟩ := h1 x hx
        exact ⟨by omega, by omega, by omega, q0, q1, q2, q3, q4⟩
  have hno2 : ∀ x ∈ Bs ++ L, apart x = false := fun x hx => by
    rcases List.mem_append.1 hx with h | h
    · exact hBw x h
    · exact hLf x h
  obtain ⟨zv, Z, L2, μ2, hR3, hcv2, hcz, hrz, hZl⟩ : ∃ (zv : AV) (Z : List UInt8) (L2 : Hp) (μ2 : Mu), HRel Tryd.prog (start W) μ2 ((Bs ++ L) ++ L2) W ∧ conc μ2 lv = some v0 ∧ conc μ2 zv = some v1 ∧ Rd ((Bs ++ L) ++ L2) zv Z ∧ Z.length ≤ 1048576 := by
    obtain ⟨fuel, ht⟩ := h1
    obtain ⟨oa, ol, oc, rfl⟩ := okWide_slice Tryd.underlying31 hv1
    rcases DataW.trod_slice Tryd.underlying31 ht with ⟨hs, _⟩ | ⟨a, len, cap, elems, rest, n, _, hs, hd, _, hl, hm, hlen, hel, _, _⟩
    · have hs : [Value.slice oa ol oc] = [.slice none 0 0] := hs
      simp only [List.cons.injEq, Value.slice.injEq, and_true] at hs
      obtain ⟨rfl, rfl, rfl⟩ := hs
      exact ⟨.nils, [], [], μ, by rw [List.append_nil]; exact hR2, hcv, rfl, .inl ⟨rfl, rfl⟩, by simp⟩
    · have hs : [Value.slice oa ol oc] = [.slice (some a) len cap] := hs
      simp only [List.cons.injEq, Value.slice.injEq, and_true] at hs
      obtain ⟨rfl, rfl, rfl⟩ := hs
      unfold Value.okWide at hv1
      rw [Tryd.underlying31] at hv1
      have hok : Cell.ok Tryd.prog W .any base 31 (.slice (some a) ol oc) := by
        simpa [Cell.okWide, Tryd.underlying31] using hv1
      simp only [Cell.ok, Tryd.underlying31] at hok
      obtain ⟨_, hcap, _, hspot, row, cells, hsh, hlies⟩ := hok
      rw [cells5] at hel
      obtain ⟨Z, hZl, ⟨vs, hvs, hvl, hvc⟩, h3⟩ := bytes_ok ol elems hlen hel
      have hB := fun μ => ro_block (P := Tryd.prog) (cap := oc) (μ := μ) hspot (hvs μ) hvc hsh (liesAt_le hlies)
      have hblk : a.block < W.heap.size := by
        unfold World.shape? at hsh
        cases hh : W.heap[a.block]? with
        | none => rw [hh] at hsh; cases hsh
        | some o => exact (Array.getElem?_eq_some_iff.1 hh).1
      have hbw : Rows.uptoBulkAll (elems.map (·.1)) ≤ 1048576 := by
        simp only [Prod.mk.injEq] at hd
        obtain ⟨rfl, _⟩ := hd
        simp only [Rows.uptoBulk] at hbound
        omega
      refine ⟨.slice (Bs ++ L).length 0 Z.length (.ex oc), Z, [.cells (u8s Z) row .ro], _, hR2.ro hno2 hblk (hB _), conc_le (hR2.le_upd _) _ hcv, ?_, .inr ⟨(Bs ++ L).length, 0, _, [], [], row, .ro, rfl, rfl, by simp, .inl ⟨oc, rfl, by omega⟩⟩, by omega⟩
      obtain ⟨ab, ao, asp⟩ := a
      simp only at hspot
      subst hspot
      rw [hZl]
      simp [conc, upd]
  have hlv2 : (lv = .nils ∧ R = []) ∨ ∃ lb c e kd, lv = .slice lb 0 R.length c ∧ ((Bs ++ L) ++ L2)[lb]? = some (.cells (itsC R) e kd) := by
    rcases hlv with h | ⟨lb, c, e, kd, h1, h2⟩
    · exact .inl h
    · exact .inr ⟨lb, c, e, kd, h1, get_app h2⟩
  have hrun := lawBack lv zv R Z ((Bs ++ L) ++ L2) ((hTk.old L).old L2) ((hTb.old L).old L2) ((hDb.old L).old L2) hRl hwf hrz hZl hlv2
  have hargs : concs μ2 [lv, zv] = some [v0, v1] := by
    simp [concs, hcv2, hcz]
  clear hA0 hval0
  refine (calls_of (by kernel_rfl) hrun hR3 hargs).mono fun e W' ⟨μ', v', he, ho⟩ => ?_
  subst he
  have bel := start_below ho.rel
  have hv' := ho.val
  simp only [conc, Option.some.injEq] at hv'
  subst hv'
  exact ⟨_, rfl, _, _, _, [], _, [], hW', trodAll_mk1 (shut_bool Tryd.underlying4 _), trodAll_mk2 (Below.trod laidOut (by kernel_rfl) (of_decide_eq_true (by kernel_rfl)) k0 bel lt0) (Below.trod laidOut (by kernel_rfl) (of_decide_eq_true (by kernel_rfl)) k1 bel lt1), rfl, bel.frame _, fun h => by cases h⟩
theorem saidB : Rows.RdataBackUptoSaid :=
  OpenClaim.holds_of_cond 6 Tryd.f6 rfl rfl rfl rfl rfl rfl rfl ⟨rfl, rfl, rfl, rfl, rfl⟩ rfl rfl rfl rfl rfl (by kernel_rfl) Tryd.func6 (by kernel_rfl)
    (of_decide_eq_true (by kernel_rfl)) (by unfold Func.isWrapper; first | (rw [if_pos (by decide +kernel)]; kernel_rfl) | (rw [if_neg (by decide +kernel)]; exact ⟨rfl, rfl⟩))
    (fun os started H enc _ F => by rw [OpenClaim.pre_eq_preRow]; exact liftedB os started H enc F)
theorem plainB (f : FuncId) (fn : Func) (hf : Tryd.pinned.checked.prog.funcNamed "hearsay/hearsaylaw04.RdataBack" = some f) (hfn : Tryd.pinned.checked.prog.funcs[f]? = some fn) :
    true = Tryd.pinned.checked.prog.looks [] ∧ ∀ (j : Nat) t, fn.params[j]? = some t → Tryd.pinned.checked.prog.wantsStandIn t = false := by
  obtain rfl : f = 6 := Option.some.inj ((show Tryd.prog.funcNamed "hearsay/hearsaylaw04.RdataBack" = some 6 by kernel_rfl).symm.trans hf) |>.symm
  obtain rfl : fn = Tryd.f6 := (Option.some.inj (Tryd.func6.symm.trans hfn)).symm
  refine ⟨by kernel_rfl, fun j t ht => ?_⟩
  rw [Tryd.params6] at ht
  have hm : t ∈ [22, 31] := by simpa using Array.mem_of_getElem? ht
  have hall : ([22, 31].all fun u => !Tryd.prog.wantsStandIn u) = true := by kernel_rfl
  exact (show Tryd.prog.wantsStandIn t = false by simpa using List.all_eq_true.1 hall t hm)
end Go.Proofs.YtgkpgpdkolpfkaaDoor.V
namespace Go.Proofs.YtgkpgpdkolpfkaaDoor
open Go
/-- The row, tied. -/
theorem rdataBackUpto_holds : Rows.RdataBackUptoCardSaid :=
  Claim7.holds_tied_plain_at .later [] _ _ _ _ V.saidB (fun _ h => by cases h) (by kernel_rfl) (fun _ h => by cases h) rdataBackUpto_row_tie rfl ⟨rfl, rfl⟩ (by kernel_rfl) rfl V.plainB (by kernel_rfl)
#print axioms rdataBackUpto_holds
end Go.Proofs.YtgkpgpdkolpfkaaDoor
