/- The row of the law 'RdataTypes', where what it reads is small, and its card, out of its run in 'V'. -/
import Derived.Test.YtgkpgpdkolpfkaaDoorJ5
namespace Go.Proofs.YtgkpgpdkolpfkaaDoor.V
open Go Go.ChangeShapes Go.WideShapes Go.ChangeAt Go.RowKit
set_option linter.unusedSimpArgs false
set_option linter.unusedVariables false
open Go.ChangeMaps (open_string shut_string)
theorem gRange : Tryd.prog.globalNamed "strconv.ErrRange" = some 4 := by kernel_rfl
theorem gSyntax : Tryd.prog.globalNamed "strconv.ErrSyntax" = some 3 := by kernel_rfl
theorem tRange : (Tryd.prog.globals[4]?).map (·.type) = some 80 := by kernel_rfl
theorem tSyntax : (Tryd.prog.globals[3]?).map (·.type) = some 80 := by kernel_rfl
theorem u16_of {n : Int} (h : (Lit.int .u16 n).wf = true) : ∃ t : Nat, n = (t : Int) ∧ t < 65536 := by
  simp [Lit.wf, IntKind.min, IntKind.max, IntKind.bits, IntKind.signed] at h
  exact ⟨n.toNat, by omega, by omega⟩
set_option maxRecDepth 100000 in
/-- What the listed variables give. -/
theorem of_laidT {W : World} (hsh : W.ShapedOpen Tryd.prog) (h : laidMetH Tryd.prog Rows.rdataTypesUptoRow.laid W) : ∃ (Bs : List ABlk) (μ : Mu), HRel Tryd.prog (start W) μ Bs W ∧ Tk Bs ∧ Tb Bs ∧ Db Bs ∧ Te Bs := by
  have hsz := shaped_size gsize hsh lastRow
  have h : laidMet Tryd.prog Rows.rdataTypesUptoRow.laid W := h
  obtain ⟨ps, ⟨_, _, _, _, _, _, _, _, _, _, ⟨g6, t6, c6, f6, p6, q6, hg6, ht6, hv6, hd6, ⟨g1, t1, c1, f1, p1, q1, hg1, ht1, hv1, hd1, ⟨g4, t4, c4, f4, p4, q4, hg4, ht4, hv4, hd4, ⟨g3, t3, c3, f3, p3, q3, hg3, ht3, hv3, hd3, ⟨g0, t0, c0, f0, p0, q0, hg0, ht0, hv0, hd0, _, _⟩, _⟩, _⟩, _⟩, _⟩, _⟩, _, _⟩ := h
  obtain rfl := Option.some.inj (gDe64.symm.trans hg6)
  obtain rfl := Option.some.inj (gPow.symm.trans hg1)
  obtain rfl := Option.some.inj (gRange.symm.trans hg4)
  obtain rfl := Option.some.inj (gSyntax.symm.trans hg3)
  obtain rfl := Option.some.inj (gKinds.symm.trans hg0)
  obtain ⟨e6, fr6, hb6⟩ := var_block gDe64 hv6
  obtain ⟨e1, fr1, hb1⟩ := var_block gPow hv1
  obtain ⟨e4, fr4, hb4⟩ := var_block gRange hv4
  obtain ⟨e3, fr3, hb3⟩ := var_block gSyntax hv3
  obtain ⟨e0, fr0, hb0⟩ := var_block gKinds hv0
  obtain rfl := Option.some.inj (tRange.symm.trans ht4)
  obtain rfl := Option.some.inj (tSyntax.symm.trans ht3)
  obtain ⟨l4, hl4, k4⟩ := err_var hd4
  obtain ⟨l3, hl3, k3⟩ := err_var hd3
  have k6 := trod_flat (μ := muX 7 [l3, l4]) 8 _ _ _ _ (pt_of ptDe64 ht6) hd6
  have k1 := trod_flat (μ := muX 7 [l3, l4]) 8 _ _ _ _ (pt_of ptPow ht1) hd1
  have k0 := trod_flat (μ := muX 7 [l3, l4]) 8 _ _ _ _ (pt_of ptKinds ht0) hd0
  obtain ⟨x4, k4⟩ : ∃ x : AV, concs (muX 7 [l3, l4]) [.iface 174 x] = some c4.toList := by
    rcases k4 with k4 | k4
    · exact ⟨.ptr 8 0, by rw [k4]; simp [concs, conc, muX]⟩
    · exact ⟨.agg [.ptr 8 0], by rw [k4]; simp [concs, conc, muX]⟩
  obtain ⟨x3, k3⟩ : ∃ x : AV, concs (muX 7 [l3, l4]) [.iface 174 x] = some c3.toList := by
    rcases k3 with k3 | k3
    · exact ⟨.ptr 7 0, by rw [k3]; simp [concs, conc, muX]⟩
    · exact ⟨.agg [.ptr 7 0], by rw [k3]; simp [concs, conc, muX]⟩
  refine ⟨_, _, start_globX (Bs := [.cells kindsC e0 .ro, .cells pow10c e1 .ro, .ghost, .cells [.iface 174 x3] e3 .ro, .cells [.iface 174 x4] e4 .ro, .ghost, .cells deB64c e6 .ro]) (xs := [l3, l4]) gsize hsz rfl ?_ ?_ ?_, ⟨e0, .ro, rfl⟩, ⟨e1, .ro, rfl⟩, ⟨e6, .ro, rfl⟩, ⟨e3, .ro, _, _, rfl⟩, ⟨e4, .ro, _, _, rfl⟩⟩
  · intro x hx
    simp only [List.mem_cons, List.not_mem_nil, or_false] at hx
    rcases hx with rfl | rfl
    · exact hl3
    · exact hl4
  · intro x hx
    simp only [List.mem_cons, List.not_mem_nil, or_false] at hx
    rcases hx with rfl | rfl | rfl | rfl | rfl | rfl | rfl <;> rfl
  · intro i x hx
    match i with
    | 0 => cases hx; exact laid_block hb0 k0
    | 1 => cases hx; exact laid_block hb1 k1
    | 2 => cases hx; trivial
    | 3 => cases hx; exact laid_block hb3 k3
    | 4 => cases hx; exact laid_block hb4 k4
    | 5 => cases hx; trivial
    | 6 => cases hx; exact laid_block hb6 k6
    | i + 7 => simp at hx
abbrev wArgs : Array Value := #[.int .u16 0, .string ByteArray.empty]
theorem laidT_met (os : Os) : laidMet Tryd.prog Rows.rdataTypesUptoRow.laid ((World.laidAll Tryd.prog os Rows.rdataTypesUptoRow.laid).forCall (fun _ _ => 0) ⟨#[], wArgs, []⟩).memory :=
  laidMet_laidAll _ (by kernel_rfl) (by kernel_rfl)
theorem readsTy (os : Os) {H : Type} (enc : TypeId × Value → H) : ∃ places, DataW.whole enc Tryd.prog ((World.laidAll Tryd.prog os Rows.rdataTypesUptoRow.laid).forCall (fun _ _ => 0) ⟨#[], wArgs, []⟩).memory Tryd.f7.params.toList Rows.rdataTypesSpec.vars false wArgs.toList 8 = some ([.lit (.int .u16 0), .lit (.string [])], [], places) :=
  ⟨[], by kernel_rfl⟩
set_option maxRecDepth 100000 in
theorem liftedTy (os : Os) (started : os.Started) (H : Type) (enc : TypeId × Value → H) (F : Stop.Interp) :
    ReturnsInHanded {} Tryd.checked os 7 .any ((Rows.OpenSpec.upto Rows.rdataTypesSpec).preRow enc Tryd.prog Tryd.f7 Rows.rdataTypesUptoRow.domain false Rows.rdataTypesUptoRow.laid) (((Rows.OpenSpec.upto Rows.rdataTypesSpec).at F).post enc Tryd.prog Tryd.f7 false true false false) := by
  obtain ⟨places, hx⟩ := readsTy os enc
  refine returnsInHanded_of_row (C := Tryd.checked) (s := Rows.OpenSpec.upto Rows.rdataTypesSpec) own started (by kernel_rfl) Tryd.func7
    (witness_row_at (enc := enc) (C := Tryd.checked) false (World.laidAll Tryd.prog os Rows.rdataTypesUptoRow.laid) wArgs (World.laidAll_os _ _ _) (by kernel_rfl) (by kernel_rfl) (by kernel_rfl)
      (OpenSpec.preRow_of_cond 8 hx (by kernel_rfl) (fun k hk => by cases hk; kernel_rfl) (by kernel_rfl) (laidT_met os))) ?_
  intro W base args ds gs before hval0 hW _ hk _ hL hsh _
  have hk := hk _ rfl
  have hval : ∀ (j : Nat) t v, Tryd.f7.params[j]? = some t → args[j]? = some v → Value.okWide Tryd.prog W .any base t v := hval0
  have hW' := hW
  obtain ⟨p, q, hA0, hV, rfl, hfz, hnd⟩ := hW
  have hA : DataW.TrodAll enc Tryd.prog W 0 (fun _ => true) true Tryd.f7.params.toList args.toList ds p := hA0
  rw [Tryd.params7] at hA hval
  obtain ⟨v0, vs0, d0, ds0, p0, q0, hargs, rfl, rfl, h0, r0⟩ := trodAll_cons hA
  obtain ⟨v1, vs1, d1, ds1, p1, q1, hargs1, rfl, rfl, h1, r1⟩ := trodAll_cons r0
  obtain ⟨rfl, rfl, rfl⟩ := trodAll_nil r1
  subst hargs1
  obtain rfl : args = #[v0, v1] := by cases args; simp_all
  obtain ⟨rfl, rfl⟩ := trodVars_none hV
  obtain ⟨n, rfl, rfl, rfl, wt⟩ := open_int Tryd.underlying32 (hval 0 32 v0 rfl rfl) h0
  obtain ⟨t, rfl, ht⟩ := u16_of wt
  obtain ⟨s, rfl, rfl, rfl, y1⟩ := open_string Tryd.underlying9 (hval 1 9 v1 rfl rfl) h1
  have hbound : s.data.toList.length ≤ 1048576 := by
    have h := of_decide_eq_true hk
    simp only [List.append_nil, Rows.uptoBulkAll, Rows.uptoBulk] at h
    omega
  obtain ⟨Bs, μ, hR, hTk, hTb, hDb, hTe⟩ := of_laidT hsh hL
  have hrun := lawTypes t s.data.toList Bs hTk hTb hDb hTe ht hbound
  have hargs : concs μ [.int .u16 (t : Nat), .str s.data.toList] = some [.int .u16 (t : Nat), .string s] := by
    simp [concs, conc]
  clear hA0 hval0
  refine (calls_of (by kernel_rfl) hrun hR hargs).mono fun e W' ⟨μ', v', he, ho⟩ => ?_
  subst he
  have bel := start_below ho.rel
  have hv' := ho.val
  simp only [conc, Option.some.injEq] at hv'
  subst hv'
  exact ⟨_, rfl, _, _, _, [], _, [], hW', trodAll_mk1 (shut_bool Tryd.underlying4 _), trodAll_mk2 (shut_int Tryd.underlying32 wt) (shut_string Tryd.underlying9 y1), rfl, bel.frame _, fun h => by cases h⟩
theorem saidTy : Rows.RdataTypesUptoSaid :=
  OpenClaim.holds_of_cond 7 Tryd.f7 rfl rfl rfl rfl rfl rfl rfl ⟨rfl, rfl, rfl, rfl, rfl⟩ rfl rfl rfl rfl rfl (by kernel_rfl) Tryd.func7 (by kernel_rfl)
    (of_decide_eq_true (by kernel_rfl)) (by unfold Func.isWrapper; first | (rw [if_pos (by decide +kernel)]; kernel_rfl) | (rw [if_neg (by decide +kernel)]; exact ⟨rfl, rfl⟩))
    (fun os started H enc _ F => by rw [OpenClaim.pre_eq_preRow]; exact liftedTy os started H enc F)
theorem plainTy (f : FuncId) (fn : Func) (hf : Tryd.pinned.checked.prog.funcNamed "hearsay/hearsaylaw04.RdataTypes" = some f) (hfn : Tryd.pinned.checked.prog.funcs[f]? = some fn) :
    true = Tryd.pinned.checked.prog.looks [] ∧ ∀ (j : Nat) t, fn.params[j]? = some t → Tryd.pinned.checked.prog.wantsStandIn t = false := by
  obtain rfl : f = 7 := Option.some.inj ((show Tryd.prog.funcNamed "hearsay/hearsaylaw04.RdataTypes" = some 7 by kernel_rfl).symm.trans hf) |>.symm
  obtain rfl : fn = Tryd.f7 := (Option.some.inj (Tryd.func7.symm.trans hfn)).symm
  refine ⟨by kernel_rfl, fun j t ht => ?_⟩
  rw [Tryd.params7] at ht
  have hm : t ∈ [32, 9] := by simpa using Array.mem_of_getElem? ht
  have hall : ([32, 9].all fun u => !Tryd.prog.wantsStandIn u) = true := by kernel_rfl
  exact (show Tryd.prog.wantsStandIn t = false by simpa using List.all_eq_true.1 hall t hm)
end Go.Proofs.YtgkpgpdkolpfkaaDoor.V
namespace Go.Proofs.YtgkpgpdkolpfkaaDoor
open Go
/-- The row, tied. -/
theorem rdataTypesUpto_holds : Rows.RdataTypesUptoCardSaid :=
  Claim7.holds_tied_plain_at .later [] _ _ _ _ V.saidTy (fun _ h => by cases h) (by kernel_rfl) (fun _ h => by cases h) rdataTypesUpto_row_tie rfl ⟨rfl, rfl⟩ (by kernel_rfl) rfl V.plainTy (by kernel_rfl)
#print axioms rdataTypesUpto_holds
end Go.Proofs.YtgkpgpdkolpfkaaDoor
