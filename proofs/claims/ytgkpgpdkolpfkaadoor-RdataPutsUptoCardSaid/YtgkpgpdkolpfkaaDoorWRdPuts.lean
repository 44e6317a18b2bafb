/- The row of the law 'RdataPuts', where what it reads is small, and its card, out of its run in 'V'. -/
import Derived.Test.YtgkpgpdkolpfkaaDoorJ5
namespace Go.Proofs.YtgkpgpdkolpfkaaDoor.V
open Go Go.ChangeShapes Go.WideShapes Go.ChangeAt Go.RowKit
set_option linter.unusedSimpArgs false
set_option linter.unusedVariables false
open Go.ChangeMaps (open_string shut_string)
theorem i64_of {n : Int} (h : (Lit.int .i64 n).wf = true) : True := trivial
theorem cells39 : Tryd.prog.cellsOf 39 = 10 := by kernel_rfl
theorem cells3 : Tryd.prog.cellsOf 3 = 1 := by kernel_rfl
theorem cells32 : Tryd.prog.cellsOf 32 = 1 := by kernel_rfl
section
variable {H : Type} {enc : TypeId × Value → H} {W : World} {base : Nat} {sp : Nat → Bool} {held : Bool}
set_option maxRecDepth 100000 in
/-- Data's cells, read. -/
theorem data_cells {n : Nat} {cs : List Value} {d : DataW H × List MemPlace} (h : DataW.trod enc Tryd.prog W base sp held n 37 cs = some d) :
    ∃ x : Dt, (∀ μ, concs μ x.cells = some cs) ∧ (is32 x.n0 ∧ is32 x.n1 ∧ is32 x.n2 ∧ is32 x.n3 ∧ is32 x.n4) ∧ x.raw.length + x.host.length + x.mail.length ≤ Rows.uptoBulk d.1 := by
  obtain ⟨xs, n', rfl, hx, hcl, hxl, hf⟩ := DataW.trod_struct Tryd.underlying37 h
  rw [cells37] at hcl
  match cs, hcl with
  | [c0, c1, c2, c3, c4, c5, c6, c7], _ =>
    have f0 : DataW.trod enc Tryd.prog W base sp held n' 9 (([c0, c1, c2, c3, c4, c5, c6, c7].drop 0).take (Tryd.prog.cellsOf 9)) = xs[0]? := hf 0 _ rfl
    have f1 : DataW.trod enc Tryd.prog W base sp held n' 33 (([c0, c1, c2, c3, c4, c5, c6, c7].drop 1).take (Tryd.prog.cellsOf 33)) = xs[1]? := hf 1 _ rfl
    have f2 : DataW.trod enc Tryd.prog W base sp held n' 33 (([c0, c1, c2, c3, c4, c5, c6, c7].drop 2).take (Tryd.prog.cellsOf 33)) = xs[2]? := hf 2 _ rfl
    have f3 : DataW.trod enc Tryd.prog W base sp held n' 35 (([c0, c1, c2, c3, c4, c5, c6, c7].drop 3).take (Tryd.prog.cellsOf 35)) = xs[3]? := hf 3 _ rfl
    have hx4 : xs.length = 4 := hxl
    simp only [cells9, cellsNm, cellsN, List.drop_zero, List.drop_succ_cons, List.take_succ_cons, List.take_zero] at f0 f1 f2 f3
    match xs, hx4 with
    | [x0, x1, x2, x3], _ =>
      simp only [List.getElem?_cons_zero, List.getElem?_cons_succ] at f0 f1 f2 f3
      obtain ⟨s0, e0, z0, _⟩ := DataW.trod_string Tryd.underlying9 f0
      obtain ⟨s1, e1, z1, _⟩ := DataW.trod_string Tryd.underlying33 f1
      obtain ⟨s2, e2, z2, _⟩ := DataW.trod_string Tryd.underlying33 f2
      obtain ⟨ys, m, rfl, z3, _, hyl, hel⟩ := DataW.trod_array Tryd.underlying35 f3
      have i0 := hel 0 (by decide)
      have i1 := hel 1 (by decide)
      have i2 := hel 2 (by decide)
      have i3 := hel 3 (by decide)
      have i4 := hel 4 (by decide)
      simp only [cells34, Nat.mul_one, List.drop_zero, List.drop_succ_cons, List.take_succ_cons, List.take_zero] at i0 i1 i2 i3 i4
      match ys, hyl with
      | [y0, y1, y2, y3, y4], _ =>
        simp only [List.getElem?_cons_zero, List.getElem?_cons_succ] at i0 i1 i2 i3 i4
        obtain ⟨n0, a0, _, w0⟩ := DataW.trod_int Tryd.underlying34 i0
        obtain ⟨n1, a1, _, w1⟩ := DataW.trod_int Tryd.underlying34 i1
        obtain ⟨n2, a2, _, w2⟩ := DataW.trod_int Tryd.underlying34 i2
        obtain ⟨n3, a3, _, w3⟩ := DataW.trod_int Tryd.underlying34 i3
        obtain ⟨n4, a4, _, w4⟩ := DataW.trod_int Tryd.underlying34 i4
        cases e0; cases e1; cases e2; cases a0; cases a1; cases a2; cases a3; cases a4
        cases z0; cases z1; cases z2
        simp only [List.map_cons, List.map_nil] at hx
        subst hx
        refine ⟨⟨s0.data.toList, s1.data.toList, s2.data.toList, n0, n1, n2, n3, n4⟩, fun μ => ?_, ⟨u32_of w0, u32_of w1, u32_of w2, u32_of w3, u32_of w4⟩, ?_⟩
        · simp [Dt.cells, conc, concs]
        · simp only [Rows.uptoBulk, Rows.uptoBulkAll]; omega
set_option maxRecDepth 100000 in
theorem item_cells {n : Nat} {cs : List Value} {d : DataW H × List MemPlace} (h : DataW.trod enc Tryd.prog W base sp held n 39 cs = some d) :
    ∃ x : Itm, (∀ μ, concs μ x.cells = some cs) ∧ (is32 x.d.n0 ∧ is32 x.d.n1 ∧ is32 x.d.n2 ∧ is32 x.d.n3 ∧ is32 x.d.n4) ∧ x.d.raw.length + x.d.host.length + x.d.mail.length + 1 ≤ Rows.uptoBulk d.1 := by
  obtain ⟨xs, n', rfl, hx, hcl, hxl, hf⟩ := DataW.trod_struct Tryd.underlying39 h
  rw [cells39] at hcl
  match cs, hcl with
  | [b0, b1, c0, c1, c2, c3, c4, c5, c6, c7], _ =>
    have f0 : DataW.trod enc Tryd.prog W base sp held n' 3 (([b0, b1, c0, c1, c2, c3, c4, c5, c6, c7].drop 0).take (Tryd.prog.cellsOf 3)) = xs[0]? := hf 0 _ rfl
    have f1 : DataW.trod enc Tryd.prog W base sp held n' 32 (([b0, b1, c0, c1, c2, c3, c4, c5, c6, c7].drop 1).take (Tryd.prog.cellsOf 32)) = xs[1]? := hf 1 _ rfl
    have f2 : DataW.trod enc Tryd.prog W base sp held n' 37 (([b0, b1, c0, c1, c2, c3, c4, c5, c6, c7].drop 2).take (Tryd.prog.cellsOf 37)) = xs[2]? := hf 2 _ rfl
    have hx3 : xs.length = 3 := hxl
    simp only [cells3, cells32, cells37, List.drop_zero, List.drop_succ_cons, List.take_succ_cons, List.take_zero] at f0 f1 f2
    match xs, hx3 with
    | [x0, x1, x2], _ =>
      simp only [List.getElem?_cons_zero, List.getElem?_cons_succ] at f0 f1 f2
      obtain ⟨k0, a0, z0, _⟩ := DataW.trod_int Tryd.underlying3 f0
      obtain ⟨k1, a1, z1, _⟩ := DataW.trod_int Tryd.underlying32 f1
      obtain ⟨x, hc, hn, hb⟩ := data_cells f2
      cases a0; cases a1
      cases z0; cases z1
      simp only [List.map_cons, List.map_nil] at hx
      subst hx
      refine ⟨⟨k0, k1, x⟩, fun μ => ?_, hn, ?_⟩
      · have := hc μ
        simp only [Itm.cells, concs, conc, Option.bind_some, this, Option.map_some]
      · simp only [Rows.uptoBulk, Rows.uptoBulkAll]; omega
/-- Items, read. -/
theorem items_ok {a : Addr} {n : Nat} : ∀ (len : Nat) (es : List (DataW H × List MemPlace)), es.length = len → (∀ i, i < len → (W.cells? base (a.add (i * 10)) 10).bind (DataW.trod enc Tryd.prog W base sp held n 39) = es[i]?) →
    ∃ R : List Itm, R.length = len ∧ (∃ vs, (∀ μ, concs μ (itsC R) = some vs) ∧ vs.length = len * 10 ∧ ∀ (j : Nat) (v : Value), vs[j]? = some v → W.cell? (a.add j) = some v) ∧
      (∀ x ∈ R, is32 x.d.n0 ∧ is32 x.d.n1 ∧ is32 x.d.n2 ∧ is32 x.d.n3 ∧ is32 x.d.n4) ∧ (∀ x ∈ R, x.d.raw.length + x.d.host.length + x.d.mail.length ≤ Rows.uptoBulkAll (es.map (·.1))) ∧ len ≤ Rows.uptoBulkAll (es.map (·.1))
  | 0, es, he, _ => by
    obtain rfl : es = [] := List.eq_nil_of_length_eq_zero he
    exact ⟨[], rfl, ⟨[], fun μ => rfl, by simp, by simp⟩, by simp, by simp, by simp⟩
  | len + 1, es, he, h => by
    have hne : es ≠ [] := by rintro rfl; simp at he
    obtain ⟨es', e, rfl⟩ : ∃ es' e, es = es' ++ [e] := ⟨es.dropLast, es.getLast hne, (List.dropLast_concat_getLast hne).symm⟩
    have hl' : es'.length = len := by simpa using he
    obtain ⟨R, hl, ⟨vs, hv, hvl, hc⟩, h1, h2, h3⟩ := items_ok len es' hl' (fun i hi => by rw [h i (by omega), List.getElem?_append_left (by omega)])
    have hlast := h len (by omega)
    rw [List.getElem?_append_right (by omega), hl', Nat.sub_self, List.getElem?_cons_zero, Option.bind_eq_some_iff] at hlast
    obtain ⟨cs, hcs, ht⟩ := hlast
    obtain ⟨x, hxc, hxn, hxb⟩ := item_cells ht
    obtain ⟨_, hcl, hcc⟩ := World.cells?_some hcs
    have hall : Rows.uptoBulkAll ((es' ++ [e]).map (·.1)) = Rows.uptoBulkAll (es'.map (·.1)) + Rows.uptoBulk e.1 := by
      rw [List.map_append]
      generalize es'.map (·.1) = l
      induction l with
      | nil => simp [Rows.uptoBulkAll]
      | cons y l ih => simp only [List.cons_append, Rows.uptoBulkAll, ih]; omega
    refine ⟨R ++ [x], by simp [hl], ⟨vs ++ cs, fun μ => ?_, by rw [List.length_append, hvl, hcl]; omega, fun j v hj => ?_⟩, fun y hy => ?_, fun y hy => ?_, by rw [hall]; omega⟩
    · have : itsC (R ++ [x]) = itsC R ++ x.cells := by simp [itsC]
      rw [this]
      exact concs_append_some (hv μ) (hxc μ)
    · by_cases hlt : j < vs.length
      · rw [List.getElem?_append_left hlt] at hj
        exact hc j v hj
      · rw [List.getElem?_append_right (by omega)] at hj
        have hjl := (List.getElem?_eq_some_iff.1 hj).1
        have := hcc (j - vs.length) (by omega)
        rw [hj] at this
        rw [← this]
        congr 1
        unfold Addr.add
        by_cases hl0 : len * 10 = 0
        · have : vs.length = 0 := by omega
          simp [hl0, this]
        · by_cases hj0 : j - vs.length = 0
          · have : j = len * 10 := by omega
            rw [if_pos hj0, if_neg hl0, if_neg (by omega), this]
          · have h3 : ¬ j = 0 := by omega
            simp only [hl0, hj0, h3, if_false]
            congr 1; omega
    · rcases List.mem_append.1 hy with hy | hy
      · exact h1 y hy
      · rw [List.mem_singleton] at hy; subst hy; exact hxn
    · rw [hall]
      rcases List.mem_append.1 hy with hy | hy
      · have := h2 y hy; omega
      · rw [List.mem_singleton] at hy; subst hy; omega
end
abbrev wArgs : Array Value := #[.slice none 0 0]
theorem laidP_met (os : Os) : laidMet Tryd.prog Rows.rdataPutsUptoRow.laid ((World.laidAll Tryd.prog os Rows.rdataPutsUptoRow.laid).forCall (fun _ _ => 0) ⟨#[], wArgs, []⟩).memory :=
  laidMet_laidAll _ (by kernel_rfl) (by kernel_rfl)
theorem readsP (os : Os) {H : Type} (enc : TypeId × Value → H) : ∃ places, DataW.whole enc Tryd.prog ((World.laidAll Tryd.prog os Rows.rdataPutsUptoRow.laid).forCall (fun _ _ => 0) ⟨#[], wArgs, []⟩).memory Tryd.f3.params.toList Rows.rdataPutsSpec.vars false wArgs.toList 8 = some ([.nil], [], places) :=
  ⟨[], by kernel_rfl⟩
set_option maxRecDepth 100000 in
theorem liftedP (os : Os) (started : os.Started) (H : Type) (enc : TypeId × Value → H) (F : Stop.Interp) :
    ReturnsInHanded {} Tryd.checked os 3 .any ((Rows.OpenSpec.upto Rows.rdataPutsSpec).preRow enc Tryd.prog Tryd.f3 Rows.rdataPutsUptoRow.domain false Rows.rdataPutsUptoRow.laid) (((Rows.OpenSpec.upto Rows.rdataPutsSpec).at F).post enc Tryd.prog Tryd.f3 false true false false) := by
  obtain ⟨places, hx⟩ := readsP os enc
  refine returnsInHanded_of_row (C := Tryd.checked) (s := Rows.OpenSpec.upto Rows.rdataPutsSpec) own started (by kernel_rfl) Tryd.func3
    (witness_row_at (enc := enc) (C := Tryd.checked) false (World.laidAll Tryd.prog os Rows.rdataPutsUptoRow.laid) wArgs (World.laidAll_os _ _ _) (by kernel_rfl) (by kernel_rfl) (by kernel_rfl)
      (OpenSpec.preRow_of_cond 8 hx (by kernel_rfl) (fun k hk => by cases hk; kernel_rfl) (by kernel_rfl) (laidP_met os))) ?_
  intro W base args ds gs before hval0 hW _ hk _ hL hsh _
  have hk := hk _ rfl
  have hval : ∀ (j : Nat) t v, Tryd.f3.params[j]? = some t → args[j]? = some v → Value.okWide Tryd.prog W .any base t v := hval0
  have hW' := hW
  obtain ⟨p, q, hA0, hV, rfl, hfz, hnd⟩ := hW
  have hA : DataW.TrodAll enc Tryd.prog W 0 (fun _ => true) true Tryd.f3.params.toList args.toList ds p := hA0
  rw [Tryd.params3] at hA hval
  obtain ⟨v0, vs0, d0, ds0, p0, q0, hargs, rfl, rfl, h0, r0⟩ := trodAll_cons hA
  obtain ⟨rfl, rfl, rfl⟩ := trodAll_nil r0
  obtain rfl : args = #[v0] := by cases args; simp_all
  obtain ⟨rfl, rfl⟩ := trodVars_none hV
  have k0 := h0
  have lt0 : ∀ x ∈ p0, x.block < W.heap.size := by obtain ⟨m, hm⟩ := k0; exact DataW.trod_lt m _ _ _ hm
  have hv0 := hval 0 22 v0 rfl rfl
  have hbound : Rows.uptoBulk d0 ≤ 1048576 := by
    have h := of_decide_eq_true hk
    simp only [List.append_nil, Rows.uptoBulkAll] at h
    omega
  obtain ⟨Bs, hBl, hBw, hR, hTk, hTb, hDb⟩ := of_laid hsh (show laidMetH Tryd.prog Rows.rdataChecksUptoRow.laid W from hL)
  have hBf : ∀ x ∈ Bs, frz x = true := by
    intro x hx
    have := hBw x hx
    cases x with
    | cells c e k => cases k <;> first | rfl | (simp [apart, wrt] at this)
    | _ => rfl
  obtain ⟨lv, R, L, μ, hR2, hcv, hlv, hwf, hRl, hLf⟩ : ∃ (lv : AV) (R : List Itm) (L : Hp) (μ : Mu), HRel Tryd.prog (start W) μ (Bs ++ L) W ∧ conc μ lv = some v0 ∧ ((lv = .nils ∧ R = []) ∨ ∃ lb c e kd, lv = .slice lb 0 R.length c ∧ (Bs ++ L)[lb]? = some (.cells (itsC R) e kd)) ∧ (∀ x ∈ R, x.d.wf) ∧ R.length ≤ 1048576 ∧ (∀ x ∈ L, frz x = true) := by
    obtain ⟨fuel, ht⟩ := h0
    obtain ⟨oa, ol, oc, rfl⟩ := okWide_slice Tryd.underlying22 hv0
    rcases DataW.trod_slice Tryd.underlying22 ht with ⟨hs, _⟩ | ⟨a, len, cap, elems, rest, n, _, hs, hd, _, hl, hm, hlen, hel, _, _⟩
    · have hs : [Value.slice oa ol oc] = [.slice none 0 0] := hs
      simp only [List.cons.injEq, Value.slice.injEq, and_true] at hs
      obtain ⟨rfl, rfl, rfl⟩ := hs
      exact ⟨.nils, [], [], _, by rw [List.append_nil]; exact hR, rfl, .inl ⟨rfl, rfl⟩, by simp, by simp, by simp⟩
    · have hs : [Value.slice oa ol oc] = [.slice (some a) len cap] := hs
      simp only [List.cons.injEq, Value.slice.injEq, and_true] at hs
      obtain ⟨rfl, rfl, rfl⟩ := hs
      unfold Value.okWide at hv0
      rw [Tryd.underlying22] at hv0
      have hok : Cell.ok Tryd.prog W .any base 22 (.slice (some a) ol oc) := by
        simpa [Cell.okWide, Tryd.underlying22] using hv0
      simp only [Cell.ok, Tryd.underlying22] at hok
      obtain ⟨_, _, _, hspot, row, cells, hsh, hlies⟩ := hok
      rw [cells39] at hel
      obtain ⟨R, hRl, ⟨vs, hvs, hvl, hvc⟩, h1, h2, h3⟩ := items_ok ol elems hlen hel
      have hB := fun μ => ro_block (P := Tryd.prog) (cap := oc) (μ := μ) hspot (hvs μ) hvc hsh (liesAt_le hlies)
      have hblk : a.block < W.heap.size := by
        unfold World.shape? at hsh
        cases hh : W.heap[a.block]? with
        | none => rw [hh] at hsh; cases hsh
        | some o => exact (Array.getElem?_eq_some_iff.1 hh).1
      have hbw : Rows.uptoBulkAll (elems.map (·.1)) ≤ 1048576 := by
        simp only [Prod.mk.injEq] at hd
        obtain ⟨rfl, _⟩ := hd
        simp only [Rows.uptoBulk] at hbound
        omega
      refine ⟨.slice Bs.length 0 R.length (.ex oc), R, [.cells (itsC R) row .ro], _, hR.ro hBw hblk (hB _), ?_, .inr ⟨Bs.length, _, row, .ro, rfl, by simp⟩, fun x hx => ?_, by omega, by simp [frz]⟩
      · obtain ⟨ab, ao, asp⟩ := a
        simp only at hspot
        subst hspot
        rw [hRl]
        simp [conc, upd]
      · have := h2 x hx
        obtain ⟨q0, q1, q2, q3, q4⟩ := h1 x hx
        exact ⟨by omega, by omega, by omega, q0, q1, q2, q3, q4⟩
  have hrun := lawPuts lv R (Bs ++ L) (hTk.old L) (hTb.old L) (hDb.old L) hRl hwf (fun i x hx => by
    rcases List.mem_append.1 (List.mem_of_getElem? hx) with h | h
    · exact hBf x h
    · exact hLf x h) hlv
  have hargs : concs μ [lv] = some [v0] := by
    simp [concs, hcv]
  clear hA0 hval0
  refine (calls_of (by kernel_rfl) hrun hR2 hargs).mono fun e W' ⟨μ', v', he, ho⟩ => ?_
  subst he
  have bel := start_below ho.rel
  have hv' := ho.val
  simp only [conc, Option.some.injEq] at hv'
  subst hv'
  exact ⟨_, rfl, _, _, _, [], _, [], hW', trodAll_mk1 (shut_bool Tryd.underlying4 _), trodAll_mk1 (Below.trod laidOut (by kernel_rfl) (of_decide_eq_true (by kernel_rfl)) k0 bel lt0), rfl, bel.frame _, fun h => by cases h⟩
theorem saidP : Rows.RdataPutsUptoSaid :=
  OpenClaim.holds_of_cond 3 Tryd.f3 rfl rfl rfl rfl rfl rfl rfl ⟨rfl, rfl, rfl, rfl, rfl⟩ rfl rfl rfl rfl rfl (by kernel_rfl) Tryd.func3 (by kernel_rfl)
    (of_decide_eq_true (by kernel_rfl)) (by unfold Func.isWrapper; first | (rw [if_pos (by decide +kernel)]; kernel_rfl) | (rw [if_neg (by decide +kernel)]; exact ⟨rfl, rfl⟩))
    (fun os started H enc _ F => by rw [OpenClaim.pre_eq_preRow]; exact liftedP os started H enc F)
theorem plainP (f : FuncId) (fn : Func) (hf : Tryd.pinned.checked.prog.funcNamed "hearsay/hearsaylaw04.RdataPuts" = some f) (hfn : Tryd.pinned.checked.prog.funcs[f]? = some fn) :
    true = Tryd.pinned.checked.prog.looks [] ∧ ∀ (j : Nat) t, fn.params[j]? = some t → Tryd.pinned.checked.prog.wantsStandIn t = false := by
  obtain rfl : f = 3 := Option.some.inj ((show Tryd.prog.funcNamed "hearsay/hearsaylaw04.RdataPuts" = some 3 by kernel_rfl).symm.trans hf) |>.symm
  obtain rfl : fn = Tryd.f3 := (Option.some.inj (Tryd.func3.symm.trans hfn)).symm
  refine ⟨by kernel_rfl, fun j t ht => ?_⟩
  rw [Tryd.params3] at ht
  have hm : t ∈ [22] := by simpa using Array.mem_of_getElem? ht
  have hall : ([22].all fun u => !Tryd.prog.wantsStandIn u) = true := by kernel_rfl
  exact (show Tryd.prog.wantsStandIn t = false by simpa using List.all_eq_true.1 hall t hm)
end Go.Proofs.YtgkpgpdkolpfkaaDoor.V
namespace Go.Proofs.YtgkpgpdkolpfkaaDoor
open Go
/-- The row, tied. -/
theorem rdataPutsUpto_holds : Rows.RdataPutsUptoCardSaid :=
  Claim7.holds_tied_plain_at .later [] _ _ _ _ V.saidP (fun _ h => by cases h) (by kernel_rfl) (fun _ h => by cases h) rdataPutsUpto_row_tie rfl ⟨rfl, rfl⟩ (by kernel_rfl) rfl V.plainP (by kernel_rfl)
#print axioms rdataPutsUpto_holds
end Go.Proofs.YtgkpgpdkolpfkaaDoor
