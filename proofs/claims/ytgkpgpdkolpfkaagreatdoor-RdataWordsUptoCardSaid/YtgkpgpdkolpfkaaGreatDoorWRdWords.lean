/- The row of the law 'RdataWords', where what it reads is small, and its card, out of its run in 'V'. -/
import Derived.Test.YtgkpgpdkolpfkaaGreatDoorJ6
import Derived.Test.YtgkpgpdkolpfkaaGreatDoorRows
import Derived.Test.YtgkpgpdkolpfkaaGreatDoorCards
import Derived.Test.YtgkpgpdkolpfkaaGreatDoorTie
import Derived.WalkKit
import Derived.ProofKit
import Derived.OpenShut
import Derived.ShutString
import Derived.ChangeOld
import Derived.Below
import Derived.SizedLaws
import Derived.LaidMore
import Derived.Lay
import Derived.MakeChecks
import Derived.SevenTiedAt
import Derived.Deep.DeepHandedRow
namespace Go.Proofs.YtgkpgpdkolpfkaaGreatDoor.V
open Go Go.ChangeShapes Go.WideShapes Go.ChangeAt Go.RowKit
set_option linter.unusedSimpArgs false
set_option linter.unusedVariables false
open Go.ChangeMaps (open_string shut_string)
theorem gsize : Tryz.prog.globals.size = 9 := by kernel_rfl
theorem own : ownKnob Tryz.prog.godebug = none := by kernel_rfl
theorem laidOut : laidOutB Tryz.prog = true := by kernel_rfl
theorem gKinds : Tryz.prog.globalNamed "hearsay/rdata.kinds" = some 0 := by kernel_rfl
theorem gPow : Tryz.prog.globalNamed "internal/strconv.uint64pow10" = some 1 := by kernel_rfl
theorem gDe64 : Tryz.prog.globalNamed "math/bits.deBruijn64tab" = some 4 := by kernel_rfl
theorem lastRow : ((((begin Tryz.prog (fun _ _ => 0) default).world.heap)[9 - 1]?).bind Obj.row?).isSome = true := by kernel_rfl
theorem ptKinds : ((Tryz.prog.globals[0]?).map (·.type)).all (plainT Tryz.prog 8) = true := by kernel_rfl
theorem ptPow : ((Tryz.prog.globals[1]?).map (·.type)).all (plainT Tryz.prog 8) = true := by kernel_rfl
theorem ptDe64 : ((Tryz.prog.globals[4]?).map (·.type)).all (plainT Tryz.prog 8) = true := by kernel_rfl
theorem pt_of {o : Option TypeId} {t : TypeId} {f : TypeId → Bool} (h : o.all f = true) (ht : o = some t) : f t = true := by subst ht; simpa using h

theorem cells37 : Tryz.prog.cellsOf 27 = 8 := by kernel_rfl
theorem cellsN : Tryz.prog.cellsOf 25 = 5 := by kernel_rfl
theorem cells9 : Tryz.prog.cellsOf 9 = 1 := by kernel_rfl
theorem cellsNm : Tryz.prog.cellsOf 23 = 1 := by kernel_rfl
theorem cells34 : Tryz.prog.cellsOf 24 = 1 := by kernel_rfl
theorem u32_of {n : Int} (h : (Lit.int .u32 n).wf = true) : is32 n := by
  simp [Lit.wf, IntKind.min, IntKind.max, IntKind.bits, IntKind.signed] at h
  exact ⟨by omega, by omega⟩
section
variable {H : Type} {enc : TypeId × Value → H} {W : World}
set_option maxRecDepth 20000 in
/-- Data, as 'V' reads them. -/
theorem open_data {base : Nat} {v : Value} {d : DataW H} {p : List MemPlace} (hval : Value.okWide Tryz.prog W .any base 27 v) (h : DataW.Trod enc Tryz.prog W 0 (fun _ => true) true 27 v d p) :
    ∃ x : Dt, (∀ μ, conc μ (.agg x.cells) = some v) ∧ (is32 x.n0 ∧ is32 x.n1 ∧ is32 x.n2 ∧ is32 x.n3 ∧ is32 x.n4) ∧ x.raw.length + x.host.length + x.mail.length ≤ Rows.uptoBulk d := by
  obtain ⟨fuel, h⟩ := h
  have hv := hval
  unfold Value.okWide at hv
  rw [Tryz.underlying27] at hv
  obtain ⟨cs, rfl, hsz, _⟩ := hv
  rw [cells37] at hsz
  have hcs : (Value.agg cs).cells.toList = cs.toList := rfl
  rw [hcs] at h
  obtain ⟨xs, n', rfl, hx, hcl, hxl, hf⟩ := DataW.trod_struct Tryz.underlying27 h
  obtain ⟨l⟩ := cs
  match l, hsz with
  | [c0, c1, c2, c3, c4, c5, c6, c7], _ =>
    have f0 := hf 0 _ rfl
    have f1 := hf 1 _ rfl
    have f2 := hf 2 _ rfl
    have f3 := hf 3 _ rfl
    have hx4 : xs.length = 4 := hxl
    simp only [cells9, cellsNm, cellsN, List.drop_zero, List.drop_succ_cons, List.take_succ_cons, List.take_zero] at f0 f1 f2 f3
    match xs, hx4 with
    | [x0, x1, x2, x3], _ =>
      simp only [List.getElem?_cons_zero, List.getElem?_cons_succ] at f0 f1 f2 f3
      obtain ⟨s0, e0, z0, _⟩ := DataW.trod_string Tryz.underlying9 f0
      obtain ⟨s1, e1, z1, _⟩ := DataW.trod_string Tryz.underlying23 f1
      obtain ⟨s2, e2, z2, _⟩ := DataW.trod_string Tryz.underlying23 f2
      obtain ⟨ys, m, rfl, z3, _, hyl, hel⟩ := DataW.trod_array Tryz.underlying25 f3
      have i0 := hel 0 (by decide)
      have i1 := hel 1 (by decide)
      have i2 := hel 2 (by decide)
      have i3 := hel 3 (by decide)
      have i4 := hel 4 (by decide)
      simp only [cells34, Nat.mul_one, List.drop_zero, List.drop_succ_cons, List.take_succ_cons, List.take_zero] at i0 i1 i2 i3 i4
      match ys, hyl with
      | [y0, y1, y2, y3, y4], _ =>
        simp only [List.getElem?_cons_zero, List.getElem?_cons_succ] at i0 i1 i2 i3 i4
        obtain ⟨n0, a0, _, w0⟩ := DataW.trod_int Tryz.underlying24 i0
        obtain ⟨n1, a1, _, w1⟩ := DataW.trod_int Tryz.underlying24 i1
        obtain ⟨n2, a2, _, w2⟩ := DataW.trod_int Tryz.underlying24 i2
        obtain ⟨n3, a3, _, w3⟩ := DataW.trod_int Tryz.underlying24 i3
        obtain ⟨n4, a4, _, w4⟩ := DataW.trod_int Tryz.underlying24 i4
        cases e0; cases e1; cases e2; cases a0; cases a1; cases a2; cases a3; cases a4
        cases z0; cases z1; cases z2
        simp only [List.map_cons, List.map_nil, Prod.mk.injEq] at hx
        obtain ⟨rfl, _⟩ := hx
        refine ⟨⟨s0.data.toList, s1.data.toList, s2.data.toList, n0, n1, n2, n3, n4⟩, fun μ => ?_, ⟨u32_of w0, u32_of w1, u32_of w2, u32_of w3, u32_of w4⟩, ?_⟩
        · simp [Dt.cells, conc, concs]
        · simp only [Rows.uptoBulk, Rows.uptoBulkAll]; omega
end
/-- The variables' own blocks, and some more. -/
def muX (n : Nat) (xs : List Loc) : Mu := fun i => if i < n then some ⟨i, 0, 0⟩ else xs[i - n]?
theorem start_globX {P : Program} {W : World} {n : Nat} {xs : List Loc} {Bs : List ABlk} (hn : P.globals.size = n) (hsz : n ≤ W.heap.size) (hl : Bs.length = n) (hx : ∀ x ∈ xs, x.blk < W.heap.size) (hw : ∀ x ∈ Bs, apart x = false) (hB : ∀ (i : Nat) x, Bs[i]? = some x → BRel P (muX n xs) W ⟨i, 0, 0⟩ x) : HRel P (start W) (muX n xs) (Bs ++ List.replicate xs.length .ghost) W := by
  have hap : ∀ x ∈ Bs ++ List.replicate xs.length ABlk.ghost, apart x = false := by
    intro x h
    rcases List.mem_append.1 h with h | h
    · exact hw x h
    · rw [(List.mem_replicate.1 h).2]; rfl
  exact {
    dom := fun b l h => by
      unfold muX at h
      rw [List.length_append, List.length_replicate, hl]
      split at h
      · omega
      · have := (List.getElem?_eq_some_iff.1 h).1; omega
    glob := fun i hi => ⟨0, by unfold muX; rw [if_pos (by omega)]⟩
    lt := fun b l h => by
      unfold muX at h
      split at h
      · cases h; show b < _; omega
      · exact hx l (List.mem_of_getElem? h)
    blk := fun b l x h h' => by
      unfold muX at h
      split at h
      · rename_i hb
        cases h
        rw [List.getElem?_append_left (by omega)] at h'
        exact hB b x h'
      · rw [List.getElem?_append_right (by omega)] at h'
        have := List.mem_of_getElem? h'
        rw [(List.mem_replicate.1 this).2]; trivial
    sep := fun b b' l l' x x' _ _ _ hx _ hwx => by rw [hap x (List.mem_of_getElem? hx)] at hwx; cases hwx
    own := fun b l x _ hx hwx => by have := apart_w hwx; rw [hap x (List.mem_of_getElem? hx)] at this; cases this
    old := fun k hk => ⟨hk, rfl⟩
    os := rfl
    tape := rfl
    output := rfl
    size := Nat.le_refl _ }
abbrev erN : String := "*errors.errorString"
theorem name_er {u : TypeId} (h : Tryz.prog.typeName? 3 u = some erN) : u = 174 :=
  typeName_ptr_named (nm := "errors.errorString") (by kernel_rfl) (by kernel_rfl) (by decide) u (h.trans (congrArg some (by decide : erN = "*" ++ "errors.errorString")))
theorem und_ep : Tryz.prog.underlying 174 = some (.pointer 176) := by kernel_rfl
theorem cells_ep : Tryz.prog.cellsOf 176 = 1 := by kernel_rfl
set_option maxRecDepth 20000 in
/-- What a variable of an error holds. -/
theorem err_var {H : Type} {enc : TypeId × Value → H} {W : World} {base fuel : Nat} {sp : Nat → Bool} {cs : List Value} {d : DataW H} {p : List MemPlace} (h : DataW.trod enc Tryz.prog W base sp false fuel 56 cs = some (.iface erN (.ptr d), p)) :
    ∃ l : Loc, l.blk < W.heap.size ∧ (cs = [.iface 174 (.pointer (some ⟨l.blk, l.base, none⟩))] ∨ cs = [.iface 174 (.agg #[.pointer (some ⟨l.blk, l.base, none⟩)])]) := by
  obtain ⟨ms, hu⟩ : ∃ ms, Tryz.prog.underlying 56 = some (.interface ms) := by
    have := isIface_er
    split at this
    · exact ⟨_, ‹_›⟩
    · cases this
  obtain ⟨fuel', u, v, rfl, hn, hd⟩ := iface_of_trod hu h
  obtain rfl := name_er hn
  obtain ⟨f2, a, cs', q, hv, hc, _, _⟩ := ptr_of_trod und_ep hd
  rw [cells_ep] at hc
  unfold World.cells? at hc
  split at hc
  · have hc1 : ∃ x, W.cell? (a.add 0) = some x := by
      cases hx : W.cell? (a.add 0) with
      | some x => exact ⟨x, rfl⟩
      | none => simp [List.range, List.range.loop, hx] at hc
    obtain ⟨x, hx⟩ := hc1
    unfold World.cell? at hx
    split at hx
    · rename_i c e fr hb
      have hsp : a.spot = none := by
        cases hs : a.spot with
        | none => rfl
        | some s => rw [show (a.add 0).spot = a.spot from rfl, hs] at hx; simp at hx
      refine ⟨⟨a.block, a.off, 0⟩, ?_, ?_⟩
      · exact (Array.getElem?_eq_some_iff.1 hb).1
      · obtain ⟨b, o, s⟩ := a
        simp only at hsp
        subst hsp
        cases v with
        | agg l =>
          obtain ⟨l⟩ := l
          simp only [Value.cells] at hv
          exact .inr (by rw [hv])
        | _ =>
          simp only [Value.cells] at hv
          first | (left; have := List.head_eq_of_cons_eq hv; rw [this]) | (exfalso; cases hv)
    · cases hx
  · cases hc
theorem gRange : Tryz.prog.globalNamed "strconv.ErrRange" = some 6 := by kernel_rfl
theorem gSyntax : Tryz.prog.globalNamed "strconv.ErrSyntax" = some 5 := by kernel_rfl
theorem tRange : (Tryz.prog.globals[6]?).map (·.type) = some 56 := by kernel_rfl
theorem tSyntax : (Tryz.prog.globals[5]?).map (·.type) = some 56 := by kernel_rfl
theorem rowMax : ((((begin Tryz.prog (fun _ _ => 0) default).world.heap)[2]?).bind Obj.row?) = some (#[.int .i64 0], 3) := by kernel_rfl
theorem bldI : Tryz.prog.buildable 3 = true := by kernel_rfl
theorem ctI : Tryz.prog.cellTypes Tryz.prog.depth 3 = some [3] := by kernel_rfl
set_option maxRecDepth 100000 in
/-- A variable of a number that no row lists holds some number. -/
theorem max_block {W : World} (hsh : W.ShapedOpen Tryz.prog) : ∃ (n : Int) (cs : Array Value) (e : TypeId) (fr : Nat × Nat), W.heap[2]? = some (.cells cs e fr) ∧ cs.toList = [.int .i64 n] := by
  obtain ⟨cs, h1, h2, h3⟩ := hsh.1 2 _ _ (by rw [gsize]; decide) rowMax
  obtain ⟨ts, h4, _, h5⟩ := h3 bldI
  rw [ctI] at h4
  cases h4
  have hs : cs.size = 1 := h2
  obtain ⟨l⟩ := cs
  match l, hs with
  | [v], _ =>
    obtain ⟨u, h6, h7⟩ := h5 0 v rfl
    simp at h6
    subst h6
    unfold Cell.ok at h7
    rw [Tryz.underlying3] at h7
    cases v <;> simp only at h7 <;> first | exact h7.elim | skip
    obtain ⟨rfl, _⟩ := h7
    exact ⟨_, _, _, _, h1, rfl⟩
set_option maxRecDepth 100000 in
/-- What the variables give. -/
theorem of_laidW {W : World} (hsh : W.ShapedOpen Tryz.prog) (h : laidMetH Tryz.prog Rows.rdataWordsUptoRow.laid W) : ∃ (Bs : List ABlk) (μ : Mu), HRel Tryz.prog (start W) μ Bs W ∧ Tk Bs ∧ Tb Bs ∧ Db Bs ∧ Te Bs ∧ Ml Bs := by
  have hsz := shaped_size gsize hsh lastRow
  obtain ⟨nm, cm, em, frm, hbm, hcm⟩ := max_block hsh
  have h : laidMet Tryz.prog Rows.rdataWordsUptoRow.laid W := h
  obtain ⟨ps, ⟨_, _, _, _, _, _, _, _, _, _, ⟨g6, t6, c6, f6, p6, q6, hg6, ht6, hv6, hd6, ⟨g1, t1, c1, f1, p1, q1, hg1, ht1, hv1, hd1, ⟨_, _, _, _, _, _, _, _, _, _, ⟨g4, t4, c4, f4, p4, q4, hg4, ht4, hv4, hd4, ⟨g3, t3, c3, f3, p3, q3, hg3, ht3, hv3, hd3, ⟨g0, t0, c0, f0, p0, q0, hg0, ht0, hv0, hd0, _, _⟩, _⟩, _⟩, _⟩, _⟩, _⟩, _⟩, _, _⟩ := h
  obtain rfl := Option.some.inj (gDe64.symm.trans hg6)
  obtain rfl := Option.some.inj (gPow.symm.trans hg1)
  obtain rfl := Option.some.inj (gRange.symm.trans hg4)
  obtain rfl := Option.some.inj (gSyntax.symm.trans hg3)
  obtain rfl := Option.some.inj (gKinds.symm.trans hg0)
  obtain ⟨e6, fr6, hb6⟩ := var_block gDe64 hv6
  obtain ⟨e1, fr1, hb1⟩ := var_block gPow hv1
  obtain ⟨e4, fr4, hb4⟩ := var_block gRange hv4
  obtain ⟨e3, fr3, hb3⟩ := var_block gSyntax hv3
  obtain ⟨e0, fr0, hb0⟩ := var_block gKinds hv0
  obtain rfl := Option.some.inj (tRange.symm.trans ht4)
  obtain rfl := Option.some.inj (tSyntax.symm.trans ht3)
  obtain ⟨l4, hl4, k4⟩ := err_var hd4
  obtain ⟨l3, hl3, k3⟩ := err_var hd3
  have k6 := trod_flat (μ := muX 9 [l3, l4]) 8 _ _ _ _ (pt_of ptDe64 ht6) hd6
  have k1 := trod_flat (μ := muX 9 [l3, l4]) 8 _ _ _ _ (pt_of ptPow ht1) hd1
  have k0 := trod_flat (μ := muX 9 [l3, l4]) 8 _ _ _ _ (pt_of ptKinds ht0) hd0
  have km : concs (muX 9 [l3, l4]) [.int .i64 nm] = some cm.toList := by rw [hcm]; rfl
  obtain ⟨x4, k4⟩ : ∃ x : AV, concs (muX 9 [l3, l4]) [.iface 174 x] = some c4.toList := by
    rcases k4 with k4 | k4
    · exact ⟨.ptr 10 0, by rw [k4]; simp [concs, conc, muX]⟩
    · exact ⟨.agg [.ptr 10 0], by rw [k4]; simp [concs, conc, muX]⟩
  obtain ⟨x3, k3⟩ : ∃ x : AV, concs (muX 9 [l3, l4]) [.iface 174 x] = some c3.toList := by
    rcases k3 with k3 | k3
    · exact ⟨.ptr 9 0, by rw [k3]; simp [concs, conc, muX]⟩
    · exact ⟨.agg [.ptr 9 0], by rw [k3]; simp [concs, conc, muX]⟩
  refine ⟨_, _, start_globX (Bs := [.cells kindsC e0 .ro, .cells pow10c e1 .ro, .cells [.int .i64 nm] em .ro, .ghost, .cells deB64c e6 .ro, .cells [.iface 174 x3] e3 .ro, .cells [.iface 174 x4] e4 .ro, .ghost, .ghost]) (xs := [l3, l4]) gsize hsz rfl ?_ ?_ ?_, ⟨e0, .ro, rfl⟩, ⟨e1, .ro, rfl⟩, ⟨e6, .ro, rfl⟩, ⟨⟨e3, .ro, _, _, rfl⟩, ⟨e4, .ro, _, _, rfl⟩⟩, ⟨nm, em, .ro, rfl⟩⟩
  · intro x hx
    simp only [List.mem_cons, List.not_mem_nil, or_false] at hx
    rcases hx with rfl | rfl
    · exact hl3
    · exact hl4
  · intro x hx
    simp only [List.mem_cons, List.not_mem_nil, or_false] at hx
    rcases hx with rfl | rfl | rfl | rfl | rfl | rfl | rfl | rfl | rfl <;> rfl
  · intro i x hx
    match i with
    | 0 => cases hx; exact laid_block hb0 k0
    | 1 => cases hx; exact laid_block hb1 k1
    | 2 => cases hx; exact laid_block hbm km
    | 3 => cases hx; trivial
    | 4 => cases hx; exact laid_block hb6 k6
    | 5 => cases hx; exact laid_block hb3 k3
    | 6 => cases hx; exact laid_block hb4 k4
    | 7 => cases hx; trivial
    | 8 => cases hx; trivial
    | i + 9 => simp at hx
abbrev wArgs : Array Value := #[.int .u16 0, .agg #[.string ByteArray.empty, .string ByteArray.empty, .string ByteArray.empty, .int .u32 0, .int .u32 0, .int .u32 0, .int .u32 0, .int .u32 0], .string ByteArray.empty]
theorem laidW_met (os : Os) : laidMet Tryz.prog Rows.rdataWordsUptoRow.laid ((World.laidAll Tryz.prog os Rows.rdataWordsUptoRow.laid).forCall (fun _ _ => 0) ⟨#[], wArgs, []⟩).memory :=
  laidMet_laidAll _ (by kernel_rfl) (by kernel_rfl)
theorem readsW (os : Os) {H : Type} (enc : TypeId × Value → H) : ∃ places, DataW.whole enc Tryz.prog ((World.laidAll Tryz.prog os Rows.rdataWordsUptoRow.laid).forCall (fun _ _ => 0) ⟨#[], wArgs, []⟩).memory Tryz.f3.params.toList Rows.rdataWordsSpec.vars false wArgs.toList 8 = some ([.lit (.int .u16 0), .agg [.lit (.string []), .lit (.string []), .lit (.string []), .agg [.lit (.int .u32 0), .lit (.int .u32 0), .lit (.int .u32 0), .lit (.int .u32 0), .lit (.int .u32 0)]], .lit (.string [])], [], places) :=
  ⟨[], by kernel_rfl⟩
set_option maxRecDepth 100000 in
theorem liftedW (os : Os) (started : os.Started) (H : Type) (enc : TypeId × Value → H) (F : Stop.Interp) :
    ReturnsInHanded {} Tryz.checked os 3 .any ((Rows.OpenSpec.upto Rows.rdataWordsSpec).preRow enc Tryz.prog Tryz.f3 Rows.rdataWordsUptoRow.domain false Rows.rdataWordsUptoRow.laid) (((Rows.OpenSpec.upto Rows.rdataWordsSpec).at F).post enc Tryz.prog Tryz.f3 false true false false) := by
  obtain ⟨places, hx⟩ := readsW os enc
  refine returnsInHanded_of_row (C := Tryz.checked) (s := Rows.OpenSpec.upto Rows.rdataWordsSpec) own started (by kernel_rfl) Tryz.func3
    (witness_row_at (enc := enc) (C := Tryz.checked) false (World.laidAll Tryz.prog os Rows.rdataWordsUptoRow.laid) wArgs (World.laidAll_os _ _ _) (by kernel_rfl) (by kernel_rfl) (by kernel_rfl)
      (OpenSpec.preRow_of_cond 8 hx (by kernel_rfl) (fun k hk => by cases hk; kernel_rfl) (by kernel_rfl) (laidW_met os))) ?_
  intro W base args ds gs before hval0 hW _ hk _ hL hsh _
  have hk := hk _ rfl
  have hval : ∀ (j : Nat) t v, Tryz.f3.params[j]? = some t → args[j]? = some v → Value.okWide Tryz.prog W .any base t v := hval0
  have hW' := hW
  obtain ⟨p, q, hA0, hV, rfl, hfz, hnd⟩ := hW
  have hA : DataW.TrodAll enc Tryz.prog W 0 (fun _ => true) true Tryz.f3.params.toList args.toList ds p := hA0
  rw [Tryz.params3] at hA hval
  obtain ⟨v0, vs0, d0, ds0, p0, q0, hargs, rfl, rfl, h0, r0⟩ := trodAll_cons hA
  obtain ⟨v1, vs1, d1, ds1, p1, q1, hargs1, rfl, rfl, h1, r1⟩ := trodAll_cons r0
  obtain ⟨v2, vs2, d2, ds2, p2, q2, hargs2, rfl, rfl, h2, r2⟩ := trodAll_cons r1
  obtain ⟨rfl, rfl, rfl⟩ := trodAll_nil r2
  subst hargs1 hargs2
  obtain rfl : args = #[v0, v1, v2] := by cases args; simp_all
  obtain ⟨rfl, rfl⟩ := trodVars_none hV
  have k1 := h1
  have lt1 : ∀ x ∈ p1, x.block < W.heap.size := by obtain ⟨m, hm⟩ := k1; exact DataW.trod_lt m _ _ _ hm
  obtain ⟨t, rfl, rfl, rfl, wt⟩ := open_int Tryz.underlying22 (hval 0 22 v0 rfl rfl) h0
  obtain ⟨x, hcx, ⟨n0, n1, n2, n3, n4⟩, hbk⟩ := open_data (hval 1 27 v1 rfl rfl) h1
  obtain ⟨s, rfl, rfl, rfl, y1⟩ := open_string Tryz.underlying23 (hval 2 23 v2 rfl rfl) h2
  have hbound : Rows.uptoBulk d1 + s.data.toList.length ≤ 1048576 := by
    have h := of_decide_eq_true hk
    simp only [List.append_nil, Rows.uptoBulkAll, Rows.uptoBulk] at h
    omega
  have hwf : x.wf := ⟨by omega, by omega, by omega, n0, n1, n2, n3, n4⟩
  obtain ⟨Bs, μ, hR, hTk, hTb, hDb, hTe, hMl⟩ := of_laidW hsh hL
  have hrun := lawWords t x s.data.toList Bs hTk hTb hDb hTe hMl hwf (by omega)
  have hargs : concs μ [.int .u16 t, .agg x.cells, .str s.data.toList] = some [.int .u16 t, v1, .string s] := by
    have hint : conc μ (.int .u16 t) = some (.int .u16 t) := rfl
    have hstr : conc μ (.str s.data.toList) = some (.string s) := by simp [conc]
    simp only [concs, hint, hcx, hstr, Option.bind_some, Option.map_some]
  clear hA0 hval0
  refine (calls_of (by kernel_rfl) hrun hR hargs).mono fun e W' ⟨μ', v', he, ho⟩ => ?_
  subst he
  have bel := start_below ho.rel
  have hv' := ho.val
  simp only [conc, Option.some.injEq] at hv'
  subst hv'
  exact ⟨_, rfl, _, _, _, [], _, [], hW', trodAll_mk1 (shut_bool Tryz.underlying4 _), trodAll_mk3 (shut_int Tryz.underlying22 wt) (Below.trod laidOut (by kernel_rfl) (of_decide_eq_true (by kernel_rfl)) k1 bel lt1) (shut_string Tryz.underlying23 y1), rfl, bel.frame _, fun h => by cases h⟩
theorem saidW : Rows.RdataWordsUptoSaid :=
  OpenClaim.holds_of_cond 3 Tryz.f3 rfl rfl rfl rfl rfl rfl rfl ⟨rfl, rfl, rfl, rfl, rfl⟩ rfl rfl rfl rfl rfl (by kernel_rfl) Tryz.func3 (by kernel_rfl)
    (of_decide_eq_true (by kernel_rfl)) (by unfold Func.isWrapper; first | (rw [if_pos (by decide +kernel)]; kernel_rfl) | (rw [if_neg (by decide +kernel)]; exact ⟨rfl, rfl⟩))
    (fun os started H enc _ F => by rw [OpenClaim.pre_eq_preRow]; exact liftedW os started H enc F)
theorem plainW (f : FuncId) (fn : Func) (hf : Tryz.pinned.checked.prog.funcNamed "hearsay/hearsaylaw04.RdataWords" = some f) (hfn : Tryz.pinned.checked.prog.funcs[f]? = some fn) :
    true = Tryz.pinned.checked.prog.looks [] ∧ ∀ (j : Nat) t, fn.params[j]? = some t → Tryz.pinned.checked.prog.wantsStandIn t = false := by
  obtain rfl : f = 3 := Option.some.inj ((show Tryz.prog.funcNamed "hearsay/hearsaylaw04.RdataWords" = some 3 by kernel_rfl).symm.trans hf) |>.symm
  obtain rfl : fn = Tryz.f3 := (Option.some.inj (Tryz.func3.symm.trans hfn)).symm
  refine ⟨by kernel_rfl, fun j t ht => ?_⟩
  rw [Tryz.params3] at ht
  have hm : t ∈ [22, 27, 23] := by simpa using Array.mem_of_getElem? ht
  have hall : ([22, 27, 23].all fun u => !Tryz.prog.wantsStandIn u) = true := by kernel_rfl
  exact (show Tryz.prog.wantsStandIn t = false by simpa using List.all_eq_true.1 hall t hm)
end Go.Proofs.YtgkpgpdkolpfkaaGreatDoor.V
namespace Go.Proofs.YtgkpgpdkolpfkaaGreatDoor
open Go
/-- The row, tied. -/
theorem rdataWordsUpto_holds : Rows.RdataWordsUptoCardSaid :=
  Claim7.holds_tied_plain_at .later [] _ _ _ _ V.saidW (fun _ h => by cases h) (by kernel_rfl) (fun _ h => by cases h) rdataWordsUpto_row_tie rfl ⟨rfl, rfl⟩ (by kernel_rfl) rfl V.plainW (by kernel_rfl)
#print axioms rdataWordsUpto_holds
end Go.Proofs.YtgkpgpdkolpfkaaGreatDoor
