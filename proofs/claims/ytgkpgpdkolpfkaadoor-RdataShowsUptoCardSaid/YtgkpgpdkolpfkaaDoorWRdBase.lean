/- What the rows of rdata's laws share: the variables' blocks, data opened. No conditions beyond the rows' own. -/
import Derived.Test.YtgkpgpdkolpfkaaDoorWWake
import Derived.Test.YtgkpgpdkolpfkaaDoorWFlat
import Derived.Test.YtgkpgpdkolpfkaaDoorRows
import Derived.Test.YtgkpgpdkolpfkaaDoorCards
import Derived.Test.YtgkpgpdkolpfkaaDoorTie
import Derived.WalkKit
import Derived.ProofKit
import Derived.OpenShut
import Derived.ShutString
import Derived.ChangeOld
import Derived.Below
import Derived.SizedLaws
import Derived.LaidMore
import Derived.Lay
import Derived.MakeChecks
import Derived.SevenTiedAt
import Derived.Deep.DeepHandedRow
namespace Go.Proofs.YtgkpgpdkolpfkaaDoor.V
open Go Go.ChangeShapes Go.WideShapes Go.ChangeAt Go.RowKit
set_option linter.unusedSimpArgs false
set_option linter.unusedVariables false
open Go.ChangeMaps (open_string shut_string)
theorem gsize : Tryd.prog.globals.size = 7 := by kernel_rfl
theorem own : ownKnob Tryd.prog.godebug = none := by kernel_rfl
theorem laidOut : laidOutB Tryd.prog = true := by kernel_rfl
theorem gKinds : Tryd.prog.globalNamed "hearsay/rdata.kinds" = some 0 := by kernel_rfl
theorem gPow : Tryd.prog.globalNamed "internal/strconv.uint64pow10" = some 1 := by kernel_rfl
theorem gDe64 : Tryd.prog.globalNamed "math/bits.deBruijn64tab" = some 6 := by kernel_rfl
theorem lastRow : ((((begin Tryd.prog (fun _ _ => 0) default).world.heap)[7 - 1]?).bind Obj.row?).isSome = true := by kernel_rfl
theorem ptKinds : ((Tryd.prog.globals[0]?).map (·.type)).all (plainT Tryd.prog 8) = true := by kernel_rfl
theorem ptPow : ((Tryd.prog.globals[1]?).map (·.type)).all (plainT Tryd.prog 8) = true := by kernel_rfl
theorem ptDe64 : ((Tryd.prog.globals[6]?).map (·.type)).all (plainT Tryd.prog 8) = true := by kernel_rfl
theorem pt_of {o : Option TypeId} {t : TypeId} {f : TypeId → Bool} (h : o.all f = true) (ht : o = some t) : f t = true := by subst ht; simpa using h

set_option maxRecDepth 100000 in
/-- What the listed variables give. -/
theorem of_laid {W : World} (hsh : W.ShapedOpen Tryd.prog) (h : laidMetH Tryd.prog Rows.rdataChecksUptoRow.laid W) : ∃ Bs : List ABlk, Bs.length = 7 ∧ (∀ x ∈ Bs, apart x = false) ∧ HRel Tryd.prog (start W) (mu0 7) Bs W ∧ Tk Bs ∧ Tb Bs ∧ Db Bs := by
  have hsz := shaped_size gsize hsh lastRow
  have h : laidMet Tryd.prog Rows.rdataChecksUptoRow.laid W := h
  obtain ⟨ps, ⟨_, _, _, _, _, _, _, _, _, _, ⟨g6, t6, c6, f6, p6, q6, hg6, ht6, hv6, hd6, ⟨g1, t1, c1, f1, p1, q1, hg1, ht1, hv1, hd1, ⟨g0, t0, c0, f0, p0, q0, hg0, ht0, hv0, hd0, _, _⟩, _⟩, _⟩, _⟩, _, _⟩ := h
  obtain rfl := Option.some.inj (gDe64.symm.trans hg6)
  obtain rfl := Option.some.inj (gPow.symm.trans hg1)
  obtain rfl := Option.some.inj (gKinds.symm.trans hg0)
  obtain ⟨e6, fr6, hb6⟩ := var_block gDe64 hv6
  obtain ⟨e1, fr1, hb1⟩ := var_block gPow hv1
  obtain ⟨e0, fr0, hb0⟩ := var_block gKinds hv0
  have k6 := trod_flat (μ := mu0 7) 8 _ _ _ _ (pt_of ptDe64 ht6) hd6
  have k1 := trod_flat (μ := mu0 7) 8 _ _ _ _ (pt_of ptPow ht1) hd1
  have k0 := trod_flat (μ := mu0 7) 8 _ _ _ _ (pt_of ptKinds ht0) hd0
  refine ⟨[.cells kindsC e0 .ro, .cells pow10c e1 .ro, .ghost, .ghost, .ghost, .ghost, .cells deB64c e6 .ro], rfl, ?_, start_glob gsize hsz rfl ?_ ?_, ⟨e0, .ro, rfl⟩, ⟨e1, .ro, rfl⟩, ⟨e6, .ro, rfl⟩⟩
  · intro x hx
    simp only [List.mem_cons, List.not_mem_nil, or_false] at hx
    rcases hx with rfl | rfl | rfl | rfl | rfl | rfl | rfl <;> rfl
  · intro x hx
    simp only [List.mem_cons, List.not_mem_nil, or_false] at hx
    rcases hx with rfl | rfl | rfl | rfl | rfl | rfl | rfl <;> rfl
  · intro i x hx
    match i with
    | 0 => cases hx; exact laid_block hb0 k0
    | 1 => cases hx; exact laid_block hb1 k1
    | 2 => cases hx; trivial
    | 3 => cases hx; trivial
    | 4 => cases hx; trivial
    | 5 => cases hx; trivial
    | 6 => cases hx; exact laid_block hb6 k6
    | i + 7 => simp at hx

theorem cells37 : Tryd.prog.cellsOf 37 = 8 := by kernel_rfl
theorem cellsN : Tryd.prog.cellsOf 35 = 5 := by kernel_rfl
theorem cells9 : Tryd.prog.cellsOf 9 = 1 := by kernel_rfl
theorem cellsNm : Tryd.prog.cellsOf 33 = 1 := by kernel_rfl
theorem cells34 : Tryd.prog.cellsOf 34 = 1 := by kernel_rfl
theorem u32_of {n : Int} (h : (Lit.int .u32 n).wf = true) : is32 n := by
  simp [Lit.wf, IntKind.min, IntKind.max, IntKind.bits, IntKind.signed] at h
  exact ⟨by omega, by omega⟩
section
variable {H : Type} {enc : TypeId × Value → H} {W : World}
set_option maxRecDepth 20000 in
/-- Data, as 'V' reads them. -/
theorem open_data {base : Nat} {v : Value} {d : DataW H} {p : List MemPlace} (hval : Value.okWide Tryd.prog W .any base 37 v) (h : DataW.Trod enc Tryd.prog W 0 (fun _ => true) true 37 v d p) :
    ∃ x : Dt, (∀ μ, conc μ (.agg x.cells) = some v) ∧ (is32 x.n0 ∧ is32 x.n1 ∧ is32 x.n2 ∧ is32 x.n3 ∧ is32 x.n4) ∧ x.raw.length + x.host.length + x.mail.length ≤ Rows.uptoBulk d := by
  obtain ⟨fuel, h⟩ := h
  have hv := hval
  unfold Value.okWide at hv
  rw [Tryd.underlying37] at hv
  obtain ⟨cs, rfl, hsz, _⟩ := hv
  rw [cells37] at hsz
  have hcs : (Value.agg cs).cells.toList = cs.toList := rfl
  rw [hcs] at h
  obtain ⟨xs, n', rfl, hx, hcl, hxl, hf⟩ := DataW.trod_struct Tryd.underlying37 h
  obtain ⟨l⟩ := cs
  match l, hsz with
  | [c0, c1, c2, c3, c4, c5, c6, c7], _ =>
    have f0 := hf 0 _ rfl
    have f1 := hf 1 _ rfl
    have f2 := hf 2 _ rfl
    have f3 := hf 3 _ rfl
    have hx4 : xs.length = 4 := hxl
    simp only [cells9, cellsNm, cellsN, List.drop_zero, List.drop_succ_cons, List.take_succ_cons, List.take_zero] at f0 f1 f2 f3
    match xs, hx4 with
    | [x0, x1, x2, x3], _ =>
      simp only [List.getElem?_cons_zero, List.getElem?_cons_succ] at f0 f1 f2 f3
      obtain ⟨s0, e0, z0, _⟩ := DataW.trod_string Tryd.underlying9 f0
      obtain ⟨s1, e1, z1, _⟩ := DataW.trod_string Tryd.underlying33 f1
      obtain ⟨s2, e2, z2, _⟩ := DataW.trod_string Tryd.underlying33 f2
      obtain ⟨ys, m, rfl, z3, _, hyl, hel⟩ := DataW.trod_array Tryd.underlying35 f3
      have i0 := hel 0 (by decide)
      have i1 := hel 1 (by decide)
      have i2 := hel 2 (by decide)
      have i3 := hel 3 (by decide)
      have i4 := hel 4 (by decide)
      simp only [cells34, Nat.mul_one, List.drop_zero, List.drop_succ_cons, List.take_succ_cons, List.take_zero] at i0 i1 i2 i3 i4
      match ys, hyl with
      | [y0, y1, y2, y3, y4], _ =>
        simp only [List.getElem?_cons_zero, List.getElem?_cons_succ] at i0 i1 i2 i3 i4
        obtain ⟨n0, a0, _, w0⟩ := DataW.trod_int Tryd.underlying34 i0
        obtain ⟨n1, a1, _, w1⟩ := DataW.trod_int Tryd.underlying34 i1
        obtain ⟨n2, a2, _, w2⟩ := DataW.trod_int Tryd.underlying34 i2
        obtain ⟨n3, a3, _, w3⟩ := DataW.trod_int Tryd.underlying34 i3
        obtain ⟨n4, a4, _, w4⟩ := DataW.trod_int Tryd.underlying34 i4
        cases e0; cases e1; cases e2; cases a0; cases a1; cases a2; cases a3; cases a4
        cases z0; cases z1; cases z2
        simp only [List.map_cons, List.map_nil, Prod.mk.injEq] at hx
        obtain ⟨rfl, _⟩ := hx
        refine ⟨⟨s0.data.toList, s1.data.toList, s2.data.toList, n0, n1, n2, n3, n4⟩, fun μ => ?_, ⟨u32_of w0, u32_of w1, u32_of w2, u32_of w3, u32_of w4⟩, ?_⟩
        · simp [Dt.cells, conc, concs]
        · simp only [Rows.uptoBulk, Rows.uptoBulkAll]; omega
end
end Go.Proofs.YtgkpgpdkolpfkaaDoor.V
