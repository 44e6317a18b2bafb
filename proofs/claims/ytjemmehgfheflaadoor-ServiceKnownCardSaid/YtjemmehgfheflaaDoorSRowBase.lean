/- What the rows of the service chapter's laws there-and-back and apart share: the arguments opened, the variables' blocks. No conditions beyond the rows' own. -/
import Derived.Test.YtjemmehgfheflaaDoorSWalkQ
import Derived.Test.YtjemmehgfheflaaDoorVLaid
import Derived.Test.YtjemmehgfheflaaDoorRows
import Derived.Test.YtjemmehgfheflaaDoorCards
import Derived.Test.YtjemmehgfheflaaDoorTie
import Derived.WalkKit
import Derived.ProofKit
import Derived.OpenShut
import Derived.ShutString
import Derived.ChangeOld
import Derived.Below
import Derived.SizedLaws
import Derived.LaidMore
import Derived.Lay
import Derived.MakeChecks
import Derived.SevenTiedAt
namespace Go.Proofs.YtjemmehgfheflaaDoor.V
open Go Go.ChangeShapes Go.WideShapes Go.ChangeAt Go.RowKit
set_option linter.unusedSimpArgs false
set_option linter.unusedVariables false
open Go.ChangeMaps (open_string shut_string)
theorem gsize : Tryd.prog.globals.size = 6 := by kernel_rfl
theorem plain41 : plainK Tryd.prog 8 41 = some [.s, .b, .i .u16, .i .u16, .i .u16, .s] := by kernel_rfl
theorem cells41 : Tryd.prog.cellsOf 41 = 6 := by kernel_rfl
theorem cellTypes24 : Tryd.prog.cellTypes Tryd.prog.depth 24 = some [9, 9, 9, 22] := by kernel_rfl
theorem cells24 : Tryd.prog.cellsOf 24 = 4 := by kernel_rfl
theorem cells9 : Tryd.prog.cellsOf 9 = 1 := by kernel_rfl
theorem cells22 : Tryd.prog.cellsOf 22 = 1 := by kernel_rfl
theorem own : ownKnob Tryd.prog.godebug = none := by kernel_rfl
theorem laidOut : laidOutB Tryd.prog = true := by kernel_rfl
theorem gPow : Tryd.prog.globalNamed "internal/strconv.uint64pow10" = some 1 := by kernel_rfl
theorem tPow : (Tryd.prog.globals[1]?).map (·.type) = some 99 := by kernel_rfl
theorem cells99 : Tryd.prog.cellsOf 99 = 20 := by kernel_rfl
theorem cells87 : Tryd.prog.cellsOf 87 = 1 := by kernel_rfl
theorem lastRow : ((((begin Tryd.prog (fun _ _ => 0) default).world.heap)[6 - 1]?).bind Obj.row?).isSome = true := by kernel_rfl

theorem u16_of {n : Int} (h : (Lit.int .u16 n).wf = true) : 0 ≤ n ∧ n < 65536 := by
  simp [Lit.wf, IntKind.min, IntKind.max, IntKind.bits, IntKind.signed] at h
  omega
theorem svc_of {r : List AV} (h : ckAll [.s, .b, .i .u16, .i .u16, .i .u16, .s] r) : ∃ s : Svc, r = s.cells ∧ s.label.length ≤ maxLen ∧ s.text.length ≤ maxLen ∧ (0 ≤ s.port ∧ s.port < 65536) ∧ (0 ≤ s.prio ∧ s.prio < 65536) ∧ (0 ≤ s.weight ∧ s.weight < 65536) := by
  match r, h with
  | [_, _, _, _, _, _], ⟨⟨l, h0, l0⟩, ⟨d, h1⟩, ⟨p, h2, l2⟩, ⟨q, h3, l3⟩, ⟨w, h4, l4⟩, ⟨t, h5, l5⟩, _⟩ =>
    subst h0; subst h1; subst h2; subst h3; subst h4; subst h5
    exact ⟨⟨l, d, p, q, w, t⟩, rfl, l0, l5, u16_of l2, u16_of l3, u16_of l4⟩
theorem svcs_of : ∀ {rs : List (List AV)}, (∀ r ∈ rs, ckAll [.s, .b, .i .u16, .i .u16, .i .u16, .s] r) → ∃ ss : List Svc, ss.length = rs.length ∧ rs.flatten = sflat ss ∧ ∀ s ∈ ss, s.label.length ≤ maxLen ∧ s.text.length ≤ maxLen ∧ (0 ≤ s.port ∧ s.port < 65536) ∧ (0 ≤ s.prio ∧ s.prio < 65536) ∧ (0 ≤ s.weight ∧ s.weight < 65536)
  | [], _ => ⟨[], rfl, rfl, by simp⟩
  | r :: rs, h => by
    obtain ⟨s, rfl, hs1⟩ := svc_of (h r (by simp))
    obtain ⟨ss, hl, hs, hw⟩ := svcs_of (rs := rs) (fun r hr => h r (by simp [hr]))
    refine ⟨s :: ss, by simp [hl], ?_, ?_⟩
    · show s.cells ++ rs.flatten = s.cells ++ sflat ss
      rw [hs]
    · intro t ht
      rcases List.mem_cons.1 ht with rfl | ht
      · exact hs1
      · exact hw t ht

section
variable {H : Type} {enc : TypeId × Value → H} {W : World}
set_option maxRecDepth 20000 in
/-- The argument, as 'V' reads it, behind the variables' blocks. -/
theorem open_meta {base : Nat} {v : Value} {d : DataW H} {p : List MemPlace} {Bs : List ABlk} {μ0 : Mu} (hw : ∀ x ∈ Bs, wrt x = false) (h0 : HRel Tryd.prog (start W) μ0 Bs W) (hval : Value.okWide Tryd.prog W .any base 24 v) (h : DataW.Trod enc Tryd.prog W 0 (fun _ => true) true 24 v d p) :
    ∃ (a b c : List UInt8) (x : AV) (ss : List Svc) (L : Hp) (μ : Mu), Le μ0 μ ∧ (∀ x ∈ Bs ++ L, wrt x = false) ∧ HRel Tryd.prog (start W) μ (Bs ++ L) W ∧ conc μ (.agg [.str a, .str b, .str c, x]) = some v ∧ Sw (Bs ++ L) x ss ∧ Wf a b c ss := by
  obtain ⟨fuel, h⟩ := h
  have hv := hval
  unfold Value.okWide at hv
  rw [Tryd.underlying24] at hv
  obtain ⟨cs, rfl, hsz, ts, hts, _, hcell⟩ := hv
  rw [cellTypes24] at hts
  cases hts
  rw [cells24] at hsz
  have hcs : (Value.agg cs).cells.toList = cs.toList := rfl
  rw [hcs] at h
  obtain ⟨xs, n', rfl, _, _, hxl, hf⟩ := DataW.trod_struct Tryd.underlying24 h
  have hml : maxLen ≤ 9223372036854775807 := by decide
  obtain ⟨l⟩ := cs
  match l, hsz with
  | [c0, c1, c2, c3], _ =>
    have f0 := hf 0 _ rfl
    have f1 := hf 1 _ rfl
    have f2 := hf 2 _ rfl
    have f3 := hf 3 _ rfl
    have hx : xs.length = 4 := hxl
    simp only [cells9, cells22, List.drop_zero, List.drop_succ_cons, List.take_succ_cons, List.take_zero] at f0 f1 f2 f3
    rw [List.getElem?_eq_getElem (by omega)] at f0 f1 f2 f3
    obtain ⟨s0, e0, _, z0⟩ := DataW.trod_string Tryd.underlying9 f0
    obtain ⟨s1, e1, _, z1⟩ := DataW.trod_string Tryd.underlying9 f1
    obtain ⟨s2, e2, _, z2⟩ := DataW.trod_string Tryd.underlying9 f2
    cases e0; cases e1; cases e2
    have z0 : s0.data.toList.length ≤ maxLen := z0
    have z1 : s1.data.toList.length ≤ maxLen := z1
    have z2 : s2.data.toList.length ≤ maxLen := z2
    obtain ⟨e3, _⟩ | ⟨a, len, cap, es, sp, ps, e3, _, _, hlc, hcm, rs, hrl, hrs, vs, hvs, _, hvc⟩ := open_rows Tryd.underlying22 plain41 cells41 (by decide) f3
    · cases e3
      exact ⟨s0.data.toList, s1.data.toList, s2.data.toList, .nils, [], [], _, Le.refl _, by simpa using hw, by rw [List.append_nil]; exact h0, by simp [conc, concs], .inl ⟨rfl, rfl⟩, ⟨by omega, by omega, by omega, by simp⟩, by simp⟩
    · cases e3
      obtain ⟨u, hu, hok⟩ := hcell 3 _ rfl
      cases hu
      have hok : Cell.ok Tryd.prog W .any base 22 (.slice (some a) len cap) := by
        simpa [Cell.okWide, Tryd.underlying22] using hok
      simp only [Cell.ok, Tryd.underlying22] at hok
      obtain ⟨_, _, _, hspot, row, cells, hsh, hlies⟩ := hok
      obtain ⟨ss, hsl, hss, hwf⟩ := svcs_of hrs
      have hB := fun μ => ro_block (P := Tryd.prog) (cap := cap) (μ := μ) hspot (hvs μ) hvc hsh (liesAt_le hlies)
      have hblk : a.block < W.heap.size := by
        unfold World.shape? at hsh
        cases hh : W.heap[a.block]? with
        | none => rw [hh] at hsh; cases hsh
        | some o => exact (Array.getElem?_eq_some_iff.1 hh).1
      have hR := h0.ro hw hblk (hB _)
      refine ⟨s0.data.toList, s1.data.toList, s2.data.toList, .slice Bs.length 0 ss.length (.ex cap), ss, [.cells rs.flatten row .ro], _, h0.le_upd _, ?_, hR, ?_, .inr (.inl ⟨Bs.length, cap, [], row, .ro, rfl, by omega, ?_⟩), ⟨by omega, by omega, by omega, by omega⟩, fun s hs => ?_⟩
      · intro y hy
        rcases List.mem_append.1 hy with hy | hy
        · exact hw y hy
        · simp only [List.mem_singleton] at hy; subst hy; rfl
      · obtain ⟨ab, ao, asp⟩ := a
        simp only at hspot
        subst hspot
        rw [← hrl, ← hsl]
        simp [conc, concs, upd]
      · rw [← hss]; simp
      · obtain ⟨q1, q2, q3⟩ := hwf s hs
        exact ⟨by omega, by omega, q3⟩
end

/-- What the five listed variables give. -/
theorem of_laid {W : World} (hsh : W.ShapedOpen Tryd.prog) (h : laidMetH Tryd.prog Rows.serviceBackRow.laid W) : ∃ Bs : List ABlk, Bs.length = 6 ∧ (∀ x ∈ Bs, wrt x = false) ∧ HRel Tryd.prog (start W) (mu0 6) Bs W ∧ Tb Bs := by
  have hsz := shaped_size gsize hsh lastRow
  have h : laidMet Tryd.prog Rows.serviceBackRow.laid W := h
  obtain ⟨ps, ⟨_, _, _, _, _, _, _, _, _, _, ⟨_, _, _, _, _, _, _, _, _, _, ⟨g, t, cs, f, p, q, hg, ht, hv, hd, _, _⟩, _⟩, _⟩, _, _⟩ := h
  obtain rfl := Option.some.inj (gPow.symm.trans hg)
  obtain rfl := Option.some.inj (tPow.symm.trans ht)
  obtain ⟨e, fr, hb⟩ := var_block gPow hv
  have hc := arr_ints Tryd.underlying99 Tryd.underlying87 cells87 cells99 hd
  refine ⟨.ghost :: .cells pow10c e .ro :: List.replicate (6 - 2) .ghost, by simp, ?_, start_glob gsize hsz (by simp) ?_ ?_, e, .ro, rfl⟩
  · intro x hx
    simp only [List.mem_cons, List.mem_replicate] at hx
    rcases hx with rfl | rfl | ⟨_, rfl⟩ <;> rfl
  · intro x hx
    simp only [List.mem_cons, List.mem_replicate] at hx
    rcases hx with rfl | rfl | ⟨_, rfl⟩ <;> rfl
  · intro i x hx
    match i with
    | 0 => cases hx; trivial
    | 1 => cases hx; exact laid_block hb (hc _)
    | i + 2 =>
      simp only [List.getElem?_cons_succ] at hx
      have := List.mem_of_getElem? hx
      simp only [List.mem_replicate] at this
      obtain ⟨_, rfl⟩ := this
      trivial
/-- The witness meets the condition. -/
theorem laid_met (os : Os) (args : Array Value) : laidMetH Tryd.prog Rows.serviceBackRow.laid ((World.laidAll Tryd.prog os Rows.serviceBackRow.laid).forCall (fun _ _ => 0) ⟨#[], args, []⟩).memory := by
  rw [MakeChecks.laidMetH_plain _ _ _ (by kernel_rfl)]; exact laidMet_laidAll _ (by kernel_rfl) (by kernel_rfl)
end Go.Proofs.YtjemmehgfheflaaDoor.V
