/- The row of the law 'ServiceFinds', out of its run in 'V'. It holds for every input. -/
import Derived.Test.YtjemmehgfheflaaVFinds
import Derived.Test.YtjemmehgfheflaaVOpen
import Derived.Test.YtjemmehgfheflaaRows
import Derived.WalkKit
import Derived.ProofKit
import Derived.OpenShut
import Derived.ShutString
import Derived.ChangeOld
import Derived.Below
import Derived.SizedLaws
namespace Go.Proofs.Ytjemmehgfheflaa.V
open Go Go.ChangeShapes Go.WideShapes Go.ChangeAt Go.RowKit
set_option linter.unusedSimpArgs false
set_option linter.unusedVariables false
open Go.ChangeMaps (open_string shut_string)
theorem glob0 : Try.prog.globals.size = 0 := by kernel_rfl
theorem plain29 : plainK Try.prog 8 29 = some [.s, .b, .i .u16, .i .u16, .i .u16, .s] := by kernel_rfl
theorem cells29 : Try.prog.cellsOf 29 = 6 := by kernel_rfl
theorem cellTypes24 : Try.prog.cellTypes Try.prog.depth 24 = some [9, 9, 9, 22] := by kernel_rfl
theorem cells24 : Try.prog.cellsOf 24 = 4 := by kernel_rfl
theorem cells9 : Try.prog.cellsOf 9 = 1 := by kernel_rfl
theorem cells22 : Try.prog.cellsOf 22 = 1 := by kernel_rfl
theorem own : ownKnob Try.prog.godebug = none := by kernel_rfl
theorem laidOut : laidOutB Try.prog = true := by kernel_rfl

theorem svc_of {r : List AV} (h : ckAll [.s, .b, .i .u16, .i .u16, .i .u16, .s] r) : ∃ s : Svc, r = s.cells := by
  match r, h with
  | [_, _, _, _, _, _], ⟨⟨l, h0, _⟩, ⟨d, h1⟩, ⟨p, h2, _⟩, ⟨q, h3, _⟩, ⟨w, h4, _⟩, ⟨t, h5, _⟩, _⟩ =>
    subst h0; subst h1; subst h2; subst h3; subst h4; subst h5
    exact ⟨⟨l, d, p, q, w, t⟩, rfl⟩
theorem svcs_of : ∀ {rs : List (List AV)}, (∀ r ∈ rs, ckAll [.s, .b, .i .u16, .i .u16, .i .u16, .s] r) → ∃ ss : List Svc, ss.length = rs.length ∧ rs.flatten = sflat ss
  | [], _ => ⟨[], rfl, rfl⟩
  | r :: rs, h => by
    obtain ⟨s, rfl⟩ := svc_of (h r (by simp))
    obtain ⟨ss, hl, hs⟩ := svcs_of (rs := rs) (fun r hr => h r (by simp [hr]))
    refine ⟨s :: ss, by simp [hl], ?_⟩
    show s.cells ++ rs.flatten = s.cells ++ sflat ss
    rw [hs]

section
variable {H : Type} {enc : TypeId × Value → H} {W : World}
/-- The argument, as 'V' reads it. -/
theorem open_meta {base : Nat} {v : Value} {d : DataW H} {p : List MemPlace} (hval : Value.okWide Try.prog W .any base 24 v) (h : DataW.Trod enc Try.prog W 0 (fun _ => true) true 24 v d p) :
    ∃ (a b c : List UInt8) (x : AV) (ss : List Svc) (Hh : Hp) (μ : Mu), HRel Try.prog (start W) μ Hh W ∧ conc μ (.agg [.str a, .str b, .str c, x]) = some v ∧ Sv Hh x ss ∧ ss.length ≤ 9223372036854775807 := by
  obtain ⟨fuel, h⟩ := h
  have hv := hval
  unfold Value.okWide at hv
  rw [Try.underlying24] at hv
  obtain ⟨cs, rfl, hsz, ts, hts, _, hcell⟩ := hv
  rw [cellTypes24] at hts
  cases hts
  rw [cells24] at hsz
  have hcs : (Value.agg cs).cells.toList = cs.toList := rfl
  rw [hcs] at h
  obtain ⟨xs, n, rfl, _, _, hxl, hf⟩ := DataW.trod_struct Try.underlying24 h
  obtain ⟨l⟩ := cs
  match l, hsz with
  | [c0, c1, c2, c3], _ =>
    have f0 := hf 0 _ rfl
    have f1 := hf 1 _ rfl
    have f2 := hf 2 _ rfl
    have f3 := hf 3 _ rfl
    have hx : xs.length = 4 := hxl
    simp only [cells9, cells22, List.drop_zero, List.drop_succ_cons, List.take_succ_cons, List.take_zero] at f0 f1 f2 f3
    rw [List.getElem?_eq_getElem (by omega)] at f0 f1 f2 f3
    obtain ⟨s0, e0, _, _⟩ := DataW.trod_string Try.underlying9 f0
    obtain ⟨s1, e1, _, _⟩ := DataW.trod_string Try.underlying9 f1
    obtain ⟨s2, e2, _, _⟩ := DataW.trod_string Try.underlying9 f2
    cases e0; cases e1; cases e2
    obtain ⟨e3, _⟩ | ⟨a, len, cap, es, sp, ps, e3, _, _, hlc, hcm, rs, hrl, hrs, vs, hvs, _, hvc⟩ := open_rows Try.underlying22 plain29 cells29 (by decide) f3
    · cases e3
      exact ⟨s0.data.toList, s1.data.toList, s2.data.toList, .nils, [], [], _, start_ok glob0, by simp [conc, concs], .inl ⟨rfl, rfl⟩, by simp⟩
    · cases e3
      obtain ⟨u, hu, hok⟩ := hcell 3 _ rfl
      cases hu
      have hok : Cell.ok Try.prog W .any base 22 (.slice (some a) len cap) := by
        simpa [Cell.okWide, Try.underlying22] using hok
      simp only [Cell.ok, Try.underlying22] at hok
      obtain ⟨_, _, _, hspot, row, cells, hsh, hlies⟩ := hok
      obtain ⟨ss, hsl, hss⟩ := svcs_of hrs
      have hB := fun μ => ro_block (P := Try.prog) (cap := cap) (μ := μ) hspot (hvs μ) hvc hsh (liesAt_le hlies)
      have hblk : a.block < W.heap.size := by
        unfold World.shape? at hsh
        cases hh : W.heap[a.block]? with
        | none => rw [hh] at hsh; cases hsh
        | some o => exact (Array.getElem?_eq_some_iff.1 hh).1
      have hR := (start_ok (P := Try.prog) (W := W) glob0).ro (by simp) hblk (hB _)
      refine ⟨s0.data.toList, s1.data.toList, s2.data.toList, .slice 0 0 ss.length (.ex cap), ss, _, _, hR, ?_, .inr ⟨0, .ex cap, [], row, .ro, rfl, ?_⟩, ?_⟩
      · obtain ⟨ab, ao, asp⟩ := a
        simp only at hspot
        subst hspot
        rw [← hrl, ← hsl]
        simp [conc, concs, upd]
      · rw [← hss]; simp
      · have : maxLen ≤ 9223372036854775807 := by decide
        omega
end

set_option maxRecDepth 100000 in
theorem lifted (os : Os) (started : os.Started) (H : Type) (enc : TypeId × Value → H) :
    ReturnsInHanded {} Try.checked os 3 .any (Rows.serviceFindsSpec.pre6 enc Try.prog Try.f3 Rows.serviceFindsRow.domain false) (Rows.serviceFindsSpec.post enc Try.prog Try.f3 false true false false) := by
  refine returnsInHanded_of_change_sized (C := Try.checked) own started (by kernel_rfl) Try.func3
    (ChangeSpec.witness6 (enc := enc) (C := Try.checked) false ⟨#[], #[.agg #[.string ByteArray.empty, .string ByteArray.empty, .string ByteArray.empty, .slice none 0 0], .string ByteArray.empty, .bool false], []⟩ 8 (by kernel_rfl) (by kernel_rfl) (by kernel_rfl) (by kernel_rfl)) ?_
  intro W base args ds gs before hval0 hW hcnd hsz0 _
  have hval : ∀ (j : Nat) t v, Try.f3.params[j]? = some t → args[j]? = some v → Value.okWide Try.prog W .any base t v := hval0
  have hW' := hW
  obtain ⟨p, q, hA0, hV, rfl, hfz, hnd⟩ := hW
  have hA : DataW.TrodAll enc Try.prog W 0 (fun _ => true) true Try.f3.params.toList args.toList ds p := hA0
  have hsz : (DataW.weightsEach Try.prog (Try.f3.params.toList ++ Rows.serviceFindsSpec.plain.varTypes Try.prog) (ds ++ gs)).all (· ≤ reachBytes) = true := hsz0
  rw [Try.params3] at hA hval hsz
  obtain ⟨v0, vs0, d0, ds0, p0, q0, hargs, rfl, rfl, h0, r0⟩ := trodAll_cons hA
  obtain ⟨v1, vs1, d1, ds1, p1, q1, rfl, rfl, rfl, h1, r1⟩ := trodAll_cons r0
  obtain ⟨v2, vs2, d2, ds2, p2, q2, rfl, rfl, rfl, h2, r2⟩ := trodAll_cons r1
  obtain ⟨rfl, rfl, rfl⟩ := trodAll_nil r2
  obtain rfl : args = #[v0, v1, v2] := by cases args; simp_all
  obtain ⟨rfl, rfl⟩ := trodVars_none hV
  have k0 := h0
  have lt0 : ∀ x ∈ p0, x.block < W.heap.size := by obtain ⟨m, hm⟩ := k0; exact DataW.trod_lt m _ _ _ hm
  obtain ⟨a, b, c, x, ss, Hh, μ, hR, hc0, hx, hn⟩ := open_meta (hval 0 24 v0 rfl rfl) h0
  obtain ⟨a1, rfl, rfl, rfl, y1⟩ := open_string Try.underlying9 (hval 1 9 v1 rfl rfl) h1
  obtain ⟨a2, rfl, rfl, rfl⟩ := open_bool Try.underlying4 (hval 2 4 v2 rfl rfl) h2
  have hrun := law3 a b c a1.data.toList a2 Hh x ss hx hn
  have hargs : concs μ [.agg [.str a, .str b, .str c, x], .str a1.data.toList, .bool a2] = some [v0, .string a1, .bool a2] := by
    rw [concs, hc0]; simp [concs, conc]
  clear hA0 hval0 hsz0 hsz
  refine (calls_of hrun hR hargs).mono fun e W' ⟨μ', v', he, ho⟩ => ?_
  subst he
  have bel := start_below ho.rel
  have hv' := ho.val
  simp only [conc, Option.some.injEq] at hv'
  subst hv'
  exact ⟨_, rfl, _, _, _, [], _, [], hW', trodAll_mk1 (shut_bool Try.underlying4 _), (trodAll_cons_mk (Below.trod laidOut (by kernel_rfl) (of_decide_eq_true (by kernel_rfl)) k0 bel lt0) (trodAll_cons_mk (shut_string Try.underlying9 y1) (trodAll_cons_mk (shut_bool Try.underlying4 _) trodAll_mk0))), rfl, bel.frame _, fun h => by cases h⟩

theorem over : Rows.serviceFindsRow.holds Try.pinned (OpenSpec.ofChange Rows.serviceFindsSpec) :=
  OpenClaim.holds_of_wide 3 Try.f3 rfl rfl rfl rfl rfl rfl rfl ⟨rfl, rfl, rfl, rfl, rfl⟩ rfl rfl rfl rfl rfl (by kernel_rfl) Try.func3 (by kernel_rfl)
    (of_decide_eq_true (by kernel_rfl)) (by unfold Func.isWrapper; first | (rw [if_pos (by decide +kernel)]; kernel_rfl) | (rw [if_neg (by decide +kernel)]; exact ⟨rfl, rfl⟩))
    (fun os started H enc _ => lifted os started H enc)
end Go.Proofs.Ytjemmehgfheflaa.V
namespace Go.Proofs.Ytjemmehgfheflaa
/-- The row, for the claim. -/
theorem serviceFinds_holds : Rows.ServiceFindsSaid := V.over
#print axioms serviceFinds_holds
end Go.Proofs.Ytjemmehgfheflaa
