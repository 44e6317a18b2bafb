/- Data of records told: as 'V' runs the document's function. Printed by gen_refshow.py. No conditions. -/
import Derived.Test.YtgkpgpdkolpfkaaDoorWShow
namespace Go.Proofs.YtgkpgpdkolpfkaaDoor.V
open Go
set_option linter.unusedSimpArgs false
set_option linter.unusedVariables false
attribute [local irreducible] go goOps goD opK callK callT stepK leaveTo nextK

theorem Dt.l3 (d : Dt) (e : TypeId) (k : Kd) : ldC 3 1 false (.cells d.cells e k) = some (.int .u32 d.n0) := rfl
theorem Dt.l4 (d : Dt) (e : TypeId) (k : Kd) : ldC 4 1 false (.cells d.cells e k) = some (.int .u32 d.n1) := rfl
theorem Dt.l5 (d : Dt) (e : TypeId) (k : Kd) : ldC 5 1 false (.cells d.cells e k) = some (.int .u32 d.n2) := rfl
theorem Dt.l6 (d : Dt) (e : TypeId) (k : Kd) : ldC 6 1 false (.cells d.cells e k) = some (.int .u32 d.n3) := rfl
theorem Dt.l7 (d : Dt) (e : TypeId) (k : Kd) : ldC 7 1 false (.cells d.cells e k) = some (.int .u32 d.n4) := rfl
theorem nat32 {n : Int} (h : is32 n) : ∃ m : Nat, n = (m : Int) ∧ m < 4294967296 := ⟨n.toNat, by have := h.1; omega, by have := h.2; have := h.1; omega⟩


set_option maxRecDepth 20000 in
set_option maxHeartbeats 1000000 in
theorem refshow_2 (d : Dt) (H) (hd : d.wf) (hg : goodB 2 d = true) : callK Tryd.prog 13 [.int .u16 2, .agg d.cells] H (fun q => q = (.tuple [.str (showS 2 d), .int .i64 0], H, z0)) := by
  refine callK_start (n := 173) (rs := [.tmp 4, .tmp 5]) Tryd.func13 rfl rfl rfl ?_
  intro σ hl ha
  have h0 := ha 0 (by simp)
  have h1 := ha 1 (by simp)
  clear ha
  simp only [Option.getD_some, List.getElem?_cons_zero, List.getElem?_cons_succ] at h0 h1
  have hck := fun H k => ref_Check 2 d H k hd
  have hc0 : chk 2 d = 0 := if_pos hg
  rw [hc0] at hck
  obtain ⟨gh, gm, ga, gq, gx, graw⟩ := good_by hg
  have gh1 := gh 104 (by decide) (by decide)
  obtain ⟨Lh, hLh⟩ := Option.isSome_iff_exists.1 gh1
  have hth := fun H k => ref_Text d.host H k Lh hLh (by have := hd.host; show _ ≤ 9223372036854775807; omega)
  have hhl := txtN_len d.host
  have hnm := fun H k => ref_names 2 H k
  have hnu := fun H k => ref_numbers 2 H k
  rw [show hostT 2 = true from rfl, show mailT 2 = false from rfl] at hnm
  rw [show numT 2 = 0 from rfl, show bitT 2 = 0 from rfl] at hnu
  simp only [go_sem, simprocAttr, hl, h0, h1, Dt.l8, Dt.vc, Dt.len, Dt.l0, Dt.l1, Dt.l2, Dt.l3, Dt.l4, Dt.l5, Dt.l6, Dt.l7, hth, hck, hnm, hnu]
  rw [go_loop]
  simp only [go_sem, simprocAttr, hl, h0, h1, Dt.l8, Dt.vc, Dt.len, Dt.l0, Dt.l1, Dt.l2, Dt.l3, Dt.l4, Dt.l5, Dt.l6, Dt.l7, hth, hck, hnm, hnu]
  try (repeat (refine ⟨by (unfold maxI; omega), ?_⟩))
  have hsw : showS 2 d = txtN d.host := by simp [showS, formS, showL, elemS, isN, joinS, Dt.n]
  refine ⟨by omega, ?_⟩
  rw [List.take_of_length_le (by first | omega | (simp only [List.length_append, List.length_cons]; omega)), hsw]

set_option maxRecDepth 20000 in
set_option maxHeartbeats 1000000 in
theorem refshow_5 (d : Dt) (H) (hd : d.wf) (hg : goodB 5 d = true) : callK Tryd.prog 13 [.int .u16 5, .agg d.cells] H (fun q => q = (.tuple [.str (showS 5 d), .int .i64 0], H, z0)) := by
  refine callK_start (n := 173) (rs := [.tmp 4, .tmp 5]) Tryd.func13 rfl rfl rfl ?_
  intro σ hl ha
  have h0 := ha 0 (by simp)
  have h1 := ha 1 (by simp)
  clear ha
  simp only [Option.getD_some, List.getElem?_cons_zero, List.getElem?_cons_succ] at h0 h1
  have hck := fun H k => ref_Check 5 d H k hd
  have hc0 : chk 5 d = 0 := if_pos hg
  rw [hc0] at hck
  obtain ⟨gh, gm, ga, gq, gx, graw⟩ := good_by hg
  have gh1 := gh 104 (by decide) (by decide)
  obtain ⟨Lh, hLh⟩ := Option.isSome_iff_exists.1 gh1
  have hth := fun H k => ref_Text d.host H k Lh hLh (by have := hd.host; show _ ≤ 9223372036854775807; omega)
  have hhl := txtN_len d.host
  have hnm := fun H k => ref_names 5 H k
  have hnu := fun H k => ref_numbers 5 H k
  rw [show hostT 5 = true from rfl, show mailT 5 = false from rfl] at hnm
  rw [show numT 5 = 0 from rfl, show bitT 5 = 0 from rfl] at hnu
  simp only [go_sem, simprocAttr, hl, h0, h1, Dt.l8, Dt.vc, Dt.len, Dt.l0, Dt.l1, Dt.l2, Dt.l3, Dt.l4, Dt.l5, Dt.l6, Dt.l7, hth, hck, hnm, hnu]
  rw [go_loop]
  simp only [go_sem, simprocAttr, hl, h0, h1, Dt.l8, Dt.vc, Dt.len, Dt.l0, Dt.l1, Dt.l2, Dt.l3, Dt.l4, Dt.l5, Dt.l6, Dt.l7, hth, hck, hnm, hnu]
  try (repeat (refine ⟨by (unfold maxI; omega), ?_⟩))
  have hsw : showS 5 d = txtN d.host := by simp [showS, formS, showL, elemS, isN, joinS, Dt.n]
  refine ⟨by omega, ?_⟩
  rw [List.take_of_length_le (by first | omega | (simp only [List.length_append, List.length_cons]; omega)), hsw]

set_option maxRecDepth 20000 in
set_option maxHeartbeats 1000000 in
theorem refshow_12 (d : Dt) (H) (hd : d.wf) (hg : goodB 12 d = true) : callK Tryd.prog 13 [.int .u16 12, .agg d.cells] H (fun q => q = (.tuple [.str (showS 12 d), .int .i64 0], H, z0)) := by
  refine callK_start (n := 173) (rs := [.tmp 4, .tmp 5]) Tryd.func13 rfl rfl rfl ?_
  intro σ hl ha
  have h0 := ha 0 (by simp)
  have h1 := ha 1 (by simp)
  clear ha
  simp only [Option.getD_some, List.getElem?_cons_zero, List.getElem?_cons_succ] at h0 h1
  have hck := fun H k => ref_Check 12 d H k hd
  have hc0 : chk 12 d = 0 := if_pos hg
  rw [hc0] at hck
  obtain ⟨gh, gm, ga, gq, gx, graw⟩ := good_by hg
  have gh1 := gh 104 (by decide) (by decide)
  obtain ⟨Lh, hLh⟩ := Option.isSome_iff_exists.1 gh1
  have hth := fun H k => ref_Text d.host H k Lh hLh (by have := hd.host; show _ ≤ 9223372036854775807; omega)
  have hhl := txtN_len d.host
  have hnm := fun H k => ref_names 12 H k
  have hnu := fun H k => ref_numbers 12 H k
  rw [show hostT 12 = true from rfl, show mailT 12 = false from rfl] at hnm
  rw [show numT 12 = 0 from rfl, show bitT 12 = 0 from rfl] at hnu
  simp only [go_sem, simprocAttr, hl, h0, h1, Dt.l8, Dt.vc, Dt.len, Dt.l0, Dt.l1, Dt.l2, Dt.l3, Dt.l4, Dt.l5, Dt.l6, Dt.l7, hth, hck, hnm, hnu]
  rw [go_loop]
  simp only [go_sem, simprocAttr, hl, h0, h1, Dt.l8, Dt.vc, Dt.len, Dt.l0, Dt.l1, Dt.l2, Dt.l3, Dt.l4, Dt.l5, Dt.l6, Dt.l7, hth, hck, hnm, hnu]
  try (repeat (refine ⟨by (unfold maxI; omega), ?_⟩))
  have hsw : showS 12 d = txtN d.host := by simp [showS, formS, showL, elemS, isN, joinS, Dt.n]
  refine ⟨by omega, ?_⟩
  rw [List.take_of_length_le (by first | omega | (simp only [List.length_append, List.length_cons]; omega)), hsw]

set_option maxRecDepth 20000 in
set_option maxHeartbeats 1000000 in
theorem refshow_6 (d : Dt) (H) (hd : d.wf) (hg : goodB 6 d = true) : callK Tryd.prog 13 [.int .u16 6, .agg d.cells] H (fun q => q = (.tuple [.str (showS 6 d), .int .i64 0], H, z0)) := by
  refine callK_start (n := 173) (rs := [.tmp 4, .tmp 5]) Tryd.func13 rfl rfl rfl ?_
  intro σ hl ha
  have h0 := ha 0 (by simp)
  have h1 := ha 1 (by simp)
  clear ha
  simp only [Option.getD_some, List.getElem?_cons_zero, List.getElem?_cons_succ] at h0 h1
  have hck := fun H k => ref_Check 6 d H k hd
  have hc0 : chk 6 d = 0 := if_pos hg
  rw [hc0] at hck
  obtain ⟨gh, gm, ga, gq, gx, graw⟩ := good_by hg
  have gh1 := gh 104 (by decide) (by decide)
  obtain ⟨Lh, hLh⟩ := Option.isSome_iff_exists.1 gh1
  have hth := fun H k => ref_Text d.host H k Lh hLh (by have := hd.host; show _ ≤ 9223372036854775807; omega)
  have hhl := txtN_len d.host
  have gm1 := gm 109 (by decide) rfl
  obtain ⟨Lm, hLm⟩ := Option.isSome_iff_exists.1 gm1
  have htm := fun H k => ref_Text d.mail H k Lm hLm (by have := hd.mail; show _ ≤ 9223372036854775807; omega)
  have hml := txtN_len d.mail
  have hnm := fun H k => ref_names 6 H k
  have hnu := fun H k => ref_numbers 6 H k
  rw [show hostT 6 = true from rfl, show mailT 6 = true from rfl] at hnm
  rw [show numT 6 = 5 from rfl, show bitT 6 = 32 from rfl] at hnu
  obtain ⟨m0, hm0, hs0⟩ := nat32 hd.n0
  have hd0 := fun H k => ref_digits m0 H k hs0
  have hb0 := decP_le2 hs0
  obtain ⟨m1, hm1, hs1⟩ := nat32 hd.n1
  have hd1 := fun H k => ref_digits m1 H k hs1
  have hb1 := decP_le2 hs1
  obtain ⟨m2, hm2, hs2⟩ := nat32 hd.n2
  have hd2 := fun H k => ref_digits m2 H k hs2
  have hb2 := decP_le2 hs2
  obtain ⟨m3, hm3, hs3⟩ := nat32 hd.n3
  have hd3 := fun H k => ref_digits m3 H k hs3
  have hb3 := decP_le2 hs3
  obtain ⟨m4, hm4, hs4⟩ := nat32 hd.n4
  have hd4 := fun H k => ref_digits m4 H k hs4
  have hb4 := decP_le2 hs4
  simp only [go_sem, simprocAttr, hl, h0, h1, Dt.l8, Dt.vc, Dt.len, Dt.l0, Dt.l1, Dt.l2, Dt.l3, Dt.l4, Dt.l5, Dt.l6, Dt.l7, hth, hck, hnm, hnu, htm, hm0, hd0, hm1, hd1, hm2, hd2, hm3, hd3, hm4, hd4]
  refine go_drawZ tFollows (by kernel_rfl) ?_
  simp only [go_sem, simprocAttr, hl, h0, h1, Dt.l8, Dt.vc, Dt.len, Dt.l0, Dt.l1, Dt.l2, Dt.l3, Dt.l4, Dt.l5, Dt.l6, Dt.l7, hth, hck, hnm, hnu, htm, hm0, hd0, hm1, hd1, hm2, hd2, hm3, hd3, hm4, hd4]
  try (repeat (refine ⟨by (unfold maxI; omega), ?_⟩))
  rw [go_loop]
  simp only [go_sem, simprocAttr, hl, h0, h1, Dt.l8, Dt.vc, Dt.len, Dt.l0, Dt.l1, Dt.l2, Dt.l3, Dt.l4, Dt.l5, Dt.l6, Dt.l7, hth, hck, hnm, hnu, htm, hm0, hd0, hm1, hd1, hm2, hd2, hm3, hd3, hm4, hd4]
  try (repeat (refine ⟨by (unfold maxI; omega), ?_⟩))
  rw [go_loop]
  simp only [go_sem, simprocAttr, hl, h0, h1, Dt.l8, Dt.vc, Dt.len, Dt.l0, Dt.l1, Dt.l2, Dt.l3, Dt.l4, Dt.l5, Dt.l6, Dt.l7, hth, hck, hnm, hnu, htm, hm0, hd0, hm1, hd1, hm2, hd2, hm3, hd3, hm4, hd4]
  try (repeat (refine ⟨by (unfold maxI; omega), ?_⟩))
  rw [go_loop]
  simp only [go_sem, simprocAttr, hl, h0, h1, Dt.l8, Dt.vc, Dt.len, Dt.l0, Dt.l1, Dt.l2, Dt.l3, Dt.l4, Dt.l5, Dt.l6, Dt.l7, hth, hck, hnm, hnu, htm, hm0, hd0, hm1, hd1, hm2, hd2, hm3, hd3, hm4, hd4]
  try (repeat (refine ⟨by (unfold maxI; omega), ?_⟩))
  rw [go_loop]
  simp only [go_sem, simprocAttr, hl, h0, h1, Dt.l8, Dt.vc, Dt.len, Dt.l0, Dt.l1, Dt.l2, Dt.l3, Dt.l4, Dt.l5, Dt.l6, Dt.l7, hth, hck, hnm, hnu, htm, hm0, hd0, hm1, hd1, hm2, hd2, hm3, hd3, hm4, hd4]
  try (repeat (refine ⟨by (unfold maxI; omega), ?_⟩))
  rw [go_loop]
  simp only [go_sem, simprocAttr, hl, h0, h1, Dt.l8, Dt.vc, Dt.len, Dt.l0, Dt.l1, Dt.l2, Dt.l3, Dt.l4, Dt.l5, Dt.l6, Dt.l7, hth, hck, hnm, hnu, htm, hm0, hd0, hm1, hd1, hm2, hd2, hm3, hd3, hm4, hd4]
  try (repeat (refine ⟨by (unfold maxI; omega), ?_⟩))
  rw [go_loop]
  simp only [go_sem, simprocAttr, hl, h0, h1, Dt.l8, Dt.vc, Dt.len, Dt.l0, Dt.l1, Dt.l2, Dt.l3, Dt.l4, Dt.l5, Dt.l6, Dt.l7, hth, hck, hnm, hnu, htm, hm0, hd0, hm1, hd1, hm2, hd2, hm3, hd3, hm4, hd4]
  try (repeat (refine ⟨by (unfold maxI; omega), ?_⟩))
  have hsw : showS 6 d = txtN d.host ++ 32 :: (txtN d.mail ++ 32 :: (decP m0 ++ 32 :: (decP m1 ++ 32 :: (decP m2 ++ 32 :: (decP m3 ++ 32 :: (decP m4)))))) := by simp [showS, formS, showL, elemS, isN, joinS, Dt.n, hm0, hm1, hm2, hm3, hm4]
  refine ⟨by omega, ?_⟩
  rw [List.take_of_length_le (by first | omega | (simp only [List.length_append, List.length_cons]; omega)), hsw]

set_option maxRecDepth 20000 in
set_option maxHeartbeats 1000000 in
theorem refshow_15 (d : Dt) (H) (hd : d.wf) (hg : goodB 15 d = true) : callK Tryd.prog 13 [.int .u16 15, .agg d.cells] H (fun q => q = (.tuple [.str (showS 15 d), .int .i64 0], H, z0)) := by
  refine callK_start (n := 173) (rs := [.tmp 4, .tmp 5]) Tryd.func13 rfl rfl rfl ?_
  intro σ hl ha
  have h0 := ha 0 (by simp)
  have h1 := ha 1 (by simp)
  clear ha
  simp only [Option.getD_some, List.getElem?_cons_zero, List.getElem?_cons_succ] at h0 h1
  have hck := fun H k => ref_Check 15 d H k hd
  have hc0 : chk 15 d = 0 := if_pos hg
  rw [hc0] at hck
  obtain ⟨gh, gm, ga, gq, gx, graw⟩ := good_by hg
  have gh1 := gh 104 (by decide) (by decide)
  obtain ⟨Lh, hLh⟩ := Option.isSome_iff_exists.1 gh1
  have hth := fun H k => ref_Text d.host H k Lh hLh (by have := hd.host; show _ ≤ 9223372036854775807; omega)
  have hhl := txtN_len d.host
  have hnm := fun H k => ref_names 15 H k
  have hnu := fun H k => ref_numbers 15 H k
  rw [show hostT 15 = true from rfl, show mailT 15 = false from rfl] at hnm
  rw [show numT 15 = 1 from rfl, show bitT 15 = 16 from rfl] at hnu
  obtain ⟨m0, hm0, hs0⟩ := nat32 hd.n0
  have hd0 := fun H k => ref_digits m0 H k hs0
  have hb0 := decP_le2 hs0
  simp only [go_sem, simprocAttr, hl, h0, h1, Dt.l8, Dt.vc, Dt.len, Dt.l0, Dt.l1, Dt.l2, Dt.l3, Dt.l4, Dt.l5, Dt.l6, Dt.l7, hth, hck, hnm, hnu, hm0, hd0]
  rw [go_loop]
  simp only [go_sem, simprocAttr, hl, h0, h1, Dt.l8, Dt.vc, Dt.len, Dt.l0, Dt.l1, Dt.l2, Dt.l3, Dt.l4, Dt.l5, Dt.l6, Dt.l7, hth, hck, hnm, hnu, hm0, hd0]
  try (repeat (refine ⟨by (unfold maxI; omega), ?_⟩))
  rw [go_loop]
  simp only [go_sem, simprocAttr, hl, h0, h1, Dt.l8, Dt.vc, Dt.len, Dt.l0, Dt.l1, Dt.l2, Dt.l3, Dt.l4, Dt.l5, Dt.l6, Dt.l7, hth, hck, hnm, hnu, hm0, hd0]
  try (repeat (refine ⟨by (unfold maxI; omega), ?_⟩))
  have hsw : showS 15 d = decP m0 ++ 32 :: (txtN d.host) := by simp [showS, formS, showL, elemS, isN, joinS, Dt.n, hm0]
  refine ⟨by omega, ?_⟩
  rw [List.take_of_length_le (by first | omega | (simp only [List.length_append, List.length_cons]; omega)), hsw]

set_option maxRecDepth 20000 in
set_option maxHeartbeats 1000000 in
theorem refshow_33 (d : Dt) (H) (hd : d.wf) (hg : goodB 33 d = true) : callK Tryd.prog 13 [.int .u16 33, .agg d.cells] H (fun q => q = (.tuple [.str (showS 33 d), .int .i64 0], H, z0)) := by
  refine callK_start (n := 173) (rs := [.tmp 4, .tmp 5]) Tryd.func13 rfl rfl rfl ?_
  intro σ hl ha
  have h0 := ha 0 (by simp)
  have h1 := ha 1 (by simp)
  clear ha
  simp only [Option.getD_some, List.getElem?_cons_zero, List.getElem?_cons_succ] at h0 h1
  have hck := fun H k => ref_Check 33 d H k hd
  have hc0 : chk 33 d = 0 := if_pos hg
  rw [hc0] at hck
  obtain ⟨gh, gm, ga, gq, gx, graw⟩ := good_by hg
  have gh1 := gh 112 (by decide) (by decide)
  obtain ⟨Lh, hLh⟩ := Option.isSome_iff_exists.1 gh1
  have hth := fun H k => ref_Text d.host H k Lh hLh (by have := hd.host; show _ ≤ 9223372036854775807; omega)
  have hhl := txtN_len d.host
  have hnm := fun H k => ref_names 33 H k
  have hnu := fun H k => ref_numbers 33 H k
  rw [show hostT 33 = true from rfl, show mailT 33 = false from rfl] at hnm
  rw [show numT 33 = 3 from rfl, show bitT 33 = 16 from rfl] at hnu
  obtain ⟨m0, hm0, hs0⟩ := nat32 hd.n0
  have hd0 := fun H k => ref_digits m0 H k hs0
  have hb0 := decP_le2 hs0
  obtain ⟨m1, hm1, hs1⟩ := nat32 hd.n1
  have hd1 := fun H k => ref_digits m1 H k hs1
  have hb1 := decP_le2 hs1
  obtain ⟨m2, hm2, hs2⟩ := nat32 hd.n2
  have hd2 := fun H k => ref_digits m2 H k hs2
  have hb2 := decP_le2 hs2
  simp only [go_sem, simprocAttr, hl, h0, h1, Dt.l8, Dt.vc, Dt.len, Dt.l0, Dt.l1, Dt.l2, Dt.l3, Dt.l4, Dt.l5, Dt.l6, Dt.l7, hth, hck, hnm, hnu, hm0, hd0, hm1, hd1, hm2, hd2]
  rw [go_loop]
  simp only [go_sem, simprocAttr, hl, h0, h1, Dt.l8, Dt.vc, Dt.len, Dt.l0, Dt.l1, Dt.l2, Dt.l3, Dt.l4, Dt.l5, Dt.l6, Dt.l7, hth, hck, hnm, hnu, hm0, hd0, hm1, hd1, hm2, hd2]
  try (repeat (refine ⟨by (unfold maxI; omega), ?_⟩))
  rw [go_loop]
  simp only [go_sem, simprocAttr, hl, h0, h1, Dt.l8, Dt.vc, Dt.len, Dt.l0, Dt.l1, Dt.l2, Dt.l3, Dt.l4, Dt.l5, Dt.l6, Dt.l7, hth, hck, hnm, hnu, hm0, hd0, hm1, hd1, hm2, hd2]
  try (repeat (refine ⟨by (unfold maxI; omega), ?_⟩))
  rw [go_loop]
  simp only [go_sem, simprocAttr, hl, h0, h1, Dt.l8, Dt.vc, Dt.len, Dt.l0, Dt.l1, Dt.l2, Dt.l3, Dt.l4, Dt.l5, Dt.l6, Dt.l7, hth, hck, hnm, hnu, hm0, hd0, hm1, hd1, hm2, hd2]
  try (repeat (refine ⟨by (unfold maxI; omega), ?_⟩))
  rw [go_loop]
  simp only [go_sem, simprocAttr, hl, h0, h1, Dt.l8, Dt.vc, Dt.len, Dt.l0, Dt.l1, Dt.l2, Dt.l3, Dt.l4, Dt.l5, Dt.l6, Dt.l7, hth, hck, hnm, hnu, hm0, hd0, hm1, hd1, hm2, hd2]
  try (repeat (refine ⟨by (unfold maxI; omega), ?_⟩))
  have hsw : showS 33 d = decP m0 ++ 32 :: (decP m1 ++ 32 :: (decP m2 ++ 32 :: (txtN d.host))) := by simp [showS, formS, showL, elemS, isN, joinS, Dt.n, hm0, hm1, hm2]
  refine ⟨by omega, ?_⟩
  rw [List.take_of_length_le (by first | omega | (simp only [List.length_append, List.length_cons]; omega)), hsw]

/-- Texts, each behind a mark. -/
def flatJ (sep : List UInt8) (L : List (List UInt8)) : List UInt8 := L.flatMap (sep ++ ·)
theorem flatJ_snoc {sep : List UInt8} {L : List (List UInt8)} {i : Nat} {x : List UInt8} (h : L[i]? = some x) : flatJ sep (L.take (i + 1)) = flatJ sep (L.take i) ++ (sep ++ x) := by
  rw [take_snoc h]; simp [flatJ]
theorem flatJ_drop (c : UInt8) : ∀ (L : List (List UInt8)), (flatJ [c] L).drop 1 = joinS [c] L
  | [] => rfl
  | x :: L => rfl
theorem flatJ_len (c : UInt8) : ∀ (L : List (List UInt8)), (flatJ [c] L).length = totS L + L.length
  | [] => rfl
  | x :: L => by
    have e1 : flatJ [c] (x :: L) = ([c] ++ x) ++ flatJ [c] L := rfl
    have e2 : totS (x :: L) = x.length + totS L := by simp [totS]
    rw [e1, List.length_append, flatJ_len c L, e2, List.length_append, List.length_singleton, List.length_cons]; omega
theorem drop_take1 {s : List UInt8} : (s.drop 1).take (s.length - 1) = s.drop 1 := by
  rw [List.take_of_length_le (by rw [List.length_drop]; exact Nat.le_refl _)]


set_option maxRecDepth 20000 in
set_option maxHeartbeats 1000000 in
theorem refshow_1 (d : Dt) (H) (hd : d.wf) (hg : goodB 1 d = true) : callK Tryd.prog 13 [.int .u16 1, .agg d.cells] H (fun q => q = (.tuple [.str (showS 1 d), .int .i64 0], H, z0)) := by
  refine callK_start (n := 173) (rs := [.tmp 4, .tmp 5]) Tryd.func13 rfl rfl rfl ?_
  intro σ hl ha
  have h0 := ha 0 (by simp)
  have h1 := ha 1 (by simp)
  clear ha
  simp only [Option.getD_some, List.getElem?_cons_zero, List.getElem?_cons_succ] at h0 h1
  have hck := fun H k => ref_Check 1 d H k hd
  have hc0 : chk 1 d = 0 := if_pos hg
  rw [hc0] at hck
  obtain ⟨gh, gm, ga, gq, gx, graw⟩ := good_by hg
  have hnm := fun H k => ref_names 1 H k
  have hnu := fun H k => ref_numbers 1 H k

  rw [show hostT 1 = false from rfl, show mailT 1 = false from rfl] at hnm
  rw [show numT 1 = 0 from rfl, show bitT 1 = 0 from rfl] at hnu
  have hrl := ga 97 (by decide) rfl
  have hAl : (decA d.raw).length = 4 := by simp [decA, hrl]
  have htot := totS_le (decA d.raw) 256 (by intro x hx; simp only [decA, List.mem_map] at hx; obtain ⟨b, _, rfl⟩ := hx; have := decP_le b.toNat; have := b.toNat_lt; omega)
  simp only [go_sem, simprocAttr, hl, h0, h1, Dt.l8, Dt.vc, Dt.len, Dt.l0, Dt.l1, Dt.l2, hck, hnm, hnu]
  refine go_rounds (fun (r : Nat) (st : St) => ∃ σ j, r + j = 4 ∧ st = ⟨σ, H ++ [.cells d.cells 37 .rw], z0⟩ ∧ σ.length = 173 ∧ fr σ 3 = .ptr H.length 0 ∧ fr σ 10 = .str (flatJ [46] ((decA d.raw).take j)) ∧ fr σ 11 = .int .i64 (j : Nat)) 4
    ⟨_, 0, rfl, rfl, by simp only [go_sem, simprocAttr, hl], by simp only [go_sem, simprocAttr, hl], by simp only [go_sem, simprocAttr, hl]; rfl, by simp only [go_sem, simprocAttr, hl]⟩ ?_
  rintro r _ ⟨σ, j, hr, rfl, hl, h3, h10, h11⟩
  by_cases hjn : j < 4
  · obtain ⟨b, hb⟩ : ∃ b, d.raw[j]? = some b := ⟨_, List.getElem?_eq_getElem (by omega)⟩
    have hA : (decA d.raw)[j]? = some (decP b.toNat) := by simp [decA, hb]
    have hbl := b.toNat_lt
    have hdg := fun H k => ref_digits b.toNat H k (by omega)
    have hdl := decP_le b.toNat
    have hsn := flatJ_snoc (sep := [46]) hA
    have hfl := flatJ_len 46 ((decA d.raw).take j)
    have htt := totS_take (decA d.raw) j
    rw [List.length_take] at hfl
    have w1 : IntKind.u32.wrap (b.toNat : Int) = (b.toNat : Int) := wrap_u32 (by omega)
    have hw := wrap_succ (show j < 9223372036854775807 by omega)
    have hjr : j < d.raw.length := by omega
    have hjd : decide ((j : Int) < 4) = true := by simp; omega
    simp only [go_sem, simprocAttr, hl, h3, h10, h11, Dt.l8, Dt.vc, Dt.len, Dt.l0, Dt.l1, Dt.l2, hck, hnm, hnu, hb, hdg, w1, hw, hjn, hjr, hjd]
    refine ⟨by (unfold maxI; omega), by (unfold maxI; omega), r - 1, by omega, _, j + 1, by omega, rfl, by simp only [go_sem, simprocAttr, hl], by simp only [go_sem, simprocAttr, hl, h3], ?_, by simp only [go_sem, simprocAttr, hl]⟩
    simp only [go_sem, simprocAttr, hl, hsn]
  · have hj4 : j = 4 := by omega
    subst hj4
    rw [show (decA d.raw).take 4 = decA d.raw by rw [← hAl, List.take_length]] at h10
    have hjd : decide (((4 : Nat) : Int) < 4) = false := by simp
    have hfl := flatJ_len 46 (decA d.raw)
    have hsw : showS 1 d = (flatJ [46] (decA d.raw)).drop 1 := by rw [flatJ_drop]; simp [showS, formS, showL, elemS, isN, joinS]
    rw [hsw]
    simp only [go_sem, simprocAttr, hl, h3, h10, h11, hjd]
    refine ⟨by omega, ?_⟩
    rw [drop_take1]

set_option maxRecDepth 20000 in
set_option maxHeartbeats 1000000 in
theorem refshow_28 (d : Dt) (H) (hd : d.wf) (hg : goodB 28 d = true) : callK Tryd.prog 13 [.int .u16 28, .agg d.cells] H (fun q => q = (.tuple [.str (showS 28 d), .int .i64 0], H, z0)) := by
  refine callK_start (n := 173) (rs := [.tmp 4, .tmp 5]) Tryd.func13 rfl rfl rfl ?_
  intro σ hl ha
  have h0 := ha 0 (by simp)
  have h1 := ha 1 (by simp)
  clear ha
  simp only [Option.getD_some, List.getElem?_cons_zero, List.getElem?_cons_succ] at h0 h1
  have hck := fun H k => ref_Check 28 d H k hd
  have hc0 : chk 28 d = 0 := if_pos hg
  rw [hc0] at hck
  obtain ⟨gh, gm, ga, gq, gx, graw⟩ := good_by hg
  have hnm := fun H k => ref_names 28 H k
  have hnu := fun H k => ref_numbers 28 H k

  rw [show hostT 28 = false from rfl, show mailT 28 = false from rfl] at hnm
  rw [show numT 28 = 0 from rfl, show bitT 28 = 0 from rfl] at hnu
  have hrl := gq 113 (by decide) rfl
  have hAl : (hexA d.raw).length = 8 := by simp [hexA]
  have htot := totS_le (hexA d.raw) 65536 (by intro x hx; simp only [hexA, List.mem_map] at hx; obtain ⟨b, _, rfl⟩ := hx; have h1 := hexN_le (pairN d.raw b); have h2 : pairN d.raw b ≤ 65535 := (by unfold pairN; have := ((d.raw[2 * b]?).getD 0).toNat_lt; have := ((d.raw[2 * b + 1]?).getD 0).toNat_lt; omega); omega)
  simp only [go_sem, simprocAttr, hl, h0, h1, Dt.l8, Dt.vc, Dt.len, Dt.l0, Dt.l1, Dt.l2, hck, hnm, hnu]
  refine go_rounds (fun (r : Nat) (st : St) => ∃ σ j, r + j = 8 ∧ st = ⟨σ, H ++ [.cells d.cells 37 .rw], z0⟩ ∧ σ.length = 173 ∧ fr σ 3 = .ptr H.length 0 ∧ fr σ 10 = .str (flatJ [58] ((hexA d.raw).take j)) ∧ fr σ 12 = .int .i64 ((2 * j : Nat))) 8
    ⟨_, 0, rfl, rfl, by simp only [go_sem, simprocAttr, hl], by simp only [go_sem, simprocAttr, hl], by simp only [go_sem, simprocAttr, hl]; rfl, by simp only [go_sem, simprocAttr, hl]⟩ ?_
  rintro r _ ⟨σ, j, hr, rfl, hl, h3, h10, h12⟩
  by_cases hjn : j < 8
  · obtain ⟨a, hxa⟩ : ∃ a, d.raw[2 * j]? = some a := ⟨_, List.getElem?_eq_getElem (by omega)⟩
    obtain ⟨b, hxb⟩ : ∃ b, d.raw[2 * j + 1]? = some b := ⟨_, List.getElem?_eq_getElem (by omega)⟩
    have hA : (hexA d.raw)[j]? = some (hexN (256 * a.toNat + b.toNat)) := by
      have hp : pairN d.raw j = 256 * a.toNat + b.toNat := by unfold pairN; rw [hxa, hxb]; simp only [Option.getD_some]; omega
      simp [hexA, hjn, hp]
    have hal := a.toNat_lt
    have hbl := b.toNat_lt
    have hdg := fun H k => ref_small (256 * a.toNat + b.toNat) H k (by omega)
    have hdl := hexN_le (256 * a.toNat + b.toNat)
    have hsn := flatJ_snoc (sep := [58]) hA
    have hfl := flatJ_len 58 ((hexA d.raw).take j)
    have htt := totS_take (hexA d.raw) j
    rw [List.length_take] at hfl
    have w0 : IntKind.i64.wrap (a.toNat : Int) = (a.toNat : Int) := wrap_i64 (by omega)
    have w1 : IntKind.i64.wrap (b.toNat : Int) = (b.toNat : Int) := wrap_i64 (by omega)
    have w2 : IntKind.i64.wrap (256 * (a.toNat : Int)) = ((256 * a.toNat : Nat) : Int) := by rw [wrap_i64 (by omega)]; omega
    have w3 : IntKind.i64.wrap (((256 * a.toNat : Nat) : Int) + (b.toNat : Int)) = ((256 * a.toNat + b.toNat : Nat) : Int) := by rw [wrap_i64 (by omega)]; omega
    have w4 : IntKind.i64.wrap (((2 * j : Nat) : Int) + 1) = ((2 * j + 1 : Nat) : Int) := by rw [wrap_i64 (by omega)]; omega
    have w5 : IntKind.i64.wrap (((2 * j : Nat) : Int) + 2) = ((2 * (j + 1) : Nat) : Int) := by rw [wrap_i64 (by omega)]; omega
    have hjr : 2 * j < d.raw.length := by omega
    have hjr2 : 2 * j + 1 < d.raw.length := by omega
    have hjd : decide (((2 * j : Nat) : Int) < 16) = true := by simp; omega
    simp only [go_sem, simprocAttr, hl, h3, h10, h12, Dt.l8, Dt.vc, Dt.len, Dt.l0, Dt.l1, Dt.l2, hck, hnm, hnu, hxa, hxb, hdg, w0, w1, w2, w3, w4, w5, hjn, hjr, hjr2, hjd]
    refine go_drawZ tFollows (by kernel_rfl) ?_
    simp only [go_sem, simprocAttr, hl, h3, h10, h12, Dt.l8, Dt.vc, Dt.len, Dt.l0, Dt.l1, Dt.l2, hck, hnm, hnu, hxa, hxb, hdg, w0, w1, w2, w3, w4, w5, hjn, hjr, hjr2, hjd]
    refine ⟨by (unfold maxI; omega), by (unfold maxI; omega), r - 1, by omega, _, j + 1, by omega, rfl, by simp only [go_sem, simprocAttr, hl], by simp only [go_sem, simprocAttr, hl, h3], ?_, by simp only [go_sem, simprocAttr, hl]⟩
    simp only [go_sem, simprocAttr, hl, hsn]
  · have hj4 : j = 8 := by omega
    subst hj4
    rw [show (hexA d.raw).take 8 = hexA d.raw by rw [← hAl, List.take_length]] at h10
    have hjd : decide (((2 * 8 : Nat) : Int) < 16) = false := by simp
    have hfl := flatJ_len 58 (hexA d.raw)
    have hsw : showS 28 d = (flatJ [58] (hexA d.raw)).drop 1 := by rw [flatJ_drop]; simp [showS, formS, showL, elemS, isN, joinS]
    rw [hsw]
    simp only [go_sem, simprocAttr, hl, h3, h10, h12, hjd]
    refine ⟨by omega, ?_⟩
    rw [drop_take1]

set_option maxRecDepth 20000 in
set_option maxHeartbeats 1000000 in
theorem refshow_16 (d : Dt) (H) (hd : d.wf) (hg : goodB 16 d = true) : callK Tryd.prog 13 [.int .u16 16, .agg d.cells] H (fun q => q = (.tuple [.str (showS 16 d), .int .i64 0], H, z0)) := by
  refine callK_start (n := 173) (rs := [.tmp 4, .tmp 5]) Tryd.func13 rfl rfl rfl ?_
  intro σ hl ha
  have h0 := ha 0 (by simp)
  have h1 := ha 1 (by simp)
  clear ha
  simp only [Option.getD_some, List.getElem?_cons_zero, List.getElem?_cons_succ] at h0 h1
  have hck := fun H k => ref_Check 16 d H k hd
  have hc0 : chk 16 d = 0 := if_pos hg
  rw [hc0] at hck
  obtain ⟨gh, gm, ga, gq, gx, graw⟩ := good_by hg
  have hnm := fun H k => ref_names 16 H k
  have hnu := fun H k => ref_numbers 16 H k

  rw [show hostT 16 = false from rfl, show mailT 16 = false from rfl] at hnm
  rw [show numT 16 = 0 from rfl, show bitT 16 = 0 from rfl] at hnu
  have hok := gx 120 (by decide) rfl
  obtain ⟨L, hL, hLn⟩ : ∃ L, txts d.raw = some L ∧ L ≠ [] := by
    cases h : txts d.raw with
    | none => rw [txOk_none h] at hok; cases hok
    | some L =>
      cases L with
      | nil => rw [txOk_nil h] at hok; cases hok
      | cons a b => exact ⟨_, rfl, by simp⟩
  obtain ⟨⟨bv, bT⟩, hb, htx⟩ := ref_texts d.raw (H ++ [.cells d.cells 37 .rw]) hd.raw
  have hB := hb L hL hLn
  obtain ⟨rfl, _, h3'⟩ | ⟨g1, g2, bm, hbv, g3⟩ := hB
  · exact absurd (List.length_eq_zero_iff.1 h3') hLn
  simp only at hbv g3 htx
  subst hbv
  have hLl2 := txts_len hL
  have hqt := totS_quo L
  have hQl : (L.map quoP).length = L.length := List.length_map _
  have hgb : (H ++ [.cells d.cells 37 .rw] ++ bT)[(H ++ [ABlk.cells d.cells 37 .rw]).length + bm]? = some (.cells (strs L) 9 (.op 0 false)) := by rw [hp_new]; exact g3
  have htx : ∀ k, callK Tryd.prog 43 [.str d.raw] (H ++ [.cells d.cells 37 .rw]) k = k (.tuple [.slice (H.length + (bm + 1)) 0 L.length (.op 0), .bool (txOk d.raw)], H ++ (.cells d.cells 37 .rw :: bT), z0) := by
    intro k; rw [htx]; simp only [List.length_append, List.length_singleton, List.append_assoc, List.singleton_append, Nat.add_assoc, Nat.add_comm 1 bm]
  have hgb : (H ++ (.cells d.cells 37 .rw :: bT))[H.length + (bm + 1)]? = some (.cells (strs L) 9 (.op 0 false)) := by rw [hp_new]; exact g3
  simp only [go_sem, simprocAttr, hl, h0, h1, htx, Dt.l8, Dt.vc, Dt.len, Dt.l0, Dt.l1, Dt.l2, hck, hnm, hnu]
  refine go_rounds (fun (r : Nat) (st : St) => ∃ σ j, r + j = L.length ∧ st = ⟨σ, H ++ (.cells d.cells 37 .rw :: bT), z0⟩ ∧ σ.length = 173 ∧ fr σ 10 = .str (flatJ [32] ((L.map quoP).take j)) ∧ fr σ 13 = .slice (H.length + (bm + 1)) 0 L.length (.op 0) ∧ fr σ 15 = .int .i64 (j : Nat)) L.length
    ⟨_, 0, rfl, rfl, by simp only [go_sem, simprocAttr, hl], by simp only [go_sem, simprocAttr, hl]; rfl, by simp only [go_sem, simprocAttr, hl], by simp only [go_sem, simprocAttr, hl]⟩ ?_
  rintro r _ ⟨σ, j, hr, rfl, hl, h10, h13, h15⟩
  by_cases hjn : j < L.length
  · obtain ⟨x, hx⟩ : ∃ x, L[j]? = some x := ⟨_, List.getElem?_eq_getElem hjn⟩
    have hxl2 : x.length ≤ 65535 := by
      have h1 := totS_snoc hx
      have h2 := totS_take L (j + 1)
      omega
    have hA : (L.map quoP)[j]? = some (quoP x) := by simp [hx]
    have hld := strs_ld hx
    have hE := fun H' k => ref_Escape x true H' k (by omega)
    have hEl := escS_len true x
    have hsn := flatJ_snoc (sep := [32]) hA
    have hfl := flatJ_len 32 ((L.map quoP).take j)
    have htt := totS_take (L.map quoP) j
    rw [List.length_take] at hfl
    have hw := wrap_succ (show j < 9223372036854775807 by omega)
    simp only [go_sem, simprocAttr, hl, h10, h13, h15, hgb, g3, hld, hE, hw, hjn]
    refine ⟨by (unfold maxI; omega), by (unfold maxI; omega), by (unfold maxI; omega), r - 1, by omega, _, j + 1, by omega, rfl, by simp only [go_sem, simprocAttr, hl], ?_, by simp only [go_sem, simprocAttr, hl, h13], by simp only [go_sem, simprocAttr, hl]⟩
    simp only [go_sem, simprocAttr, hl, hsn]
    simp [quoP]
  · have hj4 : j = L.length := by omega
    subst hj4
    rw [show (L.map quoP).take L.length = L.map quoP by rw [← hQl, List.take_length]] at h10
    have hfl := flatJ_len 32 (L.map quoP)
    have hsw : showS 16 d = (flatJ [32] (L.map quoP)).drop 1 := by rw [flatJ_drop]; simp [showS, formS, showL, elemS, isN, hL]
    rw [hsw]
    have hLp : 0 < L.length := List.length_pos_iff.2 hLn
    simp only [go_sem, simprocAttr, hl, h10, h13, h15, hjn]
    refine ⟨by omega, ?_⟩
    rw [drop_take1]

set_option maxRecDepth 20000 in
set_option maxHeartbeats 1000000 in
theorem refshow_o (t : Int) (d : Dt) (H) (ht : t ≠ 1 ∧ t ≠ 2 ∧ t ≠ 5 ∧ t ≠ 6 ∧ t ≠ 12 ∧ t ≠ 15 ∧ t ≠ 16 ∧ t ≠ 28 ∧ t ≠ 33) (hd : d.wf) (hg : goodB t d = true) : callK Tryd.prog 13 [.int .u16 t, .agg d.cells] H (fun q => q = (.tuple [.str (showS t d), .int .i64 0], H, z0)) := by
  refine callK_start (n := 173) (rs := [.tmp 4, .tmp 5]) Tryd.func13 rfl rfl rfl ?_
  intro σ hl ha
  have h0 := ha 0 (by simp)
  have h1 := ha 1 (by simp)
  clear ha
  simp only [Option.getD_some, List.getElem?_cons_zero, List.getElem?_cons_succ] at h0 h1
  have hck := fun H k => ref_Check t d H k hd
  have hc0 : chk t d = 0 := if_pos hg
  rw [hc0] at hck
  obtain ⟨gh, gm, ga, gq, gx, graw⟩ := good_by hg
  have hnm := fun H k => ref_names t H k
  have hnu := fun H k => ref_numbers t H k

  have hfo := formS_o ht
  obtain ⟨q1, q2, q5, q6, q12, q15, q16, q28, q33⟩ := ht
  have eh : hostT t = false := by simp only [hostT, decide_eq_false_iff_not]; omega
  have em : mailT t = false := by simp only [mailT, decide_eq_false_iff_not]; omega
  have en : numT t = 0 := by unfold numT; rw [if_neg q6, if_neg q15, if_neg q33]
  have eb : bitT t = 0 := by unfold bitT; rw [if_neg q6, if_neg q15, if_neg q33]
  rw [eh, em] at hnm
  rw [en, eb] at hnu
  have b1 := beq_f q1
  have b28 := beq_f q28
  have b16 := beq_f q16
  have w0 : IntKind.u32.wrap (d.raw.length : Int) = (d.raw.length : Int) := wrap_u32 (by omega)
  have hdg := fun H k => ref_digits d.raw.length H k (by omega)
  have hdl := decP_le2 (n := d.raw.length) (by omega)
  have hsw : showS t d = 92 :: 35 :: 32 :: (decP d.raw.length ++ (if d.raw = [] then [] else 32 :: hexP d.raw)) := by
    unfold showS
    rw [hfo]
    by_cases hr : d.raw = []
    · simp [showL, elemS, isN, joinS, hr]
    · simp [showL, elemS, isN, joinS, hr]
  simp only [go_sem, simprocAttr, hl, h0, h1, b1, b28, b16, w0, hdg, Dt.l8, Dt.vc, Dt.len, Dt.l0, Dt.l1, Dt.l2, hck, hnm, hnu]
  try (refine ⟨by (unfold maxI; omega), ?_⟩)
  refine go_rounds (fun (r : Nat) (st : St) => ∃ σ j, r + j = d.raw.length ∧ st = ⟨σ, H ++ [.cells d.cells 37 .rw], z0⟩ ∧ σ.length = 173 ∧ fr σ 3 = .ptr H.length 0 ∧ fr σ 10 = .str (92 :: 35 :: 32 :: (decP d.raw.length ++ (if j = 0 then [] else 32 :: hexP (d.raw.take j)))) ∧ fr σ 16 = .int .i64 (j : Nat)) d.raw.length
    ⟨_, 0, rfl, rfl, by simp only [go_sem, simprocAttr, hl], by simp only [go_sem, simprocAttr, hl], by simp only [go_sem, simprocAttr, hl, List.append_nil], by simp only [go_sem, simprocAttr, hl]⟩ ?_
  clear hl h0 h1
  rintro r _ ⟨σ, j, hr, rfl, hl, h3, h10, h16⟩
  by_cases hjn : j < d.raw.length
  · obtain ⟨b, hb⟩ : ∃ b, d.raw[j]? = some b := ⟨_, List.getElem?_eq_getElem hjn⟩
    have hbl := b.toNat_lt
    have hsn := hexP_snoc hb
    have hpl := hexP_len (d.raw.take j)
    rw [List.length_take] at hpl
    have v0 : IntKind.i64.wrap (b.toNat : Int) = (b.toNat : Int) := wrap_i64 (by omega)
    have v1 : IntKind.i64.wrap ((b.toNat : Int).tdiv 16) = ((b.toNat / 16 : Nat) : Int) := by
      have e : (b.toNat : Int).tdiv 16 = ((b.toNat / 16 : Nat) : Int) := rfl
      rw [e, wrap_i64 (by omega)]
    have v2 : (b.toNat : Int).tmod 16 = ((b.toNat % 16 : Nat) : Int) := rfl
    have s1 := fun H k => ref_small (b.toNat / 16) H k (by omega)
    have s2 := fun H k => ref_small (b.toNat % 16) H k (by omega)
    rw [hexN_small (n := b.toNat / 16) (by omega)] at s1
    rw [hexN_small (n := b.toNat % 16) (by omega)] at s2
    have hw := wrap_succ (show j < 9223372036854775807 by omega)
    by_cases hj0 : j = 0
    · subst hj0
      rw [if_pos rfl, List.append_nil] at h10
      have hjd : decide ((0 : Int) < (d.raw.length : Int)) = true := by simp; omega
      have hw0 : IntKind.i64.wrap (0 + 1) = ((0 + 1 : Nat) : Int) := by decide
      simp only [go_sem, simprocAttr, hl, h3, h10, h16, Dt.l0, hb, v0, v1, v2, s1, s2, hw, hw0, hjn, hjd]
      refine ⟨by (unfold maxI; omega), by (unfold maxI; omega), by (unfold maxI; omega), r - 1, by omega, _, 1, by omega, rfl, by simp only [go_sem, simprocAttr, hl], by simp only [go_sem, simprocAttr, hl, h3], ?_, by simp only [go_sem, simprocAttr, hl]⟩
      simp only [go_sem, simprocAttr, hl]
      rw [hsn]
      simp [twoP, hexP]
    · have hjz : ((j : Int) == 0) = false := by simp; omega
      rw [if_neg hj0] at h10
      simp only [go_sem, simprocAttr, hl, h3, h10, h16, Dt.l0, hb, v0, v1, v2, s1, s2, hw, hjn, hjz]
      refine ⟨by (unfold maxI; omega), by (unfold maxI; omega), r - 1, by omega, _, j + 1, by omega, rfl, by simp only [go_sem, simprocAttr, hl], by simp only [go_sem, simprocAttr, hl, h3], ?_, by simp only [go_sem, simprocAttr, hl]⟩
      simp only [go_sem, simprocAttr, hl, hsn]
      simp [twoP]
  · have hj4 : j = d.raw.length := by omega
    subst hj4
    rw [List.take_length] at h10
    rw [hsw]
    simp only [go_sem, simprocAttr, hl, h3, h10, h16, Dt.l0, hjn]
    by_cases hr0 : d.raw = []
    · simp [hr0]
    · have : d.raw.length ≠ 0 := fun e => hr0 (List.length_eq_zero_iff.1 e)
      rw [if_neg this, if_neg hr0]

set_option maxRecDepth 20000 in
theorem refshow0 (t : Int) (d : Dt) (H) (hd : d.wf) (hg : goodB t d = false) : callK Tryd.prog 13 [.int .u16 t, .agg d.cells] H (fun q => q = (.tuple [.str [], .int .i64 40], H, z0)) := by
  refine callK_start (n := 173) (rs := [.tmp 4, .tmp 5]) Tryd.func13 rfl rfl rfl ?_
  intro σ hl ha
  have h0 := ha 0 (by simp)
  have h1 := ha 1 (by simp)
  clear ha
  simp only [Option.getD_some, List.getElem?_cons_zero, List.getElem?_cons_succ] at h0 h1
  have hck := fun H k => ref_Check t d H k hd
  have hc0 : chk t d = 40 := if_neg (by rw [hg]; simp)
  rw [hc0] at hck
  simp only [go_sem, simprocAttr, hl, h0, h1, hck, Dt.l8, Dt.vc, Dt.len]
theorem ref_ShowK (t : Int) (d : Dt) (H k) (hd : d.wf) : callK Tryd.prog 13 [.int .u16 t, .agg d.cells] H k = k (.tuple [.str (tellS t d), .int .i64 (chk t d)], H, z0) := by
  cases hg : goodB t d with
  | true =>
    rw [show tellS t d = showS t d from if_pos hg, show chk t d = 0 from if_pos hg]
    refine callK_eq ?_ k
    rcases kinds_cases t with rfl | rfl | rfl | rfl | rfl | rfl | rfl | rfl | rfl | ht
    · exact refshow_1 d H hd hg
    · exact refshow_2 d H hd hg
    · exact refshow_5 d H hd hg
    · exact refshow_6 d H hd hg
    · exact refshow_12 d H hd hg
    · exact refshow_15 d H hd hg
    · exact refshow_16 d H hd hg
    · exact refshow_28 d H hd hg
    · exact refshow_33 d H hd hg
    · exact refshow_o t d H ht hd hg
  | false =>
    rw [show tellS t d = [] from if_neg (by rw [hg]; simp), show chk t d = 40 from if_neg (by rw [hg]; simp)]
    exact callK_eq (refshow0 t d H hd hg) k
end Go.Proofs.YtgkpgpdkolpfkaaDoor.V
