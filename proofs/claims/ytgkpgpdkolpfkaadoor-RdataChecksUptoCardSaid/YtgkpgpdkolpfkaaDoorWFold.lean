/- Data of records folded, as 'V' runs the program's function. No conditions. -/
import Derived.Test.YtgkpgpdkolpfkaaDoorWCheckD
namespace Go.Proofs.YtgkpgpdkolpfkaaDoor.V
open Go
set_option linter.unusedSimpArgs false
set_option linter.unusedVariables false
attribute [local irreducible] go goOps goD opK callK callT stepK leaveTo nextK

set_option maxRecDepth 20000 in
theorem fold_1 (d : Dt) (H) (hk : Tk H) (hd : d.wf) : callK Tryd.prog 16 [.int .u16 1, .agg d.cells] H (fun q => q = (.agg (Dt.cells { d with host := d.host, mail := d.mail }), H, z0)) := by
  refine callK_start (n := 28) (rs := [.cell 4 37]) Tryd.func16 rfl rfl rfl ?_
  intro σ hl ha
  have h0 := ha 0 (by simp)
  have h1 := ha 1 (by simp)
  clear ha
  simp only [Option.getD_some, List.getElem?_cons_zero, List.getElem?_cons_succ] at h0 h1
  have hf := fun l k => rdata_form 1 (H ++ l) k (hk.old l)
  rw [show formS 1 = [97] from rfl] at hf
  have i0 : strIter [97] 0 = (.tuple [.bool true, .int .i64 0, .int .i32 97], 1) := by rw [strIter_a (by decide)]; rfl
  have i1 : strIter [97] 1 = (.tuple [.bool false], 1) := by rw [strIter_a (by decide)]; rfl
  simp only [go_sem, simprocAttr, hl, h0, h1, Dt.cells, hf]
  rw [go_loop]
  simp only [go_sem, simprocAttr, hl, h0, h1, i0, i1, hf]
  rw [go_loop]
  simp only [go_sem, simprocAttr, hl, h0, h1, i0, i1, hf]
set_option maxRecDepth 20000 in
theorem fold_2 (d : Dt) (H) (hk : Tk H) (hd : d.wf) : callK Tryd.prog 16 [.int .u16 2, .agg d.cells] H (fun q => q = (.agg (Dt.cells { d with host := lowS d.host, mail := d.mail }), H, z0)) := by
  refine callK_start (n := 28) (rs := [.cell 4 37]) Tryd.func16 rfl rfl rfl ?_
  intro σ hl ha
  have h0 := ha 0 (by simp)
  have h1 := ha 1 (by simp)
  clear ha
  simp only [Option.getD_some, List.getElem?_cons_zero, List.getElem?_cons_succ] at h0 h1
  have hf := fun l k => rdata_form 2 (H ++ l) k (hk.old l)
  rw [show formS 2 = [104] from rfl] at hf
  have hh := fun H k => name_Fold d.host H k (by have := hd.host; show _ ≤ 9223372036854775807; omega)
  have i0 : strIter [104] 0 = (.tuple [.bool true, .int .i64 0, .int .i32 104], 1) := by rw [strIter_a (by decide)]; rfl
  have i1 : strIter [104] 1 = (.tuple [.bool false], 1) := by rw [strIter_a (by decide)]; rfl
  simp only [go_sem, simprocAttr, hl, h0, h1, Dt.cells, hf, hh]
  rw [go_loop]
  simp only [go_sem, simprocAttr, hl, h0, h1, i0, i1, hf, hh]
  rw [go_loop]
  simp only [go_sem, simprocAttr, hl, h0, h1, i0, i1, hf, hh]
set_option maxRecDepth 20000 in
theorem fold_5 (d : Dt) (H) (hk : Tk H) (hd : d.wf) : callK Tryd.prog 16 [.int .u16 5, .agg d.cells] H (fun q => q = (.agg (Dt.cells { d with host := lowS d.host, mail := d.mail }), H, z0)) := by
  refine callK_start (n := 28) (rs := [.cell 4 37]) Tryd.func16 rfl rfl rfl ?_
  intro σ hl ha
  have h0 := ha 0 (by simp)
  have h1 := ha 1 (by simp)
  clear ha
  simp only [Option.getD_some, List.getElem?_cons_zero, List.getElem?_cons_succ] at h0 h1
  have hf := fun l k => rdata_form 5 (H ++ l) k (hk.old l)
  rw [show formS 5 = [104] from rfl] at hf
  have hh := fun H k => name_Fold d.host H k (by have := hd.host; show _ ≤ 9223372036854775807; omega)
  have i0 : strIter [104] 0 = (.tuple [.bool true, .int .i64 0, .int .i32 104], 1) := by rw [strIter_a (by decide)]; rfl
  have i1 : strIter [104] 1 = (.tuple [.bool false], 1) := by rw [strIter_a (by decide)]; rfl
  simp only [go_sem, simprocAttr, hl, h0, h1, Dt.cells, hf, hh]
  rw [go_loop]
  simp only [go_sem, simprocAttr, hl, h0, h1, i0, i1, hf, hh]
  rw [go_loop]
  simp only [go_sem, simprocAttr, hl, h0, h1, i0, i1, hf, hh]
set_option maxRecDepth 20000 in
theorem fold_6 (d : Dt) (H) (hk : Tk H) (hd : d.wf) : callK Tryd.prog 16 [.int .u16 6, .agg d.cells] H (fun q => q = (.agg (Dt.cells { d with host := lowS d.host, mail := lowS d.mail }), H, z0)) := by
  refine callK_start (n := 28) (rs := [.cell 4 37]) Tryd.func16 rfl rfl rfl ?_
  intro σ hl ha
  have h0 := ha 0 (by simp)
  have h1 := ha 1 (by simp)
  clear ha
  simp only [Option.getD_some, List.getElem?_cons_zero, List.getElem?_cons_succ] at h0 h1
  have hf := fun l k => rdata_form 6 (H ++ l) k (hk.old l)
  rw [show formS 6 = [104, 109, 108, 108, 108, 108, 108] from rfl] at hf
  have hh := fun H k => name_Fold d.host H k (by have := hd.host; show _ ≤ 9223372036854775807; omega)
  have hm := fun H k => name_Fold d.mail H k (by have := hd.mail; show _ ≤ 9223372036854775807; omega)
  have i0 : strIter [104, 109, 108, 108, 108, 108, 108] 0 = (.tuple [.bool true, .int .i64 0, .int .i32 104], 1) := by rw [strIter_a (by decide)]; rfl
  have i1 : strIter [104, 109, 108, 108, 108, 108, 108] 1 = (.tuple [.bool true, .int .i64 1, .int .i32 109], 2) := by rw [strIter_a (by decide)]; rfl
  have i2 : strIter [104, 109, 108, 108, 108, 108, 108] 2 = (.tuple [.bool true, .int .i64 2, .int .i32 108], 3) := by rw [strIter_a (by decide)]; rfl
  have i3 : strIter [104, 109, 108, 108, 108, 108, 108] 3 = (.tuple [.bool true, .int .i64 3, .int .i32 108], 4) := by rw [strIter_a (by decide)]; rfl
  have i4 : strIter [104, 109, 108, 108, 108, 108, 108] 4 = (.tuple [.bool true, .int .i64 4, .int .i32 108], 5) := by rw [strIter_a (by decide)]; rfl
  have i5 : strIter [104, 109, 108, 108, 108, 108, 108] 5 = (.tuple [.bool true, .int .i64 5, .int .i32 108], 6) := by rw [strIter_a (by decide)]; rfl
  have i6 : strIter [104, 109, 108, 108, 108, 108, 108] 6 = (.tuple [.bool true, .int .i64 6, .int .i32 108], 7) := by rw [strIter_a (by decide)]; rfl
  have i7 : strIter [104, 109, 108, 108, 108, 108, 108] 7 = (.tuple [.bool false], 7) := by rw [strIter_a (by decide)]; rfl
  simp only [go_sem, simprocAttr, hl, h0, h1, Dt.cells, hf, hh, hm]
  rw [go_loop]
  simp only [go_sem, simprocAttr, hl, h0, h1, i0, i1, i2, i3, i4, i5, i6, i7, hf, hh, hm]
  rw [go_loop]
  simp only [go_sem, simprocAttr, hl, h0, h1, i0, i1, i2, i3, i4, i5, i6, i7, hf, hh, hm]
  rw [go_loop]
  simp only [go_sem, simprocAttr, hl, h0, h1, i0, i1, i2, i3, i4, i5, i6, i7, hf, hh, hm]
  rw [go_loop]
  simp only [go_sem, simprocAttr, hl, h0, h1, i0, i1, i2, i3, i4, i5, i6, i7, hf, hh, hm]
  rw [go_loop]
  simp only [go_sem, simprocAttr, hl, h0, h1, i0, i1, i2, i3, i4, i5, i6, i7, hf, hh, hm]
  rw [go_loop]
  simp only [go_sem, simprocAttr, hl, h0, h1, i0, i1, i2, i3, i4, i5, i6, i7, hf, hh, hm]
  rw [go_loop]
  simp only [go_sem, simprocAttr, hl, h0, h1, i0, i1, i2, i3, i4, i5, i6, i7, hf, hh, hm]
  rw [go_loop]
  simp only [go_sem, simprocAttr, hl, h0, h1, i0, i1, i2, i3, i4, i5, i6, i7, hf, hh, hm]
set_option maxRecDepth 20000 in
theorem fold_12 (d : Dt) (H) (hk : Tk H) (hd : d.wf) : callK Tryd.prog 16 [.int .u16 12, .agg d.cells] H (fun q => q = (.agg (Dt.cells { d with host := lowS d.host, mail := d.mail }), H, z0)) := by
  refine callK_start (n := 28) (rs := [.cell 4 37]) Tryd.func16 rfl rfl rfl ?_
  intro σ hl ha
  have h0 := ha 0 (by simp)
  have h1 := ha 1 (by simp)
  clear ha
  simp only [Option.getD_some, List.getElem?_cons_zero, List.getElem?_cons_succ] at h0 h1
  have hf := fun l k => rdata_form 12 (H ++ l) k (hk.old l)
  rw [show formS 12 = [104] from rfl] at hf
  have hh := fun H k => name_Fold d.host H k (by have := hd.host; show _ ≤ 9223372036854775807; omega)
  have i0 : strIter [104] 0 = (.tuple [.bool true, .int .i64 0, .int .i32 104], 1) := by rw [strIter_a (by decide)]; rfl
  have i1 : strIter [104] 1 = (.tuple [.bool false], 1) := by rw [strIter_a (by decide)]; rfl
  simp only [go_sem, simprocAttr, hl, h0, h1, Dt.cells, hf, hh]
  rw [go_loop]
  simp only [go_sem, simprocAttr, hl, h0, h1, i0, i1, hf, hh]
  rw [go_loop]
  simp only [go_sem, simprocAttr, hl, h0, h1, i0, i1, hf, hh]
set_option maxRecDepth 20000 in
theorem fold_15 (d : Dt) (H) (hk : Tk H) (hd : d.wf) : callK Tryd.prog 16 [.int .u16 15, .agg d.cells] H (fun q => q = (.agg (Dt.cells { d with host := lowS d.host, mail := d.mail }), H, z0)) := by
  refine callK_start (n := 28) (rs := [.cell 4 37]) Tryd.func16 rfl rfl rfl ?_
  intro σ hl ha
  have h0 := ha 0 (by simp)
  have h1 := ha 1 (by simp)
  clear ha
  simp only [Option.getD_some, List.getElem?_cons_zero, List.getElem?_cons_succ] at h0 h1
  have hf := fun l k => rdata_form 15 (H ++ l) k (hk.old l)
  rw [show formS 15 = [115, 104] from rfl] at hf
  have hh := fun H k => name_Fold d.host H k (by have := hd.host; show _ ≤ 9223372036854775807; omega)
  have i0 : strIter [115, 104] 0 = (.tuple [.bool true, .int .i64 0, .int .i32 115], 1) := by rw [strIter_a (by decide)]; rfl
  have i1 : strIter [115, 104] 1 = (.tuple [.bool true, .int .i64 1, .int .i32 104], 2) := by rw [strIter_a (by decide)]; rfl
  have i2 : strIter [115, 104] 2 = (.tuple [.bool false], 2) := by rw [strIter_a (by decide)]; rfl
  simp only [go_sem, simprocAttr, hl, h0, h1, Dt.cells, hf, hh]
  rw [go_loop]
  simp only [go_sem, simprocAttr, hl, h0, h1, i0, i1, i2, hf, hh]
  rw [go_loop]
  simp only [go_sem, simprocAttr, hl, h0, h1, i0, i1, i2, hf, hh]
  rw [go_loop]
  simp only [go_sem, simprocAttr, hl, h0, h1, i0, i1, i2, hf, hh]
set_option maxRecDepth 20000 in
theorem fold_16 (d : Dt) (H) (hk : Tk H) (hd : d.wf) : callK Tryd.prog 16 [.int .u16 16, .agg d.cells] H (fun q => q = (.agg (Dt.cells { d with host := d.host, mail := d.mail }), H, z0)) := by
  refine callK_start (n := 28) (rs := [.cell 4 37]) Tryd.func16 rfl rfl rfl ?_
  intro σ hl ha
  have h0 := ha 0 (by simp)
  have h1 := ha 1 (by simp)
  clear ha
  simp only [Option.getD_some, List.getElem?_cons_zero, List.getElem?_cons_succ] at h0 h1
  have hf := fun l k => rdata_form 16 (H ++ l) k (hk.old l)
  rw [show formS 16 = [120] from rfl] at hf
  have i0 : strIter [120] 0 = (.tuple [.bool true, .int .i64 0, .int .i32 120], 1) := by rw [strIter_a (by decide)]; rfl
  have i1 : strIter [120] 1 = (.tuple [.bool false], 1) := by rw [strIter_a (by decide)]; rfl
  simp only [go_sem, simprocAttr, hl, h0, h1, Dt.cells, hf]
  rw [go_loop]
  simp only [go_sem, simprocAttr, hl, h0, h1, i0, i1, hf]
  rw [go_loop]
  simp only [go_sem, simprocAttr, hl, h0, h1, i0, i1, hf]
set_option maxRecDepth 20000 in
theorem fold_28 (d : Dt) (H) (hk : Tk H) (hd : d.wf) : callK Tryd.prog 16 [.int .u16 28, .agg d.cells] H (fun q => q = (.agg (Dt.cells { d with host := d.host, mail := d.mail }), H, z0)) := by
  refine callK_start (n := 28) (rs := [.cell 4 37]) Tryd.func16 rfl rfl rfl ?_
  intro σ hl ha
  have h0 := ha 0 (by simp)
  have h1 := ha 1 (by simp)
  clear ha
  simp only [Option.getD_some, List.getElem?_cons_zero, List.getElem?_cons_succ] at h0 h1
  have hf := fun l k => rdata_form 28 (H ++ l) k (hk.old l)
  rw [show formS 28 = [113] from rfl] at hf
  have i0 : strIter [113] 0 = (.tuple [.bool true, .int .i64 0, .int .i32 113], 1) := by rw [strIter_a (by decide)]; rfl
  have i1 : strIter [113] 1 = (.tuple [.bool false], 1) := by rw [strIter_a (by decide)]; rfl
  simp only [go_sem, simprocAttr, hl, h0, h1, Dt.cells, hf]
  rw [go_loop]
  simp only [go_sem, simprocAttr, hl, h0, h1, i0, i1, hf]
  rw [go_loop]
  simp only [go_sem, simprocAttr, hl, h0, h1, i0, i1, hf]
set_option maxRecDepth 20000 in
theorem fold_33 (d : Dt) (H) (hk : Tk H) (hd : d.wf) : callK Tryd.prog 16 [.int .u16 33, .agg d.cells] H (fun q => q = (.agg (Dt.cells { d with host := lowS d.host, mail := d.mail }), H, z0)) := by
  refine callK_start (n := 28) (rs := [.cell 4 37]) Tryd.func16 rfl rfl rfl ?_
  intro σ hl ha
  have h0 := ha 0 (by simp)
  have h1 := ha 1 (by simp)
  clear ha
  simp only [Option.getD_some, List.getElem?_cons_zero, List.getElem?_cons_succ] at h0 h1
  have hf := fun l k => rdata_form 33 (H ++ l) k (hk.old l)
  rw [show formS 33 = [115, 115, 115, 112] from rfl] at hf
  have hh := fun H k => name_Fold d.host H k (by have := hd.host; show _ ≤ 9223372036854775807; omega)
  have i0 : strIter [115, 115, 115, 112] 0 = (.tuple [.bool true, .int .i64 0, .int .i32 115], 1) := by rw [strIter_a (by decide)]; rfl
  have i1 : strIter [115, 115, 115, 112] 1 = (.tuple [.bool true, .int .i64 1, .int .i32 115], 2) := by rw [strIter_a (by decide)]; rfl
  have i2 : strIter [115, 115, 115, 112] 2 = (.tuple [.bool true, .int .i64 2, .int .i32 115], 3) := by rw [strIter_a (by decide)]; rfl
  have i3 : strIter [115, 115, 115, 112] 3 = (.tuple [.bool true, .int .i64 3, .int .i32 112], 4) := by rw [strIter_a (by decide)]; rfl
  have i4 : strIter [115, 115, 115, 112] 4 = (.tuple [.bool false], 4) := by rw [strIter_a (by decide)]; rfl
  simp only [go_sem, simprocAttr, hl, h0, h1, Dt.cells, hf, hh]
  rw [go_loop]
  simp only [go_sem, simprocAttr, hl, h0, h1, i0, i1, i2, i3, i4, hf, hh]
  rw [go_loop]
  simp only [go_sem, simprocAttr, hl, h0, h1, i0, i1, i2, i3, i4, hf, hh]
  rw [go_loop]
  simp only [go_sem, simprocAttr, hl, h0, h1, i0, i1, i2, i3, i4, hf, hh]
  rw [go_loop]
  simp only [go_sem, simprocAttr, hl, h0, h1, i0, i1, i2, i3, i4, hf, hh]
  rw [go_loop]
  simp only [go_sem, simprocAttr, hl, h0, h1, i0, i1, i2, i3, i4, hf, hh]
set_option maxRecDepth 20000 in
theorem fold_o (t : Int) (d : Dt) (H) (ht : t ≠ 1 ∧ t ≠ 2 ∧ t ≠ 5 ∧ t ≠ 6 ∧ t ≠ 12 ∧ t ≠ 15 ∧ t ≠ 16 ∧ t ≠ 28 ∧ t ≠ 33) (hk : Tk H) (hd : d.wf) : callK Tryd.prog 16 [.int .u16 t, .agg d.cells] H (fun q => q = (.agg (Dt.cells { d with host := d.host, mail := d.mail }), H, z0)) := by
  refine callK_start (n := 28) (rs := [.cell 4 37]) Tryd.func16 rfl rfl rfl ?_
  intro σ hl ha
  have h0 := ha 0 (by simp)
  have h1 := ha 1 (by simp)
  clear ha
  simp only [Option.getD_some, List.getElem?_cons_zero, List.getElem?_cons_succ] at h0 h1
  have hf := fun l k => rdata_form t (H ++ l) k (hk.old l)
  have hfs : formS t = [114] := formS_o ht
  rw [hfs] at hf
  have i0 : strIter [114] 0 = (.tuple [.bool true, .int .i64 0, .int .i32 114], 1) := by rw [strIter_a (by decide)]; rfl
  have i1 : strIter [114] 1 = (.tuple [.bool false], 1) := by rw [strIter_a (by decide)]; rfl
  simp only [go_sem, simprocAttr, hl, h0, h1, Dt.cells, hf]
  rw [go_loop]
  simp only [go_sem, simprocAttr, hl, h0, h1, i0, i1, hf]
  rw [go_loop]
  simp only [go_sem, simprocAttr, hl, h0, h1, i0, i1, hf]

theorem aggQ {d d' : Dt} (h : d = d') {H : Hp} : (AV.agg d.cells, H, z0) = (AV.agg d'.cells, H, z0) := by rw [h]
theorem rdata_FoldQ (t : Int) (d : Dt) (H) (hk : Tk H) (hd : d.wf) : callK Tryd.prog 16 [.int .u16 t, .agg d.cells] H (fun q => q = (.agg (foldD t d).cells, H, z0)) := by
  rcases kinds_cases t with rfl | rfl | rfl | rfl | rfl | rfl | rfl | rfl | rfl | ht
  case inr.inr.inr.inr.inr.inr.inr.inr.inr =>
    refine callK_mono (fold_o t d H ht hk hd) (fun r hr => hr.trans (aggQ ?_))
    obtain ⟨h1, h2, h3, h4, h5, h6, h7, h8, h9⟩ := ht
    have e1 : hostT t = false := by simp only [hostT, decide_eq_false_iff_not]; omega
    have e2 : mailT t = false := by simp only [mailT, decide_eq_false_iff_not]; omega
    unfold foldD
    rw [e1, e2]
    rfl
  · exact callK_mono (fold_1 d H hk hd) (fun r hr => hr.trans (aggQ rfl))
  · exact callK_mono (fold_2 d H hk hd) (fun r hr => hr.trans (aggQ rfl))
  · exact callK_mono (fold_5 d H hk hd) (fun r hr => hr.trans (aggQ rfl))
  · exact callK_mono (fold_6 d H hk hd) (fun r hr => hr.trans (aggQ rfl))
  · exact callK_mono (fold_12 d H hk hd) (fun r hr => hr.trans (aggQ rfl))
  · exact callK_mono (fold_15 d H hk hd) (fun r hr => hr.trans (aggQ rfl))
  · exact callK_mono (fold_16 d H hk hd) (fun r hr => hr.trans (aggQ rfl))
  · exact callK_mono (fold_28 d H hk hd) (fun r hr => hr.trans (aggQ rfl))
  · exact callK_mono (fold_33 d H hk hd) (fun r hr => hr.trans (aggQ rfl))
theorem rdata_Fold (t : Int) (d : Dt) (H k) (hk : Tk H) (hd : d.wf) : callK Tryd.prog 16 [.int .u16 t, .agg d.cells] H k = k (.agg (foldD t d).cells, H, z0) := callK_eq (rdata_FoldQ t d H hk hd) k
end Go.Proofs.YtgkpgpdkolpfkaaDoor.V
