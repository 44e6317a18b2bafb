/- Data of records checked, kind by kind, as 'V' runs the program's function. No conditions. -/
import Derived.Test.YtgkpgpdkolpfkaaDoorWCheck
namespace Go.Proofs.YtgkpgpdkolpfkaaDoor.V
open Go
set_option linter.unusedSimpArgs false
set_option linter.unusedVariables false
attribute [local irreducible] go goOps goD opK callK callT stepK leaveTo nextK

set_option maxRecDepth 20000 in
theorem check_1 (d : Dt) (H) (hk : Tk H) (hd : d.wf) : callK Tryd.prog 14 [.int .u16 1, .agg d.cells] H (fun q => q = (.int .i64 (if (((d.raw.length : Int) == 4) && eqD ⟨[], d.host, d.mail, d.n0, d.n1, d.n2, d.n3, d.n4⟩ ⟨[], [], [], 0, 0, 0, 0, 0⟩) = true then 0 else 40), H, z0)) := by
  refine callK_start (n := 108) (rs := [.tmp 4]) Tryd.func14 rfl rfl rfl ?_
  intro σ hl ha
  have h0 := ha 0 (by simp)
  have h1 := ha 1 (by simp)
  clear ha
  simp only [Option.getD_some, List.getElem?_cons_zero, List.getElem?_cons_succ] at h0 h1
  have hf := fun l k => rdata_form 1 (H ++ l) k (hk.old l)
  have hneed := fun (a b : Bool) x r k => need a b H x r k
  rw [show formS 1 = [97] from rfl] at hf
  have i0 : strIter [97] 0 = (.tuple [.bool true, .int .i64 0, .int .i32 97], 1) := by rw [strIter_a (by decide)]; rfl
  have i1 : strIter [97] 1 = (.tuple [.bool false], 1) := by rw [strIter_a (by decide)]; rfl
  simp only [go_sem, simprocAttr, hl, h0, h1, Dt.cells, hf, hneed, ckq, Bool.true_and, eq_data, build_data0]
  rw [go_loop]
  simp only [go_sem, simprocAttr, hl, h0, h1, i0, i1, hf, hneed, ckq, Bool.true_and, eq_data, build_data0]
  rw [go_loop]
  simp only [go_sem, simprocAttr, hl, h0, h1, i0, i1, hf, hneed, ckq, Bool.true_and, eq_data, build_data0]
  cases ho : ((d.raw.length : Int) == 4)
  · simp only [go_sem, simprocAttr, hl, h0, h1, hf, hneed, ckq, Bool.true_and, eq_data, build_data0, ho]
    simp only [Bool.false_and, Bool.false_eq_true, if_false]
  · cases hz : eqD ⟨[], d.host, d.mail, d.n0, d.n1, d.n2, d.n3, d.n4⟩ ⟨[], [], [], 0, 0, 0, 0, 0⟩
    · simp only [go_sem, simprocAttr, hl, h0, h1, hf, hneed, ckq, Bool.true_and, eq_data, build_data0, ho, hz]
    · simp only [go_sem, simprocAttr, hl, h0, h1, hf, hneed, ckq, Bool.true_and, eq_data, build_data0, ho, hz]
set_option maxRecDepth 20000 in
theorem check_2 (d : Dt) (H) (hk : Tk H) (hd : d.wf) : callK Tryd.prog 14 [.int .u16 2, .agg d.cells] H (fun q => q = (.int .i64 (if ((nm d.host).isSome && eqD ⟨d.raw, [], d.mail, d.n0, d.n1, d.n2, d.n3, d.n4⟩ ⟨[], [], [], 0, 0, 0, 0, 0⟩) = true then 0 else 40), H, z0)) := by
  refine callK_start (n := 108) (rs := [.tmp 4]) Tryd.func14 rfl rfl rfl ?_
  intro σ hl ha
  have h0 := ha 0 (by simp)
  have h1 := ha 1 (by simp)
  clear ha
  simp only [Option.getD_some, List.getElem?_cons_zero, List.getElem?_cons_succ] at h0 h1
  have hf := fun l k => rdata_form 2 (H ++ l) k (hk.old l)
  have hneed := fun (a b : Bool) x r k => need a b H x r k
  rw [show formS 2 = [104] from rfl] at hf
  have hh := fun H k => name_Check d.host H k (by have := hd.host; show _ ≤ 9223372036854775807; omega)
  have i0 : strIter [104] 0 = (.tuple [.bool true, .int .i64 0, .int .i32 104], 1) := by rw [strIter_a (by decide)]; rfl
  have i1 : strIter [104] 1 = (.tuple [.bool false], 1) := by rw [strIter_a (by decide)]; rfl
  simp only [go_sem, simprocAttr, hl, h0, h1, Dt.cells, hf, hneed, ckq, Bool.true_and, eq_data, build_data0, hh]
  rw [go_loop]
  simp only [go_sem, simprocAttr, hl, h0, h1, i0, i1, hf, hneed, ckq, Bool.true_and, eq_data, build_data0, hh]
  rw [go_loop]
  simp only [go_sem, simprocAttr, hl, h0, h1, i0, i1, hf, hneed, ckq, Bool.true_and, eq_data, build_data0, hh]
  cases ho : (nm d.host).isSome
  · simp only [go_sem, simprocAttr, hl, h0, h1, hf, hneed, ckq, Bool.true_and, eq_data, build_data0, hh, ho]
    simp only [Bool.false_and, Bool.false_eq_true, if_false]
  · cases hz : eqD ⟨d.raw, [], d.mail, d.n0, d.n1, d.n2, d.n3, d.n4⟩ ⟨[], [], [], 0, 0, 0, 0, 0⟩
    · simp only [go_sem, simprocAttr, hl, h0, h1, hf, hneed, ckq, Bool.true_and, eq_data, build_data0, hh, ho, hz]
    · simp only [go_sem, simprocAttr, hl, h0, h1, hf, hneed, ckq, Bool.true_and, eq_data, build_data0, hh, ho, hz]
set_option maxRecDepth 20000 in
theorem check_5 (d : Dt) (H) (hk : Tk H) (hd : d.wf) : callK Tryd.prog 14 [.int .u16 5, .agg d.cells] H (fun q => q = (.int .i64 (if ((nm d.host).isSome && eqD ⟨d.raw, [], d.mail, d.n0, d.n1, d.n2, d.n3, d.n4⟩ ⟨[], [], [], 0, 0, 0, 0, 0⟩) = true then 0 else 40), H, z0)) := by
  refine callK_start (n := 108) (rs := [.tmp 4]) Tryd.func14 rfl rfl rfl ?_
  intro σ hl ha
  have h0 := ha 0 (by simp)
  have h1 := ha 1 (by simp)
  clear ha
  simp only [Option.getD_some, List.getElem?_cons_zero, List.getElem?_cons_succ] at h0 h1
  have hf := fun l k => rdata_form 5 (H ++ l) k (hk.old l)
  have hneed := fun (a b : Bool) x r k => need a b H x r k
  rw [show formS 5 = [104] from rfl] at hf
  have hh := fun H k => name_Check d.host H k (by have := hd.host; show _ ≤ 9223372036854775807; omega)
  have i0 : strIter [104] 0 = (.tuple [.bool true, .int .i64 0, .int .i32 104], 1) := by rw [strIter_a (by decide)]; rfl
  have i1 : strIter [104] 1 = (.tuple [.bool false], 1) := by rw [strIter_a (by decide)]; rfl
  simp only [go_sem, simprocAttr, hl, h0, h1, Dt.cells, hf, hneed, ckq, Bool.true_and, eq_data, build_data0, hh]
  rw [go_loop]
  simp only [go_sem, simprocAttr, hl, h0, h1, i0, i1, hf, hneed, ckq, Bool.true_and, eq_data, build_data0, hh]
  rw [go_loop]
  simp only [go_sem, simprocAttr, hl, h0, h1, i0, i1, hf, hneed, ckq, Bool.true_and, eq_data, build_data0, hh]
  cases ho : (nm d.host).isSome
  · simp only [go_sem, simprocAttr, hl, h0, h1, hf, hneed, ckq, Bool.true_and, eq_data, build_data0, hh, ho]
    simp only [Bool.false_and, Bool.false_eq_true, if_false]
  · cases hz : eqD ⟨d.raw, [], d.mail, d.n0, d.n1, d.n2, d.n3, d.n4⟩ ⟨[], [], [], 0, 0, 0, 0, 0⟩
    · simp only [go_sem, simprocAttr, hl, h0, h1, hf, hneed, ckq, Bool.true_and, eq_data, build_data0, hh, ho, hz]
    · simp only [go_sem, simprocAttr, hl, h0, h1, hf, hneed, ckq, Bool.true_and, eq_data, build_data0, hh, ho, hz]
set_option maxRecDepth 20000 in
theorem check_6 (d : Dt) (H) (hk : Tk H) (hd : d.wf) : callK Tryd.prog 14 [.int .u16 6, .agg d.cells] H (fun q => q = (.int .i64 (if (((nm d.host).isSome && (nm d.mail).isSome) && eqD ⟨d.raw, [], [], 0, 0, 0, 0, 0⟩ ⟨[], [], [], 0, 0, 0, 0, 0⟩) = true then 0 else 40), H, z0)) := by
  refine callK_start (n := 108) (rs := [.tmp 4]) Tryd.func14 rfl rfl rfl ?_
  intro σ hl ha
  have h0 := ha 0 (by simp)
  have h1 := ha 1 (by simp)
  clear ha
  simp only [Option.getD_some, List.getElem?_cons_zero, List.getElem?_cons_succ] at h0 h1
  have hf := fun l k => rdata_form 6 (H ++ l) k (hk.old l)
  have hneed := fun (a b : Bool) x r k => need a b H x r k
  rw [show formS 6 = [104, 109, 108, 108, 108, 108, 108] from rfl] at hf
  have hh := fun H k => name_Check d.host H k (by have := hd.host; show _ ≤ 9223372036854775807; omega)
  have hm := fun H k => name_Check d.mail H k (by have := hd.mail; show _ ≤ 9223372036854775807; omega)
  have i0 : strIter [104, 109, 108, 108, 108, 108, 108] 0 = (.tuple [.bool true, .int .i64 0, .int .i32 104], 1) := by rw [strIter_a (by decide)]; rfl
  have i1 : strIter [104, 109, 108, 108, 108, 108, 108] 1 = (.tuple [.bool true, .int .i64 1, .int .i32 109], 2) := by rw [strIter_a (by decide)]; rfl
  have i2 : strIter [104, 109, 108, 108, 108, 108, 108] 2 = (.tuple [.bool true, .int .i64 2, .int .i32 108], 3) := by rw [strIter_a (by decide)]; rfl
  have i3 : strIter [104, 109, 108, 108, 108, 108, 108] 3 = (.tuple [.bool true, .int .i64 3, .int .i32 108], 4) := by rw [strIter_a (by decide)]; rfl
  have i4 : strIter [104, 109, 108, 108, 108, 108, 108] 4 = (.tuple [.bool true, .int .i64 4, .int .i32 108], 5) := by rw [strIter_a (by decide)]; rfl
  have i5 : strIter [104, 109, 108, 108, 108, 108, 108] 5 = (.tuple [.bool true, .int .i64 5, .int .i32 108], 6) := by rw [strIter_a (by decide)]; rfl
  have i6 : strIter [104, 109, 108, 108, 108, 108, 108] 6 = (.tuple [.bool true, .int .i64 6, .int .i32 108], 7) := by rw [strIter_a (by decide)]; rfl
  have i7 : strIter [104, 109, 108, 108, 108, 108, 108] 7 = (.tuple [.bool false], 7) := by rw [strIter_a (by decide)]; rfl
  simp only [go_sem, simprocAttr, hl, h0, h1, Dt.cells, hf, hneed, ckq, Bool.true_and, eq_data, build_data0, hh, hm]
  rw [go_loop]
  simp only [go_sem, simprocAttr, hl, h0, h1, i0, i1, i2, i3, i4, i5, i6, i7, hf, hneed, ckq, Bool.true_and, eq_data, build_data0, hh, hm]
  rw [go_loop]
  simp only [go_sem, simprocAttr, hl, h0, h1, i0, i1, i2, i3, i4, i5, i6, i7, hf, hneed, ckq, Bool.true_and, eq_data, build_data0, hh, hm]
  rw [go_loop]
  simp only [go_sem, simprocAttr, hl, h0, h1, i0, i1, i2, i3, i4, i5, i6, i7, hf, hneed, ckq, Bool.true_and, eq_data, build_data0, hh, hm]
  rw [go_loop]
  simp only [go_sem, simprocAttr, hl, h0, h1, i0, i1, i2, i3, i4, i5, i6, i7, hf, hneed, ckq, Bool.true_and, eq_data, build_data0, hh, hm]
  rw [go_loop]
  simp only [go_sem, simprocAttr, hl, h0, h1, i0, i1, i2, i3, i4, i5, i6, i7, hf, hneed, ckq, Bool.true_and, eq_data, build_data0, hh, hm]
  rw [go_loop]
  simp only [go_sem, simprocAttr, hl, h0, h1, i0, i1, i2, i3, i4, i5, i6, i7, hf, hneed, ckq, Bool.true_and, eq_data, build_data0, hh, hm]
  rw [go_loop]
  simp only [go_sem, simprocAttr, hl, h0, h1, i0, i1, i2, i3, i4, i5, i6, i7, hf, hneed, ckq, Bool.true_and, eq_data, build_data0, hh, hm]
  rw [go_loop]
  simp only [go_sem, simprocAttr, hl, h0, h1, i0, i1, i2, i3, i4, i5, i6, i7, hf, hneed, ckq, Bool.true_and, eq_data, build_data0, hh, hm]
  cases ho : ((nm d.host).isSome && (nm d.mail).isSome)
  · simp only [go_sem, simprocAttr, hl, h0, h1, hf, hneed, ckq, Bool.true_and, eq_data, build_data0, hh, hm, ho]
    simp only [Bool.false_and, Bool.false_eq_true, if_false]
  · cases hz : eqD ⟨d.raw, [], [], 0, 0, 0, 0, 0⟩ ⟨[], [], [], 0, 0, 0, 0, 0⟩
    · simp only [go_sem, simprocAttr, hl, h0, h1, hf, hneed, ckq, Bool.true_and, eq_data, build_data0, hh, hm, ho, hz]
    · simp only [go_sem, simprocAttr, hl, h0, h1, hf, hneed, ckq, Bool.true_and, eq_data, build_data0, hh, hm, ho, hz]
set_option maxRecDepth 20000 in
theorem check_12 (d : Dt) (H) (hk : Tk H) (hd : d.wf) : callK Tryd.prog 14 [.int .u16 12, .agg d.cells] H (fun q => q = (.int .i64 (if ((nm d.host).isSome && eqD ⟨d.raw, [], d.mail, d.n0, d.n1, d.n2, d.n3, d.n4⟩ ⟨[], [], [], 0, 0, 0, 0, 0⟩) = true then 0 else 40), H, z0)) := by
  refine callK_start (n := 108) (rs := [.tmp 4]) Tryd.func14 rfl rfl rfl ?_
  intro σ hl ha
  have h0 := ha 0 (by simp)
  have h1 := ha 1 (by simp)
  clear ha
  simp only [Option.getD_some, List.getElem?_cons_zero, List.getElem?_cons_succ] at h0 h1
  have hf := fun l k => rdata_form 12 (H ++ l) k (hk.old l)
  have hneed := fun (a b : Bool) x r k => need a b H x r k
  rw [show formS 12 = [104] from rfl] at hf
  have hh := fun H k => name_Check d.host H k (by have := hd.host; show _ ≤ 9223372036854775807; omega)
  have i0 : strIter [104] 0 = (.tuple [.bool true, .int .i64 0, .int .i32 104], 1) := by rw [strIter_a (by decide)]; rfl
  have i1 : strIter [104] 1 = (.tuple [.bool false], 1) := by rw [strIter_a (by decide)]; rfl
  simp only [go_sem, simprocAttr, hl, h0, h1, Dt.cells, hf, hneed, ckq, Bool.true_and, eq_data, build_data0, hh]
  rw [go_loop]
  simp only [go_sem, simprocAttr, hl, h0, h1, i0, i1, hf, hneed, ckq, Bool.true_and, eq_data, build_data0, hh]
  rw [go_loop]
  simp only [go_sem, simprocAttr, hl, h0, h1, i0, i1, hf, hneed, ckq, Bool.true_and, eq_data, build_data0, hh]
  cases ho : (nm d.host).isSome
  · simp only [go_sem, simprocAttr, hl, h0, h1, hf, hneed, ckq, Bool.true_and, eq_data, build_data0, hh, ho]
    simp only [Bool.false_and, Bool.false_eq_true, if_false]
  · cases hz : eqD ⟨d.raw, [], d.mail, d.n0, d.n1, d.n2, d.n3, d.n4⟩ ⟨[], [], [], 0, 0, 0, 0, 0⟩
    · simp only [go_sem, simprocAttr, hl, h0, h1, hf, hneed, ckq, Bool.true_and, eq_data, build_data0, hh, ho, hz]
    · simp only [go_sem, simprocAttr, hl, h0, h1, hf, hneed, ckq, Bool.true_and, eq_data, build_data0, hh, ho, hz]
set_option maxRecDepth 20000 in
theorem check_15 (d : Dt) (H) (hk : Tk H) (hd : d.wf) : callK Tryd.prog 14 [.int .u16 15, .agg d.cells] H (fun q => q = (.int .i64 (if ((decide (d.n0 ≤ 65535) && (nm d.host).isSome) && eqD ⟨d.raw, [], d.mail, 0, d.n1, d.n2, d.n3, d.n4⟩ ⟨[], [], [], 0, 0, 0, 0, 0⟩) = true then 0 else 40), H, z0)) := by
  refine callK_start (n := 108) (rs := [.tmp 4]) Tryd.func14 rfl rfl rfl ?_
  intro σ hl ha
  have h0 := ha 0 (by simp)
  have h1 := ha 1 (by simp)
  clear ha
  simp only [Option.getD_some, List.getElem?_cons_zero, List.getElem?_cons_succ] at h0 h1
  have hf := fun l k => rdata_form 15 (H ++ l) k (hk.old l)
  have hneed := fun (a b : Bool) x r k => need a b H x r k
  rw [show formS 15 = [115, 104] from rfl] at hf
  have hh := fun H k => name_Check d.host H k (by have := hd.host; show _ ≤ 9223372036854775807; omega)
  have i0 : strIter [115, 104] 0 = (.tuple [.bool true, .int .i64 0, .int .i32 115], 1) := by rw [strIter_a (by decide)]; rfl
  have i1 : strIter [115, 104] 1 = (.tuple [.bool true, .int .i64 1, .int .i32 104], 2) := by rw [strIter_a (by decide)]; rfl
  have i2 : strIter [115, 104] 2 = (.tuple [.bool false], 2) := by rw [strIter_a (by decide)]; rfl
  simp only [go_sem, simprocAttr, hl, h0, h1, Dt.cells, hf, hneed, ckq, Bool.true_and, eq_data, build_data0, hh]
  rw [go_loop]
  simp only [go_sem, simprocAttr, hl, h0, h1, i0, i1, i2, hf, hneed, ckq, Bool.true_and, eq_data, build_data0, hh]
  rw [go_loop]
  simp only [go_sem, simprocAttr, hl, h0, h1, i0, i1, i2, hf, hneed, ckq, Bool.true_and, eq_data, build_data0, hh]
  rw [go_loop]
  simp only [go_sem, simprocAttr, hl, h0, h1, i0, i1, i2, hf, hneed, ckq, Bool.true_and, eq_data, build_data0, hh]
  cases ho : (decide (d.n0 ≤ 65535) && (nm d.host).isSome)
  · simp only [go_sem, simprocAttr, hl, h0, h1, hf, hneed, ckq, Bool.true_and, eq_data, build_data0, hh, ho]
    simp only [Bool.false_and, Bool.false_eq_true, if_false]
  · cases hz : eqD ⟨d.raw, [], d.mail, 0, d.n1, d.n2, d.n3, d.n4⟩ ⟨[], [], [], 0, 0, 0, 0, 0⟩
    · simp only [go_sem, simprocAttr, hl, h0, h1, hf, hneed, ckq, Bool.true_and, eq_data, build_data0, hh, ho, hz]
    · simp only [go_sem, simprocAttr, hl, h0, h1, hf, hneed, ckq, Bool.true_and, eq_data, build_data0, hh, ho, hz]
set_option maxRecDepth 20000 in
theorem check_16 (d : Dt) (H) (hk : Tk H) (hd : d.wf) : callK Tryd.prog 14 [.int .u16 16, .agg d.cells] H (fun q => q = (.int .i64 (if ((decide ((d.raw.length : Int) ≤ 65535) && txOk d.raw) && eqD ⟨[], d.host, d.mail, d.n0, d.n1, d.n2, d.n3, d.n4⟩ ⟨[], [], [], 0, 0, 0, 0, 0⟩) = true then 0 else 40), H, z0)) := by
  refine callK_start (n := 108) (rs := [.tmp 4]) Tryd.func14 rfl rfl rfl ?_
  intro σ hl ha
  have h0 := ha 0 (by simp)
  have h1 := ha 1 (by simp)
  clear ha
  simp only [Option.getD_some, List.getElem?_cons_zero, List.getElem?_cons_succ] at h0 h1
  have hf := fun l k => rdata_form 16 (H ++ l) k (hk.old l)
  have hneed := fun (a b : Bool) x r k => need a b H x r k
  rw [show formS 16 = [120] from rfl] at hf
  have i0 : strIter [120] 0 = (.tuple [.bool true, .int .i64 0, .int .i32 120], 1) := by rw [strIter_a (by decide)]; rfl
  have i1 : strIter [120] 1 = (.tuple [.bool false], 1) := by rw [strIter_a (by decide)]; rfl
  simp only [go_sem, simprocAttr, hl, h0, h1, Dt.cells, hf, hneed, ckq, Bool.true_and, eq_data, build_data0]
  rw [go_loop]
  simp only [go_sem, simprocAttr, hl, h0, h1, i0, i1, hf, hneed, ckq, Bool.true_and, eq_data, build_data0]
  cases ho : decide ((d.raw.length : Int) ≤ 65535)
  · simp only [go_sem, simprocAttr, hl, h0, h1, i0, i1, hf, hneed, ckq, Bool.true_and, eq_data, build_data0, ho]
    rw [go_loop]
    simp only [go_sem, simprocAttr, hl, h0, h1, i0, i1, hf, hneed, ckq, Bool.true_and, eq_data, build_data0, ho]
    simp only [Bool.false_and, Bool.false_eq_true, if_false]
  · have hr := hd.raw
    have htx := fun l => rdata_texts d.raw (H ++ l) hr
    obtain ⟨b, _, hb⟩ := htx [.cells [.str d.raw, .str d.host, .str d.mail, .int .u32 d.n0, .int .u32 d.n1, .int .u32 d.n2, .int .u32 d.n3, .int .u32 d.n4] 37 .rw, .cells [.bool true] 4 .rw, .cells [.str [], .str d.host, .str d.mail, .int .u32 d.n0, .int .u32 d.n1, .int .u32 d.n2, .int .u32 d.n3, .int .u32 d.n4] 37 .rw, .iter [120] 1]
    simp only [go_sem, simprocAttr, hl, h0, h1, i0, i1, hf, hneed, ckq, Bool.true_and, eq_data, build_data0, ho, hb]
    rw [go_loop]
    simp only [go_sem, simprocAttr, hl, h0, h1, i0, i1, hf, hneed, ckq, Bool.true_and, eq_data, build_data0, ho, hb]
    cases ht : txOk d.raw
    · simp only [go_sem, simprocAttr, hl, h0, h1, hf, hneed, ckq, Bool.true_and, eq_data, build_data0, ht]
      simp only [Bool.and_false, Bool.false_and, Bool.false_eq_true, if_false]
    · cases hz : eqD ⟨[], d.host, d.mail, d.n0, d.n1, d.n2, d.n3, d.n4⟩ ⟨[], [], [], 0, 0, 0, 0, 0⟩
      · simp only [go_sem, simprocAttr, hl, h0, h1, hf, hneed, ckq, Bool.true_and, eq_data, build_data0, ht, hz]
      · simp only [go_sem, simprocAttr, hl, h0, h1, hf, hneed, ckq, Bool.true_and, eq_data, build_data0, ht, hz]
set_option maxRecDepth 20000 in
theorem check_28 (d : Dt) (H) (hk : Tk H) (hd : d.wf) : callK Tryd.prog 14 [.int .u16 28, .agg d.cells] H (fun q => q = (.int .i64 (if (((d.raw.length : Int) == 16) && eqD ⟨[], d.host, d.mail, d.n0, d.n1, d.n2, d.n3, d.n4⟩ ⟨[], [], [], 0, 0, 0, 0, 0⟩) = true then 0 else 40), H, z0)) := by
  refine callK_start (n := 108) (rs := [.tmp 4]) Tryd.func14 rfl rfl rfl ?_
  intro σ hl ha
  have h0 := ha 0 (by simp)
  have h1 := ha 1 (by simp)
  clear ha
  simp only [Option.getD_some, List.getElem?_cons_zero, List.getElem?_cons_succ] at h0 h1
  have hf := fun l k => rdata_form 28 (H ++ l) k (hk.old l)
  have hneed := fun (a b : Bool) x r k => need a b H x r k
  rw [show formS 28 = [113] from rfl] at hf
  have i0 : strIter [113] 0 = (.tuple [.bool true, .int .i64 0, .int .i32 113], 1) := by rw [strIter_a (by decide)]; rfl
  have i1 : strIter [113] 1 = (.tuple [.bool false], 1) := by rw [strIter_a (by decide)]; rfl
  simp only [go_sem, simprocAttr, hl, h0, h1, Dt.cells, hf, hneed, ckq, Bool.true_and, eq_data, build_data0]
  rw [go_loop]
  simp only [go_sem, simprocAttr, hl, h0, h1, i0, i1, hf, hneed, ckq, Bool.true_and, eq_data, build_data0]
  rw [go_loop]
  simp only [go_sem, simprocAttr, hl, h0, h1, i0, i1, hf, hneed, ckq, Bool.true_and, eq_data, build_data0]
  cases ho : ((d.raw.length : Int) == 16)
  · simp only [go_sem, simprocAttr, hl, h0, h1, hf, hneed, ckq, Bool.true_and, eq_data, build_data0, ho]
    simp only [Bool.false_and, Bool.false_eq_true, if_false]
  · cases hz : eqD ⟨[], d.host, d.mail, d.n0, d.n1, d.n2, d.n3, d.n4⟩ ⟨[], [], [], 0, 0, 0, 0, 0⟩
    · simp only [go_sem, simprocAttr, hl, h0, h1, hf, hneed, ckq, Bool.true_and, eq_data, build_data0, ho, hz]
    · simp only [go_sem, simprocAttr, hl, h0, h1, hf, hneed, ckq, Bool.true_and, eq_data, build_data0, ho, hz]
set_option maxRecDepth 20000 in
theorem check_33 (d : Dt) (H) (hk : Tk H) (hd : d.wf) : callK Tryd.prog 14 [.int .u16 33, .agg d.cells] H (fun q => q = (.int .i64 (if ((((decide (d.n0 ≤ 65535) && decide (d.n1 ≤ 65535)) && decide (d.n2 ≤ 65535)) && (nm d.host).isSome) && eqD ⟨d.raw, [], d.mail, 0, 0, 0, d.n3, d.n4⟩ ⟨[], [], [], 0, 0, 0, 0, 0⟩) = true then 0 else 40), H, z0)) := by
  refine callK_start (n := 108) (rs := [.tmp 4]) Tryd.func14 rfl rfl rfl ?_
  intro σ hl ha
  have h0 := ha 0 (by simp)
  have h1 := ha 1 (by simp)
  clear ha
  simp only [Option.getD_some, List.getElem?_cons_zero, List.getElem?_cons_succ] at h0 h1
  have hf := fun l k => rdata_form 33 (H ++ l) k (hk.old l)
  have hneed := fun (a b : Bool) x r k => need a b H x r k
  rw [show formS 33 = [115, 115, 115, 112] from rfl] at hf
  have hh := fun H k => name_Check d.host H k (by have := hd.host; show _ ≤ 9223372036854775807; omega)
  have i0 : strIter [115, 115, 115, 112] 0 = (.tuple [.bool true, .int .i64 0, .int .i32 115], 1) := by rw [strIter_a (by decide)]; rfl
  have i1 : strIter [115, 115, 115, 112] 1 = (.tuple [.bool true, .int .i64 1, .int .i32 115], 2) := by rw [strIter_a (by decide)]; rfl
  have i2 : strIter [115, 115, 115, 112] 2 = (.tuple [.bool true, .int .i64 2, .int .i32 115], 3) := by rw [strIter_a (by decide)]; rfl
  have i3 : strIter [115, 115, 115, 112] 3 = (.tuple [.bool true, .int .i64 3, .int .i32 112], 4) := by rw [strIter_a (by decide)]; rfl
  have i4 : strIter [115, 115, 115, 112] 4 = (.tuple [.bool false], 4) := by rw [strIter_a (by decide)]; rfl
  simp only [go_sem, simprocAttr, hl, h0, h1, Dt.cells, hf, hneed, ckq, Bool.true_and, eq_data, build_data0, hh]
  rw [go_loop]
  simp only [go_sem, simprocAttr, hl, h0, h1, i0, i1, i2, i3, i4, hf, hneed, ckq, Bool.true_and, eq_data, build_data0, hh]
  rw [go_loop]
  simp only [go_sem, simprocAttr, hl, h0, h1, i0, i1, i2, i3, i4, hf, hneed, ckq, Bool.true_and, eq_data, build_data0, hh]
  rw [go_loop]
  simp only [go_sem, simprocAttr, hl, h0, h1, i0, i1, i2, i3, i4, hf, hneed, ckq, Bool.true_and, eq_data, build_data0, hh]
  rw [go_loop]
  simp only [go_sem, simprocAttr, hl, h0, h1, i0, i1, i2, i3, i4, hf, hneed, ckq, Bool.true_and, eq_data, build_data0, hh]
  rw [go_loop]
  simp only [go_sem, simprocAttr, hl, h0, h1, i0, i1, i2, i3, i4, hf, hneed, ckq, Bool.true_and, eq_data, build_data0, hh]
  cases ho : (((decide (d.n0 ≤ 65535) && decide (d.n1 ≤ 65535)) && decide (d.n2 ≤ 65535)) && (nm d.host).isSome)
  · simp only [go_sem, simprocAttr, hl, h0, h1, hf, hneed, ckq, Bool.true_and, eq_data, build_data0, hh, ho]
    simp only [Bool.false_and, Bool.false_eq_true, if_false]
  · cases hz : eqD ⟨d.raw, [], d.mail, 0, 0, 0, d.n3, d.n4⟩ ⟨[], [], [], 0, 0, 0, 0, 0⟩
    · simp only [go_sem, simprocAttr, hl, h0, h1, hf, hneed, ckq, Bool.true_and, eq_data, build_data0, hh, ho, hz]
    · simp only [go_sem, simprocAttr, hl, h0, h1, hf, hneed, ckq, Bool.true_and, eq_data, build_data0, hh, ho, hz]
set_option maxRecDepth 20000 in
theorem check_o (t : Int) (d : Dt) (H) (ht : t ≠ 1 ∧ t ≠ 2 ∧ t ≠ 5 ∧ t ≠ 6 ∧ t ≠ 12 ∧ t ≠ 15 ∧ t ≠ 16 ∧ t ≠ 28 ∧ t ≠ 33) (hk : Tk H) (hd : d.wf) : callK Tryd.prog 14 [.int .u16 t, .agg d.cells] H (fun q => q = (.int .i64 (if (decide ((d.raw.length : Int) ≤ 65535) && eqD ⟨[], d.host, d.mail, d.n0, d.n1, d.n2, d.n3, d.n4⟩ ⟨[], [], [], 0, 0, 0, 0, 0⟩) = true then 0 else 40), H, z0)) := by
  refine callK_start (n := 108) (rs := [.tmp 4]) Tryd.func14 rfl rfl rfl ?_
  intro σ hl ha
  have h0 := ha 0 (by simp)
  have h1 := ha 1 (by simp)
  clear ha
  simp only [Option.getD_some, List.getElem?_cons_zero, List.getElem?_cons_succ] at h0 h1
  have hf := fun l k => rdata_form t (H ++ l) k (hk.old l)
  have hneed := fun (a b : Bool) x r k => need a b H x r k
  have hfs : formS t = [114] := formS_o ht
  rw [hfs] at hf
  have i0 : strIter [114] 0 = (.tuple [.bool true, .int .i64 0, .int .i32 114], 1) := by rw [strIter_a (by decide)]; rfl
  have i1 : strIter [114] 1 = (.tuple [.bool false], 1) := by rw [strIter_a (by decide)]; rfl
  simp only [go_sem, simprocAttr, hl, h0, h1, Dt.cells, hf, hneed, ckq, Bool.true_and, eq_data, build_data0]
  rw [go_loop]
  simp only [go_sem, simprocAttr, hl, h0, h1, i0, i1, hf, hneed, ckq, Bool.true_and, eq_data, build_data0]
  rw [go_loop]
  simp only [go_sem, simprocAttr, hl, h0, h1, i0, i1, hf, hneed, ckq, Bool.true_and, eq_data, build_data0]
  cases ho : decide ((d.raw.length : Int) ≤ 65535)
  · simp only [go_sem, simprocAttr, hl, h0, h1, hf, hneed, ckq, Bool.true_and, eq_data, build_data0, ho]
    simp only [Bool.false_and, Bool.false_eq_true, if_false]
  · cases hz : eqD ⟨[], d.host, d.mail, d.n0, d.n1, d.n2, d.n3, d.n4⟩ ⟨[], [], [], 0, 0, 0, 0, 0⟩
    · simp only [go_sem, simprocAttr, hl, h0, h1, hf, hneed, ckq, Bool.true_and, eq_data, build_data0, ho, hz]
    · simp only [go_sem, simprocAttr, hl, h0, h1, hf, hneed, ckq, Bool.true_and, eq_data, build_data0, ho, hz]

end Go.Proofs.YtgkpgpdkolpfkaaDoor.V
