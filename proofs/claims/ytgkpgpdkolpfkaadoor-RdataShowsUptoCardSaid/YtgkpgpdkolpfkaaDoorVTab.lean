/- What the loaded program's types are, as rewriting rules for a run of 'V'. No conditions. -/
import Derived.Test.YtgkpgpdkolpfkaaDoorVSim
import Derived.Test.YtgkpgpdkolpfkaaDoorProg
namespace Go.Proofs.YtgkpgpdkolpfkaaDoor.V
open Go
set_option linter.unusedSimpArgs false
set_option linter.unusedVariables false
theorem tFollows : Tryd.prog.follows .mixedOrders = true := by kernel_rfl
attribute [go_sem] tFollows
theorem tsh_0 : tsh Tryd.prog 0 = some .other := by kernel_rfl
theorem tsize_0 : tsize Tryd.prog 0 = some 1 := by kernel_rfl
theorem tagg_0 : tagg Tryd.prog 0 = some false := by kernel_rfl
theorem srcOk_0 : srcOk Tryd.prog 0 = true := by kernel_rfl
theorem tsh_1 : tsh Tryd.prog 1 = some .func := by kernel_rfl
theorem tsize_1 : tsize Tryd.prog 1 = some 1 := by kernel_rfl
theorem tagg_1 : tagg Tryd.prog 1 = some false := by kernel_rfl
theorem tzero_1 : tzero Tryd.prog 1 = some [.nilf] := by kernel_rfl
theorem srcOk_1 : srcOk Tryd.prog 1 = true := by kernel_rfl
theorem tsh_2 : tsh Tryd.prog 2 = some (.int .i64) := by kernel_rfl
theorem tsize_2 : tsize Tryd.prog 2 = some 1 := by kernel_rfl
theorem tagg_2 : tagg Tryd.prog 2 = some false := by kernel_rfl
theorem tzero_2 : tzero Tryd.prog 2 = some [.int .i64 0] := by kernel_rfl
theorem tsh_3 : tsh Tryd.prog 3 = some (.int .i64) := by kernel_rfl
theorem tsize_3 : tsize Tryd.prog 3 = some 1 := by kernel_rfl
theorem tagg_3 : tagg Tryd.prog 3 = some false := by kernel_rfl
theorem tzero_3 : tzero Tryd.prog 3 = some [.int .i64 0] := by kernel_rfl
theorem tsh_4 : tsh Tryd.prog 4 = some .bool := by kernel_rfl
theorem tsize_4 : tsize Tryd.prog 4 = some 1 := by kernel_rfl
theorem tagg_4 : tagg Tryd.prog 4 = some false := by kernel_rfl
theorem tzero_4 : tzero Tryd.prog 4 = some [.bool false] := by kernel_rfl
theorem srcOk_4 : srcOk Tryd.prog 4 = true := by kernel_rfl
theorem und_4 : Tryd.prog.underlying 4 = some .bool := by kernel_rfl
theorem tsh_5 : tsh Tryd.prog 5 = some (.int .u8) := by kernel_rfl
theorem tsize_5 : tsize Tryd.prog 5 = some 1 := by kernel_rfl
theorem tagg_5 : tagg Tryd.prog 5 = some false := by kernel_rfl
theorem tzero_5 : tzero Tryd.prog 5 = some [.int .u8 0] := by kernel_rfl
theorem tsh_6 : tsh Tryd.prog 6 = some (.int .u8) := by kernel_rfl
theorem tsize_6 : tsize Tryd.prog 6 = some 1 := by kernel_rfl
theorem tagg_6 : tagg Tryd.prog 6 = some false := by kernel_rfl
theorem tzero_6 : tzero Tryd.prog 6 = some [.int .u8 0] := by kernel_rfl
theorem tsh_7 : tsh Tryd.prog 7 = some .struct := by kernel_rfl
theorem tsize_7 : tsize Tryd.prog 7 = some 4 := by kernel_rfl
theorem tagg_7 : tagg Tryd.prog 7 = some true := by kernel_rfl
theorem tzero_7 : tzero Tryd.prog 7 = some [.int .i64 0, .int .i64 0, .bool false, .int .u8 0] := by kernel_rfl
theorem tplaces_7 : tplaces Tryd.prog 7 = some [(0, 1), (1, 1), (2, 1), (3, 1)] := by kernel_rfl
theorem srcOk_7 : srcOk Tryd.prog 7 = true := by kernel_rfl
theorem eqg_7 : Tryd.prog.eqGuardType Tryd.prog.depth 7 = false := by kernel_rfl
theorem tfield_7_0 : tfield Tryd.prog 7 0 = some (0, 1, false) := by kernel_rfl
theorem tfield_7_1 : tfield Tryd.prog 7 1 = some (1, 1, false) := by kernel_rfl
theorem tfield_7_2 : tfield Tryd.prog 7 2 = some (2, 1, false) := by kernel_rfl
theorem tfield_7_3 : tfield Tryd.prog 7 3 = some (3, 1, false) := by kernel_rfl
theorem tsh_8 : tsh Tryd.prog 8 = some .struct := by kernel_rfl
theorem tsize_8 : tsize Tryd.prog 8 = some 4 := by kernel_rfl
theorem tagg_8 : tagg Tryd.prog 8 = some true := by kernel_rfl
theorem tzero_8 : tzero Tryd.prog 8 = some [.int .i64 0, .int .i64 0, .bool false, .int .u8 0] := by kernel_rfl
theorem tplaces_8 : tplaces Tryd.prog 8 = some [(0, 1), (1, 1), (2, 1), (3, 1)] := by kernel_rfl
theorem srcOk_8 : srcOk Tryd.prog 8 = true := by kernel_rfl
theorem eqg_8 : Tryd.prog.eqGuardType Tryd.prog.depth 8 = false := by kernel_rfl
theorem tfield_8_0 : tfield Tryd.prog 8 0 = some (0, 1, false) := by kernel_rfl
theorem tfield_8_1 : tfield Tryd.prog 8 1 = some (1, 1, false) := by kernel_rfl
theorem tfield_8_2 : tfield Tryd.prog 8 2 = some (2, 1, false) := by kernel_rfl
theorem tfield_8_3 : tfield Tryd.prog 8 3 = some (3, 1, false) := by kernel_rfl
theorem tsh_9 : tsh Tryd.prog 9 = some .str := by kernel_rfl
theorem tsize_9 : tsize Tryd.prog 9 = some 1 := by kernel_rfl
theorem tagg_9 : tagg Tryd.prog 9 = some false := by kernel_rfl
theorem tzero_9 : tzero Tryd.prog 9 = some [.str []] := by kernel_rfl
theorem srcOk_9 : srcOk Tryd.prog 9 = true := by kernel_rfl
theorem tsh_10 : tsh Tryd.prog 10 = some .str := by kernel_rfl
theorem tsize_10 : tsize Tryd.prog 10 = some 1 := by kernel_rfl
theorem tagg_10 : tagg Tryd.prog 10 = some false := by kernel_rfl
theorem tzero_10 : tzero Tryd.prog 10 = some [.str []] := by kernel_rfl
theorem srcOk_10 : srcOk Tryd.prog 10 = true := by kernel_rfl
theorem tsh_11 : tsh Tryd.prog 11 = some .str := by kernel_rfl
theorem tsize_11 : tsize Tryd.prog 11 = some 1 := by kernel_rfl
theorem tagg_11 : tagg Tryd.prog 11 = some false := by kernel_rfl
theorem tzero_11 : tzero Tryd.prog 11 = some [.str []] := by kernel_rfl
theorem srcOk_11 : srcOk Tryd.prog 11 = true := by kernel_rfl
theorem tsh_12 : tsh Tryd.prog 12 = some (.int .u64) := by kernel_rfl
theorem tsize_12 : tsize Tryd.prog 12 = some 1 := by kernel_rfl
theorem tagg_12 : tagg Tryd.prog 12 = some false := by kernel_rfl
theorem tzero_12 : tzero Tryd.prog 12 = some [.int .u64 0] := by kernel_rfl
theorem tsh_13 : tsh Tryd.prog 13 = some .struct := by kernel_rfl
theorem tsize_13 : tsize Tryd.prog 13 = some 2 := by kernel_rfl
theorem tagg_13 : tagg Tryd.prog 13 = some true := by kernel_rfl
theorem tzero_13 : tzero Tryd.prog 13 = some [.str [], .int .u64 0] := by kernel_rfl
theorem tplaces_13 : tplaces Tryd.prog 13 = some [(0, 1), (1, 1)] := by kernel_rfl
theorem srcOk_13 : srcOk Tryd.prog 13 = true := by kernel_rfl
theorem eqg_13 : Tryd.prog.eqGuardType Tryd.prog.depth 13 = false := by kernel_rfl
theorem tfield_13_0 : tfield Tryd.prog 13 0 = some (0, 1, false) := by kernel_rfl
theorem tfield_13_1 : tfield Tryd.prog 13 1 = some (1, 1, false) := by kernel_rfl
theorem tsh_14 : tsh Tryd.prog 14 = some .struct := by kernel_rfl
theorem tsize_14 : tsize Tryd.prog 14 = some 2 := by kernel_rfl
theorem tagg_14 : tagg Tryd.prog 14 = some true := by kernel_rfl
theorem tzero_14 : tzero Tryd.prog 14 = some [.str [], .int .u64 0] := by kernel_rfl
theorem tplaces_14 : tplaces Tryd.prog 14 = some [(0, 1), (1, 1)] := by kernel_rfl
theorem srcOk_14 : srcOk Tryd.prog 14 = true := by kernel_rfl
theorem eqg_14 : Tryd.prog.eqGuardType Tryd.prog.depth 14 = false := by kernel_rfl
theorem tfield_14_0 : tfield Tryd.prog 14 0 = some (0, 1, false) := by kernel_rfl
theorem tfield_14_1 : tfield Tryd.prog 14 1 = some (1, 1, false) := by kernel_rfl
theorem tsh_15 : tsh Tryd.prog 15 = some (.ptr 178) := by kernel_rfl
theorem tsize_15 : tsize Tryd.prog 15 = some 1 := by kernel_rfl
theorem tagg_15 : tagg Tryd.prog 15 = some false := by kernel_rfl
theorem tzero_15 : tzero Tryd.prog 15 = some [.nilp] := by kernel_rfl
theorem srcOk_15 : srcOk Tryd.prog 15 = true := by kernel_rfl
theorem tsh_16 : tsh Tryd.prog 16 = some (.ptr 181) := by kernel_rfl
theorem tsize_16 : tsize Tryd.prog 16 = some 1 := by kernel_rfl
theorem tagg_16 : tagg Tryd.prog 16 = some false := by kernel_rfl
theorem tzero_16 : tzero Tryd.prog 16 = some [.nilp] := by kernel_rfl
theorem srcOk_16 : srcOk Tryd.prog 16 = true := by kernel_rfl
theorem tsh_17 : tsh Tryd.prog 17 = some (.ptr 188) := by kernel_rfl
theorem tsize_17 : tsize Tryd.prog 17 = some 1 := by kernel_rfl
theorem tagg_17 : tagg Tryd.prog 17 = some false := by kernel_rfl
theorem tzero_17 : tzero Tryd.prog 17 = some [.nilp] := by kernel_rfl
theorem srcOk_17 : srcOk Tryd.prog 17 = true := by kernel_rfl
theorem tsh_18 : tsh Tryd.prog 18 = some .struct := by kernel_rfl
theorem tsize_18 : tsize Tryd.prog 18 = some 1 := by kernel_rfl
theorem tagg_18 : tagg Tryd.prog 18 = some true := by kernel_rfl
theorem tzero_18 : tzero Tryd.prog 18 = some [.nilp] := by kernel_rfl
theorem tplaces_18 : tplaces Tryd.prog 18 = some [(0, 1)] := by kernel_rfl
theorem srcOk_18 : srcOk Tryd.prog 18 = true := by kernel_rfl
theorem eqg_18 : Tryd.prog.eqGuardType Tryd.prog.depth 18 = false := by kernel_rfl
theorem tfield_18_0 : tfield Tryd.prog 18 0 = some (0, 1, false) := by kernel_rfl
theorem tsh_19 : tsh Tryd.prog 19 = some .struct := by kernel_rfl
theorem tsize_19 : tsize Tryd.prog 19 = some 1 := by kernel_rfl
theorem tagg_19 : tagg Tryd.prog 19 = some true := by kernel_rfl
theorem tzero_19 : tzero Tryd.prog 19 = some [.nilp] := by kernel_rfl
theorem tplaces_19 : tplaces Tryd.prog 19 = some [(0, 1)] := by kernel_rfl
theorem srcOk_19 : srcOk Tryd.prog 19 = true := by kernel_rfl
theorem eqg_19 : Tryd.prog.eqGuardType Tryd.prog.depth 19 = false := by kernel_rfl
theorem tfield_19_0 : tfield Tryd.prog 19 0 = some (0, 1, false) := by kernel_rfl
theorem tsh_20 : tsh Tryd.prog 20 = some .iface := by kernel_rfl
theorem tsize_20 : tsize Tryd.prog 20 = some 1 := by kernel_rfl
theorem tagg_20 : tagg Tryd.prog 20 = some false := by kernel_rfl
theorem tzero_20 : tzero Tryd.prog 20 = some [.nili] := by kernel_rfl
theorem srcOk_20 : srcOk Tryd.prog 20 = true := by kernel_rfl
theorem tsh_21 : tsh Tryd.prog 21 = some (.int .i32) := by kernel_rfl
theorem tsize_21 : tsize Tryd.prog 21 = some 1 := by kernel_rfl
theorem tagg_21 : tagg Tryd.prog 21 = some false := by kernel_rfl
theorem tzero_21 : tzero Tryd.prog 21 = some [.int .i32 0] := by kernel_rfl
theorem tsh_22 : tsh Tryd.prog 22 = some (.slice 39 10 88) := by kernel_rfl
theorem tsize_22 : tsize Tryd.prog 22 = some 1 := by kernel_rfl
theorem tagg_22 : tagg Tryd.prog 22 = some false := by kernel_rfl
theorem tzero_22 : tzero Tryd.prog 22 = some [.nils] := by kernel_rfl
theorem srcOk_22 : srcOk Tryd.prog 22 = true := by kernel_rfl
theorem zok_22 : zok Tryd.prog 39 10 = true := by kernel_rfl
theorem tsh_23 : tsh Tryd.prog 23 = some .func := by kernel_rfl
theorem tsize_23 : tsize Tryd.prog 23 = some 1 := by kernel_rfl
theorem tagg_23 : tagg Tryd.prog 23 = some false := by kernel_rfl
theorem tzero_23 : tzero Tryd.prog 23 = some [.nilf] := by kernel_rfl
theorem srcOk_23 : srcOk Tryd.prog 23 = true := by kernel_rfl
theorem tsh_24 : tsh Tryd.prog 24 = some (.ptr 59) := by kernel_rfl
theorem tsize_24 : tsize Tryd.prog 24 = some 1 := by kernel_rfl
theorem tagg_24 : tagg Tryd.prog 24 = some false := by kernel_rfl
theorem tzero_24 : tzero Tryd.prog 24 = some [.nilp] := by kernel_rfl
theorem srcOk_24 : srcOk Tryd.prog 24 = true := by kernel_rfl
theorem tsh_25 : tsh Tryd.prog 25 = some .func := by kernel_rfl
theorem tsize_25 : tsize Tryd.prog 25 = some 1 := by kernel_rfl
theorem tagg_25 : tagg Tryd.prog 25 = some false := by kernel_rfl
theorem tzero_25 : tzero Tryd.prog 25 = some [.nilf] := by kernel_rfl
theorem srcOk_25 : srcOk Tryd.prog 25 = true := by kernel_rfl
theorem tsh_26 : tsh Tryd.prog 26 = some (.ptr 30) := by kernel_rfl
theorem tsize_26 : tsize Tryd.prog 26 = some 1 := by kernel_rfl
theorem tagg_26 : tagg Tryd.prog 26 = some false := by kernel_rfl
theorem tzero_26 : tzero Tryd.prog 26 = some [.nilp] := by kernel_rfl
theorem srcOk_26 : srcOk Tryd.prog 26 = true := by kernel_rfl
theorem tsh_27 : tsh Tryd.prog 27 = some (.slice 33 1 16) := by kernel_rfl
theorem tsize_27 : tsize Tryd.prog 27 = some 1 := by kernel_rfl
theorem tagg_27 : tagg Tryd.prog 27 = some false := by kernel_rfl
theorem tzero_27 : tzero Tryd.prog 27 = some [.nils] := by kernel_rfl
theorem srcOk_27 : srcOk Tryd.prog 27 = true := by kernel_rfl
theorem zok_27 : zok Tryd.prog 33 1 = true := by kernel_rfl
theorem tsh_28 : tsh Tryd.prog 28 = some (.slice 3 1 8) := by kernel_rfl
theorem tsize_28 : tsize Tryd.prog 28 = some 1 := by kernel_rfl
theorem tagg_28 : tagg Tryd.prog 28 = some false := by kernel_rfl
theorem tzero_28 : tzero Tryd.prog 28 = some [.nils] := by kernel_rfl
theorem srcOk_28 : srcOk Tryd.prog 28 = true := by kernel_rfl
theorem zok_28 : zok Tryd.prog 3 1 = true := by kernel_rfl
theorem tsh_29 : tsh Tryd.prog 29 = some .struct := by kernel_rfl
theorem tsize_29 : tsize Tryd.prog 29 = some 2 := by kernel_rfl
theorem tagg_29 : tagg Tryd.prog 29 = some true := by kernel_rfl
theorem tzero_29 : tzero Tryd.prog 29 = some [.nils, .nils] := by kernel_rfl
theorem tplaces_29 : tplaces Tryd.prog 29 = some [(0, 1), (1, 1)] := by kernel_rfl
theorem srcOk_29 : srcOk Tryd.prog 29 = true := by kernel_rfl
theorem eqg_29 : Tryd.prog.eqGuardType Tryd.prog.depth 29 = false := by kernel_rfl
theorem tfield_29_0 : tfield Tryd.prog 29 0 = some (0, 1, false) := by kernel_rfl
theorem tfield_29_1 : tfield Tryd.prog 29 1 = some (1, 1, false) := by kernel_rfl
theorem tsh_30 : tsh Tryd.prog 30 = some .struct := by kernel_rfl
theorem tsize_30 : tsize Tryd.prog 30 = some 2 := by kernel_rfl
theorem tagg_30 : tagg Tryd.prog 30 = some true := by kernel_rfl
theorem tzero_30 : tzero Tryd.prog 30 = some [.nils, .nils] := by kernel_rfl
theorem tplaces_30 : tplaces Tryd.prog 30 = some [(0, 1), (1, 1)] := by kernel_rfl
theorem srcOk_30 : srcOk Tryd.prog 30 = true := by kernel_rfl
theorem eqg_30 : Tryd.prog.eqGuardType Tryd.prog.depth 30 = false := by kernel_rfl
theorem tfield_30_0 : tfield Tryd.prog 30 0 = some (0, 1, false) := by kernel_rfl
theorem tfield_30_1 : tfield Tryd.prog 30 1 = some (1, 1, false) := by kernel_rfl
theorem tsh_31 : tsh Tryd.prog 31 = some (.slice 5 1 1) := by kernel_rfl
theorem tsize_31 : tsize Tryd.prog 31 = some 1 := by kernel_rfl
theorem tagg_31 : tagg Tryd.prog 31 = some false := by kernel_rfl
theorem tzero_31 : tzero Tryd.prog 31 = some [.nils] := by kernel_rfl
theorem srcOk_31 : srcOk Tryd.prog 31 = true := by kernel_rfl
theorem zok_31 : zok Tryd.prog 5 1 = true := by kernel_rfl
theorem tsh_32 : tsh Tryd.prog 32 = some (.int .u16) := by kernel_rfl
theorem tsize_32 : tsize Tryd.prog 32 = some 1 := by kernel_rfl
theorem tagg_32 : tagg Tryd.prog 32 = some false := by kernel_rfl
theorem tzero_32 : tzero Tryd.prog 32 = some [.int .u16 0] := by kernel_rfl
theorem tsh_33 : tsh Tryd.prog 33 = some .str := by kernel_rfl
theorem tsize_33 : tsize Tryd.prog 33 = some 1 := by kernel_rfl
theorem tagg_33 : tagg Tryd.prog 33 = some false := by kernel_rfl
theorem tzero_33 : tzero Tryd.prog 33 = some [.str []] := by kernel_rfl
theorem srcOk_33 : srcOk Tryd.prog 33 = true := by kernel_rfl
theorem tsh_34 : tsh Tryd.prog 34 = some (.int .u32) := by kernel_rfl
theorem tsize_34 : tsize Tryd.prog 34 = some 1 := by kernel_rfl
theorem tagg_34 : tagg Tryd.prog 34 = some false := by kernel_rfl
theorem tzero_34 : tzero Tryd.prog 34 = some [.int .u32 0] := by kernel_rfl
theorem tsh_35 : tsh Tryd.prog 35 = some (.array 5 34 1) := by kernel_rfl
theorem tsize_35 : tsize Tryd.prog 35 = some 5 := by kernel_rfl
theorem tagg_35 : tagg Tryd.prog 35 = some true := by kernel_rfl
theorem tzero_35 : tzero Tryd.prog 35 = some [.int .u32 0, .int .u32 0, .int .u32 0, .int .u32 0, .int .u32 0] := by kernel_rfl
theorem srcOk_35 : srcOk Tryd.prog 35 = true := by kernel_rfl
theorem tsh_36 : tsh Tryd.prog 36 = some .struct := by kernel_rfl
theorem tsize_36 : tsize Tryd.prog 36 = some 8 := by kernel_rfl
theorem tagg_36 : tagg Tryd.prog 36 = some true := by kernel_rfl
theorem tzero_36 : tzero Tryd.prog 36 = some [.str [], .str [], .str [], .int .u32 0, .int .u32 0, .int .u32 0, .int .u32 0, .int .u32 0] := by kernel_rfl
theorem tplaces_36 : tplaces Tryd.prog 36 = some [(0, 1), (1, 1), (2, 1), (3, 5)] := by kernel_rfl
theorem srcOk_36 : srcOk Tryd.prog 36 = true := by kernel_rfl
theorem eqg_36 : Tryd.prog.eqGuardType Tryd.prog.depth 36 = false := by kernel_rfl
theorem tfield_36_0 : tfield Tryd.prog 36 0 = some (0, 1, false) := by kernel_rfl
theorem tfield_36_1 : tfield Tryd.prog 36 1 = some (1, 1, false) := by kernel_rfl
theorem tfield_36_2 : tfield Tryd.prog 36 2 = some (2, 1, false) := by kernel_rfl
theorem tfield_36_3 : tfield Tryd.prog 36 3 = some (3, 5, true) := by kernel_rfl
theorem tsh_37 : tsh Tryd.prog 37 = some .struct := by kernel_rfl
theorem tsize_37 : tsize Tryd.prog 37 = some 8 := by kernel_rfl
theorem tagg_37 : tagg Tryd.prog 37 = some true := by kernel_rfl
theorem tzero_37 : tzero Tryd.prog 37 = some [.str [], .str [], .str [], .int .u32 0, .int .u32 0, .int .u32 0, .int .u32 0, .int .u32 0] := by kernel_rfl
theorem tplaces_37 : tplaces Tryd.prog 37 = some [(0, 1), (1, 1), (2, 1), (3, 5)] := by kernel_rfl
theorem srcOk_37 : srcOk Tryd.prog 37 = true := by kernel_rfl
theorem eqg_37 : Tryd.prog.eqGuardType Tryd.prog.depth 37 = false := by kernel_rfl
theorem tfield_37_0 : tfield Tryd.prog 37 0 = some (0, 1, false) := by kernel_rfl
theorem tfield_37_1 : tfield Tryd.prog 37 1 = some (1, 1, false) := by kernel_rfl
theorem tfield_37_2 : tfield Tryd.prog 37 2 = some (2, 1, false) := by kernel_rfl
theorem tfield_37_3 : tfield Tryd.prog 37 3 = some (3, 5, true) := by kernel_rfl
theorem tsh_38 : tsh Tryd.prog 38 = some .struct := by kernel_rfl
theorem tsize_38 : tsize Tryd.prog 38 = some 10 := by kernel_rfl
theorem tagg_38 : tagg Tryd.prog 38 = some true := by kernel_rfl
theorem tzero_38 : tzero Tryd.prog 38 = some [.int .i64 0, .int .u16 0, .str [], .str [], .str [], .int .u32 0, .int .u32 0, .int .u32 0, .int .u32 0, .int .u32 0] := by kernel_rfl
theorem tplaces_38 : tplaces Tryd.prog 38 = some [(0, 1), (1, 1), (2, 8)] := by kernel_rfl
theorem srcOk_38 : srcOk Tryd.prog 38 = true := by kernel_rfl
theorem eqg_38 : Tryd.prog.eqGuardType Tryd.prog.depth 38 = false := by kernel_rfl
theorem tfield_38_0 : tfield Tryd.prog 38 0 = some (0, 1, false) := by kernel_rfl
theorem tfield_38_1 : tfield Tryd.prog 38 1 = some (1, 1, false) := by kernel_rfl
theorem tfield_38_2 : tfield Tryd.prog 38 2 = some (2, 8, true) := by kernel_rfl
theorem tsh_39 : tsh Tryd.prog 39 = some .struct := by kernel_rfl
theorem tsize_39 : tsize Tryd.prog 39 = some 10 := by kernel_rfl
theorem tagg_39 : tagg Tryd.prog 39 = some true := by kernel_rfl
theorem tzero_39 : tzero Tryd.prog 39 = some [.int .i64 0, .int .u16 0, .str [], .str [], .str [], .int .u32 0, .int .u32 0, .int .u32 0, .int .u32 0, .int .u32 0] := by kernel_rfl
theorem tplaces_39 : tplaces Tryd.prog 39 = some [(0, 1), (1, 1), (2, 8)] := by kernel_rfl
theorem srcOk_39 : srcOk Tryd.prog 39 = true := by kernel_rfl
theorem eqg_39 : Tryd.prog.eqGuardType Tryd.prog.depth 39 = false := by kernel_rfl
theorem tfield_39_0 : tfield Tryd.prog 39 0 = some (0, 1, false) := by kernel_rfl
theorem tfield_39_1 : tfield Tryd.prog 39 1 = some (1, 1, false) := by kernel_rfl
theorem tfield_39_2 : tfield Tryd.prog 39 2 = some (2, 8, true) := by kernel_rfl
theorem tsh_40 : tsh Tryd.prog 40 = some (.int .i64) := by kernel_rfl
theorem tsize_40 : tsize Tryd.prog 40 = some 1 := by kernel_rfl
theorem tagg_40 : tagg Tryd.prog 40 = some false := by kernel_rfl
theorem tzero_40 : tzero Tryd.prog 40 = some [.int .i64 0] := by kernel_rfl
theorem tsh_41 : tsh Tryd.prog 41 = some .other := by kernel_rfl
theorem tsize_41 : tsize Tryd.prog 41 = some 1 := by kernel_rfl
theorem tagg_41 : tagg Tryd.prog 41 = some false := by kernel_rfl
theorem srcOk_41 : srcOk Tryd.prog 41 = true := by kernel_rfl
theorem tsh_42 : tsh Tryd.prog 42 = some .func := by kernel_rfl
theorem tsize_42 : tsize Tryd.prog 42 = some 1 := by kernel_rfl
theorem tagg_42 : tagg Tryd.prog 42 = some false := by kernel_rfl
theorem tzero_42 : tzero Tryd.prog 42 = some [.nilf] := by kernel_rfl
theorem srcOk_42 : srcOk Tryd.prog 42 = true := by kernel_rfl
theorem tsh_43 : tsh Tryd.prog 43 = some .func := by kernel_rfl
theorem tsize_43 : tsize Tryd.prog 43 = some 1 := by kernel_rfl
theorem tagg_43 : tagg Tryd.prog 43 = some false := by kernel_rfl
theorem tzero_43 : tzero Tryd.prog 43 = some [.nilf] := by kernel_rfl
theorem srcOk_43 : srcOk Tryd.prog 43 = true := by kernel_rfl
theorem tsh_44 : tsh Tryd.prog 44 = some .func := by kernel_rfl
theorem tsize_44 : tsize Tryd.prog 44 = some 1 := by kernel_rfl
theorem tagg_44 : tagg Tryd.prog 44 = some false := by kernel_rfl
theorem tzero_44 : tzero Tryd.prog 44 = some [.nilf] := by kernel_rfl
theorem srcOk_44 : srcOk Tryd.prog 44 = true := by kernel_rfl
theorem tsh_45 : tsh Tryd.prog 45 = some .other := by kernel_rfl
theorem tsize_45 : tsize Tryd.prog 45 = some 1 := by kernel_rfl
theorem tagg_45 : tagg Tryd.prog 45 = some false := by kernel_rfl
theorem srcOk_45 : srcOk Tryd.prog 45 = true := by kernel_rfl
theorem tsh_46 : tsh Tryd.prog 46 = some .func := by kernel_rfl
theorem tsize_46 : tsize Tryd.prog 46 = some 1 := by kernel_rfl
theorem tagg_46 : tagg Tryd.prog 46 = some false := by kernel_rfl
theorem tzero_46 : tzero Tryd.prog 46 = some [.nilf] := by kernel_rfl
theorem srcOk_46 : srcOk Tryd.prog 46 = true := by kernel_rfl
theorem tsh_47 : tsh Tryd.prog 47 = some .func := by kernel_rfl
theorem tsize_47 : tsize Tryd.prog 47 = some 1 := by kernel_rfl
theorem tagg_47 : tagg Tryd.prog 47 = some false := by kernel_rfl
theorem tzero_47 : tzero Tryd.prog 47 = some [.nilf] := by kernel_rfl
theorem srcOk_47 : srcOk Tryd.prog 47 = true := by kernel_rfl
theorem tsh_48 : tsh Tryd.prog 48 = some .func := by kernel_rfl
theorem tsize_48 : tsize Tryd.prog 48 = some 1 := by kernel_rfl
theorem tagg_48 : tagg Tryd.prog 48 = some false := by kernel_rfl
theorem tzero_48 : tzero Tryd.prog 48 = some [.nilf] := by kernel_rfl
theorem srcOk_48 : srcOk Tryd.prog 48 = true := by kernel_rfl
theorem tsh_49 : tsh Tryd.prog 49 = some .func := by kernel_rfl
theorem tsize_49 : tsize Tryd.prog 49 = some 1 := by kernel_rfl
theorem tagg_49 : tagg Tryd.prog 49 = some false := by kernel_rfl
theorem tzero_49 : tzero Tryd.prog 49 = some [.nilf] := by kernel_rfl
theorem srcOk_49 : srcOk Tryd.prog 49 = true := by kernel_rfl
theorem tsh_50 : tsh Tryd.prog 50 = some .other := by kernel_rfl
theorem tsize_50 : tsize Tryd.prog 50 = some 1 := by kernel_rfl
theorem tagg_50 : tagg Tryd.prog 50 = some false := by kernel_rfl
theorem srcOk_50 : srcOk Tryd.prog 50 = true := by kernel_rfl
theorem tsh_51 : tsh Tryd.prog 51 = some .func := by kernel_rfl
theorem tsize_51 : tsize Tryd.prog 51 = some 1 := by kernel_rfl
theorem tagg_51 : tagg Tryd.prog 51 = some false := by kernel_rfl
theorem tzero_51 : tzero Tryd.prog 51 = some [.nilf] := by kernel_rfl
theorem srcOk_51 : srcOk Tryd.prog 51 = true := by kernel_rfl
theorem tsh_52 : tsh Tryd.prog 52 = some .func := by kernel_rfl
theorem tsize_52 : tsize Tryd.prog 52 = some 1 := by kernel_rfl
theorem tagg_52 : tagg Tryd.prog 52 = some false := by kernel_rfl
theorem tzero_52 : tzero Tryd.prog 52 = some [.nilf] := by kernel_rfl
theorem srcOk_52 : srcOk Tryd.prog 52 = true := by kernel_rfl
theorem tsh_53 : tsh Tryd.prog 53 = some .other := by kernel_rfl
theorem tsize_53 : tsize Tryd.prog 53 = some 1 := by kernel_rfl
theorem tagg_53 : tagg Tryd.prog 53 = some false := by kernel_rfl
theorem srcOk_53 : srcOk Tryd.prog 53 = true := by kernel_rfl
theorem tsh_54 : tsh Tryd.prog 54 = some .func := by kernel_rfl
theorem tsize_54 : tsize Tryd.prog 54 = some 1 := by kernel_rfl
theorem tagg_54 : tagg Tryd.prog 54 = some false := by kernel_rfl
theorem tzero_54 : tzero Tryd.prog 54 = some [.nilf] := by kernel_rfl
theorem srcOk_54 : srcOk Tryd.prog 54 = true := by kernel_rfl
theorem tsh_55 : tsh Tryd.prog 55 = some .func := by kernel_rfl
theorem tsize_55 : tsize Tryd.prog 55 = some 1 := by kernel_rfl
theorem tagg_55 : tagg Tryd.prog 55 = some false := by kernel_rfl
theorem tzero_55 : tzero Tryd.prog 55 = some [.nilf] := by kernel_rfl
theorem srcOk_55 : srcOk Tryd.prog 55 = true := by kernel_rfl
theorem tsh_56 : tsh Tryd.prog 56 = some .func := by kernel_rfl
theorem tsize_56 : tsize Tryd.prog 56 = some 1 := by kernel_rfl
theorem tagg_56 : tagg Tryd.prog 56 = some false := by kernel_rfl
theorem tzero_56 : tzero Tryd.prog 56 = some [.nilf] := by kernel_rfl
theorem srcOk_56 : srcOk Tryd.prog 56 = true := by kernel_rfl
theorem tsh_57 : tsh Tryd.prog 57 = some (.map 33 3) := by kernel_rfl
theorem tsize_57 : tsize Tryd.prog 57 = some 1 := by kernel_rfl
theorem tagg_57 : tagg Tryd.prog 57 = some false := by kernel_rfl
theorem tzero_57 : tzero Tryd.prog 57 = some [.nilm] := by kernel_rfl
theorem srcOk_57 : srcOk Tryd.prog 57 = true := by kernel_rfl
theorem tsh_58 : tsh Tryd.prog 58 = some .struct := by kernel_rfl
theorem tsize_58 : tsize Tryd.prog 58 = some 1 := by kernel_rfl
theorem tagg_58 : tagg Tryd.prog 58 = some true := by kernel_rfl
theorem tzero_58 : tzero Tryd.prog 58 = some [.nilm] := by kernel_rfl
theorem tplaces_58 : tplaces Tryd.prog 58 = some [(0, 1)] := by kernel_rfl
theorem srcOk_58 : srcOk Tryd.prog 58 = true := by kernel_rfl
theorem eqg_58 : Tryd.prog.eqGuardType Tryd.prog.depth 58 = false := by kernel_rfl
theorem tfield_58_0 : tfield Tryd.prog 58 0 = some (0, 1, false) := by kernel_rfl
theorem tsh_59 : tsh Tryd.prog 59 = some .struct := by kernel_rfl
theorem tsize_59 : tsize Tryd.prog 59 = some 1 := by kernel_rfl
theorem tagg_59 : tagg Tryd.prog 59 = some true := by kernel_rfl
theorem tzero_59 : tzero Tryd.prog 59 = some [.nilm] := by kernel_rfl
theorem tplaces_59 : tplaces Tryd.prog 59 = some [(0, 1)] := by kernel_rfl
theorem srcOk_59 : srcOk Tryd.prog 59 = true := by kernel_rfl
theorem eqg_59 : Tryd.prog.eqGuardType Tryd.prog.depth 59 = false := by kernel_rfl
theorem tfield_59_0 : tfield Tryd.prog 59 0 = some (0, 1, false) := by kernel_rfl
theorem tsh_60 : tsh Tryd.prog 60 = some .func := by kernel_rfl
theorem tsize_60 : tsize Tryd.prog 60 = some 1 := by kernel_rfl
theorem tagg_60 : tagg Tryd.prog 60 = some false := by kernel_rfl
theorem tzero_60 : tzero Tryd.prog 60 = some [.nilf] := by kernel_rfl
theorem srcOk_60 : srcOk Tryd.prog 60 = true := by kernel_rfl
theorem tsh_61 : tsh Tryd.prog 61 = some .func := by kernel_rfl
theorem tsize_61 : tsize Tryd.prog 61 = some 1 := by kernel_rfl
theorem tagg_61 : tagg Tryd.prog 61 = some false := by kernel_rfl
theorem tzero_61 : tzero Tryd.prog 61 = some [.nilf] := by kernel_rfl
theorem srcOk_61 : srcOk Tryd.prog 61 = true := by kernel_rfl
theorem tsh_62 : tsh Tryd.prog 62 = some .func := by kernel_rfl
theorem tsize_62 : tsize Tryd.prog 62 = some 1 := by kernel_rfl
theorem tagg_62 : tagg Tryd.prog 62 = some false := by kernel_rfl
theorem tzero_62 : tzero Tryd.prog 62 = some [.nilf] := by kernel_rfl
theorem srcOk_62 : srcOk Tryd.prog 62 = true := by kernel_rfl
theorem tsh_63 : tsh Tryd.prog 63 = some .func := by kernel_rfl
theorem tsize_63 : tsize Tryd.prog 63 = some 1 := by kernel_rfl
theorem tagg_63 : tagg Tryd.prog 63 = some false := by kernel_rfl
theorem tzero_63 : tzero Tryd.prog 63 = some [.nilf] := by kernel_rfl
theorem srcOk_63 : srcOk Tryd.prog 63 = true := by kernel_rfl
theorem tsh_64 : tsh Tryd.prog 64 = some (.slice 9 1 16) := by kernel_rfl
theorem tsize_64 : tsize Tryd.prog 64 = some 1 := by kernel_rfl
theorem tagg_64 : tagg Tryd.prog 64 = some false := by kernel_rfl
theorem tzero_64 : tzero Tryd.prog 64 = some [.nils] := by kernel_rfl
theorem srcOk_64 : srcOk Tryd.prog 64 = true := by kernel_rfl
theorem zok_64 : zok Tryd.prog 9 1 = true := by kernel_rfl
theorem tsh_65 : tsh Tryd.prog 65 = some .func := by kernel_rfl
theorem tsize_65 : tsize Tryd.prog 65 = some 1 := by kernel_rfl
theorem tagg_65 : tagg Tryd.prog 65 = some false := by kernel_rfl
theorem tzero_65 : tzero Tryd.prog 65 = some [.nilf] := by kernel_rfl
theorem srcOk_65 : srcOk Tryd.prog 65 = true := by kernel_rfl
theorem tsh_66 : tsh Tryd.prog 66 = some .func := by kernel_rfl
theorem tsize_66 : tsize Tryd.prog 66 = some 1 := by kernel_rfl
theorem tagg_66 : tagg Tryd.prog 66 = some false := by kernel_rfl
theorem tzero_66 : tzero Tryd.prog 66 = some [.nilf] := by kernel_rfl
theorem srcOk_66 : srcOk Tryd.prog 66 = true := by kernel_rfl
theorem tsh_67 : tsh Tryd.prog 67 = some (.int .u64) := by kernel_rfl
theorem tsize_67 : tsize Tryd.prog 67 = some 1 := by kernel_rfl
theorem tagg_67 : tagg Tryd.prog 67 = some false := by kernel_rfl
theorem tzero_67 : tzero Tryd.prog 67 = some [.int .u64 0] := by kernel_rfl
theorem tsh_68 : tsh Tryd.prog 68 = some (.array 4 9 1) := by kernel_rfl
theorem tsize_68 : tsize Tryd.prog 68 = some 4 := by kernel_rfl
theorem tagg_68 : tagg Tryd.prog 68 = some true := by kernel_rfl
theorem tzero_68 : tzero Tryd.prog 68 = some [.str [], .str [], .str [], .str []] := by kernel_rfl
theorem srcOk_68 : srcOk Tryd.prog 68 = true := by kernel_rfl
theorem tsh_69 : tsh Tryd.prog 69 = some .func := by kernel_rfl
theorem tsize_69 : tsize Tryd.prog 69 = some 1 := by kernel_rfl
theorem tagg_69 : tagg Tryd.prog 69 = some false := by kernel_rfl
theorem tzero_69 : tzero Tryd.prog 69 = some [.nilf] := by kernel_rfl
theorem srcOk_69 : srcOk Tryd.prog 69 = true := by kernel_rfl
theorem tsh_70 : tsh Tryd.prog 70 = some .func := by kernel_rfl
theorem tsize_70 : tsize Tryd.prog 70 = some 1 := by kernel_rfl
theorem tagg_70 : tagg Tryd.prog 70 = some false := by kernel_rfl
theorem tzero_70 : tzero Tryd.prog 70 = some [.nilf] := by kernel_rfl
theorem srcOk_70 : srcOk Tryd.prog 70 = true := by kernel_rfl
theorem tsh_71 : tsh Tryd.prog 71 = some (.array 8 9 1) := by kernel_rfl
theorem tsize_71 : tsize Tryd.prog 71 = some 8 := by kernel_rfl
theorem tagg_71 : tagg Tryd.prog 71 = some true := by kernel_rfl
theorem tzero_71 : tzero Tryd.prog 71 = some [.str [], .str [], .str [], .str [], .str [], .str [], .str [], .str []] := by kernel_rfl
theorem srcOk_71 : srcOk Tryd.prog 71 = true := by kernel_rfl
theorem tsh_72 : tsh Tryd.prog 72 = some (.int .u64) := by kernel_rfl
theorem tsize_72 : tsize Tryd.prog 72 = some 1 := by kernel_rfl
theorem tagg_72 : tagg Tryd.prog 72 = some false := by kernel_rfl
theorem tzero_72 : tzero Tryd.prog 72 = some [.int .u64 0] := by kernel_rfl
theorem tsh_73 : tsh Tryd.prog 73 = some .other := by kernel_rfl
theorem tsize_73 : tsize Tryd.prog 73 = some 1 := by kernel_rfl
theorem tagg_73 : tagg Tryd.prog 73 = some false := by kernel_rfl
theorem srcOk_73 : srcOk Tryd.prog 73 = true := by kernel_rfl
theorem tsh_74 : tsh Tryd.prog 74 = some .func := by kernel_rfl
theorem tsize_74 : tsize Tryd.prog 74 = some 1 := by kernel_rfl
theorem tagg_74 : tagg Tryd.prog 74 = some false := by kernel_rfl
theorem tzero_74 : tzero Tryd.prog 74 = some [.nilf] := by kernel_rfl
theorem srcOk_74 : srcOk Tryd.prog 74 = true := by kernel_rfl
theorem tsh_75 : tsh Tryd.prog 75 = some .func := by kernel_rfl
theorem tsize_75 : tsize Tryd.prog 75 = some 1 := by kernel_rfl
theorem tagg_75 : tagg Tryd.prog 75 = some false := by kernel_rfl
theorem tzero_75 : tzero Tryd.prog 75 = some [.nilf] := by kernel_rfl
theorem srcOk_75 : srcOk Tryd.prog 75 = true := by kernel_rfl
theorem tsh_76 : tsh Tryd.prog 76 = some (.ptr 78) := by kernel_rfl
theorem tsize_76 : tsize Tryd.prog 76 = some 1 := by kernel_rfl
theorem tagg_76 : tagg Tryd.prog 76 = some false := by kernel_rfl
theorem tzero_76 : tzero Tryd.prog 76 = some [.nilp] := by kernel_rfl
theorem srcOk_76 : srcOk Tryd.prog 76 = true := by kernel_rfl
theorem tsh_77 : tsh Tryd.prog 77 = some .struct := by kernel_rfl
theorem tsize_77 : tsize Tryd.prog 77 = some 2 := by kernel_rfl
theorem tagg_77 : tagg Tryd.prog 77 = some true := by kernel_rfl
theorem tzero_77 : tzero Tryd.prog 77 = some [.nilp, .nils] := by kernel_rfl
theorem tplaces_77 : tplaces Tryd.prog 77 = some [(0, 1), (1, 1)] := by kernel_rfl
theorem srcOk_77 : srcOk Tryd.prog 77 = true := by kernel_rfl
theorem eqg_77 : Tryd.prog.eqGuardType Tryd.prog.depth 77 = false := by kernel_rfl
theorem tfield_77_0 : tfield Tryd.prog 77 0 = some (0, 1, false) := by kernel_rfl
theorem tfield_77_1 : tfield Tryd.prog 77 1 = some (1, 1, false) := by kernel_rfl
theorem tsh_78 : tsh Tryd.prog 78 = some .struct := by kernel_rfl
theorem tsize_78 : tsize Tryd.prog 78 = some 2 := by kernel_rfl
theorem tagg_78 : tagg Tryd.prog 78 = some true := by kernel_rfl
theorem tzero_78 : tzero Tryd.prog 78 = some [.nilp, .nils] := by kernel_rfl
theorem tplaces_78 : tplaces Tryd.prog 78 = some [(0, 1), (1, 1)] := by kernel_rfl
theorem srcOk_78 : srcOk Tryd.prog 78 = true := by kernel_rfl
theorem eqg_78 : Tryd.prog.eqGuardType Tryd.prog.depth 78 = false := by kernel_rfl
theorem tfield_78_0 : tfield Tryd.prog 78 0 = some (0, 1, false) := by kernel_rfl
theorem tfield_78_1 : tfield Tryd.prog 78 1 = some (1, 1, false) := by kernel_rfl
theorem tsh_79 : tsh Tryd.prog 79 = some .iface := by kernel_rfl
theorem tsize_79 : tsize Tryd.prog 79 = some 1 := by kernel_rfl
theorem tagg_79 : tagg Tryd.prog 79 = some false := by kernel_rfl
theorem tzero_79 : tzero Tryd.prog 79 = some [.nili] := by kernel_rfl
theorem srcOk_79 : srcOk Tryd.prog 79 = true := by kernel_rfl
theorem tsh_80 : tsh Tryd.prog 80 = some .iface := by kernel_rfl
theorem tsize_80 : tsize Tryd.prog 80 = some 1 := by kernel_rfl
theorem tagg_80 : tagg Tryd.prog 80 = some false := by kernel_rfl
theorem tzero_80 : tzero Tryd.prog 80 = some [.nili] := by kernel_rfl
theorem srcOk_80 : srcOk Tryd.prog 80 = true := by kernel_rfl
theorem tsh_81 : tsh Tryd.prog 81 = some .func := by kernel_rfl
theorem tsize_81 : tsize Tryd.prog 81 = some 1 := by kernel_rfl
theorem tagg_81 : tagg Tryd.prog 81 = some false := by kernel_rfl
theorem tzero_81 : tzero Tryd.prog 81 = some [.nilf] := by kernel_rfl
theorem srcOk_81 : srcOk Tryd.prog 81 = true := by kernel_rfl
theorem tsh_82 : tsh Tryd.prog 82 = some .func := by kernel_rfl
theorem tsize_82 : tsize Tryd.prog 82 = some 1 := by kernel_rfl
theorem tagg_82 : tagg Tryd.prog 82 = some false := by kernel_rfl
theorem tzero_82 : tzero Tryd.prog 82 = some [.nilf] := by kernel_rfl
theorem srcOk_82 : srcOk Tryd.prog 82 = true := by kernel_rfl
theorem tsh_83 : tsh Tryd.prog 83 = some .other := by kernel_rfl
theorem tsize_83 : tsize Tryd.prog 83 = some 1 := by kernel_rfl
theorem tagg_83 : tagg Tryd.prog 83 = some false := by kernel_rfl
theorem srcOk_83 : srcOk Tryd.prog 83 = true := by kernel_rfl
theorem tsh_84 : tsh Tryd.prog 84 = some .func := by kernel_rfl
theorem tsize_84 : tsize Tryd.prog 84 = some 1 := by kernel_rfl
theorem tagg_84 : tagg Tryd.prog 84 = some false := by kernel_rfl
theorem tzero_84 : tzero Tryd.prog 84 = some [.nilf] := by kernel_rfl
theorem srcOk_84 : srcOk Tryd.prog 84 = true := by kernel_rfl
theorem tsh_85 : tsh Tryd.prog 85 = some .other := by kernel_rfl
theorem tsize_85 : tsize Tryd.prog 85 = some 1 := by kernel_rfl
theorem tagg_85 : tagg Tryd.prog 85 = some false := by kernel_rfl
theorem srcOk_85 : srcOk Tryd.prog 85 = true := by kernel_rfl
theorem tsh_86 : tsh Tryd.prog 86 = some .func := by kernel_rfl
theorem tsize_86 : tsize Tryd.prog 86 = some 1 := by kernel_rfl
theorem tagg_86 : tagg Tryd.prog 86 = some false := by kernel_rfl
theorem tzero_86 : tzero Tryd.prog 86 = some [.nilf] := by kernel_rfl
theorem srcOk_86 : srcOk Tryd.prog 86 = true := by kernel_rfl
theorem tsh_87 : tsh Tryd.prog 87 = some .func := by kernel_rfl
theorem tsize_87 : tsize Tryd.prog 87 = some 1 := by kernel_rfl
theorem tagg_87 : tagg Tryd.prog 87 = some false := by kernel_rfl
theorem tzero_87 : tzero Tryd.prog 87 = some [.nilf] := by kernel_rfl
theorem srcOk_87 : srcOk Tryd.prog 87 = true := by kernel_rfl
theorem tsh_88 : tsh Tryd.prog 88 = some .func := by kernel_rfl
theorem tsize_88 : tsize Tryd.prog 88 = some 1 := by kernel_rfl
theorem tagg_88 : tagg Tryd.prog 88 = some false := by kernel_rfl
theorem tzero_88 : tzero Tryd.prog 88 = some [.nilf] := by kernel_rfl
theorem srcOk_88 : srcOk Tryd.prog 88 = true := by kernel_rfl
theorem tsh_89 : tsh Tryd.prog 89 = some .func := by kernel_rfl
theorem tsize_89 : tsize Tryd.prog 89 = some 1 := by kernel_rfl
theorem tagg_89 : tagg Tryd.prog 89 = some false := by kernel_rfl
theorem tzero_89 : tzero Tryd.prog 89 = some [.nilf] := by kernel_rfl
theorem srcOk_89 : srcOk Tryd.prog 89 = true := by kernel_rfl
theorem tsh_90 : tsh Tryd.prog 90 = some .func := by kernel_rfl
theorem tsize_90 : tsize Tryd.prog 90 = some 1 := by kernel_rfl
theorem tagg_90 : tagg Tryd.prog 90 = some false := by kernel_rfl
theorem tzero_90 : tzero Tryd.prog 90 = some [.nilf] := by kernel_rfl
theorem srcOk_90 : srcOk Tryd.prog 90 = true := by kernel_rfl
theorem tsh_91 : tsh Tryd.prog 91 = some .func := by kernel_rfl
theorem tsize_91 : tsize Tryd.prog 91 = some 1 := by kernel_rfl
theorem tagg_91 : tagg Tryd.prog 91 = some false := by kernel_rfl
theorem tzero_91 : tzero Tryd.prog 91 = some [.nilf] := by kernel_rfl
theorem srcOk_91 : srcOk Tryd.prog 91 = true := by kernel_rfl
theorem tsh_92 : tsh Tryd.prog 92 = some .func := by kernel_rfl
theorem tsize_92 : tsize Tryd.prog 92 = some 1 := by kernel_rfl
theorem tagg_92 : tagg Tryd.prog 92 = some false := by kernel_rfl
theorem tzero_92 : tzero Tryd.prog 92 = some [.nilf] := by kernel_rfl
theorem srcOk_92 : srcOk Tryd.prog 92 = true := by kernel_rfl
theorem tsh_93 : tsh Tryd.prog 93 = some (.ptr 37) := by kernel_rfl
theorem tsize_93 : tsize Tryd.prog 93 = some 1 := by kernel_rfl
theorem tagg_93 : tagg Tryd.prog 93 = some false := by kernel_rfl
theorem tzero_93 : tzero Tryd.prog 93 = some [.nilp] := by kernel_rfl
theorem srcOk_93 : srcOk Tryd.prog 93 = true := by kernel_rfl
theorem tsh_94 : tsh Tryd.prog 94 = some (.ptr 40) := by kernel_rfl
theorem tsize_94 : tsize Tryd.prog 94 = some 1 := by kernel_rfl
theorem tagg_94 : tagg Tryd.prog 94 = some false := by kernel_rfl
theorem tzero_94 : tzero Tryd.prog 94 = some [.nilp] := by kernel_rfl
theorem srcOk_94 : srcOk Tryd.prog 94 = true := by kernel_rfl
theorem tsh_95 : tsh Tryd.prog 95 = some (.ptr 97) := by kernel_rfl
theorem tsize_95 : tsize Tryd.prog 95 = some 1 := by kernel_rfl
theorem tagg_95 : tagg Tryd.prog 95 = some false := by kernel_rfl
theorem tzero_95 : tzero Tryd.prog 95 = some [.nilp] := by kernel_rfl
theorem srcOk_95 : srcOk Tryd.prog 95 = true := by kernel_rfl
theorem tsh_96 : tsh Tryd.prog 96 = some .struct := by kernel_rfl
theorem tsize_96 : tsize Tryd.prog 96 = some 12 := by kernel_rfl
theorem tagg_96 : tagg Tryd.prog 96 = some true := by kernel_rfl
theorem tzero_96 : tzero Tryd.prog 96 = some [.nils, .int .i64 0, .int .i64 0, .str [], .str [], .str [], .int .u32 0, .int .u32 0, .int .u32 0, .int .u32 0, .int .u32 0, .int .i64 0] := by kernel_rfl
theorem tplaces_96 : tplaces Tryd.prog 96 = some [(0, 1), (1, 1), (2, 1), (3, 8), (11, 1)] := by kernel_rfl
theorem srcOk_96 : srcOk Tryd.prog 96 = true := by kernel_rfl
theorem eqg_96 : Tryd.prog.eqGuardType Tryd.prog.depth 96 = false := by kernel_rfl
theorem tfield_96_0 : tfield Tryd.prog 96 0 = some (0, 1, false) := by kernel_rfl
theorem tfield_96_1 : tfield Tryd.prog 96 1 = some (1, 1, false) := by kernel_rfl
theorem tfield_96_2 : tfield Tryd.prog 96 2 = some (2, 1, false) := by kernel_rfl
theorem tfield_96_3 : tfield Tryd.prog 96 3 = some (3, 8, true) := by kernel_rfl
theorem tfield_96_4 : tfield Tryd.prog 96 4 = some (11, 1, false) := by kernel_rfl
theorem tsh_97 : tsh Tryd.prog 97 = some .struct := by kernel_rfl
theorem tsize_97 : tsize Tryd.prog 97 = some 12 := by kernel_rfl
theorem tagg_97 : tagg Tryd.prog 97 = some true := by kernel_rfl
theorem tzero_97 : tzero Tryd.prog 97 = some [.nils, .int .i64 0, .int .i64 0, .str [], .str [], .str [], .int .u32 0, .int .u32 0, .int .u32 0, .int .u32 0, .int .u32 0, .int .i64 0] := by kernel_rfl
theorem tplaces_97 : tplaces Tryd.prog 97 = some [(0, 1), (1, 1), (2, 1), (3, 8), (11, 1)] := by kernel_rfl
theorem srcOk_97 : srcOk Tryd.prog 97 = true := by kernel_rfl
theorem eqg_97 : Tryd.prog.eqGuardType Tryd.prog.depth 97 = false := by kernel_rfl
theorem tfield_97_0 : tfield Tryd.prog 97 0 = some (0, 1, false) := by kernel_rfl
theorem tfield_97_1 : tfield Tryd.prog 97 1 = some (1, 1, false) := by kernel_rfl
theorem tfield_97_2 : tfield Tryd.prog 97 2 = some (2, 1, false) := by kernel_rfl
theorem tfield_97_3 : tfield Tryd.prog 97 3 = some (3, 8, true) := by kernel_rfl
theorem tfield_97_4 : tfield Tryd.prog 97 4 = some (11, 1, false) := by kernel_rfl
theorem tsh_98 : tsh Tryd.prog 98 = some (.map 21 1) := by kernel_rfl
theorem tsize_98 : tsize Tryd.prog 98 = some 1 := by kernel_rfl
theorem tagg_98 : tagg Tryd.prog 98 = some false := by kernel_rfl
theorem tzero_98 : tzero Tryd.prog 98 = some [.nilm] := by kernel_rfl
theorem srcOk_98 : srcOk Tryd.prog 98 = true := by kernel_rfl
theorem tsh_99 : tsh Tryd.prog 99 = some .other := by kernel_rfl
theorem tsize_99 : tsize Tryd.prog 99 = some 1 := by kernel_rfl
theorem tagg_99 : tagg Tryd.prog 99 = some false := by kernel_rfl
theorem srcOk_99 : srcOk Tryd.prog 99 = true := by kernel_rfl
theorem tsh_100 : tsh Tryd.prog 100 = some .func := by kernel_rfl
theorem tsize_100 : tsize Tryd.prog 100 = some 1 := by kernel_rfl
theorem tagg_100 : tagg Tryd.prog 100 = some false := by kernel_rfl
theorem tzero_100 : tzero Tryd.prog 100 = some [.nilf] := by kernel_rfl
theorem srcOk_100 : srcOk Tryd.prog 100 = true := by kernel_rfl
theorem tsh_101 : tsh Tryd.prog 101 = some .struct := by kernel_rfl
theorem tsize_101 : tsize Tryd.prog 101 = some 3 := by kernel_rfl
theorem tagg_101 : tagg Tryd.prog 101 = some true := by kernel_rfl
theorem tzero_101 : tzero Tryd.prog 101 = some [.int .u16 0, .str [], .str []] := by kernel_rfl
theorem tplaces_101 : tplaces Tryd.prog 101 = some [(0, 1), (1, 1), (2, 1)] := by kernel_rfl
theorem srcOk_101 : srcOk Tryd.prog 101 = true := by kernel_rfl
theorem eqg_101 : Tryd.prog.eqGuardType Tryd.prog.depth 101 = false := by kernel_rfl
theorem tfield_101_0 : tfield Tryd.prog 101 0 = some (0, 1, false) := by kernel_rfl
theorem tfield_101_1 : tfield Tryd.prog 101 1 = some (1, 1, false) := by kernel_rfl
theorem tfield_101_2 : tfield Tryd.prog 101 2 = some (2, 1, false) := by kernel_rfl
theorem tsh_102 : tsh Tryd.prog 102 = some (.array 9 101 3) := by kernel_rfl
theorem tsize_102 : tsize Tryd.prog 102 = some 27 := by kernel_rfl
theorem tagg_102 : tagg Tryd.prog 102 = some true := by kernel_rfl
theorem tzero_102 : tzero Tryd.prog 102 = some [.int .u16 0, .str [], .str [], .int .u16 0, .str [], .str [], .int .u16 0, .str [], .str [], .int .u16 0, .str [], .str [], .int .u16 0, .str [], .str [], .int .u16 0, .str [], .str [], .int .u16 0, .str [], .str [], .int .u16 0, .str [], .str [], .int .u16 0, .str [], .str []] := by kernel_rfl
theorem srcOk_102 : srcOk Tryd.prog 102 = true := by kernel_rfl
theorem tsh_103 : tsh Tryd.prog 103 = some .other := by kernel_rfl
theorem tsize_103 : tsize Tryd.prog 103 = some 1 := by kernel_rfl
theorem tagg_103 : tagg Tryd.prog 103 = some false := by kernel_rfl
theorem srcOk_103 : srcOk Tryd.prog 103 = true := by kernel_rfl
theorem tsh_104 : tsh Tryd.prog 104 = some .func := by kernel_rfl
theorem tsize_104 : tsize Tryd.prog 104 = some 1 := by kernel_rfl
theorem tagg_104 : tagg Tryd.prog 104 = some false := by kernel_rfl
theorem tzero_104 : tzero Tryd.prog 104 = some [.nilf] := by kernel_rfl
theorem srcOk_104 : srcOk Tryd.prog 104 = true := by kernel_rfl
theorem tsh_105 : tsh Tryd.prog 105 = some .other := by kernel_rfl
theorem tsize_105 : tsize Tryd.prog 105 = some 1 := by kernel_rfl
theorem tagg_105 : tagg Tryd.prog 105 = some false := by kernel_rfl
theorem srcOk_105 : srcOk Tryd.prog 105 = true := by kernel_rfl
theorem tsh_106 : tsh Tryd.prog 106 = some .func := by kernel_rfl
theorem tsize_106 : tsize Tryd.prog 106 = some 1 := by kernel_rfl
theorem tagg_106 : tagg Tryd.prog 106 = some false := by kernel_rfl
theorem tzero_106 : tzero Tryd.prog 106 = some [.nilf] := by kernel_rfl
theorem srcOk_106 : srcOk Tryd.prog 106 = true := by kernel_rfl
theorem tsh_107 : tsh Tryd.prog 107 = some (.slice 32 1 2) := by kernel_rfl
theorem tsize_107 : tsize Tryd.prog 107 = some 1 := by kernel_rfl
theorem tagg_107 : tagg Tryd.prog 107 = some false := by kernel_rfl
theorem tzero_107 : tzero Tryd.prog 107 = some [.nils] := by kernel_rfl
theorem srcOk_107 : srcOk Tryd.prog 107 = true := by kernel_rfl
theorem zok_107 : zok Tryd.prog 32 1 = true := by kernel_rfl
theorem tsh_108 : tsh Tryd.prog 108 = some .other := by kernel_rfl
theorem tsize_108 : tsize Tryd.prog 108 = some 1 := by kernel_rfl
theorem tagg_108 : tagg Tryd.prog 108 = some false := by kernel_rfl
theorem srcOk_108 : srcOk Tryd.prog 108 = true := by kernel_rfl
theorem tsh_109 : tsh Tryd.prog 109 = some .func := by kernel_rfl
theorem tsize_109 : tsize Tryd.prog 109 = some 1 := by kernel_rfl
theorem tagg_109 : tagg Tryd.prog 109 = some false := by kernel_rfl
theorem tzero_109 : tzero Tryd.prog 109 = some [.nilf] := by kernel_rfl
theorem srcOk_109 : srcOk Tryd.prog 109 = true := by kernel_rfl
theorem tsh_110 : tsh Tryd.prog 110 = some .other := by kernel_rfl
theorem tsize_110 : tsize Tryd.prog 110 = some 1 := by kernel_rfl
theorem tagg_110 : tagg Tryd.prog 110 = some false := by kernel_rfl
theorem srcOk_110 : srcOk Tryd.prog 110 = true := by kernel_rfl
theorem tsh_111 : tsh Tryd.prog 111 = some .func := by kernel_rfl
theorem tsize_111 : tsize Tryd.prog 111 = some 1 := by kernel_rfl
theorem tagg_111 : tagg Tryd.prog 111 = some false := by kernel_rfl
theorem tzero_111 : tzero Tryd.prog 111 = some [.nilf] := by kernel_rfl
theorem srcOk_111 : srcOk Tryd.prog 111 = true := by kernel_rfl
theorem tsh_112 : tsh Tryd.prog 112 = some .func := by kernel_rfl
theorem tsize_112 : tsize Tryd.prog 112 = some 1 := by kernel_rfl
theorem tagg_112 : tagg Tryd.prog 112 = some false := by kernel_rfl
theorem tzero_112 : tzero Tryd.prog 112 = some [.nilf] := by kernel_rfl
theorem srcOk_112 : srcOk Tryd.prog 112 = true := by kernel_rfl
theorem tsh_113 : tsh Tryd.prog 113 = some .func := by kernel_rfl
theorem tsize_113 : tsize Tryd.prog 113 = some 1 := by kernel_rfl
theorem tagg_113 : tagg Tryd.prog 113 = some false := by kernel_rfl
theorem tzero_113 : tzero Tryd.prog 113 = some [.nilf] := by kernel_rfl
theorem srcOk_113 : srcOk Tryd.prog 113 = true := by kernel_rfl
theorem tsh_114 : tsh Tryd.prog 114 = some .func := by kernel_rfl
theorem tsize_114 : tsize Tryd.prog 114 = some 1 := by kernel_rfl
theorem tagg_114 : tagg Tryd.prog 114 = some false := by kernel_rfl
theorem tzero_114 : tzero Tryd.prog 114 = some [.nilf] := by kernel_rfl
theorem srcOk_114 : srcOk Tryd.prog 114 = true := by kernel_rfl
theorem tsh_115 : tsh Tryd.prog 115 = some .other := by kernel_rfl
theorem tsize_115 : tsize Tryd.prog 115 = some 1 := by kernel_rfl
theorem tagg_115 : tagg Tryd.prog 115 = some false := by kernel_rfl
theorem srcOk_115 : srcOk Tryd.prog 115 = true := by kernel_rfl
theorem tsh_116 : tsh Tryd.prog 116 = some .func := by kernel_rfl
theorem tsize_116 : tsize Tryd.prog 116 = some 1 := by kernel_rfl
theorem tagg_116 : tagg Tryd.prog 116 = some false := by kernel_rfl
theorem tzero_116 : tzero Tryd.prog 116 = some [.nilf] := by kernel_rfl
theorem srcOk_116 : srcOk Tryd.prog 116 = true := by kernel_rfl
theorem tsh_117 : tsh Tryd.prog 117 = some .func := by kernel_rfl
theorem tsize_117 : tsize Tryd.prog 117 = some 1 := by kernel_rfl
theorem tagg_117 : tagg Tryd.prog 117 = some false := by kernel_rfl
theorem tzero_117 : tzero Tryd.prog 117 = some [.nilf] := by kernel_rfl
theorem srcOk_117 : srcOk Tryd.prog 117 = true := by kernel_rfl
theorem tsh_118 : tsh Tryd.prog 118 = some .other := by kernel_rfl
theorem tsize_118 : tsize Tryd.prog 118 = some 1 := by kernel_rfl
theorem tagg_118 : tagg Tryd.prog 118 = some false := by kernel_rfl
theorem srcOk_118 : srcOk Tryd.prog 118 = true := by kernel_rfl
theorem tsh_119 : tsh Tryd.prog 119 = some .func := by kernel_rfl
theorem tsize_119 : tsize Tryd.prog 119 = some 1 := by kernel_rfl
theorem tagg_119 : tagg Tryd.prog 119 = some false := by kernel_rfl
theorem tzero_119 : tzero Tryd.prog 119 = some [.nilf] := by kernel_rfl
theorem srcOk_119 : srcOk Tryd.prog 119 = true := by kernel_rfl
theorem tsh_120 : tsh Tryd.prog 120 = some .func := by kernel_rfl
theorem tsize_120 : tsize Tryd.prog 120 = some 1 := by kernel_rfl
theorem tagg_120 : tagg Tryd.prog 120 = some false := by kernel_rfl
theorem tzero_120 : tzero Tryd.prog 120 = some [.nilf] := by kernel_rfl
theorem srcOk_120 : srcOk Tryd.prog 120 = true := by kernel_rfl
theorem tsh_121 : tsh Tryd.prog 121 = some (.ptr 5) := by kernel_rfl
theorem tsize_121 : tsize Tryd.prog 121 = some 1 := by kernel_rfl
theorem tagg_121 : tagg Tryd.prog 121 = some false := by kernel_rfl
theorem tzero_121 : tzero Tryd.prog 121 = some [.nilp] := by kernel_rfl
theorem srcOk_121 : srcOk Tryd.prog 121 = true := by kernel_rfl
theorem tsh_122 : tsh Tryd.prog 122 = some .func := by kernel_rfl
theorem tsize_122 : tsize Tryd.prog 122 = some 1 := by kernel_rfl
theorem tagg_122 : tagg Tryd.prog 122 = some false := by kernel_rfl
theorem tzero_122 : tzero Tryd.prog 122 = some [.nilf] := by kernel_rfl
theorem srcOk_122 : srcOk Tryd.prog 122 = true := by kernel_rfl
theorem tsh_123 : tsh Tryd.prog 123 = some .func := by kernel_rfl
theorem tsize_123 : tsize Tryd.prog 123 = some 1 := by kernel_rfl
theorem tagg_123 : tagg Tryd.prog 123 = some false := by kernel_rfl
theorem tzero_123 : tzero Tryd.prog 123 = some [.nilf] := by kernel_rfl
theorem srcOk_123 : srcOk Tryd.prog 123 = true := by kernel_rfl
theorem tsh_124 : tsh Tryd.prog 124 = some .other := by kernel_rfl
theorem tsize_124 : tsize Tryd.prog 124 = some 1 := by kernel_rfl
theorem tagg_124 : tagg Tryd.prog 124 = some false := by kernel_rfl
theorem srcOk_124 : srcOk Tryd.prog 124 = true := by kernel_rfl
theorem tsh_125 : tsh Tryd.prog 125 = some .func := by kernel_rfl
theorem tsize_125 : tsize Tryd.prog 125 = some 1 := by kernel_rfl
theorem tagg_125 : tagg Tryd.prog 125 = some false := by kernel_rfl
theorem tzero_125 : tzero Tryd.prog 125 = some [.nilf] := by kernel_rfl
theorem srcOk_125 : srcOk Tryd.prog 125 = true := by kernel_rfl
theorem tsh_126 : tsh Tryd.prog 126 = some .func := by kernel_rfl
theorem tsize_126 : tsize Tryd.prog 126 = some 1 := by kernel_rfl
theorem tagg_126 : tagg Tryd.prog 126 = some false := by kernel_rfl
theorem tzero_126 : tzero Tryd.prog 126 = some [.nilf] := by kernel_rfl
theorem srcOk_126 : srcOk Tryd.prog 126 = true := by kernel_rfl
theorem tsh_127 : tsh Tryd.prog 127 = some .other := by kernel_rfl
theorem tsize_127 : tsize Tryd.prog 127 = some 1 := by kernel_rfl
theorem tagg_127 : tagg Tryd.prog 127 = some false := by kernel_rfl
theorem srcOk_127 : srcOk Tryd.prog 127 = true := by kernel_rfl
theorem tsh_128 : tsh Tryd.prog 128 = some .func := by kernel_rfl
theorem tsize_128 : tsize Tryd.prog 128 = some 1 := by kernel_rfl
theorem tagg_128 : tagg Tryd.prog 128 = some false := by kernel_rfl
theorem tzero_128 : tzero Tryd.prog 128 = some [.nilf] := by kernel_rfl
theorem srcOk_128 : srcOk Tryd.prog 128 = true := by kernel_rfl
theorem tsh_129 : tsh Tryd.prog 129 = some .other := by kernel_rfl
theorem tsize_129 : tsize Tryd.prog 129 = some 1 := by kernel_rfl
theorem tagg_129 : tagg Tryd.prog 129 = some false := by kernel_rfl
theorem srcOk_129 : srcOk Tryd.prog 129 = true := by kernel_rfl
theorem tsh_130 : tsh Tryd.prog 130 = some .func := by kernel_rfl
theorem tsize_130 : tsize Tryd.prog 130 = some 1 := by kernel_rfl
theorem tagg_130 : tagg Tryd.prog 130 = some false := by kernel_rfl
theorem tzero_130 : tzero Tryd.prog 130 = some [.nilf] := by kernel_rfl
theorem srcOk_130 : srcOk Tryd.prog 130 = true := by kernel_rfl
theorem tsh_131 : tsh Tryd.prog 131 = some .func := by kernel_rfl
theorem tsize_131 : tsize Tryd.prog 131 = some 1 := by kernel_rfl
theorem tagg_131 : tagg Tryd.prog 131 = some false := by kernel_rfl
theorem tzero_131 : tzero Tryd.prog 131 = some [.nilf] := by kernel_rfl
theorem srcOk_131 : srcOk Tryd.prog 131 = true := by kernel_rfl
theorem tsh_132 : tsh Tryd.prog 132 = some .func := by kernel_rfl
theorem tsize_132 : tsize Tryd.prog 132 = some 1 := by kernel_rfl
theorem tagg_132 : tagg Tryd.prog 132 = some false := by kernel_rfl
theorem tzero_132 : tzero Tryd.prog 132 = some [.nilf] := by kernel_rfl
theorem srcOk_132 : srcOk Tryd.prog 132 = true := by kernel_rfl
theorem tsh_133 : tsh Tryd.prog 133 = some .func := by kernel_rfl
theorem tsize_133 : tsize Tryd.prog 133 = some 1 := by kernel_rfl
theorem tagg_133 : tagg Tryd.prog 133 = some false := by kernel_rfl
theorem tzero_133 : tzero Tryd.prog 133 = some [.nilf] := by kernel_rfl
theorem srcOk_133 : srcOk Tryd.prog 133 = true := by kernel_rfl
theorem tsh_134 : tsh Tryd.prog 134 = some .other := by kernel_rfl
theorem tsize_134 : tsize Tryd.prog 134 = some 1 := by kernel_rfl
theorem tagg_134 : tagg Tryd.prog 134 = some false := by kernel_rfl
theorem srcOk_134 : srcOk Tryd.prog 134 = true := by kernel_rfl
theorem tsh_135 : tsh Tryd.prog 135 = some .func := by kernel_rfl
theorem tsize_135 : tsize Tryd.prog 135 = some 1 := by kernel_rfl
theorem tagg_135 : tagg Tryd.prog 135 = some false := by kernel_rfl
theorem tzero_135 : tzero Tryd.prog 135 = some [.nilf] := by kernel_rfl
theorem srcOk_135 : srcOk Tryd.prog 135 = true := by kernel_rfl
theorem tsh_136 : tsh Tryd.prog 136 = some .func := by kernel_rfl
theorem tsize_136 : tsize Tryd.prog 136 = some 1 := by kernel_rfl
theorem tagg_136 : tagg Tryd.prog 136 = some false := by kernel_rfl
theorem tzero_136 : tzero Tryd.prog 136 = some [.nilf] := by kernel_rfl
theorem srcOk_136 : srcOk Tryd.prog 136 = true := by kernel_rfl
theorem tsh_137 : tsh Tryd.prog 137 = some .func := by kernel_rfl
theorem tsize_137 : tsize Tryd.prog 137 = some 1 := by kernel_rfl
theorem tagg_137 : tagg Tryd.prog 137 = some false := by kernel_rfl
theorem tzero_137 : tzero Tryd.prog 137 = some [.nilf] := by kernel_rfl
theorem srcOk_137 : srcOk Tryd.prog 137 = true := by kernel_rfl
theorem tsh_138 : tsh Tryd.prog 138 = some (.array 24 5 1) := by kernel_rfl
theorem tsize_138 : tsize Tryd.prog 138 = some 24 := by kernel_rfl
theorem tagg_138 : tagg Tryd.prog 138 = some true := by kernel_rfl
theorem tzero_138 : tzero Tryd.prog 138 = some [.int .u8 0, .int .u8 0, .int .u8 0, .int .u8 0, .int .u8 0, .int .u8 0, .int .u8 0, .int .u8 0, .int .u8 0, .int .u8 0, .int .u8 0, .int .u8 0, .int .u8 0, .int .u8 0, .int .u8 0, .int .u8 0, .int .u8 0, .int .u8 0, .int .u8 0, .int .u8 0, .int .u8 0, .int .u8 0, .int .u8 0, .int .u8 0] := by kernel_rfl
theorem srcOk_138 : srcOk Tryd.prog 138 = true := by kernel_rfl
theorem tsh_139 : tsh Tryd.prog 139 = some .func := by kernel_rfl
theorem tsize_139 : tsize Tryd.prog 139 = some 1 := by kernel_rfl
theorem tagg_139 : tagg Tryd.prog 139 = some false := by kernel_rfl
theorem tzero_139 : tzero Tryd.prog 139 = some [.nilf] := by kernel_rfl
theorem srcOk_139 : srcOk Tryd.prog 139 = true := by kernel_rfl
theorem tsh_140 : tsh Tryd.prog 140 = some .func := by kernel_rfl
theorem tsize_140 : tsize Tryd.prog 140 = some 1 := by kernel_rfl
theorem tagg_140 : tagg Tryd.prog 140 = some false := by kernel_rfl
theorem tzero_140 : tzero Tryd.prog 140 = some [.nilf] := by kernel_rfl
theorem srcOk_140 : srcOk Tryd.prog 140 = true := by kernel_rfl
theorem tsh_141 : tsh Tryd.prog 141 = some .other := by kernel_rfl
theorem tsize_141 : tsize Tryd.prog 141 = some 1 := by kernel_rfl
theorem tagg_141 : tagg Tryd.prog 141 = some false := by kernel_rfl
theorem srcOk_141 : srcOk Tryd.prog 141 = true := by kernel_rfl
theorem tsh_142 : tsh Tryd.prog 142 = some .func := by kernel_rfl
theorem tsize_142 : tsize Tryd.prog 142 = some 1 := by kernel_rfl
theorem tagg_142 : tagg Tryd.prog 142 = some false := by kernel_rfl
theorem tzero_142 : tzero Tryd.prog 142 = some [.nilf] := by kernel_rfl
theorem srcOk_142 : srcOk Tryd.prog 142 = true := by kernel_rfl
theorem tsh_143 : tsh Tryd.prog 143 = some .func := by kernel_rfl
theorem tsize_143 : tsize Tryd.prog 143 = some 1 := by kernel_rfl
theorem tagg_143 : tagg Tryd.prog 143 = some false := by kernel_rfl
theorem tzero_143 : tzero Tryd.prog 143 = some [.nilf] := by kernel_rfl
theorem srcOk_143 : srcOk Tryd.prog 143 = true := by kernel_rfl
theorem tsh_144 : tsh Tryd.prog 144 = some .other := by kernel_rfl
theorem tsize_144 : tsize Tryd.prog 144 = some 1 := by kernel_rfl
theorem tagg_144 : tagg Tryd.prog 144 = some false := by kernel_rfl
theorem srcOk_144 : srcOk Tryd.prog 144 = true := by kernel_rfl
theorem tsh_145 : tsh Tryd.prog 145 = some .func := by kernel_rfl
theorem tsize_145 : tsize Tryd.prog 145 = some 1 := by kernel_rfl
theorem tagg_145 : tagg Tryd.prog 145 = some false := by kernel_rfl
theorem tzero_145 : tzero Tryd.prog 145 = some [.nilf] := by kernel_rfl
theorem srcOk_145 : srcOk Tryd.prog 145 = true := by kernel_rfl
theorem tsh_146 : tsh Tryd.prog 146 = some .upt := by kernel_rfl
theorem tsize_146 : tsize Tryd.prog 146 = some 1 := by kernel_rfl
theorem tagg_146 : tagg Tryd.prog 146 = some false := by kernel_rfl
theorem tzero_146 : tzero Tryd.prog 146 = some [.nilp] := by kernel_rfl
theorem srcOk_146 : srcOk Tryd.prog 146 = true := by kernel_rfl
theorem tsh_147 : tsh Tryd.prog 147 = some .func := by kernel_rfl
theorem tsize_147 : tsize Tryd.prog 147 = some 1 := by kernel_rfl
theorem tagg_147 : tagg Tryd.prog 147 = some false := by kernel_rfl
theorem tzero_147 : tzero Tryd.prog 147 = some [.nilf] := by kernel_rfl
theorem srcOk_147 : srcOk Tryd.prog 147 = true := by kernel_rfl
theorem tsh_148 : tsh Tryd.prog 148 = some .other := by kernel_rfl
theorem tsize_148 : tsize Tryd.prog 148 = some 1 := by kernel_rfl
theorem tagg_148 : tagg Tryd.prog 148 = some false := by kernel_rfl
theorem srcOk_148 : srcOk Tryd.prog 148 = true := by kernel_rfl
theorem tsh_149 : tsh Tryd.prog 149 = some .func := by kernel_rfl
theorem tsize_149 : tsize Tryd.prog 149 = some 1 := by kernel_rfl
theorem tagg_149 : tagg Tryd.prog 149 = some false := by kernel_rfl
theorem tzero_149 : tzero Tryd.prog 149 = some [.nilf] := by kernel_rfl
theorem srcOk_149 : srcOk Tryd.prog 149 = true := by kernel_rfl
theorem tsh_150 : tsh Tryd.prog 150 = some .func := by kernel_rfl
theorem tsize_150 : tsize Tryd.prog 150 = some 1 := by kernel_rfl
theorem tagg_150 : tagg Tryd.prog 150 = some false := by kernel_rfl
theorem tzero_150 : tzero Tryd.prog 150 = some [.nilf] := by kernel_rfl
theorem srcOk_150 : srcOk Tryd.prog 150 = true := by kernel_rfl
theorem tsh_151 : tsh Tryd.prog 151 = some .func := by kernel_rfl
theorem tsize_151 : tsize Tryd.prog 151 = some 1 := by kernel_rfl
theorem tagg_151 : tagg Tryd.prog 151 = some false := by kernel_rfl
theorem tzero_151 : tzero Tryd.prog 151 = some [.nilf] := by kernel_rfl
theorem srcOk_151 : srcOk Tryd.prog 151 = true := by kernel_rfl
theorem tsh_152 : tsh Tryd.prog 152 = some .other := by kernel_rfl
theorem tsize_152 : tsize Tryd.prog 152 = some 1 := by kernel_rfl
theorem tagg_152 : tagg Tryd.prog 152 = some false := by kernel_rfl
theorem srcOk_152 : srcOk Tryd.prog 152 = true := by kernel_rfl
theorem tsh_153 : tsh Tryd.prog 153 = some .func := by kernel_rfl
theorem tsize_153 : tsize Tryd.prog 153 = some 1 := by kernel_rfl
theorem tagg_153 : tagg Tryd.prog 153 = some false := by kernel_rfl
theorem tzero_153 : tzero Tryd.prog 153 = some [.nilf] := by kernel_rfl
theorem srcOk_153 : srcOk Tryd.prog 153 = true := by kernel_rfl
theorem tsh_154 : tsh Tryd.prog 154 = some .func := by kernel_rfl
theorem tsize_154 : tsize Tryd.prog 154 = some 1 := by kernel_rfl
theorem tagg_154 : tagg Tryd.prog 154 = some false := by kernel_rfl
theorem tzero_154 : tzero Tryd.prog 154 = some [.nilf] := by kernel_rfl
theorem srcOk_154 : srcOk Tryd.prog 154 = true := by kernel_rfl
theorem tsh_155 : tsh Tryd.prog 155 = some .func := by kernel_rfl
theorem tsize_155 : tsize Tryd.prog 155 = some 1 := by kernel_rfl
theorem tagg_155 : tagg Tryd.prog 155 = some false := by kernel_rfl
theorem tzero_155 : tzero Tryd.prog 155 = some [.nilf] := by kernel_rfl
theorem srcOk_155 : srcOk Tryd.prog 155 = true := by kernel_rfl
theorem tsh_156 : tsh Tryd.prog 156 = some (.array 20 67 1) := by kernel_rfl
theorem tsize_156 : tsize Tryd.prog 156 = some 20 := by kernel_rfl
theorem tagg_156 : tagg Tryd.prog 156 = some true := by kernel_rfl
theorem tzero_156 : tzero Tryd.prog 156 = some [.int .u64 0, .int .u64 0, .int .u64 0, .int .u64 0, .int .u64 0, .int .u64 0, .int .u64 0, .int .u64 0, .int .u64 0, .int .u64 0, .int .u64 0, .int .u64 0, .int .u64 0, .int .u64 0, .int .u64 0, .int .u64 0, .int .u64 0, .int .u64 0, .int .u64 0, .int .u64 0] := by kernel_rfl
theorem srcOk_156 : srcOk Tryd.prog 156 = true := by kernel_rfl
theorem tsh_157 : tsh Tryd.prog 157 = some (.array 65 5 1) := by kernel_rfl
theorem tsize_157 : tsize Tryd.prog 157 = some 65 := by kernel_rfl
theorem tagg_157 : tagg Tryd.prog 157 = some true := by kernel_rfl
theorem tzero_157 : tzero Tryd.prog 157 = some [.int .u8 0, .int .u8 0, .int .u8 0, .int .u8 0, .int .u8 0, .int .u8 0, .int .u8 0, .int .u8 0, .int .u8 0, .int .u8 0, .int .u8 0, .int .u8 0, .int .u8 0, .int .u8 0, .int .u8 0, .int .u8 0, .int .u8 0, .int .u8 0, .int .u8 0, .int .u8 0, .int .u8 0, .int .u8 0, .int .u8 0, .int .u8 0, .int .u8 0, .int .u8 0, .int .u8 0, .int .u8 0, .int .u8 0, .int .u8 0, .int .u8 0, .int .u8 0, .int .u8 0, .int .u8 0, .int .u8 0, .int .u8 0, .int .u8 0, .int .u8 0, .int .u8 0, .int .u8 0, .int .u8 0, .int .u8 0, .int .u8 0, .int .u8 0, .int .u8 0, .int .u8 0, .int .u8 0, .int .u8 0, .int .u8 0, .int .u8 0, .int .u8 0, .int .u8 0, .int .u8 0, .int .u8 0, .int .u8 0, .int .u8 0, .int .u8 0, .int .u8 0, .int .u8 0, .int .u8 0, .int .u8 0, .int .u8 0, .int .u8 0, .int .u8 0, .int .u8 0] := by kernel_rfl
theorem srcOk_157 : srcOk Tryd.prog 157 = true := by kernel_rfl
theorem tsh_158 : tsh Tryd.prog 158 = some .func := by kernel_rfl
theorem tsize_158 : tsize Tryd.prog 158 = some 1 := by kernel_rfl
theorem tagg_158 : tagg Tryd.prog 158 = some false := by kernel_rfl
theorem tzero_158 : tzero Tryd.prog 158 = some [.nilf] := by kernel_rfl
theorem srcOk_158 : srcOk Tryd.prog 158 = true := by kernel_rfl
theorem tsh_159 : tsh Tryd.prog 159 = some .func := by kernel_rfl
theorem tsize_159 : tsize Tryd.prog 159 = some 1 := by kernel_rfl
theorem tagg_159 : tagg Tryd.prog 159 = some false := by kernel_rfl
theorem tzero_159 : tzero Tryd.prog 159 = some [.nilf] := by kernel_rfl
theorem srcOk_159 : srcOk Tryd.prog 159 = true := by kernel_rfl
theorem tsh_160 : tsh Tryd.prog 160 = some .func := by kernel_rfl
theorem tsize_160 : tsize Tryd.prog 160 = some 1 := by kernel_rfl
theorem tagg_160 : tagg Tryd.prog 160 = some false := by kernel_rfl
theorem tzero_160 : tzero Tryd.prog 160 = some [.nilf] := by kernel_rfl
theorem srcOk_160 : srcOk Tryd.prog 160 = true := by kernel_rfl
theorem tsh_161 : tsh Tryd.prog 161 = some .other := by kernel_rfl
theorem tsize_161 : tsize Tryd.prog 161 = some 1 := by kernel_rfl
theorem tagg_161 : tagg Tryd.prog 161 = some false := by kernel_rfl
theorem srcOk_161 : srcOk Tryd.prog 161 = true := by kernel_rfl
theorem tsh_162 : tsh Tryd.prog 162 = some .func := by kernel_rfl
theorem tsize_162 : tsize Tryd.prog 162 = some 1 := by kernel_rfl
theorem tagg_162 : tagg Tryd.prog 162 = some false := by kernel_rfl
theorem tzero_162 : tzero Tryd.prog 162 = some [.nilf] := by kernel_rfl
theorem srcOk_162 : srcOk Tryd.prog 162 = true := by kernel_rfl
theorem tsh_163 : tsh Tryd.prog 163 = some (.int .i64) := by kernel_rfl
theorem tsize_163 : tsize Tryd.prog 163 = some 1 := by kernel_rfl
theorem tagg_163 : tagg Tryd.prog 163 = some false := by kernel_rfl
theorem tzero_163 : tzero Tryd.prog 163 = some [.int .i64 0] := by kernel_rfl
theorem tsh_164 : tsh Tryd.prog 164 = some .func := by kernel_rfl
theorem tsize_164 : tsize Tryd.prog 164 = some 1 := by kernel_rfl
theorem tagg_164 : tagg Tryd.prog 164 = some false := by kernel_rfl
theorem tzero_164 : tzero Tryd.prog 164 = some [.nilf] := by kernel_rfl
theorem srcOk_164 : srcOk Tryd.prog 164 = true := by kernel_rfl
theorem tsh_165 : tsh Tryd.prog 165 = some (.ptr 170) := by kernel_rfl
theorem tsize_165 : tsize Tryd.prog 165 = some 1 := by kernel_rfl
theorem tagg_165 : tagg Tryd.prog 165 = some false := by kernel_rfl
theorem tzero_165 : tzero Tryd.prog 165 = some [.nilp] := by kernel_rfl
theorem srcOk_165 : srcOk Tryd.prog 165 = true := by kernel_rfl
theorem tsh_166 : tsh Tryd.prog 166 = some .func := by kernel_rfl
theorem tsize_166 : tsize Tryd.prog 166 = some 1 := by kernel_rfl
theorem tagg_166 : tagg Tryd.prog 166 = some false := by kernel_rfl
theorem tzero_166 : tzero Tryd.prog 166 = some [.nilf] := by kernel_rfl
theorem srcOk_166 : srcOk Tryd.prog 166 = true := by kernel_rfl
theorem tsh_167 : tsh Tryd.prog 167 = some .func := by kernel_rfl
theorem tsize_167 : tsize Tryd.prog 167 = some 1 := by kernel_rfl
theorem tagg_167 : tagg Tryd.prog 167 = some false := by kernel_rfl
theorem tzero_167 : tzero Tryd.prog 167 = some [.nilf] := by kernel_rfl
theorem srcOk_167 : srcOk Tryd.prog 167 = true := by kernel_rfl
theorem tsh_168 : tsh Tryd.prog 168 = some .func := by kernel_rfl
theorem tsize_168 : tsize Tryd.prog 168 = some 1 := by kernel_rfl
theorem tagg_168 : tagg Tryd.prog 168 = some false := by kernel_rfl
theorem tzero_168 : tzero Tryd.prog 168 = some [.nilf] := by kernel_rfl
theorem srcOk_168 : srcOk Tryd.prog 168 = true := by kernel_rfl
theorem tsh_169 : tsh Tryd.prog 169 = some .struct := by kernel_rfl
theorem tsize_169 : tsize Tryd.prog 169 = some 3 := by kernel_rfl
theorem tagg_169 : tagg Tryd.prog 169 = some true := by kernel_rfl
theorem tzero_169 : tzero Tryd.prog 169 = some [.str [], .str [], .nili] := by kernel_rfl
theorem tplaces_169 : tplaces Tryd.prog 169 = some [(0, 1), (1, 1), (2, 1)] := by kernel_rfl
theorem srcOk_169 : srcOk Tryd.prog 169 = true := by kernel_rfl
theorem tfield_169_0 : tfield Tryd.prog 169 0 = some (0, 1, false) := by kernel_rfl
theorem tfield_169_1 : tfield Tryd.prog 169 1 = some (1, 1, false) := by kernel_rfl
theorem tfield_169_2 : tfield Tryd.prog 169 2 = some (2, 1, false) := by kernel_rfl
theorem tsh_170 : tsh Tryd.prog 170 = some .struct := by kernel_rfl
theorem tsize_170 : tsize Tryd.prog 170 = some 3 := by kernel_rfl
theorem tagg_170 : tagg Tryd.prog 170 = some true := by kernel_rfl
theorem tzero_170 : tzero Tryd.prog 170 = some [.str [], .str [], .nili] := by kernel_rfl
theorem tplaces_170 : tplaces Tryd.prog 170 = some [(0, 1), (1, 1), (2, 1)] := by kernel_rfl
theorem srcOk_170 : srcOk Tryd.prog 170 = true := by kernel_rfl
theorem tfield_170_0 : tfield Tryd.prog 170 0 = some (0, 1, false) := by kernel_rfl
theorem tfield_170_1 : tfield Tryd.prog 170 1 = some (1, 1, false) := by kernel_rfl
theorem tfield_170_2 : tfield Tryd.prog 170 2 = some (2, 1, false) := by kernel_rfl
theorem tsh_171 : tsh Tryd.prog 171 = some .func := by kernel_rfl
theorem tsize_171 : tsize Tryd.prog 171 = some 1 := by kernel_rfl
theorem tagg_171 : tagg Tryd.prog 171 = some false := by kernel_rfl
theorem tzero_171 : tzero Tryd.prog 171 = some [.nilf] := by kernel_rfl
theorem srcOk_171 : srcOk Tryd.prog 171 = true := by kernel_rfl
theorem tsh_172 : tsh Tryd.prog 172 = some (.array 32 5 1) := by kernel_rfl
theorem tsize_172 : tsize Tryd.prog 172 = some 32 := by kernel_rfl
theorem tagg_172 : tagg Tryd.prog 172 = some true := by kernel_rfl
theorem tzero_172 : tzero Tryd.prog 172 = some [.int .u8 0, .int .u8 0, .int .u8 0, .int .u8 0, .int .u8 0, .int .u8 0, .int .u8 0, .int .u8 0, .int .u8 0, .int .u8 0, .int .u8 0, .int .u8 0, .int .u8 0, .int .u8 0, .int .u8 0, .int .u8 0, .int .u8 0, .int .u8 0, .int .u8 0, .int .u8 0, .int .u8 0, .int .u8 0, .int .u8 0, .int .u8 0, .int .u8 0, .int .u8 0, .int .u8 0, .int .u8 0, .int .u8 0, .int .u8 0, .int .u8 0, .int .u8 0] := by kernel_rfl
theorem srcOk_172 : srcOk Tryd.prog 172 = true := by kernel_rfl
theorem tsh_173 : tsh Tryd.prog 173 = some (.array 64 5 1) := by kernel_rfl
theorem tsize_173 : tsize Tryd.prog 173 = some 64 := by kernel_rfl
theorem tagg_173 : tagg Tryd.prog 173 = some true := by kernel_rfl
theorem tzero_173 : tzero Tryd.prog 173 = some [.int .u8 0, .int .u8 0, .int .u8 0, .int .u8 0, .int .u8 0, .int .u8 0, .int .u8 0, .int .u8 0, .int .u8 0, .int .u8 0, .int .u8 0, .int .u8 0, .int .u8 0, .int .u8 0, .int .u8 0, .int .u8 0, .int .u8 0, .int .u8 0, .int .u8 0, .int .u8 0, .int .u8 0, .int .u8 0, .int .u8 0, .int .u8 0, .int .u8 0, .int .u8 0, .int .u8 0, .int .u8 0, .int .u8 0, .int .u8 0, .int .u8 0, .int .u8 0, .int .u8 0, .int .u8 0, .int .u8 0, .int .u8 0, .int .u8 0, .int .u8 0, .int .u8 0, .int .u8 0, .int .u8 0, .int .u8 0, .int .u8 0, .int .u8 0, .int .u8 0, .int .u8 0, .int .u8 0, .int .u8 0, .int .u8 0, .int .u8 0, .int .u8 0, .int .u8 0, .int .u8 0, .int .u8 0, .int .u8 0, .int .u8 0, .int .u8 0, .int .u8 0, .int .u8 0, .int .u8 0, .int .u8 0, .int .u8 0, .int .u8 0, .int .u8 0] := by kernel_rfl
theorem srcOk_173 : srcOk Tryd.prog 173 = true := by kernel_rfl
theorem tsh_174 : tsh Tryd.prog 174 = some (.ptr 176) := by kernel_rfl
theorem tsize_174 : tsize Tryd.prog 174 = some 1 := by kernel_rfl
theorem tagg_174 : tagg Tryd.prog 174 = some false := by kernel_rfl
theorem tzero_174 : tzero Tryd.prog 174 = some [.nilp] := by kernel_rfl
theorem srcOk_174 : srcOk Tryd.prog 174 = true := by kernel_rfl
theorem tsh_175 : tsh Tryd.prog 175 = some .struct := by kernel_rfl
theorem tsize_175 : tsize Tryd.prog 175 = some 1 := by kernel_rfl
theorem tagg_175 : tagg Tryd.prog 175 = some true := by kernel_rfl
theorem tzero_175 : tzero Tryd.prog 175 = some [.str []] := by kernel_rfl
theorem tplaces_175 : tplaces Tryd.prog 175 = some [(0, 1)] := by kernel_rfl
theorem srcOk_175 : srcOk Tryd.prog 175 = true := by kernel_rfl
theorem eqg_175 : Tryd.prog.eqGuardType Tryd.prog.depth 175 = false := by kernel_rfl
theorem tfield_175_0 : tfield Tryd.prog 175 0 = some (0, 1, false) := by kernel_rfl
theorem tsh_176 : tsh Tryd.prog 176 = some .struct := by kernel_rfl
theorem tsize_176 : tsize Tryd.prog 176 = some 1 := by kernel_rfl
theorem tagg_176 : tagg Tryd.prog 176 = some true := by kernel_rfl
theorem tzero_176 : tzero Tryd.prog 176 = some [.str []] := by kernel_rfl
theorem tplaces_176 : tplaces Tryd.prog 176 = some [(0, 1)] := by kernel_rfl
theorem srcOk_176 : srcOk Tryd.prog 176 = true := by kernel_rfl
theorem eqg_176 : Tryd.prog.eqGuardType Tryd.prog.depth 176 = false := by kernel_rfl
theorem tfield_176_0 : tfield Tryd.prog 176 0 = some (0, 1, false) := by kernel_rfl
theorem tsh_177 : tsh Tryd.prog 177 = some .struct := by kernel_rfl
theorem tsize_177 : tsize Tryd.prog 177 = some 4 := by kernel_rfl
theorem tagg_177 : tagg Tryd.prog 177 = some true := by kernel_rfl
theorem tzero_177 : tzero Tryd.prog 177 = some [.nilp, .nilp, .nilp, .str []] := by kernel_rfl
theorem tplaces_177 : tplaces Tryd.prog 177 = some [(0, 1), (1, 1), (2, 1), (3, 1)] := by kernel_rfl
theorem srcOk_177 : srcOk Tryd.prog 177 = true := by kernel_rfl
theorem eqg_177 : Tryd.prog.eqGuardType Tryd.prog.depth 177 = false := by kernel_rfl
theorem tfield_177_0 : tfield Tryd.prog 177 0 = some (0, 1, false) := by kernel_rfl
theorem tfield_177_1 : tfield Tryd.prog 177 1 = some (1, 1, false) := by kernel_rfl
theorem tfield_177_2 : tfield Tryd.prog 177 2 = some (2, 1, false) := by kernel_rfl
theorem tfield_177_3 : tfield Tryd.prog 177 3 = some (3, 1, false) := by kernel_rfl
theorem tsh_178 : tsh Tryd.prog 178 = some .struct := by kernel_rfl
theorem tsize_178 : tsize Tryd.prog 178 = some 4 := by kernel_rfl
theorem tagg_178 : tagg Tryd.prog 178 = some true := by kernel_rfl
theorem tzero_178 : tzero Tryd.prog 178 = some [.nilp, .nilp, .nilp, .str []] := by kernel_rfl
theorem tplaces_178 : tplaces Tryd.prog 178 = some [(0, 1), (1, 1), (2, 1), (3, 1)] := by kernel_rfl
theorem srcOk_178 : srcOk Tryd.prog 178 = true := by kernel_rfl
theorem eqg_178 : Tryd.prog.eqGuardType Tryd.prog.depth 178 = false := by kernel_rfl
theorem tfield_178_0 : tfield Tryd.prog 178 0 = some (0, 1, false) := by kernel_rfl
theorem tfield_178_1 : tfield Tryd.prog 178 1 = some (1, 1, false) := by kernel_rfl
theorem tfield_178_2 : tfield Tryd.prog 178 2 = some (2, 1, false) := by kernel_rfl
theorem tfield_178_3 : tfield Tryd.prog 178 3 = some (3, 1, false) := by kernel_rfl
theorem tsh_179 : tsh Tryd.prog 179 = some (.array 0 16 1) := by kernel_rfl
theorem tsize_179 : tsize Tryd.prog 179 = some 0 := by kernel_rfl
theorem tagg_179 : tagg Tryd.prog 179 = some true := by kernel_rfl
theorem tzero_179 : tzero Tryd.prog 179 = some [] := by kernel_rfl
theorem srcOk_179 : srcOk Tryd.prog 179 = true := by kernel_rfl
theorem tsh_180 : tsh Tryd.prog 180 = some .struct := by kernel_rfl
theorem tsize_180 : tsize Tryd.prog 180 = some 0 := by kernel_rfl
theorem tagg_180 : tagg Tryd.prog 180 = some true := by kernel_rfl
theorem tzero_180 : tzero Tryd.prog 180 = some [] := by kernel_rfl
theorem tplaces_180 : tplaces Tryd.prog 180 = some [(0, 0)] := by kernel_rfl
theorem srcOk_180 : srcOk Tryd.prog 180 = true := by kernel_rfl
theorem eqg_180 : Tryd.prog.eqGuardType Tryd.prog.depth 180 = false := by kernel_rfl
theorem tfield_180_0 : tfield Tryd.prog 180 0 = some (0, 0, true) := by kernel_rfl
theorem tsh_181 : tsh Tryd.prog 181 = some .struct := by kernel_rfl
theorem tsize_181 : tsize Tryd.prog 181 = some 0 := by kernel_rfl
theorem tagg_181 : tagg Tryd.prog 181 = some true := by kernel_rfl
theorem tzero_181 : tzero Tryd.prog 181 = some [] := by kernel_rfl
theorem tplaces_181 : tplaces Tryd.prog 181 = some [(0, 0)] := by kernel_rfl
theorem srcOk_181 : srcOk Tryd.prog 181 = true := by kernel_rfl
theorem eqg_181 : Tryd.prog.eqGuardType Tryd.prog.depth 181 = false := by kernel_rfl
theorem tfield_181_0 : tfield Tryd.prog 181 0 = some (0, 0, true) := by kernel_rfl
theorem tsh_182 : tsh Tryd.prog 182 = some (.int .u8) := by kernel_rfl
theorem tsize_182 : tsize Tryd.prog 182 = some 1 := by kernel_rfl
theorem tagg_182 : tagg Tryd.prog 182 = some false := by kernel_rfl
theorem tzero_182 : tzero Tryd.prog 182 = some [.int .u8 0] := by kernel_rfl
theorem tsh_183 : tsh Tryd.prog 183 = some (.int .u8) := by kernel_rfl
theorem tsize_183 : tsize Tryd.prog 183 = some 1 := by kernel_rfl
theorem tagg_183 : tagg Tryd.prog 183 = some false := by kernel_rfl
theorem tzero_183 : tzero Tryd.prog 183 = some [.int .u8 0] := by kernel_rfl
theorem tsh_184 : tsh Tryd.prog 184 = some .func := by kernel_rfl
theorem tsize_184 : tsize Tryd.prog 184 = some 1 := by kernel_rfl
theorem tagg_184 : tagg Tryd.prog 184 = some false := by kernel_rfl
theorem tzero_184 : tzero Tryd.prog 184 = some [.nilf] := by kernel_rfl
theorem srcOk_184 : srcOk Tryd.prog 184 = true := by kernel_rfl
theorem tsh_185 : tsh Tryd.prog 185 = some (.int .i32) := by kernel_rfl
theorem tsize_185 : tsize Tryd.prog 185 = some 1 := by kernel_rfl
theorem tagg_185 : tagg Tryd.prog 185 = some false := by kernel_rfl
theorem tzero_185 : tzero Tryd.prog 185 = some [.int .i32 0] := by kernel_rfl
theorem tsh_186 : tsh Tryd.prog 186 = some (.int .i32) := by kernel_rfl
theorem tsize_186 : tsize Tryd.prog 186 = some 1 := by kernel_rfl
theorem tagg_186 : tagg Tryd.prog 186 = some false := by kernel_rfl
theorem tzero_186 : tzero Tryd.prog 186 = some [.int .i32 0] := by kernel_rfl
theorem tsh_187 : tsh Tryd.prog 187 = some .struct := by kernel_rfl
theorem tsize_187 : tsize Tryd.prog 187 = some 11 := by kernel_rfl
theorem tagg_187 : tagg Tryd.prog 187 = some true := by kernel_rfl
theorem tzero_187 : tzero Tryd.prog 187 = some [.int .u64 0, .int .u64 0, .int .u32 0, .int .u8 0, .int .u8 0, .int .u8 0, .int .u8 0, .nilf, .nilp, .int .i32 0, .int .i32 0] := by kernel_rfl
theorem tplaces_187 : tplaces Tryd.prog 187 = some [(0, 1), (1, 1), (2, 1), (3, 1), (4, 1), (5, 1), (6, 1), (7, 1), (8, 1), (9, 1), (10, 1)] := by kernel_rfl
theorem srcOk_187 : srcOk Tryd.prog 187 = true := by kernel_rfl
theorem eqg_187 : Tryd.prog.eqGuardType Tryd.prog.depth 187 = false := by kernel_rfl
theorem tfield_187_0 : tfield Tryd.prog 187 0 = some (0, 1, false) := by kernel_rfl
theorem tfield_187_1 : tfield Tryd.prog 187 1 = some (1, 1, false) := by kernel_rfl
theorem tfield_187_2 : tfield Tryd.prog 187 2 = some (2, 1, false) := by kernel_rfl
theorem tfield_187_3 : tfield Tryd.prog 187 3 = some (3, 1, false) := by kernel_rfl
theorem tfield_187_4 : tfield Tryd.prog 187 4 = some (4, 1, false) := by kernel_rfl
theorem tfield_187_5 : tfield Tryd.prog 187 5 = some (5, 1, false) := by kernel_rfl
theorem tfield_187_6 : tfield Tryd.prog 187 6 = some (6, 1, false) := by kernel_rfl
theorem tfield_187_7 : tfield Tryd.prog 187 7 = some (7, 1, false) := by kernel_rfl
theorem tfield_187_8 : tfield Tryd.prog 187 8 = some (8, 1, false) := by kernel_rfl
theorem tfield_187_9 : tfield Tryd.prog 187 9 = some (9, 1, false) := by kernel_rfl
theorem tfield_187_10 : tfield Tryd.prog 187 10 = some (10, 1, false) := by kernel_rfl
theorem tsh_188 : tsh Tryd.prog 188 = some .struct := by kernel_rfl
theorem tsize_188 : tsize Tryd.prog 188 = some 11 := by kernel_rfl
theorem tagg_188 : tagg Tryd.prog 188 = some true := by kernel_rfl
theorem tzero_188 : tzero Tryd.prog 188 = some [.int .u64 0, .int .u64 0, .int .u32 0, .int .u8 0, .int .u8 0, .int .u8 0, .int .u8 0, .nilf, .nilp, .int .i32 0, .int .i32 0] := by kernel_rfl
theorem tplaces_188 : tplaces Tryd.prog 188 = some [(0, 1), (1, 1), (2, 1), (3, 1), (4, 1), (5, 1), (6, 1), (7, 1), (8, 1), (9, 1), (10, 1)] := by kernel_rfl
theorem srcOk_188 : srcOk Tryd.prog 188 = true := by kernel_rfl
theorem eqg_188 : Tryd.prog.eqGuardType Tryd.prog.depth 188 = false := by kernel_rfl
theorem tfield_188_0 : tfield Tryd.prog 188 0 = some (0, 1, false) := by kernel_rfl
theorem tfield_188_1 : tfield Tryd.prog 188 1 = some (1, 1, false) := by kernel_rfl
theorem tfield_188_2 : tfield Tryd.prog 188 2 = some (2, 1, false) := by kernel_rfl
theorem tfield_188_3 : tfield Tryd.prog 188 3 = some (3, 1, false) := by kernel_rfl
theorem tfield_188_4 : tfield Tryd.prog 188 4 = some (4, 1, false) := by kernel_rfl
theorem tfield_188_5 : tfield Tryd.prog 188 5 = some (5, 1, false) := by kernel_rfl
theorem tfield_188_6 : tfield Tryd.prog 188 6 = some (6, 1, false) := by kernel_rfl
theorem tfield_188_7 : tfield Tryd.prog 188 7 = some (7, 1, false) := by kernel_rfl
theorem tfield_188_8 : tfield Tryd.prog 188 8 = some (8, 1, false) := by kernel_rfl
theorem tfield_188_9 : tfield Tryd.prog 188 9 = some (9, 1, false) := by kernel_rfl
theorem tfield_188_10 : tfield Tryd.prog 188 10 = some (10, 1, false) := by kernel_rfl
theorem hasBody_2 : hasBody Tryd.prog 2 = true := by kernel_rfl
theorem hasBody_3 : hasBody Tryd.prog 3 = true := by kernel_rfl
theorem hasBody_4 : hasBody Tryd.prog 4 = true := by kernel_rfl
theorem hasBody_5 : hasBody Tryd.prog 5 = true := by kernel_rfl
theorem hasBody_6 : hasBody Tryd.prog 6 = true := by kernel_rfl
theorem hasBody_7 : hasBody Tryd.prog 7 = true := by kernel_rfl
theorem hasBody_8 : hasBody Tryd.prog 8 = true := by kernel_rfl
theorem hasBody_9 : hasBody Tryd.prog 9 = true := by kernel_rfl
theorem hasBody_10 : hasBody Tryd.prog 10 = true := by kernel_rfl
theorem hasBody_11 : hasBody Tryd.prog 11 = true := by kernel_rfl
theorem hasBody_12 : hasBody Tryd.prog 12 = true := by kernel_rfl
theorem hasBody_13 : hasBody Tryd.prog 13 = true := by kernel_rfl
theorem hasBody_14 : hasBody Tryd.prog 14 = true := by kernel_rfl
theorem hasBody_15 : hasBody Tryd.prog 15 = true := by kernel_rfl
theorem hasBody_16 : hasBody Tryd.prog 16 = true := by kernel_rfl
theorem hasBody_17 : hasBody Tryd.prog 17 = true := by kernel_rfl
theorem hasBody_18 : hasBody Tryd.prog 18 = true := by kernel_rfl
theorem hasBody_19 : hasBody Tryd.prog 19 = true := by kernel_rfl
theorem hasBody_20 : hasBody Tryd.prog 20 = true := by kernel_rfl
theorem hasBody_21 : hasBody Tryd.prog 21 = true := by kernel_rfl
theorem hasBody_22 : hasBody Tryd.prog 22 = true := by kernel_rfl
theorem hasBody_23 : hasBody Tryd.prog 23 = true := by kernel_rfl
theorem hasBody_24 : hasBody Tryd.prog 24 = true := by kernel_rfl
theorem hasBody_25 : hasBody Tryd.prog 25 = true := by kernel_rfl
theorem hasBody_26 : hasBody Tryd.prog 26 = true := by kernel_rfl
theorem hasBody_27 : hasBody Tryd.prog 27 = true := by kernel_rfl
theorem hasBody_28 : hasBody Tryd.prog 28 = true := by kernel_rfl
theorem hasBody_29 : hasBody Tryd.prog 29 = true := by kernel_rfl
theorem hasBody_30 : hasBody Tryd.prog 30 = true := by kernel_rfl
theorem hasBody_31 : hasBody Tryd.prog 31 = true := by kernel_rfl
theorem hasBody_32 : hasBody Tryd.prog 32 = true := by kernel_rfl
theorem hasBody_33 : hasBody Tryd.prog 33 = true := by kernel_rfl
theorem hasBody_34 : hasBody Tryd.prog 34 = true := by kernel_rfl
theorem hasBody_35 : hasBody Tryd.prog 35 = true := by kernel_rfl
theorem hasBody_36 : hasBody Tryd.prog 36 = true := by kernel_rfl
theorem hasBody_37 : hasBody Tryd.prog 37 = true := by kernel_rfl
theorem hasBody_38 : hasBody Tryd.prog 38 = true := by kernel_rfl
theorem hasBody_39 : hasBody Tryd.prog 39 = true := by kernel_rfl
theorem hasBody_40 : hasBody Tryd.prog 40 = true := by kernel_rfl
theorem hasBody_41 : hasBody Tryd.prog 41 = true := by kernel_rfl
theorem hasBody_42 : hasBody Tryd.prog 42 = true := by kernel_rfl
theorem hasBody_43 : hasBody Tryd.prog 43 = true := by kernel_rfl
theorem hasBody_44 : hasBody Tryd.prog 44 = true := by kernel_rfl
theorem hasBody_45 : hasBody Tryd.prog 45 = true := by kernel_rfl
theorem hasBody_46 : hasBody Tryd.prog 46 = true := by kernel_rfl
theorem hasBody_47 : hasBody Tryd.prog 47 = true := by kernel_rfl
theorem hasBody_48 : hasBody Tryd.prog 48 = true := by kernel_rfl
theorem hasBody_49 : hasBody Tryd.prog 49 = true := by kernel_rfl
theorem hasBody_50 : hasBody Tryd.prog 50 = true := by kernel_rfl
theorem hasBody_51 : hasBody Tryd.prog 51 = true := by kernel_rfl
theorem hasBody_52 : hasBody Tryd.prog 52 = true := by kernel_rfl
theorem hasBody_53 : hasBody Tryd.prog 53 = true := by kernel_rfl
theorem hasBody_54 : hasBody Tryd.prog 54 = true := by kernel_rfl
theorem hasBody_55 : hasBody Tryd.prog 55 = true := by kernel_rfl
theorem hasBody_56 : hasBody Tryd.prog 56 = true := by kernel_rfl
theorem hasBody_57 : hasBody Tryd.prog 57 = true := by kernel_rfl
theorem hasBody_58 : hasBody Tryd.prog 58 = true := by kernel_rfl
theorem hasBody_59 : hasBody Tryd.prog 59 = true := by kernel_rfl
theorem hasBody_60 : hasBody Tryd.prog 60 = true := by kernel_rfl
theorem hasBody_61 : hasBody Tryd.prog 61 = true := by kernel_rfl
theorem hasBody_62 : hasBody Tryd.prog 62 = true := by kernel_rfl
theorem hasBody_63 : hasBody Tryd.prog 63 = true := by kernel_rfl
theorem hasBody_64 : hasBody Tryd.prog 64 = true := by kernel_rfl
theorem hasBody_65 : hasBody Tryd.prog 65 = true := by kernel_rfl
theorem hasBody_66 : hasBody Tryd.prog 66 = true := by kernel_rfl
theorem hasBody_67 : hasBody Tryd.prog 67 = true := by kernel_rfl
theorem hasBody_68 : hasBody Tryd.prog 68 = true := by kernel_rfl
theorem hasBody_69 : hasBody Tryd.prog 69 = true := by kernel_rfl
theorem hasBody_70 : hasBody Tryd.prog 70 = true := by kernel_rfl
theorem hasBody_71 : hasBody Tryd.prog 71 = true := by kernel_rfl
theorem hasBody_72 : hasBody Tryd.prog 72 = true := by kernel_rfl
theorem hasBody_73 : hasBody Tryd.prog 73 = true := by kernel_rfl
theorem hasBody_74 : hasBody Tryd.prog 74 = true := by kernel_rfl
theorem hasBody_75 : hasBody Tryd.prog 75 = true := by kernel_rfl
theorem hasBody_76 : hasBody Tryd.prog 76 = true := by kernel_rfl
theorem hasBody_77 : hasBody Tryd.prog 77 = true := by kernel_rfl
theorem hasBody_78 : hasBody Tryd.prog 78 = true := by kernel_rfl
theorem hasBody_79 : hasBody Tryd.prog 79 = true := by kernel_rfl
theorem hasBody_80 : hasBody Tryd.prog 80 = true := by kernel_rfl
theorem hasBody_81 : hasBody Tryd.prog 81 = true := by kernel_rfl
theorem hasBody_82 : hasBody Tryd.prog 82 = true := by kernel_rfl
theorem hasBody_83 : hasBody Tryd.prog 83 = true := by kernel_rfl
theorem hasBody_84 : hasBody Tryd.prog 84 = true := by kernel_rfl
theorem hasBody_85 : hasBody Tryd.prog 85 = true := by kernel_rfl
theorem hasBody_86 : hasBody Tryd.prog 86 = true := by kernel_rfl
theorem hasBody_87 : hasBody Tryd.prog 87 = true := by kernel_rfl
theorem hasBody_88 : hasBody Tryd.prog 88 = true := by kernel_rfl
theorem hasBody_89 : hasBody Tryd.prog 89 = true := by kernel_rfl
theorem hasBody_90 : hasBody Tryd.prog 90 = true := by kernel_rfl
theorem hasBody_91 : hasBody Tryd.prog 91 = true := by kernel_rfl
theorem hasBody_92 : hasBody Tryd.prog 92 = true := by kernel_rfl
theorem hasBody_93 : hasBody Tryd.prog 93 = true := by kernel_rfl
theorem hasBody_94 : hasBody Tryd.prog 94 = true := by kernel_rfl
theorem isNZ_95 : isNZ Tryd.prog 95 = none := by kernel_rfl
theorem isExt_95 : isExt Tryd.prog 95 = some .same := by kernel_rfl
theorem hasBody_95 : hasBody Tryd.prog 95 = false := by kernel_rfl
theorem hasBody_96 : hasBody Tryd.prog 96 = true := by kernel_rfl
theorem hasBody_97 : hasBody Tryd.prog 97 = true := by kernel_rfl
theorem hasBody_98 : hasBody Tryd.prog 98 = true := by kernel_rfl
theorem hasBody_99 : hasBody Tryd.prog 99 = true := by kernel_rfl
theorem hasBody_100 : hasBody Tryd.prog 100 = true := by kernel_rfl
theorem hasBody_101 : hasBody Tryd.prog 101 = true := by kernel_rfl
theorem hasBody_102 : hasBody Tryd.prog 102 = true := by kernel_rfl
theorem hasBody_103 : hasBody Tryd.prog 103 = true := by kernel_rfl
theorem hasBody_104 : hasBody Tryd.prog 104 = true := by kernel_rfl
theorem hasBody_105 : hasBody Tryd.prog 105 = true := by kernel_rfl
theorem hasBody_106 : hasBody Tryd.prog 106 = true := by kernel_rfl
theorem isNZ_107 : isNZ Tryd.prog 107 = some 5 := by kernel_rfl
theorem hasBody_107 : hasBody Tryd.prog 107 = false := by kernel_rfl
theorem hasBody_108 : hasBody Tryd.prog 108 = true := by kernel_rfl
theorem hasBody_109 : hasBody Tryd.prog 109 = true := by kernel_rfl
theorem hasBody_110 : hasBody Tryd.prog 110 = true := by kernel_rfl
theorem hasBody_111 : hasBody Tryd.prog 111 = true := by kernel_rfl
theorem hasBody_112 : hasBody Tryd.prog 112 = true := by kernel_rfl
theorem hasBody_113 : hasBody Tryd.prog 113 = true := by kernel_rfl
theorem hasBody_114 : hasBody Tryd.prog 114 = true := by kernel_rfl
theorem hasBody_115 : hasBody Tryd.prog 115 = true := by kernel_rfl
theorem hasBody_116 : hasBody Tryd.prog 116 = true := by kernel_rfl
theorem hasBody_117 : hasBody Tryd.prog 117 = true := by kernel_rfl
theorem hasBody_118 : hasBody Tryd.prog 118 = true := by kernel_rfl
theorem hasBody_119 : hasBody Tryd.prog 119 = true := by kernel_rfl
theorem hasBody_149 : hasBody Tryd.prog 149 = true := by kernel_rfl
theorem glob_0 : decide (0 < Tryd.prog.globals.size) = true := by kernel_rfl
theorem glob_1 : decide (1 < Tryd.prog.globals.size) = true := by kernel_rfl
theorem glob_3 : decide (3 < Tryd.prog.globals.size) = true := by kernel_rfl
theorem glob_4 : decide (4 < Tryd.prog.globals.size) = true := by kernel_rfl
theorem glob_5 : decide (5 < Tryd.prog.globals.size) = true := by kernel_rfl
theorem glob_6 : decide (6 < Tryd.prog.globals.size) = true := by kernel_rfl
section
variable {H : Hp}
theorem conv_2_67 {kd n} : evConv Tryd.prog 2 67 (.int kd n) H = some (.int .u64 (IntKind.wrap .u64 n), H) := by simp only [evConv, tsh_2, tsh_67]
theorem conv_3_5 {kd n} : evConv Tryd.prog 3 5 (.int kd n) H = some (.int .u8 (IntKind.wrap .u8 n), H) := by simp only [evConv, tsh_3, tsh_5]
theorem conv_3_32 {kd n} : evConv Tryd.prog 3 32 (.int kd n) H = some (.int .u16 (IntKind.wrap .u16 n), H) := by simp only [evConv, tsh_3, tsh_32]
theorem conv_3_34 {kd n} : evConv Tryd.prog 3 34 (.int kd n) H = some (.int .u32 (IntKind.wrap .u32 n), H) := by simp only [evConv, tsh_3, tsh_34]
theorem conv_3_67 {kd n} : evConv Tryd.prog 3 67 (.int kd n) H = some (.int .u64 (IntKind.wrap .u64 n), H) := by simp only [evConv, tsh_3, tsh_67]
theorem conv_3_72 {kd n} : evConv Tryd.prog 3 72 (.int kd n) H = some (.int .u64 (IntKind.wrap .u64 n), H) := by simp only [evConv, tsh_3, tsh_72]
theorem conv_5_3 {kd n} : evConv Tryd.prog 5 3 (.int kd n) H = some (.int .i64 (IntKind.wrap .i64 n), H) := by simp only [evConv, tsh_5, tsh_3]
theorem conv_5_34 {kd n} : evConv Tryd.prog 5 34 (.int kd n) H = some (.int .u32 (IntKind.wrap .u32 n), H) := by simp only [evConv, tsh_5, tsh_34]
theorem conv_5_67 {kd n} : evConv Tryd.prog 5 67 (.int kd n) H = some (.int .u64 (IntKind.wrap .u64 n), H) := by simp only [evConv, tsh_5, tsh_67]
theorem conv_9_31 {s} : evConv Tryd.prog 9 31 (.str s) H = some (.slice H.length 0 s.length (.op 0), H ++ [.cells (s.map fun b => .int .u8 b.toNat) 5 (.op 0 true)]) := by simp only [evConv, tsh_9, tsh_31, tsh_5]
theorem conv_31_9 {p o n c} : evConv Tryd.prog 31 9 (.slice p o n c) H = (rd H p o n).bind fun c => (evConv.bytesOf c).map fun s => (.str s, H) := by simp only [evConv, tsh_31, tsh_9, tsh_5]
theorem conv_31_9n : evConv Tryd.prog 31 9 .nils H = some (.str [], H) := by simp only [evConv, tsh_31, tsh_9, tsh_5]
theorem conv_31_33 {p o n c} : evConv Tryd.prog 31 33 (.slice p o n c) H = (rd H p o n).bind fun c => (evConv.bytesOf c).map fun s => (.str s, H) := by simp only [evConv, tsh_31, tsh_33, tsh_5]
theorem conv_31_33n : evConv Tryd.prog 31 33 .nils H = some (.str [], H) := by simp only [evConv, tsh_31, tsh_33, tsh_5]
theorem conv_32_3 {kd n} : evConv Tryd.prog 32 3 (.int kd n) H = some (.int .i64 (IntKind.wrap .i64 n), H) := by simp only [evConv, tsh_32, tsh_3]
theorem conv_32_34 {kd n} : evConv Tryd.prog 32 34 (.int kd n) H = some (.int .u32 (IntKind.wrap .u32 n), H) := by simp only [evConv, tsh_32, tsh_34]
theorem conv_33_31 {s} : evConv Tryd.prog 33 31 (.str s) H = some (.slice H.length 0 s.length (.op 0), H ++ [.cells (s.map fun b => .int .u8 b.toNat) 5 (.op 0 true)]) := by simp only [evConv, tsh_33, tsh_31, tsh_5]
theorem conv_34_5 {kd n} : evConv Tryd.prog 34 5 (.int kd n) H = some (.int .u8 (IntKind.wrap .u8 n), H) := by simp only [evConv, tsh_34, tsh_5]
theorem conv_34_32 {kd n} : evConv Tryd.prog 34 32 (.int kd n) H = some (.int .u16 (IntKind.wrap .u16 n), H) := by simp only [evConv, tsh_34, tsh_32]
theorem conv_34_67 {kd n} : evConv Tryd.prog 34 67 (.int kd n) H = some (.int .u64 (IntKind.wrap .u64 n), H) := by simp only [evConv, tsh_34, tsh_67]
theorem conv_67_3 {kd n} : evConv Tryd.prog 67 3 (.int kd n) H = some (.int .i64 (IntKind.wrap .i64 n), H) := by simp only [evConv, tsh_67, tsh_3]
theorem conv_67_5 {kd n} : evConv Tryd.prog 67 5 (.int kd n) H = some (.int .u8 (IntKind.wrap .u8 n), H) := by simp only [evConv, tsh_67, tsh_5]
theorem conv_67_32 {kd n} : evConv Tryd.prog 67 32 (.int kd n) H = some (.int .u16 (IntKind.wrap .u16 n), H) := by simp only [evConv, tsh_67, tsh_32]
theorem conv_67_34 {kd n} : evConv Tryd.prog 67 34 (.int kd n) H = some (.int .u32 (IntKind.wrap .u32 n), H) := by simp only [evConv, tsh_67, tsh_34]
theorem conv_72_34 {kd n} : evConv Tryd.prog 72 34 (.int kd n) H = some (.int .u32 (IntKind.wrap .u32 n), H) := by simp only [evConv, tsh_72, tsh_34]
-- convert 76 146: some (.ptr 78) to some .upt
-- convert 146 76: some .upt to some (.ptr 78)
end
attribute [go_sem] tsh_0 tsize_0 tagg_0 srcOk_0 tsh_1 tsize_1 tagg_1 tzero_1 srcOk_1 tsh_2 tsize_2 tagg_2 tzero_2 tsh_3 tsize_3 tagg_3 tzero_3 tsh_4 tsize_4 tagg_4 tzero_4 srcOk_4 und_4 tsh_5 tsize_5 tagg_5 tzero_5 tsh_6 tsize_6 tagg_6 tzero_6 tsh_7 tsize_7 tagg_7 tzero_7 tplaces_7 srcOk_7 eqg_7 tfield_7_0 tfield_7_1
attribute [go_sem] tfield_7_2 tfield_7_3 tsh_8 tsize_8 tagg_8 tzero_8 tplaces_8 srcOk_8 eqg_8 tfield_8_0 tfield_8_1 tfield_8_2 tfield_8_3 tsh_9 tsize_9 tagg_9 tzero_9 srcOk_9 tsh_10 tsize_10 tagg_10 tzero_10 srcOk_10 tsh_11 tsize_11 tagg_11 tzero_11 srcOk_11 tsh_12 tsize_12 tagg_12 tzero_12 tsh_13 tsize_13 tagg_13 tzero_13 tplaces_13 srcOk_13 eqg_13 tfield_13_0
attribute [go_sem] tfield_13_1 tsh_14 tsize_14 tagg_14 tzero_14 tplaces_14 srcOk_14 eqg_14 tfield_14_0 tfield_14_1 tsh_15 tsize_15 tagg_15 tzero_15 srcOk_15 tsh_16 tsize_16 tagg_16 tzero_16 srcOk_16 tsh_17 tsize_17 tagg_17 tzero_17 srcOk_17 tsh_18 tsize_18 tagg_18 tzero_18 tplaces_18 srcOk_18 eqg_18 tfield_18_0 tsh_19 tsize_19 tagg_19 tzero_19 tplaces_19 srcOk_19 eqg_19
attribute [go_sem] tfield_19_0 tsh_20 tsize_20 tagg_20 tzero_20 srcOk_20 tsh_21 tsize_21 tagg_21 tzero_21 tsh_22 tsize_22 tagg_22 tzero_22 srcOk_22 zok_22 tsh_23 tsize_23 tagg_23 tzero_23 srcOk_23 tsh_24 tsize_24 tagg_24 tzero_24 srcOk_24 tsh_25 tsize_25 tagg_25 tzero_25 srcOk_25 tsh_26 tsize_26 tagg_26 tzero_26 srcOk_26 tsh_27 tsize_27 tagg_27 tzero_27
attribute [go_sem] srcOk_27 zok_27 tsh_28 tsize_28 tagg_28 tzero_28 srcOk_28 zok_28 tsh_29 tsize_29 tagg_29 tzero_29 tplaces_29 srcOk_29 eqg_29 tfield_29_0 tfield_29_1 tsh_30 tsize_30 tagg_30 tzero_30 tplaces_30 srcOk_30 eqg_30 tfield_30_0 tfield_30_1 tsh_31 tsize_31 tagg_31 tzero_31 srcOk_31 zok_31 tsh_32 tsize_32 tagg_32 tzero_32 tsh_33 tsize_33 tagg_33 tzero_33
attribute [go_sem] srcOk_33 tsh_34 tsize_34 tagg_34 tzero_34 tsh_35 tsize_35 tagg_35 tzero_35 srcOk_35 tsh_36 tsize_36 tagg_36 tzero_36 tplaces_36 srcOk_36 eqg_36 tfield_36_0 tfield_36_1 tfield_36_2 tfield_36_3 tsh_37 tsize_37 tagg_37 tzero_37 tplaces_37 srcOk_37 eqg_37 tfield_37_0 tfield_37_1 tfield_37_2 tfield_37_3 tsh_38 tsize_38 tagg_38 tzero_38 tplaces_38 srcOk_38 eqg_38 tfield_38_0
attribute [go_sem] tfield_38_1 tfield_38_2 tsh_39 tsize_39 tagg_39 tzero_39 tplaces_39 srcOk_39 eqg_39 tfield_39_0 tfield_39_1 tfield_39_2 tsh_40 tsize_40 tagg_40 tzero_40 tsh_41 tsize_41 tagg_41 srcOk_41 tsh_42 tsize_42 tagg_42 tzero_42 srcOk_42 tsh_43 tsize_43 tagg_43 tzero_43 srcOk_43 tsh_44 tsize_44 tagg_44 tzero_44 srcOk_44 tsh_45 tsize_45 tagg_45 srcOk_45 tsh_46
attribute [go_sem] tsize_46 tagg_46 tzero_46 srcOk_46 tsh_47 tsize_47 tagg_47 tzero_47 srcOk_47 tsh_48 tsize_48 tagg_48 tzero_48 srcOk_48 tsh_49 tsize_49 tagg_49 tzero_49 srcOk_49 tsh_50 tsize_50 tagg_50 srcOk_50 tsh_51 tsize_51 tagg_51 tzero_51 srcOk_51 tsh_52 tsize_52 tagg_52 tzero_52 srcOk_52 tsh_53 tsize_53 tagg_53 srcOk_53 tsh_54 tsize_54 tagg_54
attribute [go_sem] tzero_54 srcOk_54 tsh_55 tsize_55 tagg_55 tzero_55 srcOk_55 tsh_56 tsize_56 tagg_56 tzero_56 srcOk_56 tsh_57 tsize_57 tagg_57 tzero_57 srcOk_57 tsh_58 tsize_58 tagg_58 tzero_58 tplaces_58 srcOk_58 eqg_58 tfield_58_0 tsh_59 tsize_59 tagg_59 tzero_59 tplaces_59 srcOk_59 eqg_59 tfield_59_0 tsh_60 tsize_60 tagg_60 tzero_60 srcOk_60 tsh_61 tsize_61
attribute [go_sem] tagg_61 tzero_61 srcOk_61 tsh_62 tsize_62 tagg_62 tzero_62 srcOk_62 tsh_63 tsize_63 tagg_63 tzero_63 srcOk_63 tsh_64 tsize_64 tagg_64 tzero_64 srcOk_64 zok_64 tsh_65 tsize_65 tagg_65 tzero_65 srcOk_65 tsh_66 tsize_66 tagg_66 tzero_66 srcOk_66 tsh_67 tsize_67 tagg_67 tzero_67 tsh_68 tsize_68 tagg_68 tzero_68 srcOk_68 tsh_69 tsize_69
attribute [go_sem] tagg_69 tzero_69 srcOk_69 tsh_70 tsize_70 tagg_70 tzero_70 srcOk_70 tsh_71 tsize_71 tagg_71 tzero_71 srcOk_71 tsh_72 tsize_72 tagg_72 tzero_72 tsh_73 tsize_73 tagg_73 srcOk_73 tsh_74 tsize_74 tagg_74 tzero_74 srcOk_74 tsh_75 tsize_75 tagg_75 tzero_75 srcOk_75 tsh_76 tsize_76 tagg_76 tzero_76 srcOk_76 tsh_77 tsize_77 tagg_77 tzero_77
attribute [go_sem] tplaces_77 srcOk_77 eqg_77 tfield_77_0 tfield_77_1 tsh_78 tsize_78 tagg_78 tzero_78 tplaces_78 srcOk_78 eqg_78 tfield_78_0 tfield_78_1 tsh_79 tsize_79 tagg_79 tzero_79 srcOk_79 tsh_80 tsize_80 tagg_80 tzero_80 srcOk_80 tsh_81 tsize_81 tagg_81 tzero_81 srcOk_81 tsh_82 tsize_82 tagg_82 tzero_82 srcOk_82 tsh_83 tsize_83 tagg_83 srcOk_83 tsh_84 tsize_84
attribute [go_sem] tagg_84 tzero_84 srcOk_84 tsh_85 tsize_85 tagg_85 srcOk_85 tsh_86 tsize_86 tagg_86 tzero_86 srcOk_86 tsh_87 tsize_87 tagg_87 tzero_87 srcOk_87 tsh_88 tsize_88 tagg_88 tzero_88 srcOk_88 tsh_89 tsize_89 tagg_89 tzero_89 srcOk_89 tsh_90 tsize_90 tagg_90 tzero_90 srcOk_90 tsh_91 tsize_91 tagg_91 tzero_91 srcOk_91 tsh_92 tsize_92 tagg_92
attribute [go_sem] tzero_92 srcOk_92 tsh_93 tsize_93 tagg_93 tzero_93 srcOk_93 tsh_94 tsize_94 tagg_94 tzero_94 srcOk_94 tsh_95 tsize_95 tagg_95 tzero_95 srcOk_95 tsh_96 tsize_96 tagg_96 tzero_96 tplaces_96 srcOk_96 eqg_96 tfield_96_0 tfield_96_1 tfield_96_2 tfield_96_3 tfield_96_4 tsh_97 tsize_97 tagg_97 tzero_97 tplaces_97 srcOk_97 eqg_97 tfield_97_0 tfield_97_1 tfield_97_2 tfield_97_3
attribute [go_sem] tfield_97_4 tsh_98 tsize_98 tagg_98 tzero_98 srcOk_98 tsh_99 tsize_99 tagg_99 srcOk_99 tsh_100 tsize_100 tagg_100 tzero_100 srcOk_100 tsh_101 tsize_101 tagg_101 tzero_101 tplaces_101 srcOk_101 eqg_101 tfield_101_0 tfield_101_1 tfield_101_2 tsh_102 tsize_102 tagg_102 tzero_102 srcOk_102 tsh_103 tsize_103 tagg_103 srcOk_103 tsh_104 tsize_104 tagg_104 tzero_104 srcOk_104 tsh_105
attribute [go_sem] tsize_105 tagg_105 srcOk_105 tsh_106 tsize_106 tagg_106 tzero_106 srcOk_106 tsh_107 tsize_107 tagg_107 tzero_107 srcOk_107 zok_107 tsh_108 tsize_108 tagg_108 srcOk_108 tsh_109 tsize_109 tagg_109 tzero_109 srcOk_109 tsh_110 tsize_110 tagg_110 srcOk_110 tsh_111 tsize_111 tagg_111 tzero_111 srcOk_111 tsh_112 tsize_112 tagg_112 tzero_112 srcOk_112 tsh_113 tsize_113 tagg_113
attribute [go_sem] tzero_113 srcOk_113 tsh_114 tsize_114 tagg_114 tzero_114 srcOk_114 tsh_115 tsize_115 tagg_115 srcOk_115 tsh_116 tsize_116 tagg_116 tzero_116 srcOk_116 tsh_117 tsize_117 tagg_117 tzero_117 srcOk_117 tsh_118 tsize_118 tagg_118 srcOk_118 tsh_119 tsize_119 tagg_119 tzero_119 srcOk_119 tsh_120 tsize_120 tagg_120 tzero_120 srcOk_120 tsh_121 tsize_121 tagg_121 tzero_121 srcOk_121
attribute [go_sem] tsh_122 tsize_122 tagg_122 tzero_122 srcOk_122 tsh_123 tsize_123 tagg_123 tzero_123 srcOk_123 tsh_124 tsize_124 tagg_124 srcOk_124 tsh_125 tsize_125 tagg_125 tzero_125 srcOk_125 tsh_126 tsize_126 tagg_126 tzero_126 srcOk_126 tsh_127 tsize_127 tagg_127 srcOk_127 tsh_128 tsize_128 tagg_128 tzero_128 srcOk_128 tsh_129 tsize_129 tagg_129 srcOk_129 tsh_130 tsize_130 tagg_130
attribute [go_sem] tzero_130 srcOk_130 tsh_131 tsize_131 tagg_131 tzero_131 srcOk_131 tsh_132 tsize_132 tagg_132 tzero_132 srcOk_132 tsh_133 tsize_133 tagg_133 tzero_133 srcOk_133 tsh_134 tsize_134 tagg_134 srcOk_134 tsh_135 tsize_135 tagg_135 tzero_135 srcOk_135 tsh_136 tsize_136 tagg_136 tzero_136 srcOk_136 tsh_137 tsize_137 tagg_137 tzero_137 srcOk_137 tsh_138 tsize_138 tagg_138 tzero_138
attribute [go_sem] srcOk_138 tsh_139 tsize_139 tagg_139 tzero_139 srcOk_139 tsh_140 tsize_140 tagg_140 tzero_140 srcOk_140 tsh_141 tsize_141 tagg_141 srcOk_141 tsh_142 tsize_142 tagg_142 tzero_142 srcOk_142 tsh_143 tsize_143 tagg_143 tzero_143 srcOk_143 tsh_144 tsize_144 tagg_144 srcOk_144 tsh_145 tsize_145 tagg_145 tzero_145 srcOk_145 tsh_146 tsize_146 tagg_146 tzero_146 srcOk_146 tsh_147
attribute [go_sem] tsize_147 tagg_147 tzero_147 srcOk_147 tsh_148 tsize_148 tagg_148 srcOk_148 tsh_149 tsize_149 tagg_149 tzero_149 srcOk_149 tsh_150 tsize_150 tagg_150 tzero_150 srcOk_150 tsh_151 tsize_151 tagg_151 tzero_151 srcOk_151 tsh_152 tsize_152 tagg_152 srcOk_152 tsh_153 tsize_153 tagg_153 tzero_153 srcOk_153 tsh_154 tsize_154 tagg_154 tzero_154 srcOk_154 tsh_155 tsize_155 tagg_155
attribute [go_sem] tzero_155 srcOk_155 tsh_156 tsize_156 tagg_156 tzero_156 srcOk_156 tsh_157 tsize_157 tagg_157 tzero_157 srcOk_157 tsh_158 tsize_158 tagg_158 tzero_158 srcOk_158 tsh_159 tsize_159 tagg_159 tzero_159 srcOk_159 tsh_160 tsize_160 tagg_160 tzero_160 srcOk_160 tsh_161 tsize_161 tagg_161 srcOk_161 tsh_162 tsize_162 tagg_162 tzero_162 srcOk_162 tsh_163 tsize_163 tagg_163 tzero_163
attribute [go_sem] tsh_164 tsize_164 tagg_164 tzero_164 srcOk_164 tsh_165 tsize_165 tagg_165 tzero_165 srcOk_165 tsh_166 tsize_166 tagg_166 tzero_166 srcOk_166 tsh_167 tsize_167 tagg_167 tzero_167 srcOk_167 tsh_168 tsize_168 tagg_168 tzero_168 srcOk_168 tsh_169 tsize_169 tagg_169 tzero_169 tplaces_169 srcOk_169 tfield_169_0 tfield_169_1 tfield_169_2 tsh_170 tsize_170 tagg_170 tzero_170 tplaces_170 srcOk_170
attribute [go_sem] tfield_170_0 tfield_170_1 tfield_170_2 tsh_171 tsize_171 tagg_171 tzero_171 srcOk_171 tsh_172 tsize_172 tagg_172 tzero_172 srcOk_172 tsh_173 tsize_173 tagg_173 tzero_173 srcOk_173 tsh_174 tsize_174 tagg_174 tzero_174 srcOk_174 tsh_175 tsize_175 tagg_175 tzero_175 tplaces_175 srcOk_175 eqg_175 tfield_175_0 tsh_176 tsize_176 tagg_176 tzero_176 tplaces_176 srcOk_176 eqg_176 tfield_176_0 tsh_177
attribute [go_sem] tsize_177 tagg_177 tzero_177 tplaces_177 srcOk_177 eqg_177 tfield_177_0 tfield_177_1 tfield_177_2 tfield_177_3 tsh_178 tsize_178 tagg_178 tzero_178 tplaces_178 srcOk_178 eqg_178 tfield_178_0 tfield_178_1 tfield_178_2 tfield_178_3 tsh_179 tsize_179 tagg_179 tzero_179 srcOk_179 tsh_180 tsize_180 tagg_180 tzero_180 tplaces_180 srcOk_180 eqg_180 tfield_180_0 tsh_181 tsize_181 tagg_181 tzero_181 tplaces_181 srcOk_181
attribute [go_sem] eqg_181 tfield_181_0 tsh_182 tsize_182 tagg_182 tzero_182 tsh_183 tsize_183 tagg_183 tzero_183 tsh_184 tsize_184 tagg_184 tzero_184 srcOk_184 tsh_185 tsize_185 tagg_185 tzero_185 tsh_186 tsize_186 tagg_186 tzero_186 tsh_187 tsize_187 tagg_187 tzero_187 tplaces_187 srcOk_187 eqg_187 tfield_187_0 tfield_187_1 tfield_187_2 tfield_187_3 tfield_187_4 tfield_187_5 tfield_187_6 tfield_187_7 tfield_187_8 tfield_187_9
attribute [go_sem] tfield_187_10 tsh_188 tsize_188 tagg_188 tzero_188 tplaces_188 srcOk_188 eqg_188 tfield_188_0 tfield_188_1 tfield_188_2 tfield_188_3 tfield_188_4 tfield_188_5 tfield_188_6 tfield_188_7 tfield_188_8 tfield_188_9 tfield_188_10 hasBody_2 hasBody_3 hasBody_4 hasBody_5 hasBody_6 hasBody_7 hasBody_8 hasBody_9 hasBody_10 hasBody_11 hasBody_12 hasBody_13 hasBody_14 hasBody_15 hasBody_16 hasBody_17 hasBody_18 hasBody_19 hasBody_20 hasBody_21 hasBody_22
attribute [go_sem] hasBody_23 hasBody_24 hasBody_25 hasBody_26 hasBody_27 hasBody_28 hasBody_29 hasBody_30 hasBody_31 hasBody_32 hasBody_33 hasBody_34 hasBody_35 hasBody_36 hasBody_37 hasBody_38 hasBody_39 hasBody_40 hasBody_41 hasBody_42 hasBody_43 hasBody_44 hasBody_45 hasBody_46 hasBody_47 hasBody_48 hasBody_49 hasBody_50 hasBody_51 hasBody_52 hasBody_53 hasBody_54 hasBody_55 hasBody_56 hasBody_57 hasBody_58 hasBody_59 hasBody_60 hasBody_61 hasBody_62
attribute [go_sem] hasBody_63 hasBody_64 hasBody_65 hasBody_66 hasBody_67 hasBody_68 hasBody_69 hasBody_70 hasBody_71 hasBody_72 hasBody_73 hasBody_74 hasBody_75 hasBody_76 hasBody_77 hasBody_78 hasBody_79 hasBody_80 hasBody_81 hasBody_82 hasBody_83 hasBody_84 hasBody_85 hasBody_86 hasBody_87 hasBody_88 hasBody_89 hasBody_90 hasBody_91 hasBody_92 hasBody_93 hasBody_94 isNZ_95 isExt_95 hasBody_95 hasBody_96 hasBody_97 hasBody_98 hasBody_99 hasBody_100
attribute [go_sem] hasBody_101 hasBody_102 hasBody_103 hasBody_104 hasBody_105 hasBody_106 isNZ_107 hasBody_107 hasBody_108 hasBody_109 hasBody_110 hasBody_111 hasBody_112 hasBody_113 hasBody_114 hasBody_115 hasBody_116 hasBody_117 hasBody_118 hasBody_119 hasBody_149 glob_0 glob_1 glob_3 glob_4 glob_5 glob_6 conv_2_67 conv_3_5 conv_3_32 conv_3_34 conv_3_67 conv_3_72 conv_5_3 conv_5_34 conv_5_67 conv_9_31 conv_31_9 conv_31_9n conv_31_33
attribute [go_sem] conv_31_33n conv_32_3 conv_32_34 conv_33_31 conv_34_5 conv_34_32 conv_34_67 conv_67_3 conv_67_5 conv_67_32 conv_67_34 conv_72_34
end Go.Proofs.YtgkpgpdkolpfkaaDoor.V
