/- What the loaded program's types are, as rewriting rules for a run of 'V'. No conditions. -/
import Derived.Test.YtjemmehgfheflaaDoorVSim
import Derived.Test.YtjemmehgfheflaaDoorProg
namespace Go.Proofs.YtjemmehgfheflaaDoor.V
open Go
set_option linter.unusedSimpArgs false
set_option linter.unusedVariables false
theorem tFollows : Tryd.prog.follows .mixedOrders = true := by kernel_rfl
attribute [go_sem] tFollows
theorem tsh_0 : tsh Tryd.prog 0 = some .other := by kernel_rfl
theorem tsize_0 : tsize Tryd.prog 0 = some 1 := by kernel_rfl
theorem tagg_0 : tagg Tryd.prog 0 = some false := by kernel_rfl
theorem srcOk_0 : srcOk Tryd.prog 0 = true := by kernel_rfl
theorem tsh_1 : tsh Tryd.prog 1 = some .func := by kernel_rfl
theorem tsize_1 : tsize Tryd.prog 1 = some 1 := by kernel_rfl
theorem tagg_1 : tagg Tryd.prog 1 = some false := by kernel_rfl
theorem tzero_1 : tzero Tryd.prog 1 = some [.nilf] := by kernel_rfl
theorem srcOk_1 : srcOk Tryd.prog 1 = true := by kernel_rfl
theorem tsh_2 : tsh Tryd.prog 2 = some (.int .i64) := by kernel_rfl
theorem tsize_2 : tsize Tryd.prog 2 = some 1 := by kernel_rfl
theorem tagg_2 : tagg Tryd.prog 2 = some false := by kernel_rfl
theorem tzero_2 : tzero Tryd.prog 2 = some [.int .i64 0] := by kernel_rfl
theorem tsh_3 : tsh Tryd.prog 3 = some (.int .i64) := by kernel_rfl
theorem tsize_3 : tsize Tryd.prog 3 = some 1 := by kernel_rfl
theorem tagg_3 : tagg Tryd.prog 3 = some false := by kernel_rfl
theorem tzero_3 : tzero Tryd.prog 3 = some [.int .i64 0] := by kernel_rfl
theorem tsh_4 : tsh Tryd.prog 4 = some .bool := by kernel_rfl
theorem tsize_4 : tsize Tryd.prog 4 = some 1 := by kernel_rfl
theorem tagg_4 : tagg Tryd.prog 4 = some false := by kernel_rfl
theorem tzero_4 : tzero Tryd.prog 4 = some [.bool false] := by kernel_rfl
theorem srcOk_4 : srcOk Tryd.prog 4 = true := by kernel_rfl
theorem und_4 : Tryd.prog.underlying 4 = some .bool := by kernel_rfl
theorem tsh_5 : tsh Tryd.prog 5 = some (.int .u8) := by kernel_rfl
theorem tsize_5 : tsize Tryd.prog 5 = some 1 := by kernel_rfl
theorem tagg_5 : tagg Tryd.prog 5 = some false := by kernel_rfl
theorem tzero_5 : tzero Tryd.prog 5 = some [.int .u8 0] := by kernel_rfl
theorem tsh_6 : tsh Tryd.prog 6 = some (.int .u8) := by kernel_rfl
theorem tsize_6 : tsize Tryd.prog 6 = some 1 := by kernel_rfl
theorem tagg_6 : tagg Tryd.prog 6 = some false := by kernel_rfl
theorem tzero_6 : tzero Tryd.prog 6 = some [.int .u8 0] := by kernel_rfl
theorem tsh_7 : tsh Tryd.prog 7 = some .struct := by kernel_rfl
theorem tsize_7 : tsize Tryd.prog 7 = some 4 := by kernel_rfl
theorem tagg_7 : tagg Tryd.prog 7 = some true := by kernel_rfl
theorem tzero_7 : tzero Tryd.prog 7 = some [.int .i64 0, .int .i64 0, .bool false, .int .u8 0] := by kernel_rfl
theorem tplaces_7 : tplaces Tryd.prog 7 = some [(0, 1), (1, 1), (2, 1), (3, 1)] := by kernel_rfl
theorem srcOk_7 : srcOk Tryd.prog 7 = true := by kernel_rfl
theorem eqg_7 : Tryd.prog.eqGuardType Tryd.prog.depth 7 = false := by kernel_rfl
theorem tfield_7_0 : tfield Tryd.prog 7 0 = some (0, 1, false) := by kernel_rfl
theorem tfield_7_1 : tfield Tryd.prog 7 1 = some (1, 1, false) := by kernel_rfl
theorem tfield_7_2 : tfield Tryd.prog 7 2 = some (2, 1, false) := by kernel_rfl
theorem tfield_7_3 : tfield Tryd.prog 7 3 = some (3, 1, false) := by kernel_rfl
theorem tsh_8 : tsh Tryd.prog 8 = some .struct := by kernel_rfl
theorem tsize_8 : tsize Tryd.prog 8 = some 4 := by kernel_rfl
theorem tagg_8 : tagg Tryd.prog 8 = some true := by kernel_rfl
theorem tzero_8 : tzero Tryd.prog 8 = some [.int .i64 0, .int .i64 0, .bool false, .int .u8 0] := by kernel_rfl
theorem tplaces_8 : tplaces Tryd.prog 8 = some [(0, 1), (1, 1), (2, 1), (3, 1)] := by kernel_rfl
theorem srcOk_8 : srcOk Tryd.prog 8 = true := by kernel_rfl
theorem eqg_8 : Tryd.prog.eqGuardType Tryd.prog.depth 8 = false := by kernel_rfl
theorem tfield_8_0 : tfield Tryd.prog 8 0 = some (0, 1, false) := by kernel_rfl
theorem tfield_8_1 : tfield Tryd.prog 8 1 = some (1, 1, false) := by kernel_rfl
theorem tfield_8_2 : tfield Tryd.prog 8 2 = some (2, 1, false) := by kernel_rfl
theorem tfield_8_3 : tfield Tryd.prog 8 3 = some (3, 1, false) := by kernel_rfl
theorem tsh_9 : tsh Tryd.prog 9 = some .str := by kernel_rfl
theorem tsize_9 : tsize Tryd.prog 9 = some 1 := by kernel_rfl
theorem tagg_9 : tagg Tryd.prog 9 = some false := by kernel_rfl
theorem tzero_9 : tzero Tryd.prog 9 = some [.str []] := by kernel_rfl
theorem srcOk_9 : srcOk Tryd.prog 9 = true := by kernel_rfl
theorem tsh_10 : tsh Tryd.prog 10 = some .str := by kernel_rfl
theorem tsize_10 : tsize Tryd.prog 10 = some 1 := by kernel_rfl
theorem tagg_10 : tagg Tryd.prog 10 = some false := by kernel_rfl
theorem tzero_10 : tzero Tryd.prog 10 = some [.str []] := by kernel_rfl
theorem srcOk_10 : srcOk Tryd.prog 10 = true := by kernel_rfl
theorem tsh_11 : tsh Tryd.prog 11 = some .str := by kernel_rfl
theorem tsize_11 : tsize Tryd.prog 11 = some 1 := by kernel_rfl
theorem tagg_11 : tagg Tryd.prog 11 = some false := by kernel_rfl
theorem tzero_11 : tzero Tryd.prog 11 = some [.str []] := by kernel_rfl
theorem srcOk_11 : srcOk Tryd.prog 11 = true := by kernel_rfl
theorem tsh_12 : tsh Tryd.prog 12 = some (.int .u64) := by kernel_rfl
theorem tsize_12 : tsize Tryd.prog 12 = some 1 := by kernel_rfl
theorem tagg_12 : tagg Tryd.prog 12 = some false := by kernel_rfl
theorem tzero_12 : tzero Tryd.prog 12 = some [.int .u64 0] := by kernel_rfl
theorem tsh_13 : tsh Tryd.prog 13 = some .struct := by kernel_rfl
theorem tsize_13 : tsize Tryd.prog 13 = some 2 := by kernel_rfl
theorem tagg_13 : tagg Tryd.prog 13 = some true := by kernel_rfl
theorem tzero_13 : tzero Tryd.prog 13 = some [.str [], .int .u64 0] := by kernel_rfl
theorem tplaces_13 : tplaces Tryd.prog 13 = some [(0, 1), (1, 1)] := by kernel_rfl
theorem srcOk_13 : srcOk Tryd.prog 13 = true := by kernel_rfl
theorem eqg_13 : Tryd.prog.eqGuardType Tryd.prog.depth 13 = false := by kernel_rfl
theorem tfield_13_0 : tfield Tryd.prog 13 0 = some (0, 1, false) := by kernel_rfl
theorem tfield_13_1 : tfield Tryd.prog 13 1 = some (1, 1, false) := by kernel_rfl
theorem tsh_14 : tsh Tryd.prog 14 = some .struct := by kernel_rfl
theorem tsize_14 : tsize Tryd.prog 14 = some 2 := by kernel_rfl
theorem tagg_14 : tagg Tryd.prog 14 = some true := by kernel_rfl
theorem tzero_14 : tzero Tryd.prog 14 = some [.str [], .int .u64 0] := by kernel_rfl
theorem tplaces_14 : tplaces Tryd.prog 14 = some [(0, 1), (1, 1)] := by kernel_rfl
theorem srcOk_14 : srcOk Tryd.prog 14 = true := by kernel_rfl
theorem eqg_14 : Tryd.prog.eqGuardType Tryd.prog.depth 14 = false := by kernel_rfl
theorem tfield_14_0 : tfield Tryd.prog 14 0 = some (0, 1, false) := by kernel_rfl
theorem tfield_14_1 : tfield Tryd.prog 14 1 = some (1, 1, false) := by kernel_rfl
theorem tsh_15 : tsh Tryd.prog 15 = some (.ptr 111) := by kernel_rfl
theorem tsize_15 : tsize Tryd.prog 15 = some 1 := by kernel_rfl
theorem tagg_15 : tagg Tryd.prog 15 = some false := by kernel_rfl
theorem tzero_15 : tzero Tryd.prog 15 = some [.nilp] := by kernel_rfl
theorem srcOk_15 : srcOk Tryd.prog 15 = true := by kernel_rfl
theorem tsh_16 : tsh Tryd.prog 16 = some (.ptr 114) := by kernel_rfl
theorem tsize_16 : tsize Tryd.prog 16 = some 1 := by kernel_rfl
theorem tagg_16 : tagg Tryd.prog 16 = some false := by kernel_rfl
theorem tzero_16 : tzero Tryd.prog 16 = some [.nilp] := by kernel_rfl
theorem srcOk_16 : srcOk Tryd.prog 16 = true := by kernel_rfl
theorem tsh_17 : tsh Tryd.prog 17 = some (.ptr 122) := by kernel_rfl
theorem tsize_17 : tsize Tryd.prog 17 = some 1 := by kernel_rfl
theorem tagg_17 : tagg Tryd.prog 17 = some false := by kernel_rfl
theorem tzero_17 : tzero Tryd.prog 17 = some [.nilp] := by kernel_rfl
theorem srcOk_17 : srcOk Tryd.prog 17 = true := by kernel_rfl
theorem tsh_18 : tsh Tryd.prog 18 = some .struct := by kernel_rfl
theorem tsize_18 : tsize Tryd.prog 18 = some 1 := by kernel_rfl
theorem tagg_18 : tagg Tryd.prog 18 = some true := by kernel_rfl
theorem tzero_18 : tzero Tryd.prog 18 = some [.nilp] := by kernel_rfl
theorem tplaces_18 : tplaces Tryd.prog 18 = some [(0, 1)] := by kernel_rfl
theorem srcOk_18 : srcOk Tryd.prog 18 = true := by kernel_rfl
theorem eqg_18 : Tryd.prog.eqGuardType Tryd.prog.depth 18 = false := by kernel_rfl
theorem tfield_18_0 : tfield Tryd.prog 18 0 = some (0, 1, false) := by kernel_rfl
theorem tsh_19 : tsh Tryd.prog 19 = some .struct := by kernel_rfl
theorem tsize_19 : tsize Tryd.prog 19 = some 1 := by kernel_rfl
theorem tagg_19 : tagg Tryd.prog 19 = some true := by kernel_rfl
theorem tzero_19 : tzero Tryd.prog 19 = some [.nilp] := by kernel_rfl
theorem tplaces_19 : tplaces Tryd.prog 19 = some [(0, 1)] := by kernel_rfl
theorem srcOk_19 : srcOk Tryd.prog 19 = true := by kernel_rfl
theorem eqg_19 : Tryd.prog.eqGuardType Tryd.prog.depth 19 = false := by kernel_rfl
theorem tfield_19_0 : tfield Tryd.prog 19 0 = some (0, 1, false) := by kernel_rfl
theorem tsh_20 : tsh Tryd.prog 20 = some .iface := by kernel_rfl
theorem tsize_20 : tsize Tryd.prog 20 = some 1 := by kernel_rfl
theorem tagg_20 : tagg Tryd.prog 20 = some false := by kernel_rfl
theorem tzero_20 : tzero Tryd.prog 20 = some [.nili] := by kernel_rfl
theorem srcOk_20 : srcOk Tryd.prog 20 = true := by kernel_rfl
theorem tsh_21 : tsh Tryd.prog 21 = some (.int .i32) := by kernel_rfl
theorem tsize_21 : tsize Tryd.prog 21 = some 1 := by kernel_rfl
theorem tagg_21 : tagg Tryd.prog 21 = some false := by kernel_rfl
theorem tzero_21 : tzero Tryd.prog 21 = some [.int .i32 0] := by kernel_rfl
theorem tsh_22 : tsh Tryd.prog 22 = some (.slice 41 6 40) := by kernel_rfl
theorem tsize_22 : tsize Tryd.prog 22 = some 1 := by kernel_rfl
theorem tagg_22 : tagg Tryd.prog 22 = some false := by kernel_rfl
theorem tzero_22 : tzero Tryd.prog 22 = some [.nils] := by kernel_rfl
theorem srcOk_22 : srcOk Tryd.prog 22 = true := by kernel_rfl
theorem zok_22 : zok Tryd.prog 41 6 = true := by kernel_rfl
theorem tsh_23 : tsh Tryd.prog 23 = some .struct := by kernel_rfl
theorem tsize_23 : tsize Tryd.prog 23 = some 4 := by kernel_rfl
theorem tagg_23 : tagg Tryd.prog 23 = some true := by kernel_rfl
theorem tzero_23 : tzero Tryd.prog 23 = some [.str [], .str [], .str [], .nils] := by kernel_rfl
theorem tplaces_23 : tplaces Tryd.prog 23 = some [(0, 1), (1, 1), (2, 1), (3, 1)] := by kernel_rfl
theorem srcOk_23 : srcOk Tryd.prog 23 = true := by kernel_rfl
theorem eqg_23 : Tryd.prog.eqGuardType Tryd.prog.depth 23 = false := by kernel_rfl
theorem tfield_23_0 : tfield Tryd.prog 23 0 = some (0, 1, false) := by kernel_rfl
theorem tfield_23_1 : tfield Tryd.prog 23 1 = some (1, 1, false) := by kernel_rfl
theorem tfield_23_2 : tfield Tryd.prog 23 2 = some (2, 1, false) := by kernel_rfl
theorem tfield_23_3 : tfield Tryd.prog 23 3 = some (3, 1, false) := by kernel_rfl
theorem tsh_24 : tsh Tryd.prog 24 = some .struct := by kernel_rfl
theorem tsize_24 : tsize Tryd.prog 24 = some 4 := by kernel_rfl
theorem tagg_24 : tagg Tryd.prog 24 = some true := by kernel_rfl
theorem tzero_24 : tzero Tryd.prog 24 = some [.str [], .str [], .str [], .nils] := by kernel_rfl
theorem tplaces_24 : tplaces Tryd.prog 24 = some [(0, 1), (1, 1), (2, 1), (3, 1)] := by kernel_rfl
theorem srcOk_24 : srcOk Tryd.prog 24 = true := by kernel_rfl
theorem eqg_24 : Tryd.prog.eqGuardType Tryd.prog.depth 24 = false := by kernel_rfl
theorem tfield_24_0 : tfield Tryd.prog 24 0 = some (0, 1, false) := by kernel_rfl
theorem tfield_24_1 : tfield Tryd.prog 24 1 = some (1, 1, false) := by kernel_rfl
theorem tfield_24_2 : tfield Tryd.prog 24 2 = some (2, 1, false) := by kernel_rfl
theorem tfield_24_3 : tfield Tryd.prog 24 3 = some (3, 1, false) := by kernel_rfl
theorem tsh_25 : tsh Tryd.prog 25 = some .func := by kernel_rfl
theorem tsize_25 : tsize Tryd.prog 25 = some 1 := by kernel_rfl
theorem tagg_25 : tagg Tryd.prog 25 = some false := by kernel_rfl
theorem tzero_25 : tzero Tryd.prog 25 = some [.nilf] := by kernel_rfl
theorem srcOk_25 : srcOk Tryd.prog 25 = true := by kernel_rfl
theorem tsh_26 : tsh Tryd.prog 26 = some .func := by kernel_rfl
theorem tsize_26 : tsize Tryd.prog 26 = some 1 := by kernel_rfl
theorem tagg_26 : tagg Tryd.prog 26 = some false := by kernel_rfl
theorem tzero_26 : tzero Tryd.prog 26 = some [.nilf] := by kernel_rfl
theorem srcOk_26 : srcOk Tryd.prog 26 = true := by kernel_rfl
theorem tsh_27 : tsh Tryd.prog 27 = some (.int .i64) := by kernel_rfl
theorem tsize_27 : tsize Tryd.prog 27 = some 1 := by kernel_rfl
theorem tagg_27 : tagg Tryd.prog 27 = some false := by kernel_rfl
theorem tzero_27 : tzero Tryd.prog 27 = some [.int .i64 0] := by kernel_rfl
theorem tsh_28 : tsh Tryd.prog 28 = some .other := by kernel_rfl
theorem tsize_28 : tsize Tryd.prog 28 = some 1 := by kernel_rfl
theorem tagg_28 : tagg Tryd.prog 28 = some false := by kernel_rfl
theorem srcOk_28 : srcOk Tryd.prog 28 = true := by kernel_rfl
theorem tsh_29 : tsh Tryd.prog 29 = some .func := by kernel_rfl
theorem tsize_29 : tsize Tryd.prog 29 = some 1 := by kernel_rfl
theorem tagg_29 : tagg Tryd.prog 29 = some false := by kernel_rfl
theorem tzero_29 : tzero Tryd.prog 29 = some [.nilf] := by kernel_rfl
theorem srcOk_29 : srcOk Tryd.prog 29 = true := by kernel_rfl
theorem tsh_30 : tsh Tryd.prog 30 = some .func := by kernel_rfl
theorem tsize_30 : tsize Tryd.prog 30 = some 1 := by kernel_rfl
theorem tagg_30 : tagg Tryd.prog 30 = some false := by kernel_rfl
theorem tzero_30 : tzero Tryd.prog 30 = some [.nilf] := by kernel_rfl
theorem srcOk_30 : srcOk Tryd.prog 30 = true := by kernel_rfl
theorem tsh_31 : tsh Tryd.prog 31 = some .func := by kernel_rfl
theorem tsize_31 : tsize Tryd.prog 31 = some 1 := by kernel_rfl
theorem tagg_31 : tagg Tryd.prog 31 = some false := by kernel_rfl
theorem tzero_31 : tzero Tryd.prog 31 = some [.nilf] := by kernel_rfl
theorem srcOk_31 : srcOk Tryd.prog 31 = true := by kernel_rfl
theorem tsh_32 : tsh Tryd.prog 32 = some .other := by kernel_rfl
theorem tsize_32 : tsize Tryd.prog 32 = some 1 := by kernel_rfl
theorem tagg_32 : tagg Tryd.prog 32 = some false := by kernel_rfl
theorem srcOk_32 : srcOk Tryd.prog 32 = true := by kernel_rfl
theorem tsh_33 : tsh Tryd.prog 33 = some .func := by kernel_rfl
theorem tsize_33 : tsize Tryd.prog 33 = some 1 := by kernel_rfl
theorem tagg_33 : tagg Tryd.prog 33 = some false := by kernel_rfl
theorem tzero_33 : tzero Tryd.prog 33 = some [.nilf] := by kernel_rfl
theorem srcOk_33 : srcOk Tryd.prog 33 = true := by kernel_rfl
theorem tsh_34 : tsh Tryd.prog 34 = some .func := by kernel_rfl
theorem tsize_34 : tsize Tryd.prog 34 = some 1 := by kernel_rfl
theorem tagg_34 : tagg Tryd.prog 34 = some false := by kernel_rfl
theorem tzero_34 : tzero Tryd.prog 34 = some [.nilf] := by kernel_rfl
theorem srcOk_34 : srcOk Tryd.prog 34 = true := by kernel_rfl
theorem tsh_35 : tsh Tryd.prog 35 = some .func := by kernel_rfl
theorem tsize_35 : tsize Tryd.prog 35 = some 1 := by kernel_rfl
theorem tagg_35 : tagg Tryd.prog 35 = some false := by kernel_rfl
theorem tzero_35 : tzero Tryd.prog 35 = some [.nilf] := by kernel_rfl
theorem srcOk_35 : srcOk Tryd.prog 35 = true := by kernel_rfl
theorem tsh_36 : tsh Tryd.prog 36 = some .func := by kernel_rfl
theorem tsize_36 : tsize Tryd.prog 36 = some 1 := by kernel_rfl
theorem tagg_36 : tagg Tryd.prog 36 = some false := by kernel_rfl
theorem tzero_36 : tzero Tryd.prog 36 = some [.nilf] := by kernel_rfl
theorem srcOk_36 : srcOk Tryd.prog 36 = true := by kernel_rfl
theorem tsh_37 : tsh Tryd.prog 37 = some (.slice 9 1 16) := by kernel_rfl
theorem tsize_37 : tsize Tryd.prog 37 = some 1 := by kernel_rfl
theorem tagg_37 : tagg Tryd.prog 37 = some false := by kernel_rfl
theorem tzero_37 : tzero Tryd.prog 37 = some [.nils] := by kernel_rfl
theorem srcOk_37 : srcOk Tryd.prog 37 = true := by kernel_rfl
theorem zok_37 : zok Tryd.prog 9 1 = true := by kernel_rfl
theorem tsh_38 : tsh Tryd.prog 38 = some .func := by kernel_rfl
theorem tsize_38 : tsize Tryd.prog 38 = some 1 := by kernel_rfl
theorem tagg_38 : tagg Tryd.prog 38 = some false := by kernel_rfl
theorem tzero_38 : tzero Tryd.prog 38 = some [.nilf] := by kernel_rfl
theorem srcOk_38 : srcOk Tryd.prog 38 = true := by kernel_rfl
theorem tsh_39 : tsh Tryd.prog 39 = some (.int .u16) := by kernel_rfl
theorem tsize_39 : tsize Tryd.prog 39 = some 1 := by kernel_rfl
theorem tagg_39 : tagg Tryd.prog 39 = some false := by kernel_rfl
theorem tzero_39 : tzero Tryd.prog 39 = some [.int .u16 0] := by kernel_rfl
theorem tsh_40 : tsh Tryd.prog 40 = some .struct := by kernel_rfl
theorem tsize_40 : tsize Tryd.prog 40 = some 6 := by kernel_rfl
theorem tagg_40 : tagg Tryd.prog 40 = some true := by kernel_rfl
theorem tzero_40 : tzero Tryd.prog 40 = some [.str [], .bool false, .int .u16 0, .int .u16 0, .int .u16 0, .str []] := by kernel_rfl
theorem tplaces_40 : tplaces Tryd.prog 40 = some [(0, 1), (1, 1), (2, 1), (3, 1), (4, 1), (5, 1)] := by kernel_rfl
theorem srcOk_40 : srcOk Tryd.prog 40 = true := by kernel_rfl
theorem eqg_40 : Tryd.prog.eqGuardType Tryd.prog.depth 40 = false := by kernel_rfl
theorem tfield_40_0 : tfield Tryd.prog 40 0 = some (0, 1, false) := by kernel_rfl
theorem tfield_40_1 : tfield Tryd.prog 40 1 = some (1, 1, false) := by kernel_rfl
theorem tfield_40_2 : tfield Tryd.prog 40 2 = some (2, 1, false) := by kernel_rfl
theorem tfield_40_3 : tfield Tryd.prog 40 3 = some (3, 1, false) := by kernel_rfl
theorem tfield_40_4 : tfield Tryd.prog 40 4 = some (4, 1, false) := by kernel_rfl
theorem tfield_40_5 : tfield Tryd.prog 40 5 = some (5, 1, false) := by kernel_rfl
theorem tsh_41 : tsh Tryd.prog 41 = some .struct := by kernel_rfl
theorem tsize_41 : tsize Tryd.prog 41 = some 6 := by kernel_rfl
theorem tagg_41 : tagg Tryd.prog 41 = some true := by kernel_rfl
theorem tzero_41 : tzero Tryd.prog 41 = some [.str [], .bool false, .int .u16 0, .int .u16 0, .int .u16 0, .str []] := by kernel_rfl
theorem tplaces_41 : tplaces Tryd.prog 41 = some [(0, 1), (1, 1), (2, 1), (3, 1), (4, 1), (5, 1)] := by kernel_rfl
theorem srcOk_41 : srcOk Tryd.prog 41 = true := by kernel_rfl
theorem eqg_41 : Tryd.prog.eqGuardType Tryd.prog.depth 41 = false := by kernel_rfl
theorem tfield_41_0 : tfield Tryd.prog 41 0 = some (0, 1, false) := by kernel_rfl
theorem tfield_41_1 : tfield Tryd.prog 41 1 = some (1, 1, false) := by kernel_rfl
theorem tfield_41_2 : tfield Tryd.prog 41 2 = some (2, 1, false) := by kernel_rfl
theorem tfield_41_3 : tfield Tryd.prog 41 3 = some (3, 1, false) := by kernel_rfl
theorem tfield_41_4 : tfield Tryd.prog 41 4 = some (4, 1, false) := by kernel_rfl
theorem tfield_41_5 : tfield Tryd.prog 41 5 = some (5, 1, false) := by kernel_rfl
theorem tsh_42 : tsh Tryd.prog 42 = some .func := by kernel_rfl
theorem tsize_42 : tsize Tryd.prog 42 = some 1 := by kernel_rfl
theorem tagg_42 : tagg Tryd.prog 42 = some false := by kernel_rfl
theorem tzero_42 : tzero Tryd.prog 42 = some [.nilf] := by kernel_rfl
theorem srcOk_42 : srcOk Tryd.prog 42 = true := by kernel_rfl
theorem tsh_43 : tsh Tryd.prog 43 = some .other := by kernel_rfl
theorem tsize_43 : tsize Tryd.prog 43 = some 1 := by kernel_rfl
theorem tagg_43 : tagg Tryd.prog 43 = some false := by kernel_rfl
theorem srcOk_43 : srcOk Tryd.prog 43 = true := by kernel_rfl
theorem tsh_44 : tsh Tryd.prog 44 = some .func := by kernel_rfl
theorem tsize_44 : tsize Tryd.prog 44 = some 1 := by kernel_rfl
theorem tagg_44 : tagg Tryd.prog 44 = some false := by kernel_rfl
theorem tzero_44 : tzero Tryd.prog 44 = some [.nilf] := by kernel_rfl
theorem srcOk_44 : srcOk Tryd.prog 44 = true := by kernel_rfl
theorem tsh_45 : tsh Tryd.prog 45 = some .func := by kernel_rfl
theorem tsize_45 : tsize Tryd.prog 45 = some 1 := by kernel_rfl
theorem tagg_45 : tagg Tryd.prog 45 = some false := by kernel_rfl
theorem tzero_45 : tzero Tryd.prog 45 = some [.nilf] := by kernel_rfl
theorem srcOk_45 : srcOk Tryd.prog 45 = true := by kernel_rfl
theorem tsh_46 : tsh Tryd.prog 46 = some (.ptr 9) := by kernel_rfl
theorem tsize_46 : tsize Tryd.prog 46 = some 1 := by kernel_rfl
theorem tagg_46 : tagg Tryd.prog 46 = some false := by kernel_rfl
theorem tzero_46 : tzero Tryd.prog 46 = some [.nilp] := by kernel_rfl
theorem srcOk_46 : srcOk Tryd.prog 46 = true := by kernel_rfl
theorem tsh_47 : tsh Tryd.prog 47 = some .struct := by kernel_rfl
theorem tsize_47 : tsize Tryd.prog 47 = some 3 := by kernel_rfl
theorem tagg_47 : tagg Tryd.prog 47 = some true := by kernel_rfl
theorem tzero_47 : tzero Tryd.prog 47 = some [.str [], .int .i64 0, .nilp] := by kernel_rfl
theorem tplaces_47 : tplaces Tryd.prog 47 = some [(0, 1), (1, 1), (2, 1)] := by kernel_rfl
theorem srcOk_47 : srcOk Tryd.prog 47 = true := by kernel_rfl
theorem eqg_47 : Tryd.prog.eqGuardType Tryd.prog.depth 47 = false := by kernel_rfl
theorem tfield_47_0 : tfield Tryd.prog 47 0 = some (0, 1, false) := by kernel_rfl
theorem tfield_47_1 : tfield Tryd.prog 47 1 = some (1, 1, false) := by kernel_rfl
theorem tfield_47_2 : tfield Tryd.prog 47 2 = some (2, 1, false) := by kernel_rfl
theorem tsh_48 : tsh Tryd.prog 48 = some (.slice 47 3 32) := by kernel_rfl
theorem tsize_48 : tsize Tryd.prog 48 = some 1 := by kernel_rfl
theorem tagg_48 : tagg Tryd.prog 48 = some false := by kernel_rfl
theorem tzero_48 : tzero Tryd.prog 48 = some [.nils] := by kernel_rfl
theorem srcOk_48 : srcOk Tryd.prog 48 = true := by kernel_rfl
theorem zok_48 : zok Tryd.prog 47 3 = true := by kernel_rfl
theorem tsh_49 : tsh Tryd.prog 49 = some .func := by kernel_rfl
theorem tsize_49 : tsize Tryd.prog 49 = some 1 := by kernel_rfl
theorem tagg_49 : tagg Tryd.prog 49 = some false := by kernel_rfl
theorem tzero_49 : tzero Tryd.prog 49 = some [.nilf] := by kernel_rfl
theorem srcOk_49 : srcOk Tryd.prog 49 = true := by kernel_rfl
theorem tsh_50 : tsh Tryd.prog 50 = some .other := by kernel_rfl
theorem tsize_50 : tsize Tryd.prog 50 = some 1 := by kernel_rfl
theorem tagg_50 : tagg Tryd.prog 50 = some false := by kernel_rfl
theorem srcOk_50 : srcOk Tryd.prog 50 = true := by kernel_rfl
theorem tsh_51 : tsh Tryd.prog 51 = some .func := by kernel_rfl
theorem tsize_51 : tsize Tryd.prog 51 = some 1 := by kernel_rfl
theorem tagg_51 : tagg Tryd.prog 51 = some false := by kernel_rfl
theorem tzero_51 : tzero Tryd.prog 51 = some [.nilf] := by kernel_rfl
theorem srcOk_51 : srcOk Tryd.prog 51 = true := by kernel_rfl
theorem tsh_52 : tsh Tryd.prog 52 = some .other := by kernel_rfl
theorem tsize_52 : tsize Tryd.prog 52 = some 1 := by kernel_rfl
theorem tagg_52 : tagg Tryd.prog 52 = some false := by kernel_rfl
theorem srcOk_52 : srcOk Tryd.prog 52 = true := by kernel_rfl
theorem tsh_53 : tsh Tryd.prog 53 = some .func := by kernel_rfl
theorem tsize_53 : tsize Tryd.prog 53 = some 1 := by kernel_rfl
theorem tagg_53 : tagg Tryd.prog 53 = some false := by kernel_rfl
theorem tzero_53 : tzero Tryd.prog 53 = some [.nilf] := by kernel_rfl
theorem srcOk_53 : srcOk Tryd.prog 53 = true := by kernel_rfl
theorem tsh_54 : tsh Tryd.prog 54 = some .func := by kernel_rfl
theorem tsize_54 : tsize Tryd.prog 54 = some 1 := by kernel_rfl
theorem tagg_54 : tagg Tryd.prog 54 = some false := by kernel_rfl
theorem tzero_54 : tzero Tryd.prog 54 = some [.nilf] := by kernel_rfl
theorem srcOk_54 : srcOk Tryd.prog 54 = true := by kernel_rfl
theorem tsh_55 : tsh Tryd.prog 55 = some .func := by kernel_rfl
theorem tsize_55 : tsize Tryd.prog 55 = some 1 := by kernel_rfl
theorem tagg_55 : tagg Tryd.prog 55 = some false := by kernel_rfl
theorem tzero_55 : tzero Tryd.prog 55 = some [.nilf] := by kernel_rfl
theorem srcOk_55 : srcOk Tryd.prog 55 = true := by kernel_rfl
theorem tsh_56 : tsh Tryd.prog 56 = some .func := by kernel_rfl
theorem tsize_56 : tsize Tryd.prog 56 = some 1 := by kernel_rfl
theorem tagg_56 : tagg Tryd.prog 56 = some false := by kernel_rfl
theorem tzero_56 : tzero Tryd.prog 56 = some [.nilf] := by kernel_rfl
theorem srcOk_56 : srcOk Tryd.prog 56 = true := by kernel_rfl
theorem tsh_57 : tsh Tryd.prog 57 = some .func := by kernel_rfl
theorem tsize_57 : tsize Tryd.prog 57 = some 1 := by kernel_rfl
theorem tagg_57 : tagg Tryd.prog 57 = some false := by kernel_rfl
theorem tzero_57 : tzero Tryd.prog 57 = some [.nilf] := by kernel_rfl
theorem srcOk_57 : srcOk Tryd.prog 57 = true := by kernel_rfl
theorem tsh_58 : tsh Tryd.prog 58 = some (.ptr 61) := by kernel_rfl
theorem tsize_58 : tsize Tryd.prog 58 = some 1 := by kernel_rfl
theorem tagg_58 : tagg Tryd.prog 58 = some false := by kernel_rfl
theorem tzero_58 : tzero Tryd.prog 58 = some [.nilp] := by kernel_rfl
theorem srcOk_58 : srcOk Tryd.prog 58 = true := by kernel_rfl
theorem tsh_59 : tsh Tryd.prog 59 = some (.slice 5 1 1) := by kernel_rfl
theorem tsize_59 : tsize Tryd.prog 59 = some 1 := by kernel_rfl
theorem tagg_59 : tagg Tryd.prog 59 = some false := by kernel_rfl
theorem tzero_59 : tzero Tryd.prog 59 = some [.nils] := by kernel_rfl
theorem srcOk_59 : srcOk Tryd.prog 59 = true := by kernel_rfl
theorem zok_59 : zok Tryd.prog 5 1 = true := by kernel_rfl
theorem tsh_60 : tsh Tryd.prog 60 = some .struct := by kernel_rfl
theorem tsize_60 : tsize Tryd.prog 60 = some 2 := by kernel_rfl
theorem tagg_60 : tagg Tryd.prog 60 = some true := by kernel_rfl
theorem tzero_60 : tzero Tryd.prog 60 = some [.nilp, .nils] := by kernel_rfl
theorem tplaces_60 : tplaces Tryd.prog 60 = some [(0, 1), (1, 1)] := by kernel_rfl
theorem srcOk_60 : srcOk Tryd.prog 60 = true := by kernel_rfl
theorem eqg_60 : Tryd.prog.eqGuardType Tryd.prog.depth 60 = false := by kernel_rfl
theorem tfield_60_0 : tfield Tryd.prog 60 0 = some (0, 1, false) := by kernel_rfl
theorem tfield_60_1 : tfield Tryd.prog 60 1 = some (1, 1, false) := by kernel_rfl
theorem tsh_61 : tsh Tryd.prog 61 = some .struct := by kernel_rfl
theorem tsize_61 : tsize Tryd.prog 61 = some 2 := by kernel_rfl
theorem tagg_61 : tagg Tryd.prog 61 = some true := by kernel_rfl
theorem tzero_61 : tzero Tryd.prog 61 = some [.nilp, .nils] := by kernel_rfl
theorem tplaces_61 : tplaces Tryd.prog 61 = some [(0, 1), (1, 1)] := by kernel_rfl
theorem srcOk_61 : srcOk Tryd.prog 61 = true := by kernel_rfl
theorem eqg_61 : Tryd.prog.eqGuardType Tryd.prog.depth 61 = false := by kernel_rfl
theorem tfield_61_0 : tfield Tryd.prog 61 0 = some (0, 1, false) := by kernel_rfl
theorem tfield_61_1 : tfield Tryd.prog 61 1 = some (1, 1, false) := by kernel_rfl
theorem tsh_62 : tsh Tryd.prog 62 = some .func := by kernel_rfl
theorem tsize_62 : tsize Tryd.prog 62 = some 1 := by kernel_rfl
theorem tagg_62 : tagg Tryd.prog 62 = some false := by kernel_rfl
theorem tzero_62 : tzero Tryd.prog 62 = some [.nilf] := by kernel_rfl
theorem srcOk_62 : srcOk Tryd.prog 62 = true := by kernel_rfl
theorem tsh_63 : tsh Tryd.prog 63 = some .iface := by kernel_rfl
theorem tsize_63 : tsize Tryd.prog 63 = some 1 := by kernel_rfl
theorem tagg_63 : tagg Tryd.prog 63 = some false := by kernel_rfl
theorem tzero_63 : tzero Tryd.prog 63 = some [.nili] := by kernel_rfl
theorem srcOk_63 : srcOk Tryd.prog 63 = true := by kernel_rfl
theorem tsh_64 : tsh Tryd.prog 64 = some .iface := by kernel_rfl
theorem tsize_64 : tsize Tryd.prog 64 = some 1 := by kernel_rfl
theorem tagg_64 : tagg Tryd.prog 64 = some false := by kernel_rfl
theorem tzero_64 : tzero Tryd.prog 64 = some [.nili] := by kernel_rfl
theorem srcOk_64 : srcOk Tryd.prog 64 = true := by kernel_rfl
theorem tsh_65 : tsh Tryd.prog 65 = some .other := by kernel_rfl
theorem tsize_65 : tsize Tryd.prog 65 = some 1 := by kernel_rfl
theorem tagg_65 : tagg Tryd.prog 65 = some false := by kernel_rfl
theorem srcOk_65 : srcOk Tryd.prog 65 = true := by kernel_rfl
theorem tsh_66 : tsh Tryd.prog 66 = some .func := by kernel_rfl
theorem tsize_66 : tsize Tryd.prog 66 = some 1 := by kernel_rfl
theorem tagg_66 : tagg Tryd.prog 66 = some false := by kernel_rfl
theorem tzero_66 : tzero Tryd.prog 66 = some [.nilf] := by kernel_rfl
theorem srcOk_66 : srcOk Tryd.prog 66 = true := by kernel_rfl
theorem tsh_67 : tsh Tryd.prog 67 = some (.int .u64) := by kernel_rfl
theorem tsize_67 : tsize Tryd.prog 67 = some 1 := by kernel_rfl
theorem tagg_67 : tagg Tryd.prog 67 = some false := by kernel_rfl
theorem tzero_67 : tzero Tryd.prog 67 = some [.int .u64 0] := by kernel_rfl
theorem tsh_68 : tsh Tryd.prog 68 = some .func := by kernel_rfl
theorem tsize_68 : tsize Tryd.prog 68 = some 1 := by kernel_rfl
theorem tagg_68 : tagg Tryd.prog 68 = some false := by kernel_rfl
theorem tzero_68 : tzero Tryd.prog 68 = some [.nilf] := by kernel_rfl
theorem srcOk_68 : srcOk Tryd.prog 68 = true := by kernel_rfl
theorem tsh_69 : tsh Tryd.prog 69 = some (.slice 39 1 2) := by kernel_rfl
theorem tsize_69 : tsize Tryd.prog 69 = some 1 := by kernel_rfl
theorem tagg_69 : tagg Tryd.prog 69 = some false := by kernel_rfl
theorem tzero_69 : tzero Tryd.prog 69 = some [.nils] := by kernel_rfl
theorem srcOk_69 : srcOk Tryd.prog 69 = true := by kernel_rfl
theorem zok_69 : zok Tryd.prog 39 1 = true := by kernel_rfl
theorem tsh_70 : tsh Tryd.prog 70 = some .func := by kernel_rfl
theorem tsize_70 : tsize Tryd.prog 70 = some 1 := by kernel_rfl
theorem tagg_70 : tagg Tryd.prog 70 = some false := by kernel_rfl
theorem tzero_70 : tzero Tryd.prog 70 = some [.nilf] := by kernel_rfl
theorem srcOk_70 : srcOk Tryd.prog 70 = true := by kernel_rfl
theorem tsh_71 : tsh Tryd.prog 71 = some .func := by kernel_rfl
theorem tsize_71 : tsize Tryd.prog 71 = some 1 := by kernel_rfl
theorem tagg_71 : tagg Tryd.prog 71 = some false := by kernel_rfl
theorem tzero_71 : tzero Tryd.prog 71 = some [.nilf] := by kernel_rfl
theorem srcOk_71 : srcOk Tryd.prog 71 = true := by kernel_rfl
theorem tsh_72 : tsh Tryd.prog 72 = some .func := by kernel_rfl
theorem tsize_72 : tsize Tryd.prog 72 = some 1 := by kernel_rfl
theorem tagg_72 : tagg Tryd.prog 72 = some false := by kernel_rfl
theorem tzero_72 : tzero Tryd.prog 72 = some [.nilf] := by kernel_rfl
theorem srcOk_72 : srcOk Tryd.prog 72 = true := by kernel_rfl
theorem tsh_73 : tsh Tryd.prog 73 = some .func := by kernel_rfl
theorem tsize_73 : tsize Tryd.prog 73 = some 1 := by kernel_rfl
theorem tagg_73 : tagg Tryd.prog 73 = some false := by kernel_rfl
theorem tzero_73 : tzero Tryd.prog 73 = some [.nilf] := by kernel_rfl
theorem srcOk_73 : srcOk Tryd.prog 73 = true := by kernel_rfl
theorem tsh_74 : tsh Tryd.prog 74 = some .func := by kernel_rfl
theorem tsize_74 : tsize Tryd.prog 74 = some 1 := by kernel_rfl
theorem tagg_74 : tagg Tryd.prog 74 = some false := by kernel_rfl
theorem tzero_74 : tzero Tryd.prog 74 = some [.nilf] := by kernel_rfl
theorem srcOk_74 : srcOk Tryd.prog 74 = true := by kernel_rfl
theorem tsh_75 : tsh Tryd.prog 75 = some .other := by kernel_rfl
theorem tsize_75 : tsize Tryd.prog 75 = some 1 := by kernel_rfl
theorem tagg_75 : tagg Tryd.prog 75 = some false := by kernel_rfl
theorem srcOk_75 : srcOk Tryd.prog 75 = true := by kernel_rfl
theorem tsh_76 : tsh Tryd.prog 76 = some .func := by kernel_rfl
theorem tsize_76 : tsize Tryd.prog 76 = some 1 := by kernel_rfl
theorem tagg_76 : tagg Tryd.prog 76 = some false := by kernel_rfl
theorem tzero_76 : tzero Tryd.prog 76 = some [.nilf] := by kernel_rfl
theorem srcOk_76 : srcOk Tryd.prog 76 = true := by kernel_rfl
theorem tsh_77 : tsh Tryd.prog 77 = some .func := by kernel_rfl
theorem tsize_77 : tsize Tryd.prog 77 = some 1 := by kernel_rfl
theorem tagg_77 : tagg Tryd.prog 77 = some false := by kernel_rfl
theorem tzero_77 : tzero Tryd.prog 77 = some [.nilf] := by kernel_rfl
theorem srcOk_77 : srcOk Tryd.prog 77 = true := by kernel_rfl
theorem tsh_78 : tsh Tryd.prog 78 = some (.ptr 5) := by kernel_rfl
theorem tsize_78 : tsize Tryd.prog 78 = some 1 := by kernel_rfl
theorem tagg_78 : tagg Tryd.prog 78 = some false := by kernel_rfl
theorem tzero_78 : tzero Tryd.prog 78 = some [.nilp] := by kernel_rfl
theorem srcOk_78 : srcOk Tryd.prog 78 = true := by kernel_rfl
theorem tsh_79 : tsh Tryd.prog 79 = some .func := by kernel_rfl
theorem tsize_79 : tsize Tryd.prog 79 = some 1 := by kernel_rfl
theorem tagg_79 : tagg Tryd.prog 79 = some false := by kernel_rfl
theorem tzero_79 : tzero Tryd.prog 79 = some [.nilf] := by kernel_rfl
theorem srcOk_79 : srcOk Tryd.prog 79 = true := by kernel_rfl
theorem tsh_80 : tsh Tryd.prog 80 = some .func := by kernel_rfl
theorem tsize_80 : tsize Tryd.prog 80 = some 1 := by kernel_rfl
theorem tagg_80 : tagg Tryd.prog 80 = some false := by kernel_rfl
theorem tzero_80 : tzero Tryd.prog 80 = some [.nilf] := by kernel_rfl
theorem srcOk_80 : srcOk Tryd.prog 80 = true := by kernel_rfl
theorem tsh_81 : tsh Tryd.prog 81 = some .upt := by kernel_rfl
theorem tsize_81 : tsize Tryd.prog 81 = some 1 := by kernel_rfl
theorem tagg_81 : tagg Tryd.prog 81 = some false := by kernel_rfl
theorem tzero_81 : tzero Tryd.prog 81 = some [.nilp] := by kernel_rfl
theorem srcOk_81 : srcOk Tryd.prog 81 = true := by kernel_rfl
theorem tsh_82 : tsh Tryd.prog 82 = some .func := by kernel_rfl
theorem tsize_82 : tsize Tryd.prog 82 = some 1 := by kernel_rfl
theorem tagg_82 : tagg Tryd.prog 82 = some false := by kernel_rfl
theorem tzero_82 : tzero Tryd.prog 82 = some [.nilf] := by kernel_rfl
theorem srcOk_82 : srcOk Tryd.prog 82 = true := by kernel_rfl
theorem tsh_83 : tsh Tryd.prog 83 = some .func := by kernel_rfl
theorem tsize_83 : tsize Tryd.prog 83 = some 1 := by kernel_rfl
theorem tagg_83 : tagg Tryd.prog 83 = some false := by kernel_rfl
theorem tzero_83 : tzero Tryd.prog 83 = some [.nilf] := by kernel_rfl
theorem srcOk_83 : srcOk Tryd.prog 83 = true := by kernel_rfl
theorem tsh_84 : tsh Tryd.prog 84 = some .func := by kernel_rfl
theorem tsize_84 : tsize Tryd.prog 84 = some 1 := by kernel_rfl
theorem tagg_84 : tagg Tryd.prog 84 = some false := by kernel_rfl
theorem tzero_84 : tzero Tryd.prog 84 = some [.nilf] := by kernel_rfl
theorem srcOk_84 : srcOk Tryd.prog 84 = true := by kernel_rfl
theorem tsh_85 : tsh Tryd.prog 85 = some .func := by kernel_rfl
theorem tsize_85 : tsize Tryd.prog 85 = some 1 := by kernel_rfl
theorem tagg_85 : tagg Tryd.prog 85 = some false := by kernel_rfl
theorem tzero_85 : tzero Tryd.prog 85 = some [.nilf] := by kernel_rfl
theorem srcOk_85 : srcOk Tryd.prog 85 = true := by kernel_rfl
theorem tsh_86 : tsh Tryd.prog 86 = some (.array 24 5 1) := by kernel_rfl
theorem tsize_86 : tsize Tryd.prog 86 = some 24 := by kernel_rfl
theorem tagg_86 : tagg Tryd.prog 86 = some true := by kernel_rfl
theorem tzero_86 : tzero Tryd.prog 86 = some [.int .u8 0, .int .u8 0, .int .u8 0, .int .u8 0, .int .u8 0, .int .u8 0, .int .u8 0, .int .u8 0, .int .u8 0, .int .u8 0, .int .u8 0, .int .u8 0, .int .u8 0, .int .u8 0, .int .u8 0, .int .u8 0, .int .u8 0, .int .u8 0, .int .u8 0, .int .u8 0, .int .u8 0, .int .u8 0, .int .u8 0, .int .u8 0] := by kernel_rfl
theorem srcOk_86 : srcOk Tryd.prog 86 = true := by kernel_rfl
theorem tsh_87 : tsh Tryd.prog 87 = some (.int .u64) := by kernel_rfl
theorem tsize_87 : tsize Tryd.prog 87 = some 1 := by kernel_rfl
theorem tagg_87 : tagg Tryd.prog 87 = some false := by kernel_rfl
theorem tzero_87 : tzero Tryd.prog 87 = some [.int .u64 0] := by kernel_rfl
theorem tsh_88 : tsh Tryd.prog 88 = some .func := by kernel_rfl
theorem tsize_88 : tsize Tryd.prog 88 = some 1 := by kernel_rfl
theorem tagg_88 : tagg Tryd.prog 88 = some false := by kernel_rfl
theorem tzero_88 : tzero Tryd.prog 88 = some [.nilf] := by kernel_rfl
theorem srcOk_88 : srcOk Tryd.prog 88 = true := by kernel_rfl
theorem tsh_89 : tsh Tryd.prog 89 = some .func := by kernel_rfl
theorem tsize_89 : tsize Tryd.prog 89 = some 1 := by kernel_rfl
theorem tagg_89 : tagg Tryd.prog 89 = some false := by kernel_rfl
theorem tzero_89 : tzero Tryd.prog 89 = some [.nilf] := by kernel_rfl
theorem srcOk_89 : srcOk Tryd.prog 89 = true := by kernel_rfl
theorem tsh_90 : tsh Tryd.prog 90 = some .other := by kernel_rfl
theorem tsize_90 : tsize Tryd.prog 90 = some 1 := by kernel_rfl
theorem tagg_90 : tagg Tryd.prog 90 = some false := by kernel_rfl
theorem srcOk_90 : srcOk Tryd.prog 90 = true := by kernel_rfl
theorem tsh_91 : tsh Tryd.prog 91 = some .func := by kernel_rfl
theorem tsize_91 : tsize Tryd.prog 91 = some 1 := by kernel_rfl
theorem tagg_91 : tagg Tryd.prog 91 = some false := by kernel_rfl
theorem tzero_91 : tzero Tryd.prog 91 = some [.nilf] := by kernel_rfl
theorem srcOk_91 : srcOk Tryd.prog 91 = true := by kernel_rfl
theorem tsh_92 : tsh Tryd.prog 92 = some (.int .u32) := by kernel_rfl
theorem tsize_92 : tsize Tryd.prog 92 = some 1 := by kernel_rfl
theorem tagg_92 : tagg Tryd.prog 92 = some false := by kernel_rfl
theorem tzero_92 : tzero Tryd.prog 92 = some [.int .u32 0] := by kernel_rfl
theorem tsh_93 : tsh Tryd.prog 93 = some .other := by kernel_rfl
theorem tsize_93 : tsize Tryd.prog 93 = some 1 := by kernel_rfl
theorem tagg_93 : tagg Tryd.prog 93 = some false := by kernel_rfl
theorem srcOk_93 : srcOk Tryd.prog 93 = true := by kernel_rfl
theorem tsh_94 : tsh Tryd.prog 94 = some .func := by kernel_rfl
theorem tsize_94 : tsize Tryd.prog 94 = some 1 := by kernel_rfl
theorem tagg_94 : tagg Tryd.prog 94 = some false := by kernel_rfl
theorem tzero_94 : tzero Tryd.prog 94 = some [.nilf] := by kernel_rfl
theorem srcOk_94 : srcOk Tryd.prog 94 = true := by kernel_rfl
theorem tsh_95 : tsh Tryd.prog 95 = some .func := by kernel_rfl
theorem tsize_95 : tsize Tryd.prog 95 = some 1 := by kernel_rfl
theorem tagg_95 : tagg Tryd.prog 95 = some false := by kernel_rfl
theorem tzero_95 : tzero Tryd.prog 95 = some [.nilf] := by kernel_rfl
theorem srcOk_95 : srcOk Tryd.prog 95 = true := by kernel_rfl
theorem tsh_96 : tsh Tryd.prog 96 = some .other := by kernel_rfl
theorem tsize_96 : tsize Tryd.prog 96 = some 1 := by kernel_rfl
theorem tagg_96 : tagg Tryd.prog 96 = some false := by kernel_rfl
theorem srcOk_96 : srcOk Tryd.prog 96 = true := by kernel_rfl
theorem tsh_97 : tsh Tryd.prog 97 = some .func := by kernel_rfl
theorem tsize_97 : tsize Tryd.prog 97 = some 1 := by kernel_rfl
theorem tagg_97 : tagg Tryd.prog 97 = some false := by kernel_rfl
theorem tzero_97 : tzero Tryd.prog 97 = some [.nilf] := by kernel_rfl
theorem srcOk_97 : srcOk Tryd.prog 97 = true := by kernel_rfl
theorem tsh_98 : tsh Tryd.prog 98 = some .func := by kernel_rfl
theorem tsize_98 : tsize Tryd.prog 98 = some 1 := by kernel_rfl
theorem tagg_98 : tagg Tryd.prog 98 = some false := by kernel_rfl
theorem tzero_98 : tzero Tryd.prog 98 = some [.nilf] := by kernel_rfl
theorem srcOk_98 : srcOk Tryd.prog 98 = true := by kernel_rfl
theorem tsh_99 : tsh Tryd.prog 99 = some (.array 20 87 1) := by kernel_rfl
theorem tsize_99 : tsize Tryd.prog 99 = some 20 := by kernel_rfl
theorem tagg_99 : tagg Tryd.prog 99 = some true := by kernel_rfl
theorem tzero_99 : tzero Tryd.prog 99 = some [.int .u64 0, .int .u64 0, .int .u64 0, .int .u64 0, .int .u64 0, .int .u64 0, .int .u64 0, .int .u64 0, .int .u64 0, .int .u64 0, .int .u64 0, .int .u64 0, .int .u64 0, .int .u64 0, .int .u64 0, .int .u64 0, .int .u64 0, .int .u64 0, .int .u64 0, .int .u64 0] := by kernel_rfl
theorem srcOk_99 : srcOk Tryd.prog 99 = true := by kernel_rfl
theorem tsh_100 : tsh Tryd.prog 100 = some (.array 65 5 1) := by kernel_rfl
theorem tsize_100 : tsize Tryd.prog 100 = some 65 := by kernel_rfl
theorem tagg_100 : tagg Tryd.prog 100 = some true := by kernel_rfl
theorem tzero_100 : tzero Tryd.prog 100 = some [.int .u8 0, .int .u8 0, .int .u8 0, .int .u8 0, .int .u8 0, .int .u8 0, .int .u8 0, .int .u8 0, .int .u8 0, .int .u8 0, .int .u8 0, .int .u8 0, .int .u8 0, .int .u8 0, .int .u8 0, .int .u8 0, .int .u8 0, .int .u8 0, .int .u8 0, .int .u8 0, .int .u8 0, .int .u8 0, .int .u8 0, .int .u8 0, .int .u8 0, .int .u8 0, .int .u8 0, .int .u8 0, .int .u8 0, .int .u8 0, .int .u8 0, .int .u8 0, .int .u8 0, .int .u8 0, .int .u8 0, .int .u8 0, .int .u8 0, .int .u8 0, .int .u8 0, .int .u8 0, .int .u8 0, .int .u8 0, .int .u8 0, .int .u8 0, .int .u8 0, .int .u8 0, .int .u8 0, .int .u8 0, .int .u8 0, .int .u8 0, .int .u8 0, .int .u8 0, .int .u8 0, .int .u8 0, .int .u8 0, .int .u8 0, .int .u8 0, .int .u8 0, .int .u8 0, .int .u8 0, .int .u8 0, .int .u8 0, .int .u8 0, .int .u8 0, .int .u8 0] := by kernel_rfl
theorem srcOk_100 : srcOk Tryd.prog 100 = true := by kernel_rfl
theorem tsh_101 : tsh Tryd.prog 101 = some .func := by kernel_rfl
theorem tsize_101 : tsize Tryd.prog 101 = some 1 := by kernel_rfl
theorem tagg_101 : tagg Tryd.prog 101 = some false := by kernel_rfl
theorem tzero_101 : tzero Tryd.prog 101 = some [.nilf] := by kernel_rfl
theorem srcOk_101 : srcOk Tryd.prog 101 = true := by kernel_rfl
theorem tsh_102 : tsh Tryd.prog 102 = some .func := by kernel_rfl
theorem tsize_102 : tsize Tryd.prog 102 = some 1 := by kernel_rfl
theorem tagg_102 : tagg Tryd.prog 102 = some false := by kernel_rfl
theorem tzero_102 : tzero Tryd.prog 102 = some [.nilf] := by kernel_rfl
theorem srcOk_102 : srcOk Tryd.prog 102 = true := by kernel_rfl
theorem tsh_103 : tsh Tryd.prog 103 = some .func := by kernel_rfl
theorem tsize_103 : tsize Tryd.prog 103 = some 1 := by kernel_rfl
theorem tagg_103 : tagg Tryd.prog 103 = some false := by kernel_rfl
theorem tzero_103 : tzero Tryd.prog 103 = some [.nilf] := by kernel_rfl
theorem srcOk_103 : srcOk Tryd.prog 103 = true := by kernel_rfl
theorem tsh_104 : tsh Tryd.prog 104 = some (.array 256 5 1) := by kernel_rfl
theorem tsize_104 : tsize Tryd.prog 104 = some 256 := by kernel_rfl
theorem tagg_104 : tagg Tryd.prog 104 = some true := by kernel_rfl
theorem tzero_104 : tzero Tryd.prog 104 = some [.int .u8 0, .int .u8 0, .int .u8 0, .int .u8 0, .int .u8 0, .int .u8 0, .int .u8 0, .int .u8 0, .int .u8 0, .int .u8 0, .int .u8 0, .int .u8 0, .int .u8 0, .int .u8 0, .int .u8 0, .int .u8 0, .int .u8 0, .int .u8 0, .int .u8 0, .int .u8 0, .int .u8 0, .int .u8 0, .int .u8 0, .int .u8 0, .int .u8 0, .int .u8 0, .int .u8 0, .int .u8 0, .int .u8 0, .int .u8 0, .int .u8 0, .int .u8 0, .int .u8 0, .int .u8 0, .int .u8 0, .int .u8 0, .int .u8 0, .int .u8 0, .int .u8 0, .int .u8 0, .int .u8 0, .int .u8 0, .int .u8 0, .int .u8 0, .int .u8 0, .int .u8 0, .int .u8 0, .int .u8 0, .int .u8 0, .int .u8 0, .int .u8 0, .int .u8 0, .int .u8 0, .int .u8 0, .int .u8 0, .int .u8 0, .int .u8 0, .int .u8 0, .int .u8 0, .int .u8 0, .int .u8 0, .int .u8 0, .int .u8 0, .int .u8 0, .int .u8 0, .int .u8 0, .int .u8 0, .int .u8 0, .int .u8 0, .int .u8 0, .int .u8 0, .int .u8 0, .int .u8 0, .int .u8 0, .int .u8 0, .int .u8 0, .int .u8 0, .int .u8 0, .int .u8 0, .int .u8 0, .int .u8 0, .int .u8 0, .int .u8 0, .int .u8 0, .int .u8 0, .int .u8 0, .int .u8 0, .int .u8 0, .int .u8 0, .int .u8 0, .int .u8 0, .int .u8 0, .int .u8 0, .int .u8 0, .int .u8 0, .int .u8 0, .int .u8 0, .int .u8 0, .int .u8 0, .int .u8 0, .int .u8 0, .int .u8 0, .int .u8 0, .int .u8 0, .int .u8 0, .int .u8 0, .int .u8 0, .int .u8 0, .int .u8 0, .int .u8 0, .int .u8 0, .int .u8 0, .int .u8 0, .int .u8 0, .int .u8 0, .int .u8 0, .int .u8 0, .int .u8 0, .int .u8 0, .int .u8 0, .int .u8 0, .int .u8 0, .int .u8 0, .int .u8 0, .int .u8 0, .int .u8 0, .int .u8 0, .int .u8 0, .int .u8 0, .int .u8 0, .int .u8 0, .int .u8 0, .int .u8 0, .int .u8 0, .int .u8 0, .int .u8 0, .int .u8 0, .int .u8 0, .int .u8 0, .int .u8 0, .int .u8 0, .int .u8 0, .int .u8 0, .int .u8 0, .int .u8 0, .int .u8 0, .int .u8 0, .int .u8 0, .int .u8 0, .int .u8 0, .int .u8 0, .int .u8 0, .int .u8 0, .int .u8 0, .int .u8 0, .int .u8 0, .int .u8 0, .int .u8 0, .int .u8 0, .int .u8 0, .int .u8 0, .int .u8 0, .int .u8 0, .int .u8 0, .int .u8 0, .int .u8 0, .int .u8 0, .int .u8 0, .int .u8 0, .int .u8 0, .int .u8 0, .int .u8 0, .int .u8 0, .int .u8 0, .int .u8 0, .int .u8 0, .int .u8 0, .int .u8 0, .int .u8 0, .int .u8 0, .int .u8 0, .int .u8 0, .int .u8 0, .int .u8 0, .int .u8 0, .int .u8 0, .int .u8 0, .int .u8 0, .int .u8 0, .int .u8 0, .int .u8 0, .int .u8 0, .int .u8 0, .int .u8 0, .int .u8 0, .int .u8 0, .int .u8 0, .int .u8 0, .int .u8 0, .int .u8 0, .int .u8 0, .int .u8 0, .int .u8 0, .int .u8 0, .int .u8 0, .int .u8 0, .int .u8 0, .int .u8 0, .int .u8 0, .int .u8 0, .int .u8 0, .int .u8 0, .int .u8 0, .int .u8 0, .int .u8 0, .int .u8 0, .int .u8 0, .int .u8 0, .int .u8 0, .int .u8 0, .int .u8 0, .int .u8 0, .int .u8 0, .int .u8 0, .int .u8 0, .int .u8 0, .int .u8 0, .int .u8 0, .int .u8 0, .int .u8 0, .int .u8 0, .int .u8 0, .int .u8 0, .int .u8 0, .int .u8 0, .int .u8 0, .int .u8 0, .int .u8 0, .int .u8 0, .int .u8 0, .int .u8 0, .int .u8 0, .int .u8 0, .int .u8 0, .int .u8 0, .int .u8 0, .int .u8 0, .int .u8 0, .int .u8 0, .int .u8 0, .int .u8 0, .int .u8 0, .int .u8 0, .int .u8 0, .int .u8 0, .int .u8 0] := by kernel_rfl
theorem srcOk_104 : srcOk Tryd.prog 104 = true := by kernel_rfl
theorem tsh_105 : tsh Tryd.prog 105 = some .struct := by kernel_rfl
theorem tsize_105 : tsize Tryd.prog 105 = some 2 := by kernel_rfl
theorem tagg_105 : tagg Tryd.prog 105 = some true := by kernel_rfl
theorem tzero_105 : tzero Tryd.prog 105 = some [.int .u8 0, .int .u8 0] := by kernel_rfl
theorem tplaces_105 : tplaces Tryd.prog 105 = some [(0, 1), (1, 1)] := by kernel_rfl
theorem srcOk_105 : srcOk Tryd.prog 105 = true := by kernel_rfl
theorem eqg_105 : Tryd.prog.eqGuardType Tryd.prog.depth 105 = false := by kernel_rfl
theorem tfield_105_0 : tfield Tryd.prog 105 0 = some (0, 1, false) := by kernel_rfl
theorem tfield_105_1 : tfield Tryd.prog 105 1 = some (1, 1, false) := by kernel_rfl
theorem tsh_106 : tsh Tryd.prog 106 = some .struct := by kernel_rfl
theorem tsize_106 : tsize Tryd.prog 106 = some 2 := by kernel_rfl
theorem tagg_106 : tagg Tryd.prog 106 = some true := by kernel_rfl
theorem tzero_106 : tzero Tryd.prog 106 = some [.int .u8 0, .int .u8 0] := by kernel_rfl
theorem tplaces_106 : tplaces Tryd.prog 106 = some [(0, 1), (1, 1)] := by kernel_rfl
theorem srcOk_106 : srcOk Tryd.prog 106 = true := by kernel_rfl
theorem eqg_106 : Tryd.prog.eqGuardType Tryd.prog.depth 106 = false := by kernel_rfl
theorem tfield_106_0 : tfield Tryd.prog 106 0 = some (0, 1, false) := by kernel_rfl
theorem tfield_106_1 : tfield Tryd.prog 106 1 = some (1, 1, false) := by kernel_rfl
theorem tsh_107 : tsh Tryd.prog 107 = some (.array 16 106 2) := by kernel_rfl
theorem tsize_107 : tsize Tryd.prog 107 = some 32 := by kernel_rfl
theorem tagg_107 : tagg Tryd.prog 107 = some true := by kernel_rfl
theorem tzero_107 : tzero Tryd.prog 107 = some [.int .u8 0, .int .u8 0, .int .u8 0, .int .u8 0, .int .u8 0, .int .u8 0, .int .u8 0, .int .u8 0, .int .u8 0, .int .u8 0, .int .u8 0, .int .u8 0, .int .u8 0, .int .u8 0, .int .u8 0, .int .u8 0, .int .u8 0, .int .u8 0, .int .u8 0, .int .u8 0, .int .u8 0, .int .u8 0, .int .u8 0, .int .u8 0, .int .u8 0, .int .u8 0, .int .u8 0, .int .u8 0, .int .u8 0, .int .u8 0, .int .u8 0, .int .u8 0] := by kernel_rfl
theorem srcOk_107 : srcOk Tryd.prog 107 = true := by kernel_rfl
theorem tsh_108 : tsh Tryd.prog 108 = some (.array 32 5 1) := by kernel_rfl
theorem tsize_108 : tsize Tryd.prog 108 = some 32 := by kernel_rfl
theorem tagg_108 : tagg Tryd.prog 108 = some true := by kernel_rfl
theorem tzero_108 : tzero Tryd.prog 108 = some [.int .u8 0, .int .u8 0, .int .u8 0, .int .u8 0, .int .u8 0, .int .u8 0, .int .u8 0, .int .u8 0, .int .u8 0, .int .u8 0, .int .u8 0, .int .u8 0, .int .u8 0, .int .u8 0, .int .u8 0, .int .u8 0, .int .u8 0, .int .u8 0, .int .u8 0, .int .u8 0, .int .u8 0, .int .u8 0, .int .u8 0, .int .u8 0, .int .u8 0, .int .u8 0, .int .u8 0, .int .u8 0, .int .u8 0, .int .u8 0, .int .u8 0, .int .u8 0] := by kernel_rfl
theorem srcOk_108 : srcOk Tryd.prog 108 = true := by kernel_rfl
theorem tsh_109 : tsh Tryd.prog 109 = some (.array 64 5 1) := by kernel_rfl
theorem tsize_109 : tsize Tryd.prog 109 = some 64 := by kernel_rfl
theorem tagg_109 : tagg Tryd.prog 109 = some true := by kernel_rfl
theorem tzero_109 : tzero Tryd.prog 109 = some [.int .u8 0, .int .u8 0, .int .u8 0, .int .u8 0, .int .u8 0, .int .u8 0, .int .u8 0, .int .u8 0, .int .u8 0, .int .u8 0, .int .u8 0, .int .u8 0, .int .u8 0, .int .u8 0, .int .u8 0, .int .u8 0, .int .u8 0, .int .u8 0, .int .u8 0, .int .u8 0, .int .u8 0, .int .u8 0, .int .u8 0, .int .u8 0, .int .u8 0, .int .u8 0, .int .u8 0, .int .u8 0, .int .u8 0, .int .u8 0, .int .u8 0, .int .u8 0, .int .u8 0, .int .u8 0, .int .u8 0, .int .u8 0, .int .u8 0, .int .u8 0, .int .u8 0, .int .u8 0, .int .u8 0, .int .u8 0, .int .u8 0, .int .u8 0, .int .u8 0, .int .u8 0, .int .u8 0, .int .u8 0, .int .u8 0, .int .u8 0, .int .u8 0, .int .u8 0, .int .u8 0, .int .u8 0, .int .u8 0, .int .u8 0, .int .u8 0, .int .u8 0, .int .u8 0, .int .u8 0, .int .u8 0, .int .u8 0, .int .u8 0, .int .u8 0] := by kernel_rfl
theorem srcOk_109 : srcOk Tryd.prog 109 = true := by kernel_rfl
theorem hasBody_2 : hasBody Tryd.prog 2 = true := by kernel_rfl
theorem hasBody_3 : hasBody Tryd.prog 3 = true := by kernel_rfl
theorem hasBody_4 : hasBody Tryd.prog 4 = true := by kernel_rfl
theorem hasBody_5 : hasBody Tryd.prog 5 = true := by kernel_rfl
theorem hasBody_6 : hasBody Tryd.prog 6 = true := by kernel_rfl
theorem hasBody_7 : hasBody Tryd.prog 7 = true := by kernel_rfl
theorem hasBody_8 : hasBody Tryd.prog 8 = true := by kernel_rfl
theorem hasBody_9 : hasBody Tryd.prog 9 = true := by kernel_rfl
theorem hasBody_10 : hasBody Tryd.prog 10 = true := by kernel_rfl
theorem hasBody_11 : hasBody Tryd.prog 11 = true := by kernel_rfl
theorem hasBody_12 : hasBody Tryd.prog 12 = true := by kernel_rfl
theorem hasBody_13 : hasBody Tryd.prog 13 = true := by kernel_rfl
theorem hasBody_14 : hasBody Tryd.prog 14 = true := by kernel_rfl
theorem hasBody_15 : hasBody Tryd.prog 15 = true := by kernel_rfl
theorem hasBody_16 : hasBody Tryd.prog 16 = true := by kernel_rfl
theorem hasBody_17 : hasBody Tryd.prog 17 = true := by kernel_rfl
theorem hasBody_18 : hasBody Tryd.prog 18 = true := by kernel_rfl
theorem hasBody_19 : hasBody Tryd.prog 19 = true := by kernel_rfl
theorem hasBody_20 : hasBody Tryd.prog 20 = true := by kernel_rfl
theorem hasBody_21 : hasBody Tryd.prog 21 = true := by kernel_rfl
theorem hasBody_22 : hasBody Tryd.prog 22 = true := by kernel_rfl
theorem hasBody_23 : hasBody Tryd.prog 23 = true := by kernel_rfl
theorem hasBody_24 : hasBody Tryd.prog 24 = true := by kernel_rfl
theorem hasBody_25 : hasBody Tryd.prog 25 = true := by kernel_rfl
theorem hasBody_26 : hasBody Tryd.prog 26 = true := by kernel_rfl
theorem hasBody_27 : hasBody Tryd.prog 27 = true := by kernel_rfl
theorem hasBody_28 : hasBody Tryd.prog 28 = true := by kernel_rfl
theorem hasBody_29 : hasBody Tryd.prog 29 = true := by kernel_rfl
theorem hasBody_30 : hasBody Tryd.prog 30 = true := by kernel_rfl
theorem hasBody_31 : hasBody Tryd.prog 31 = true := by kernel_rfl
theorem hasBody_32 : hasBody Tryd.prog 32 = true := by kernel_rfl
theorem hasBody_33 : hasBody Tryd.prog 33 = true := by kernel_rfl
theorem hasBody_34 : hasBody Tryd.prog 34 = true := by kernel_rfl
theorem hasBody_35 : hasBody Tryd.prog 35 = true := by kernel_rfl
theorem hasBody_36 : hasBody Tryd.prog 36 = true := by kernel_rfl
theorem hasBody_37 : hasBody Tryd.prog 37 = true := by kernel_rfl
theorem hasBody_38 : hasBody Tryd.prog 38 = true := by kernel_rfl
theorem hasBody_39 : hasBody Tryd.prog 39 = true := by kernel_rfl
theorem hasBody_40 : hasBody Tryd.prog 40 = true := by kernel_rfl
theorem hasBody_41 : hasBody Tryd.prog 41 = true := by kernel_rfl
theorem hasBody_42 : hasBody Tryd.prog 42 = true := by kernel_rfl
theorem hasBody_43 : hasBody Tryd.prog 43 = true := by kernel_rfl
theorem hasBody_44 : hasBody Tryd.prog 44 = true := by kernel_rfl
theorem hasBody_45 : hasBody Tryd.prog 45 = true := by kernel_rfl
theorem hasBody_46 : hasBody Tryd.prog 46 = true := by kernel_rfl
theorem hasBody_47 : hasBody Tryd.prog 47 = true := by kernel_rfl
theorem hasBody_48 : hasBody Tryd.prog 48 = true := by kernel_rfl
theorem hasBody_49 : hasBody Tryd.prog 49 = true := by kernel_rfl
theorem hasBody_50 : hasBody Tryd.prog 50 = true := by kernel_rfl
theorem hasBody_51 : hasBody Tryd.prog 51 = true := by kernel_rfl
theorem hasBody_52 : hasBody Tryd.prog 52 = true := by kernel_rfl
theorem hasBody_53 : hasBody Tryd.prog 53 = true := by kernel_rfl
theorem hasBody_54 : hasBody Tryd.prog 54 = true := by kernel_rfl
theorem hasBody_55 : hasBody Tryd.prog 55 = true := by kernel_rfl
theorem hasBody_56 : hasBody Tryd.prog 56 = true := by kernel_rfl
theorem isExt_57 : isExt Tryd.prog 57 = some .same := by kernel_rfl
theorem hasBody_57 : hasBody Tryd.prog 57 = false := by kernel_rfl
theorem hasBody_58 : hasBody Tryd.prog 58 = true := by kernel_rfl
theorem hasBody_60 : hasBody Tryd.prog 60 = true := by kernel_rfl
theorem hasBody_61 : hasBody Tryd.prog 61 = true := by kernel_rfl
theorem isExt_62 : isExt Tryd.prog 62 = some .idxB := by kernel_rfl
theorem hasBody_62 : hasBody Tryd.prog 62 = false := by kernel_rfl
theorem hasBody_63 : hasBody Tryd.prog 63 = true := by kernel_rfl
theorem hasBody_64 : hasBody Tryd.prog 64 = true := by kernel_rfl
theorem hasBody_65 : hasBody Tryd.prog 65 = true := by kernel_rfl
theorem hasBody_66 : hasBody Tryd.prog 66 = true := by kernel_rfl
theorem hasBody_67 : hasBody Tryd.prog 67 = true := by kernel_rfl
theorem hasBody_68 : hasBody Tryd.prog 68 = true := by kernel_rfl
theorem hasBody_69 : hasBody Tryd.prog 69 = true := by kernel_rfl
theorem hasBody_70 : hasBody Tryd.prog 70 = true := by kernel_rfl
theorem hasBody_71 : hasBody Tryd.prog 71 = true := by kernel_rfl
theorem hasBody_72 : hasBody Tryd.prog 72 = true := by kernel_rfl
theorem isExt_73 : isExt Tryd.prog 73 = some .cntB := by kernel_rfl
theorem hasBody_73 : hasBody Tryd.prog 73 = false := by kernel_rfl
theorem hasBody_74 : hasBody Tryd.prog 74 = true := by kernel_rfl
theorem hasBody_75 : hasBody Tryd.prog 75 = true := by kernel_rfl
theorem hasBody_76 : hasBody Tryd.prog 76 = true := by kernel_rfl
theorem hasBody_77 : hasBody Tryd.prog 77 = true := by kernel_rfl
theorem hasBody_78 : hasBody Tryd.prog 78 = true := by kernel_rfl
theorem hasBody_79 : hasBody Tryd.prog 79 = true := by kernel_rfl
theorem hasBody_80 : hasBody Tryd.prog 80 = true := by kernel_rfl
theorem hasBody_81 : hasBody Tryd.prog 81 = true := by kernel_rfl
theorem glob_0 : decide (0 < Tryd.prog.globals.size) = true := by kernel_rfl
theorem glob_1 : decide (1 < Tryd.prog.globals.size) = true := by kernel_rfl
theorem glob_2 : decide (2 < Tryd.prog.globals.size) = true := by kernel_rfl
theorem glob_3 : decide (3 < Tryd.prog.globals.size) = true := by kernel_rfl
theorem glob_4 : decide (4 < Tryd.prog.globals.size) = true := by kernel_rfl
theorem glob_5 : decide (5 < Tryd.prog.globals.size) = true := by kernel_rfl
section
variable {H : Hp}
theorem conv_2_87 {kd n} : evConv Tryd.prog 2 87 (.int kd n) H = some (.int .u64 (IntKind.wrap .u64 n), H) := by simp only [evConv, tsh_2, tsh_87]
theorem conv_3_5 {kd n} : evConv Tryd.prog 3 5 (.int kd n) H = some (.int .u8 (IntKind.wrap .u8 n), H) := by simp only [evConv, tsh_3, tsh_5]
theorem conv_3_39 {kd n} : evConv Tryd.prog 3 39 (.int kd n) H = some (.int .u16 (IntKind.wrap .u16 n), H) := by simp only [evConv, tsh_3, tsh_39]
theorem conv_3_67 {kd n} : evConv Tryd.prog 3 67 (.int kd n) H = some (.int .u64 (IntKind.wrap .u64 n), H) := by simp only [evConv, tsh_3, tsh_67]
theorem conv_3_87 {kd n} : evConv Tryd.prog 3 87 (.int kd n) H = some (.int .u64 (IntKind.wrap .u64 n), H) := by simp only [evConv, tsh_3, tsh_87]
theorem conv_5_3 {kd n} : evConv Tryd.prog 5 3 (.int kd n) H = some (.int .i64 (IntKind.wrap .i64 n), H) := by simp only [evConv, tsh_5, tsh_3]
theorem conv_5_21 {kd n} : evConv Tryd.prog 5 21 (.int kd n) H = some (.int .i32 (IntKind.wrap .i32 n), H) := by simp only [evConv, tsh_5, tsh_21]
theorem conv_5_92 {kd n} : evConv Tryd.prog 5 92 (.int kd n) H = some (.int .u32 (IntKind.wrap .u32 n), H) := by simp only [evConv, tsh_5, tsh_92]
theorem conv_39_3 {kd n} : evConv Tryd.prog 39 3 (.int kd n) H = some (.int .i64 (IntKind.wrap .i64 n), H) := by simp only [evConv, tsh_39, tsh_3]
-- convert 58 81: some (.ptr 61) to some .upt
theorem conv_59_9 {p o n c} : evConv Tryd.prog 59 9 (.slice p o n c) H = (rd H p o n).bind fun c => (evConv.bytesOf c).map fun s => (.str s, H) := by simp only [evConv, tsh_59, tsh_9, tsh_5]
theorem conv_59_9n : evConv Tryd.prog 59 9 .nils H = some (.str [], H) := by simp only [evConv, tsh_59, tsh_9, tsh_5]
theorem conv_67_92 {kd n} : evConv Tryd.prog 67 92 (.int kd n) H = some (.int .u32 (IntKind.wrap .u32 n), H) := by simp only [evConv, tsh_67, tsh_92]
-- convert 81 58: some .upt to some (.ptr 61)
theorem conv_87_5 {kd n} : evConv Tryd.prog 87 5 (.int kd n) H = some (.int .u8 (IntKind.wrap .u8 n), H) := by simp only [evConv, tsh_87, tsh_5]
theorem conv_87_92 {kd n} : evConv Tryd.prog 87 92 (.int kd n) H = some (.int .u32 (IntKind.wrap .u32 n), H) := by simp only [evConv, tsh_87, tsh_92]
theorem conv_92_5 {kd n} : evConv Tryd.prog 92 5 (.int kd n) H = some (.int .u8 (IntKind.wrap .u8 n), H) := by simp only [evConv, tsh_92, tsh_5]
end
attribute [go_sem] tsh_0 tsize_0 tagg_0 srcOk_0 tsh_1 tsize_1 tagg_1 tzero_1 srcOk_1 tsh_2 tsize_2 tagg_2 tzero_2 tsh_3 tsize_3 tagg_3 tzero_3 tsh_4 tsize_4 tagg_4 tzero_4 srcOk_4 und_4 tsh_5 tsize_5 tagg_5 tzero_5 tsh_6 tsize_6 tagg_6 tzero_6 tsh_7 tsize_7 tagg_7 tzero_7 tplaces_7 srcOk_7 eqg_7 tfield_7_0 tfield_7_1
attribute [go_sem] tfield_7_2 tfield_7_3 tsh_8 tsize_8 tagg_8 tzero_8 tplaces_8 srcOk_8 eqg_8 tfield_8_0 tfield_8_1 tfield_8_2 tfield_8_3 tsh_9 tsize_9 tagg_9 tzero_9 srcOk_9 tsh_10 tsize_10 tagg_10 tzero_10 srcOk_10 tsh_11 tsize_11 tagg_11 tzero_11 srcOk_11 tsh_12 tsize_12 tagg_12 tzero_12 tsh_13 tsize_13 tagg_13 tzero_13 tplaces_13 srcOk_13 eqg_13 tfield_13_0
attribute [go_sem] tfield_13_1 tsh_14 tsize_14 tagg_14 tzero_14 tplaces_14 srcOk_14 eqg_14 tfield_14_0 tfield_14_1 tsh_15 tsize_15 tagg_15 tzero_15 srcOk_15 tsh_16 tsize_16 tagg_16 tzero_16 srcOk_16 tsh_17 tsize_17 tagg_17 tzero_17 srcOk_17 tsh_18 tsize_18 tagg_18 tzero_18 tplaces_18 srcOk_18 eqg_18 tfield_18_0 tsh_19 tsize_19 tagg_19 tzero_19 tplaces_19 srcOk_19 eqg_19
attribute [go_sem] tfield_19_0 tsh_20 tsize_20 tagg_20 tzero_20 srcOk_20 tsh_21 tsize_21 tagg_21 tzero_21 tsh_22 tsize_22 tagg_22 tzero_22 srcOk_22 zok_22 tsh_23 tsize_23 tagg_23 tzero_23 tplaces_23 srcOk_23 eqg_23 tfield_23_0 tfield_23_1 tfield_23_2 tfield_23_3 tsh_24 tsize_24 tagg_24 tzero_24 tplaces_24 srcOk_24 eqg_24 tfield_24_0 tfield_24_1 tfield_24_2 tfield_24_3 tsh_25 tsize_25
attribute [go_sem] tagg_25 tzero_25 srcOk_25 tsh_26 tsize_26 tagg_26 tzero_26 srcOk_26 tsh_27 tsize_27 tagg_27 tzero_27 tsh_28 tsize_28 tagg_28 srcOk_28 tsh_29 tsize_29 tagg_29 tzero_29 srcOk_29 tsh_30 tsize_30 tagg_30 tzero_30 srcOk_30 tsh_31 tsize_31 tagg_31 tzero_31 srcOk_31 tsh_32 tsize_32 tagg_32 srcOk_32 tsh_33 tsize_33 tagg_33 tzero_33 srcOk_33
attribute [go_sem] tsh_34 tsize_34 tagg_34 tzero_34 srcOk_34 tsh_35 tsize_35 tagg_35 tzero_35 srcOk_35 tsh_36 tsize_36 tagg_36 tzero_36 srcOk_36 tsh_37 tsize_37 tagg_37 tzero_37 srcOk_37 zok_37 tsh_38 tsize_38 tagg_38 tzero_38 srcOk_38 tsh_39 tsize_39 tagg_39 tzero_39 tsh_40 tsize_40 tagg_40 tzero_40 tplaces_40 srcOk_40 eqg_40 tfield_40_0 tfield_40_1 tfield_40_2
attribute [go_sem] tfield_40_3 tfield_40_4 tfield_40_5 tsh_41 tsize_41 tagg_41 tzero_41 tplaces_41 srcOk_41 eqg_41 tfield_41_0 tfield_41_1 tfield_41_2 tfield_41_3 tfield_41_4 tfield_41_5 tsh_42 tsize_42 tagg_42 tzero_42 srcOk_42 tsh_43 tsize_43 tagg_43 srcOk_43 tsh_44 tsize_44 tagg_44 tzero_44 srcOk_44 tsh_45 tsize_45 tagg_45 tzero_45 srcOk_45 tsh_46 tsize_46 tagg_46 tzero_46 srcOk_46
attribute [go_sem] tsh_47 tsize_47 tagg_47 tzero_47 tplaces_47 srcOk_47 eqg_47 tfield_47_0 tfield_47_1 tfield_47_2 tsh_48 tsize_48 tagg_48 tzero_48 srcOk_48 zok_48 tsh_49 tsize_49 tagg_49 tzero_49 srcOk_49 tsh_50 tsize_50 tagg_50 srcOk_50 tsh_51 tsize_51 tagg_51 tzero_51 srcOk_51 tsh_52 tsize_52 tagg_52 srcOk_52 tsh_53 tsize_53 tagg_53 tzero_53 srcOk_53 tsh_54
attribute [go_sem] tsize_54 tagg_54 tzero_54 srcOk_54 tsh_55 tsize_55 tagg_55 tzero_55 srcOk_55 tsh_56 tsize_56 tagg_56 tzero_56 srcOk_56 tsh_57 tsize_57 tagg_57 tzero_57 srcOk_57 tsh_58 tsize_58 tagg_58 tzero_58 srcOk_58 tsh_59 tsize_59 tagg_59 tzero_59 srcOk_59 zok_59 tsh_60 tsize_60 tagg_60 tzero_60 tplaces_60 srcOk_60 eqg_60 tfield_60_0 tfield_60_1 tsh_61
attribute [go_sem] tsize_61 tagg_61 tzero_61 tplaces_61 srcOk_61 eqg_61 tfield_61_0 tfield_61_1 tsh_62 tsize_62 tagg_62 tzero_62 srcOk_62 tsh_63 tsize_63 tagg_63 tzero_63 srcOk_63 tsh_64 tsize_64 tagg_64 tzero_64 srcOk_64 tsh_65 tsize_65 tagg_65 srcOk_65 tsh_66 tsize_66 tagg_66 tzero_66 srcOk_66 tsh_67 tsize_67 tagg_67 tzero_67 tsh_68 tsize_68 tagg_68 tzero_68
attribute [go_sem] srcOk_68 tsh_69 tsize_69 tagg_69 tzero_69 srcOk_69 zok_69 tsh_70 tsize_70 tagg_70 tzero_70 srcOk_70 tsh_71 tsize_71 tagg_71 tzero_71 srcOk_71 tsh_72 tsize_72 tagg_72 tzero_72 srcOk_72 tsh_73 tsize_73 tagg_73 tzero_73 srcOk_73 tsh_74 tsize_74 tagg_74 tzero_74 srcOk_74 tsh_75 tsize_75 tagg_75 srcOk_75 tsh_76 tsize_76 tagg_76 tzero_76
attribute [go_sem] srcOk_76 tsh_77 tsize_77 tagg_77 tzero_77 srcOk_77 tsh_78 tsize_78 tagg_78 tzero_78 srcOk_78 tsh_79 tsize_79 tagg_79 tzero_79 srcOk_79 tsh_80 tsize_80 tagg_80 tzero_80 srcOk_80 tsh_81 tsize_81 tagg_81 tzero_81 srcOk_81 tsh_82 tsize_82 tagg_82 tzero_82 srcOk_82 tsh_83 tsize_83 tagg_83 tzero_83 srcOk_83 tsh_84 tsize_84 tagg_84 tzero_84
attribute [go_sem] srcOk_84 tsh_85 tsize_85 tagg_85 tzero_85 srcOk_85 tsh_86 tsize_86 tagg_86 tzero_86 srcOk_86 tsh_87 tsize_87 tagg_87 tzero_87 tsh_88 tsize_88 tagg_88 tzero_88 srcOk_88 tsh_89 tsize_89 tagg_89 tzero_89 srcOk_89 tsh_90 tsize_90 tagg_90 srcOk_90 tsh_91 tsize_91 tagg_91 tzero_91 srcOk_91 tsh_92 tsize_92 tagg_92 tzero_92 tsh_93 tsize_93
attribute [go_sem] tagg_93 srcOk_93 tsh_94 tsize_94 tagg_94 tzero_94 srcOk_94 tsh_95 tsize_95 tagg_95 tzero_95 srcOk_95 tsh_96 tsize_96 tagg_96 srcOk_96 tsh_97 tsize_97 tagg_97 tzero_97 srcOk_97 tsh_98 tsize_98 tagg_98 tzero_98 srcOk_98 tsh_99 tsize_99 tagg_99 tzero_99 srcOk_99 tsh_100 tsize_100 tagg_100 tzero_100 srcOk_100 tsh_101 tsize_101 tagg_101 tzero_101
attribute [go_sem] srcOk_101 tsh_102 tsize_102 tagg_102 tzero_102 srcOk_102 tsh_103 tsize_103 tagg_103 tzero_103 srcOk_103 tsh_104 tsize_104 tagg_104 tzero_104 srcOk_104 tsh_105 tsize_105 tagg_105 tzero_105 tplaces_105 srcOk_105 eqg_105 tfield_105_0 tfield_105_1 tsh_106 tsize_106 tagg_106 tzero_106 tplaces_106 srcOk_106 eqg_106 tfield_106_0 tfield_106_1 tsh_107 tsize_107 tagg_107 tzero_107 srcOk_107 tsh_108
attribute [go_sem] tsize_108 tagg_108 tzero_108 srcOk_108 tsh_109 tsize_109 tagg_109 tzero_109 srcOk_109 hasBody_2 hasBody_3 hasBody_4 hasBody_5 hasBody_6 hasBody_7 hasBody_8 hasBody_9 hasBody_10 hasBody_11 hasBody_12 hasBody_13 hasBody_14 hasBody_15 hasBody_16 hasBody_17 hasBody_18 hasBody_19 hasBody_20 hasBody_21 hasBody_22 hasBody_23 hasBody_24 hasBody_25 hasBody_26 hasBody_27 hasBody_28 hasBody_29 hasBody_30 hasBody_31 hasBody_32
attribute [go_sem] hasBody_33 hasBody_34 hasBody_35 hasBody_36 hasBody_37 hasBody_38 hasBody_39 hasBody_40 hasBody_41 hasBody_42 hasBody_43 hasBody_44 hasBody_45 hasBody_46 hasBody_47 hasBody_48 hasBody_49 hasBody_50 hasBody_51 hasBody_52 hasBody_53 hasBody_54 hasBody_55 hasBody_56 isExt_57 hasBody_57 hasBody_58 hasBody_60 hasBody_61 isExt_62 hasBody_62 hasBody_63 hasBody_64 hasBody_65 hasBody_66 hasBody_67 hasBody_68 hasBody_69 hasBody_70 hasBody_71
attribute [go_sem] hasBody_72 isExt_73 hasBody_73 hasBody_74 hasBody_75 hasBody_76 hasBody_77 hasBody_78 hasBody_79 hasBody_80 hasBody_81 glob_0 glob_1 glob_2 glob_3 glob_4 glob_5 conv_2_87 conv_3_5 conv_3_39 conv_3_67 conv_3_87 conv_5_3 conv_5_21 conv_5_92 conv_39_3 conv_59_9 conv_59_9n conv_67_92 conv_87_5 conv_87_92 conv_92_5
end Go.Proofs.YtjemmehgfheflaaDoor.V
