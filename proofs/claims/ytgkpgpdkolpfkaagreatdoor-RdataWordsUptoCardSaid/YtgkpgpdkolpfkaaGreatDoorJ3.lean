/- Joined by mkclaim.py: VTab VOpen VLaid WLib WName WNameB WByte WText WBld WEsc WTextN. No conditions. -/
import Derived.Test.YtgkpgpdkolpfkaaGreatDoorJ2
import Derived.Test.YtgkpgpdkolpfkaaGreatDoorProg
import Derived.ProofKit
import Derived.OpenShut
import Derived.LaidMore
import Derived.Handed
set_option linter.unusedSimpArgs false
set_option linter.unusedVariables false
namespace Go.Proofs.YtgkpgpdkolpfkaaGreatDoor.V
open Go
theorem tFollows : Tryz.prog.follows .mixedOrders = true := by kernel_rfl
attribute [go_sem] tFollows
theorem tsh_0 : tsh Tryz.prog 0 = some .other := by kernel_rfl
theorem tsize_0 : tsize Tryz.prog 0 = some 1 := by kernel_rfl
theorem tagg_0 : tagg Tryz.prog 0 = some false := by kernel_rfl
theorem srcOk_0 : srcOk Tryz.prog 0 = true := by kernel_rfl
theorem tsh_1 : tsh Tryz.prog 1 = some .func := by kernel_rfl
theorem tsize_1 : tsize Tryz.prog 1 = some 1 := by kernel_rfl
theorem tagg_1 : tagg Tryz.prog 1 = some false := by kernel_rfl
theorem tzero_1 : tzero Tryz.prog 1 = some [.nilf] := by kernel_rfl
theorem srcOk_1 : srcOk Tryz.prog 1 = true := by kernel_rfl
theorem tsh_2 : tsh Tryz.prog 2 = some (.int .i64) := by kernel_rfl
theorem tsize_2 : tsize Tryz.prog 2 = some 1 := by kernel_rfl
theorem tagg_2 : tagg Tryz.prog 2 = some false := by kernel_rfl
theorem tzero_2 : tzero Tryz.prog 2 = some [.int .i64 0] := by kernel_rfl
theorem srcOk_2 : srcOk Tryz.prog 2 = false := by kernel_rfl
theorem tsh_3 : tsh Tryz.prog 3 = some (.int .i64) := by kernel_rfl
theorem tsize_3 : tsize Tryz.prog 3 = some 1 := by kernel_rfl
theorem tagg_3 : tagg Tryz.prog 3 = some false := by kernel_rfl
theorem tzero_3 : tzero Tryz.prog 3 = some [.int .i64 0] := by kernel_rfl
theorem srcOk_3 : srcOk Tryz.prog 3 = false := by kernel_rfl
theorem tsh_4 : tsh Tryz.prog 4 = some .bool := by kernel_rfl
theorem tsize_4 : tsize Tryz.prog 4 = some 1 := by kernel_rfl
theorem tagg_4 : tagg Tryz.prog 4 = some false := by kernel_rfl
theorem tzero_4 : tzero Tryz.prog 4 = some [.bool false] := by kernel_rfl
theorem srcOk_4 : srcOk Tryz.prog 4 = true := by kernel_rfl
theorem und_4 : Tryz.prog.underlying 4 = some .bool := by kernel_rfl
theorem tsh_5 : tsh Tryz.prog 5 = some (.int .u8) := by kernel_rfl
theorem tsize_5 : tsize Tryz.prog 5 = some 1 := by kernel_rfl
theorem tagg_5 : tagg Tryz.prog 5 = some false := by kernel_rfl
theorem tzero_5 : tzero Tryz.prog 5 = some [.int .u8 0] := by kernel_rfl
theorem srcOk_5 : srcOk Tryz.prog 5 = false := by kernel_rfl
theorem tsh_6 : tsh Tryz.prog 6 = some (.int .u8) := by kernel_rfl
theorem tsize_6 : tsize Tryz.prog 6 = some 1 := by kernel_rfl
theorem tagg_6 : tagg Tryz.prog 6 = some false := by kernel_rfl
theorem tzero_6 : tzero Tryz.prog 6 = some [.int .u8 0] := by kernel_rfl
theorem srcOk_6 : srcOk Tryz.prog 6 = false := by kernel_rfl
theorem tsh_7 : tsh Tryz.prog 7 = some .struct := by kernel_rfl
theorem tsize_7 : tsize Tryz.prog 7 = some 4 := by kernel_rfl
theorem tagg_7 : tagg Tryz.prog 7 = some true := by kernel_rfl
theorem tzero_7 : tzero Tryz.prog 7 = some [.int .i64 0, .int .i64 0, .bool false, .int .u8 0] := by kernel_rfl
theorem tplaces_7 : tplaces Tryz.prog 7 = some [(0, 1), (1, 1), (2, 1), (3, 1)] := by kernel_rfl
theorem srcOk_7 : srcOk Tryz.prog 7 = true := by kernel_rfl
theorem eqg_7 : Tryz.prog.eqGuardType Tryz.prog.depth 7 = false := by kernel_rfl
theorem tfield_7_0 : tfield Tryz.prog 7 0 = some (0, 1, false) := by kernel_rfl
theorem tfield_7_1 : tfield Tryz.prog 7 1 = some (1, 1, false) := by kernel_rfl
theorem tfield_7_2 : tfield Tryz.prog 7 2 = some (2, 1, false) := by kernel_rfl
theorem tfield_7_3 : tfield Tryz.prog 7 3 = some (3, 1, false) := by kernel_rfl
theorem tsh_8 : tsh Tryz.prog 8 = some .struct := by kernel_rfl
theorem tsize_8 : tsize Tryz.prog 8 = some 4 := by kernel_rfl
theorem tagg_8 : tagg Tryz.prog 8 = some true := by kernel_rfl
theorem tzero_8 : tzero Tryz.prog 8 = some [.int .i64 0, .int .i64 0, .bool false, .int .u8 0] := by kernel_rfl
theorem tplaces_8 : tplaces Tryz.prog 8 = some [(0, 1), (1, 1), (2, 1), (3, 1)] := by kernel_rfl
theorem srcOk_8 : srcOk Tryz.prog 8 = true := by kernel_rfl
theorem eqg_8 : Tryz.prog.eqGuardType Tryz.prog.depth 8 = false := by kernel_rfl
theorem tfield_8_0 : tfield Tryz.prog 8 0 = some (0, 1, false) := by kernel_rfl
theorem tfield_8_1 : tfield Tryz.prog 8 1 = some (1, 1, false) := by kernel_rfl
theorem tfield_8_2 : tfield Tryz.prog 8 2 = some (2, 1, false) := by kernel_rfl
theorem tfield_8_3 : tfield Tryz.prog 8 3 = some (3, 1, false) := by kernel_rfl
theorem tsh_9 : tsh Tryz.prog 9 = some .str := by kernel_rfl
theorem tsize_9 : tsize Tryz.prog 9 = some 1 := by kernel_rfl
theorem tagg_9 : tagg Tryz.prog 9 = some false := by kernel_rfl
theorem tzero_9 : tzero Tryz.prog 9 = some [.str []] := by kernel_rfl
theorem srcOk_9 : srcOk Tryz.prog 9 = true := by kernel_rfl
theorem tsh_10 : tsh Tryz.prog 10 = some .str := by kernel_rfl
theorem tsize_10 : tsize Tryz.prog 10 = some 1 := by kernel_rfl
theorem tagg_10 : tagg Tryz.prog 10 = some false := by kernel_rfl
theorem tzero_10 : tzero Tryz.prog 10 = some [.str []] := by kernel_rfl
theorem srcOk_10 : srcOk Tryz.prog 10 = true := by kernel_rfl
theorem tsh_11 : tsh Tryz.prog 11 = some .str := by kernel_rfl
theorem tsize_11 : tsize Tryz.prog 11 = some 1 := by kernel_rfl
theorem tagg_11 : tagg Tryz.prog 11 = some false := by kernel_rfl
theorem tzero_11 : tzero Tryz.prog 11 = some [.str []] := by kernel_rfl
theorem srcOk_11 : srcOk Tryz.prog 11 = true := by kernel_rfl
theorem tsh_12 : tsh Tryz.prog 12 = some (.int .u64) := by kernel_rfl
theorem tsize_12 : tsize Tryz.prog 12 = some 1 := by kernel_rfl
theorem tagg_12 : tagg Tryz.prog 12 = some false := by kernel_rfl
theorem tzero_12 : tzero Tryz.prog 12 = some [.int .u64 0] := by kernel_rfl
theorem srcOk_12 : srcOk Tryz.prog 12 = false := by kernel_rfl
theorem tsh_13 : tsh Tryz.prog 13 = some .struct := by kernel_rfl
theorem tsize_13 : tsize Tryz.prog 13 = some 2 := by kernel_rfl
theorem tagg_13 : tagg Tryz.prog 13 = some true := by kernel_rfl
theorem tzero_13 : tzero Tryz.prog 13 = some [.str [], .int .u64 0] := by kernel_rfl
theorem tplaces_13 : tplaces Tryz.prog 13 = some [(0, 1), (1, 1)] := by kernel_rfl
theorem srcOk_13 : srcOk Tryz.prog 13 = true := by kernel_rfl
theorem eqg_13 : Tryz.prog.eqGuardType Tryz.prog.depth 13 = false := by kernel_rfl
theorem tfield_13_0 : tfield Tryz.prog 13 0 = some (0, 1, false) := by kernel_rfl
theorem tfield_13_1 : tfield Tryz.prog 13 1 = some (1, 1, false) := by kernel_rfl
theorem tsh_14 : tsh Tryz.prog 14 = some .struct := by kernel_rfl
theorem tsize_14 : tsize Tryz.prog 14 = some 2 := by kernel_rfl
theorem tagg_14 : tagg Tryz.prog 14 = some true := by kernel_rfl
theorem tzero_14 : tzero Tryz.prog 14 = some [.str [], .int .u64 0] := by kernel_rfl
theorem tplaces_14 : tplaces Tryz.prog 14 = some [(0, 1), (1, 1)] := by kernel_rfl
theorem srcOk_14 : srcOk Tryz.prog 14 = true := by kernel_rfl
theorem eqg_14 : Tryz.prog.eqGuardType Tryz.prog.depth 14 = false := by kernel_rfl
theorem tfield_14_0 : tfield Tryz.prog 14 0 = some (0, 1, false) := by kernel_rfl
theorem tfield_14_1 : tfield Tryz.prog 14 1 = some (1, 1, false) := by kernel_rfl
theorem tsh_15 : tsh Tryz.prog 15 = some (.ptr 182) := by kernel_rfl
theorem tsize_15 : tsize Tryz.prog 15 = some 1 := by kernel_rfl
theorem tagg_15 : tagg Tryz.prog 15 = some false := by kernel_rfl
theorem tzero_15 : tzero Tryz.prog 15 = some [.nilp] := by kernel_rfl
theorem srcOk_15 : srcOk Tryz.prog 15 = true := by kernel_rfl
theorem tsh_16 : tsh Tryz.prog 16 = some (.ptr 185) := by kernel_rfl
theorem tsize_16 : tsize Tryz.prog 16 = some 1 := by kernel_rfl
theorem tagg_16 : tagg Tryz.prog 16 = some false := by kernel_rfl
theorem tzero_16 : tzero Tryz.prog 16 = some [.nilp] := by kernel_rfl
theorem srcOk_16 : srcOk Tryz.prog 16 = true := by kernel_rfl
theorem tsh_17 : tsh Tryz.prog 17 = some (.ptr 192) := by kernel_rfl
theorem tsize_17 : tsize Tryz.prog 17 = some 1 := by kernel_rfl
theorem tagg_17 : tagg Tryz.prog 17 = some false := by kernel_rfl
theorem tzero_17 : tzero Tryz.prog 17 = some [.nilp] := by kernel_rfl
theorem srcOk_17 : srcOk Tryz.prog 17 = true := by kernel_rfl
theorem tsh_18 : tsh Tryz.prog 18 = some .struct := by kernel_rfl
theorem tsize_18 : tsize Tryz.prog 18 = some 1 := by kernel_rfl
theorem tagg_18 : tagg Tryz.prog 18 = some true := by kernel_rfl
theorem tzero_18 : tzero Tryz.prog 18 = some [.nilp] := by kernel_rfl
theorem tplaces_18 : tplaces Tryz.prog 18 = some [(0, 1)] := by kernel_rfl
theorem srcOk_18 : srcOk Tryz.prog 18 = true := by kernel_rfl
theorem eqg_18 : Tryz.prog.eqGuardType Tryz.prog.depth 18 = false := by kernel_rfl
theorem tfield_18_0 : tfield Tryz.prog 18 0 = some (0, 1, false) := by kernel_rfl
theorem tsh_19 : tsh Tryz.prog 19 = some .struct := by kernel_rfl
theorem tsize_19 : tsize Tryz.prog 19 = some 1 := by kernel_rfl
theorem tagg_19 : tagg Tryz.prog 19 = some true := by kernel_rfl
theorem tzero_19 : tzero Tryz.prog 19 = some [.nilp] := by kernel_rfl
theorem tplaces_19 : tplaces Tryz.prog 19 = some [(0, 1)] := by kernel_rfl
theorem srcOk_19 : srcOk Tryz.prog 19 = true := by kernel_rfl
theorem eqg_19 : Tryz.prog.eqGuardType Tryz.prog.depth 19 = false := by kernel_rfl
theorem tfield_19_0 : tfield Tryz.prog 19 0 = some (0, 1, false) := by kernel_rfl
theorem tsh_20 : tsh Tryz.prog 20 = some .iface := by kernel_rfl
theorem tsize_20 : tsize Tryz.prog 20 = some 1 := by kernel_rfl
theorem tagg_20 : tagg Tryz.prog 20 = some false := by kernel_rfl
theorem tzero_20 : tzero Tryz.prog 20 = some [.nili] := by kernel_rfl
theorem srcOk_20 : srcOk Tryz.prog 20 = true := by kernel_rfl
theorem tsh_21 : tsh Tryz.prog 21 = some (.int .i32) := by kernel_rfl
theorem tsize_21 : tsize Tryz.prog 21 = some 1 := by kernel_rfl
theorem tagg_21 : tagg Tryz.prog 21 = some false := by kernel_rfl
theorem tzero_21 : tzero Tryz.prog 21 = some [.int .i32 0] := by kernel_rfl
theorem srcOk_21 : srcOk Tryz.prog 21 = false := by kernel_rfl
theorem tsh_22 : tsh Tryz.prog 22 = some (.int .u16) := by kernel_rfl
theorem tsize_22 : tsize Tryz.prog 22 = some 1 := by kernel_rfl
theorem tagg_22 : tagg Tryz.prog 22 = some false := by kernel_rfl
theorem tzero_22 : tzero Tryz.prog 22 = some [.int .u16 0] := by kernel_rfl
theorem srcOk_22 : srcOk Tryz.prog 22 = false := by kernel_rfl
theorem tsh_23 : tsh Tryz.prog 23 = some .str := by kernel_rfl
theorem tsize_23 : tsize Tryz.prog 23 = some 1 := by kernel_rfl
theorem tagg_23 : tagg Tryz.prog 23 = some false := by kernel_rfl
theorem tzero_23 : tzero Tryz.prog 23 = some [.str []] := by kernel_rfl
theorem srcOk_23 : srcOk Tryz.prog 23 = true := by kernel_rfl
theorem tsh_24 : tsh Tryz.prog 24 = some (.int .u32) := by kernel_rfl
theorem tsize_24 : tsize Tryz.prog 24 = some 1 := by kernel_rfl
theorem tagg_24 : tagg Tryz.prog 24 = some false := by kernel_rfl
theorem tzero_24 : tzero Tryz.prog 24 = some [.int .u32 0] := by kernel_rfl
theorem srcOk_24 : srcOk Tryz.prog 24 = false := by kernel_rfl
theorem tsh_25 : tsh Tryz.prog 25 = some (.array 5 24 1) := by kernel_rfl
theorem tsize_25 : tsize Tryz.prog 25 = some 5 := by kernel_rfl
theorem tagg_25 : tagg Tryz.prog 25 = some true := by kernel_rfl
theorem tzero_25 : tzero Tryz.prog 25 = some [.int .u32 0, .int .u32 0, .int .u32 0, .int .u32 0, .int .u32 0] := by kernel_rfl
theorem srcOk_25 : srcOk Tryz.prog 25 = true := by kernel_rfl
theorem tsh_26 : tsh Tryz.prog 26 = some .struct := by kernel_rfl
theorem tsize_26 : tsize Tryz.prog 26 = some 8 := by kernel_rfl
theorem tagg_26 : tagg Tryz.prog 26 = some true := by kernel_rfl
theorem tzero_26 : tzero Tryz.prog 26 = some [.str [], .str [], .str [], .int .u32 0, .int .u32 0, .int .u32 0, .int .u32 0, .int .u32 0] := by kernel_rfl
theorem tplaces_26 : tplaces Tryz.prog 26 = some [(0, 1), (1, 1), (2, 1), (3, 5)] := by kernel_rfl
theorem srcOk_26 : srcOk Tryz.prog 26 = true := by kernel_rfl
theorem eqg_26 : Tryz.prog.eqGuardType Tryz.prog.depth 26 = false := by kernel_rfl
theorem tfield_26_0 : tfield Tryz.prog 26 0 = some (0, 1, false) := by kernel_rfl
theorem tfield_26_1 : tfield Tryz.prog 26 1 = some (1, 1, false) := by kernel_rfl
theorem tfield_26_2 : tfield Tryz.prog 26 2 = some (2, 1, false) := by kernel_rfl
theorem tfield_26_3 : tfield Tryz.prog 26 3 = some (3, 5, true) := by kernel_rfl
theorem tsh_27 : tsh Tryz.prog 27 = some .struct := by kernel_rfl
theorem tsize_27 : tsize Tryz.prog 27 = some 8 := by kernel_rfl
theorem tagg_27 : tagg Tryz.prog 27 = some true := by kernel_rfl
theorem tzero_27 : tzero Tryz.prog 27 = some [.str [], .str [], .str [], .int .u32 0, .int .u32 0, .int .u32 0, .int .u32 0, .int .u32 0] := by kernel_rfl
theorem tplaces_27 : tplaces Tryz.prog 27 = some [(0, 1), (1, 1), (2, 1), (3, 5)] := by kernel_rfl
theorem srcOk_27 : srcOk Tryz.prog 27 = true := by kernel_rfl
theorem eqg_27 : Tryz.prog.eqGuardType Tryz.prog.depth 27 = false := by kernel_rfl
theorem tfield_27_0 : tfield Tryz.prog 27 0 = some (0, 1, false) := by kernel_rfl
theorem tfield_27_1 : tfield Tryz.prog 27 1 = some (1, 1, false) := by kernel_rfl
theorem tfield_27_2 : tfield Tryz.prog 27 2 = some (2, 1, false) := by kernel_rfl
theorem tfield_27_3 : tfield Tryz.prog 27 3 = some (3, 5, true) := by kernel_rfl
theorem tsh_28 : tsh Tryz.prog 28 = some (.int .i64) := by kernel_rfl
theorem tsize_28 : tsize Tryz.prog 28 = some 1 := by kernel_rfl
theorem tagg_28 : tagg Tryz.prog 28 = some false := by kernel_rfl
theorem tzero_28 : tzero Tryz.prog 28 = some [.int .i64 0] := by kernel_rfl
theorem srcOk_28 : srcOk Tryz.prog 28 = false := by kernel_rfl
theorem tsh_29 : tsh Tryz.prog 29 = some .other := by kernel_rfl
theorem tsize_29 : tsize Tryz.prog 29 = some 1 := by kernel_rfl
theorem tagg_29 : tagg Tryz.prog 29 = some false := by kernel_rfl
theorem srcOk_29 : srcOk Tryz.prog 29 = true := by kernel_rfl
theorem tsh_30 : tsh Tryz.prog 30 = some .func := by kernel_rfl
theorem tsize_30 : tsize Tryz.prog 30 = some 1 := by kernel_rfl
theorem tagg_30 : tagg Tryz.prog 30 = some false := by kernel_rfl
theorem tzero_30 : tzero Tryz.prog 30 = some [.nilf] := by kernel_rfl
theorem srcOk_30 : srcOk Tryz.prog 30 = true := by kernel_rfl
theorem tsh_31 : tsh Tryz.prog 31 = some .func := by kernel_rfl
theorem tsize_31 : tsize Tryz.prog 31 = some 1 := by kernel_rfl
theorem tagg_31 : tagg Tryz.prog 31 = some false := by kernel_rfl
theorem tzero_31 : tzero Tryz.prog 31 = some [.nilf] := by kernel_rfl
theorem srcOk_31 : srcOk Tryz.prog 31 = true := by kernel_rfl
theorem tsh_32 : tsh Tryz.prog 32 = some .other := by kernel_rfl
theorem tsize_32 : tsize Tryz.prog 32 = some 1 := by kernel_rfl
theorem tagg_32 : tagg Tryz.prog 32 = some false := by kernel_rfl
theorem srcOk_32 : srcOk Tryz.prog 32 = true := by kernel_rfl
theorem tsh_33 : tsh Tryz.prog 33 = some .func := by kernel_rfl
theorem tsize_33 : tsize Tryz.prog 33 = some 1 := by kernel_rfl
theorem tagg_33 : tagg Tryz.prog 33 = some false := by kernel_rfl
theorem tzero_33 : tzero Tryz.prog 33 = some [.nilf] := by kernel_rfl
theorem srcOk_33 : srcOk Tryz.prog 33 = true := by kernel_rfl
theorem tsh_34 : tsh Tryz.prog 34 = some (.slice 71 4 40) := by kernel_rfl
theorem tsize_34 : tsize Tryz.prog 34 = some 1 := by kernel_rfl
theorem tagg_34 : tagg Tryz.prog 34 = some false := by kernel_rfl
theorem tzero_34 : tzero Tryz.prog 34 = some [.nils] := by kernel_rfl
theorem srcOk_34 : srcOk Tryz.prog 34 = true := by kernel_rfl
theorem zok_34 : zok Tryz.prog 71 4 = true := by kernel_rfl
theorem tsh_35 : tsh Tryz.prog 35 = some .func := by kernel_rfl
theorem tsize_35 : tsize Tryz.prog 35 = some 1 := by kernel_rfl
theorem tagg_35 : tagg Tryz.prog 35 = some false := by kernel_rfl
theorem tzero_35 : tzero Tryz.prog 35 = some [.nilf] := by kernel_rfl
theorem srcOk_35 : srcOk Tryz.prog 35 = true := by kernel_rfl
theorem tsh_36 : tsh Tryz.prog 36 = some .func := by kernel_rfl
theorem tsize_36 : tsize Tryz.prog 36 = some 1 := by kernel_rfl
theorem tagg_36 : tagg Tryz.prog 36 = some false := by kernel_rfl
theorem tzero_36 : tzero Tryz.prog 36 = some [.nilf] := by kernel_rfl
theorem srcOk_36 : srcOk Tryz.prog 36 = true := by kernel_rfl
theorem tsh_37 : tsh Tryz.prog 37 = some .func := by kernel_rfl
theorem tsize_37 : tsize Tryz.prog 37 = some 1 := by kernel_rfl
theorem tagg_37 : tagg Tryz.prog 37 = some false := by kernel_rfl
theorem tzero_37 : tzero Tryz.prog 37 = some [.nilf] := by kernel_rfl
theorem srcOk_37 : srcOk Tryz.prog 37 = true := by kernel_rfl
theorem tsh_38 : tsh Tryz.prog 38 = some (.slice 9 1 16) := by kernel_rfl
theorem tsize_38 : tsize Tryz.prog 38 = some 1 := by kernel_rfl
theorem tagg_38 : tagg Tryz.prog 38 = some false := by kernel_rfl
theorem tzero_38 : tzero Tryz.prog 38 = some [.nils] := by kernel_rfl
theorem srcOk_38 : srcOk Tryz.prog 38 = true := by kernel_rfl
theorem zok_38 : zok Tryz.prog 9 1 = true := by kernel_rfl
theorem tsh_39 : tsh Tryz.prog 39 = some .func := by kernel_rfl
theorem tsize_39 : tsize Tryz.prog 39 = some 1 := by kernel_rfl
theorem tagg_39 : tagg Tryz.prog 39 = some false := by kernel_rfl
theorem tzero_39 : tzero Tryz.prog 39 = some [.nilf] := by kernel_rfl
theorem srcOk_39 : srcOk Tryz.prog 39 = true := by kernel_rfl
theorem tsh_40 : tsh Tryz.prog 40 = some .func := by kernel_rfl
theorem tsize_40 : tsize Tryz.prog 40 = some 1 := by kernel_rfl
theorem tagg_40 : tagg Tryz.prog 40 = some false := by kernel_rfl
theorem tzero_40 : tzero Tryz.prog 40 = some [.nilf] := by kernel_rfl
theorem srcOk_40 : srcOk Tryz.prog 40 = true := by kernel_rfl
theorem tsh_41 : tsh Tryz.prog 41 = some .func := by kernel_rfl
theorem tsize_41 : tsize Tryz.prog 41 = some 1 := by kernel_rfl
theorem tagg_41 : tagg Tryz.prog 41 = some false := by kernel_rfl
theorem tzero_41 : tzero Tryz.prog 41 = some [.nilf] := by kernel_rfl
theorem srcOk_41 : srcOk Tryz.prog 41 = true := by kernel_rfl
theorem tsh_42 : tsh Tryz.prog 42 = some (.int .u64) := by kernel_rfl
theorem tsize_42 : tsize Tryz.prog 42 = some 1 := by kernel_rfl
theorem tagg_42 : tagg Tryz.prog 42 = some false := by kernel_rfl
theorem tzero_42 : tzero Tryz.prog 42 = some [.int .u64 0] := by kernel_rfl
theorem srcOk_42 : srcOk Tryz.prog 42 = false := by kernel_rfl
theorem tsh_43 : tsh Tryz.prog 43 = some (.array 4 9 1) := by kernel_rfl
theorem tsize_43 : tsize Tryz.prog 43 = some 4 := by kernel_rfl
theorem tagg_43 : tagg Tryz.prog 43 = some true := by kernel_rfl
theorem tzero_43 : tzero Tryz.prog 43 = some [.str [], .str [], .str [], .str []] := by kernel_rfl
theorem srcOk_43 : srcOk Tryz.prog 43 = true := by kernel_rfl
theorem tsh_44 : tsh Tryz.prog 44 = some .func := by kernel_rfl
theorem tsize_44 : tsize Tryz.prog 44 = some 1 := by kernel_rfl
theorem tagg_44 : tagg Tryz.prog 44 = some false := by kernel_rfl
theorem tzero_44 : tzero Tryz.prog 44 = some [.nilf] := by kernel_rfl
theorem srcOk_44 : srcOk Tryz.prog 44 = true := by kernel_rfl
theorem tsh_45 : tsh Tryz.prog 45 = some .func := by kernel_rfl
theorem tsize_45 : tsize Tryz.prog 45 = some 1 := by kernel_rfl
theorem tagg_45 : tagg Tryz.prog 45 = some false := by kernel_rfl
theorem tzero_45 : tzero Tryz.prog 45 = some [.nilf] := by kernel_rfl
theorem srcOk_45 : srcOk Tryz.prog 45 = true := by kernel_rfl
theorem tsh_46 : tsh Tryz.prog 46 = some (.array 8 9 1) := by kernel_rfl
theorem tsize_46 : tsize Tryz.prog 46 = some 8 := by kernel_rfl
theorem tagg_46 : tagg Tryz.prog 46 = some true := by kernel_rfl
theorem tzero_46 : tzero Tryz.prog 46 = some [.str [], .str [], .str [], .str [], .str [], .str [], .str [], .str []] := by kernel_rfl
theorem srcOk_46 : srcOk Tryz.prog 46 = true := by kernel_rfl
theorem tsh_47 : tsh Tryz.prog 47 = some (.int .u64) := by kernel_rfl
theorem tsize_47 : tsize Tryz.prog 47 = some 1 := by kernel_rfl
theorem tagg_47 : tagg Tryz.prog 47 = some false := by kernel_rfl
theorem tzero_47 : tzero Tryz.prog 47 = some [.int .u64 0] := by kernel_rfl
theorem srcOk_47 : srcOk Tryz.prog 47 = false := by kernel_rfl
theorem tsh_48 : tsh Tryz.prog 48 = some .other := by kernel_rfl
theorem tsize_48 : tsize Tryz.prog 48 = some 1 := by kernel_rfl
theorem tagg_48 : tagg Tryz.prog 48 = some false := by kernel_rfl
theorem srcOk_48 : srcOk Tryz.prog 48 = true := by kernel_rfl
theorem tsh_49 : tsh Tryz.prog 49 = some .func := by kernel_rfl
theorem tsize_49 : tsize Tryz.prog 49 = some 1 := by kernel_rfl
theorem tagg_49 : tagg Tryz.prog 49 = some false := by kernel_rfl
theorem tzero_49 : tzero Tryz.prog 49 = some [.nilf] := by kernel_rfl
theorem srcOk_49 : srcOk Tryz.prog 49 = true := by kernel_rfl
theorem tsh_50 : tsh Tryz.prog 50 = some .func := by kernel_rfl
theorem tsize_50 : tsize Tryz.prog 50 = some 1 := by kernel_rfl
theorem tagg_50 : tagg Tryz.prog 50 = some false := by kernel_rfl
theorem tzero_50 : tzero Tryz.prog 50 = some [.nilf] := by kernel_rfl
theorem srcOk_50 : srcOk Tryz.prog 50 = true := by kernel_rfl
theorem tsh_51 : tsh Tryz.prog 51 = some (.ptr 54) := by kernel_rfl
theorem tsize_51 : tsize Tryz.prog 51 = some 1 := by kernel_rfl
theorem tagg_51 : tagg Tryz.prog 51 = some false := by kernel_rfl
theorem tzero_51 : tzero Tryz.prog 51 = some [.nilp] := by kernel_rfl
theorem srcOk_51 : srcOk Tryz.prog 51 = true := by kernel_rfl
theorem tsh_52 : tsh Tryz.prog 52 = some (.slice 5 1 1) := by kernel_rfl
theorem tsize_52 : tsize Tryz.prog 52 = some 1 := by kernel_rfl
theorem tagg_52 : tagg Tryz.prog 52 = some false := by kernel_rfl
theorem tzero_52 : tzero Tryz.prog 52 = some [.nils] := by kernel_rfl
theorem srcOk_52 : srcOk Tryz.prog 52 = true := by kernel_rfl
theorem zok_52 : zok Tryz.prog 5 1 = true := by kernel_rfl
theorem tsh_53 : tsh Tryz.prog 53 = some .struct := by kernel_rfl
theorem tsize_53 : tsize Tryz.prog 53 = some 2 := by kernel_rfl
theorem tagg_53 : tagg Tryz.prog 53 = some true := by kernel_rfl
theorem tzero_53 : tzero Tryz.prog 53 = some [.nilp, .nils] := by kernel_rfl
theorem tplaces_53 : tplaces Tryz.prog 53 = some [(0, 1), (1, 1)] := by kernel_rfl
theorem srcOk_53 : srcOk Tryz.prog 53 = true := by kernel_rfl
theorem eqg_53 : Tryz.prog.eqGuardType Tryz.prog.depth 53 = false := by kernel_rfl
theorem tfield_53_0 : tfield Tryz.prog 53 0 = some (0, 1, false) := by kernel_rfl
theorem tfield_53_1 : tfield Tryz.prog 53 1 = some (1, 1, false) := by kernel_rfl
theorem tsh_54 : tsh Tryz.prog 54 = some .struct := by kernel_rfl
theorem tsize_54 : tsize Tryz.prog 54 = some 2 := by kernel_rfl
theorem tagg_54 : tagg Tryz.prog 54 = some true := by kernel_rfl
theorem tzero_54 : tzero Tryz.prog 54 = some [.nilp, .nils] := by kernel_rfl
theorem tplaces_54 : tplaces Tryz.prog 54 = some [(0, 1), (1, 1)] := by kernel_rfl
theorem srcOk_54 : srcOk Tryz.prog 54 = true := by kernel_rfl
theorem eqg_54 : Tryz.prog.eqGuardType Tryz.prog.depth 54 = false := by kernel_rfl
theorem tfield_54_0 : tfield Tryz.prog 54 0 = some (0, 1, false) := by kernel_rfl
theorem tfield_54_1 : tfield Tryz.prog 54 1 = some (1, 1, false) := by kernel_rfl
theorem tsh_55 : tsh Tryz.prog 55 = some .iface := by kernel_rfl
theorem tsize_55 : tsize Tryz.prog 55 = some 1 := by kernel_rfl
theorem tagg_55 : tagg Tryz.prog 55 = some false := by kernel_rfl
theorem tzero_55 : tzero Tryz.prog 55 = some [.nili] := by kernel_rfl
theorem srcOk_55 : srcOk Tryz.prog 55 = true := by kernel_rfl
theorem tsh_56 : tsh Tryz.prog 56 = some .iface := by kernel_rfl
theorem tsize_56 : tsize Tryz.prog 56 = some 1 := by kernel_rfl
theorem tagg_56 : tagg Tryz.prog 56 = some false := by kernel_rfl
theorem tzero_56 : tzero Tryz.prog 56 = some [.nili] := by kernel_rfl
theorem srcOk_56 : srcOk Tryz.prog 56 = true := by kernel_rfl
theorem tsh_57 : tsh Tryz.prog 57 = some .func := by kernel_rfl
theorem tsize_57 : tsize Tryz.prog 57 = some 1 := by kernel_rfl
theorem tagg_57 : tagg Tryz.prog 57 = some false := by kernel_rfl
theorem tzero_57 : tzero Tryz.prog 57 = some [.nilf] := by kernel_rfl
theorem srcOk_57 : srcOk Tryz.prog 57 = true := by kernel_rfl
theorem tsh_58 : tsh Tryz.prog 58 = some .func := by kernel_rfl
theorem tsize_58 : tsize Tryz.prog 58 = some 1 := by kernel_rfl
theorem tagg_58 : tagg Tryz.prog 58 = some false := by kernel_rfl
theorem tzero_58 : tzero Tryz.prog 58 = some [.nilf] := by kernel_rfl
theorem srcOk_58 : srcOk Tryz.prog 58 = true := by kernel_rfl
theorem tsh_59 : tsh Tryz.prog 59 = some .other := by kernel_rfl
theorem tsize_59 : tsize Tryz.prog 59 = some 1 := by kernel_rfl
theorem tagg_59 : tagg Tryz.prog 59 = some false := by kernel_rfl
theorem srcOk_59 : srcOk Tryz.prog 59 = true := by kernel_rfl
theorem tsh_60 : tsh Tryz.prog 60 = some .func := by kernel_rfl
theorem tsize_60 : tsize Tryz.prog 60 = some 1 := by kernel_rfl
theorem tagg_60 : tagg Tryz.prog 60 = some false := by kernel_rfl
theorem tzero_60 : tzero Tryz.prog 60 = some [.nilf] := by kernel_rfl
theorem srcOk_60 : srcOk Tryz.prog 60 = true := by kernel_rfl
theorem tsh_61 : tsh Tryz.prog 61 = some (.ptr 91) := by kernel_rfl
theorem tsize_61 : tsize Tryz.prog 61 = some 1 := by kernel_rfl
theorem tagg_61 : tagg Tryz.prog 61 = some false := by kernel_rfl
theorem tzero_61 : tzero Tryz.prog 61 = some [.nilp] := by kernel_rfl
theorem srcOk_61 : srcOk Tryz.prog 61 = true := by kernel_rfl
theorem tsh_62 : tsh Tryz.prog 62 = some .func := by kernel_rfl
theorem tsize_62 : tsize Tryz.prog 62 = some 1 := by kernel_rfl
theorem tagg_62 : tagg Tryz.prog 62 = some false := by kernel_rfl
theorem tzero_62 : tzero Tryz.prog 62 = some [.nilf] := by kernel_rfl
theorem srcOk_62 : srcOk Tryz.prog 62 = true := by kernel_rfl
theorem tsh_63 : tsh Tryz.prog 63 = some .func := by kernel_rfl
theorem tsize_63 : tsize Tryz.prog 63 = some 1 := by kernel_rfl
theorem tagg_63 : tagg Tryz.prog 63 = some false := by kernel_rfl
theorem tzero_63 : tzero Tryz.prog 63 = some [.nilf] := by kernel_rfl
theorem srcOk_63 : srcOk Tryz.prog 63 = true := by kernel_rfl
theorem tsh_64 : tsh Tryz.prog 64 = some .func := by kernel_rfl
theorem tsize_64 : tsize Tryz.prog 64 = some 1 := by kernel_rfl
theorem tagg_64 : tagg Tryz.prog 64 = some false := by kernel_rfl
theorem tzero_64 : tzero Tryz.prog 64 = some [.nilf] := by kernel_rfl
theorem srcOk_64 : srcOk Tryz.prog 64 = true := by kernel_rfl
theorem tsh_65 : tsh Tryz.prog 65 = some (.ptr 27) := by kernel_rfl
theorem tsize_65 : tsize Tryz.prog 65 = some 1 := by kernel_rfl
theorem tagg_65 : tagg Tryz.prog 65 = some false := by kernel_rfl
theorem tzero_65 : tzero Tryz.prog 65 = some [.nilp] := by kernel_rfl
theorem srcOk_65 : srcOk Tryz.prog 65 = true := by kernel_rfl
theorem tsh_66 : tsh Tryz.prog 66 = some (.ptr 28) := by kernel_rfl
theorem tsize_66 : tsize Tryz.prog 66 = some 1 := by kernel_rfl
theorem tagg_66 : tagg Tryz.prog 66 = some false := by kernel_rfl
theorem tzero_66 : tzero Tryz.prog 66 = some [.nilp] := by kernel_rfl
theorem srcOk_66 : srcOk Tryz.prog 66 = true := by kernel_rfl
theorem tsh_67 : tsh Tryz.prog 67 = some (.ptr 69) := by kernel_rfl
theorem tsize_67 : tsize Tryz.prog 67 = some 1 := by kernel_rfl
theorem tagg_67 : tagg Tryz.prog 67 = some false := by kernel_rfl
theorem tzero_67 : tzero Tryz.prog 67 = some [.nilp] := by kernel_rfl
theorem srcOk_67 : srcOk Tryz.prog 67 = true := by kernel_rfl
theorem tsh_68 : tsh Tryz.prog 68 = some .struct := by kernel_rfl
theorem tsize_68 : tsize Tryz.prog 68 = some 11 := by kernel_rfl
theorem tagg_68 : tagg Tryz.prog 68 = some true := by kernel_rfl
theorem tzero_68 : tzero Tryz.prog 68 = some [.nils, .str [], .str [], .str [], .str [], .int .u32 0, .int .u32 0, .int .u32 0, .int .u32 0, .int .u32 0, .int .i64 0] := by kernel_rfl
theorem tplaces_68 : tplaces Tryz.prog 68 = some [(0, 1), (1, 1), (2, 8), (10, 1)] := by kernel_rfl
theorem srcOk_68 : srcOk Tryz.prog 68 = true := by kernel_rfl
theorem eqg_68 : Tryz.prog.eqGuardType Tryz.prog.depth 68 = false := by kernel_rfl
theorem tfield_68_0 : tfield Tryz.prog 68 0 = some (0, 1, false) := by kernel_rfl
theorem tfield_68_1 : tfield Tryz.prog 68 1 = some (1, 1, false) := by kernel_rfl
theorem tfield_68_2 : tfield Tryz.prog 68 2 = some (2, 8, true) := by kernel_rfl
theorem tfield_68_3 : tfield Tryz.prog 68 3 = some (10, 1, false) := by kernel_rfl
theorem tsh_69 : tsh Tryz.prog 69 = some .struct := by kernel_rfl
theorem tsize_69 : tsize Tryz.prog 69 = some 11 := by kernel_rfl
theorem tagg_69 : tagg Tryz.prog 69 = some true := by kernel_rfl
theorem tzero_69 : tzero Tryz.prog 69 = some [.nils, .str [], .str [], .str [], .str [], .int .u32 0, .int .u32 0, .int .u32 0, .int .u32 0, .int .u32 0, .int .i64 0] := by kernel_rfl
theorem tplaces_69 : tplaces Tryz.prog 69 = some [(0, 1), (1, 1), (2, 8), (10, 1)] := by kernel_rfl
theorem srcOk_69 : srcOk Tryz.prog 69 = true := by kernel_rfl
theorem eqg_69 : Tryz.prog.eqGuardType Tryz.prog.depth 69 = false := by kernel_rfl
theorem tfield_69_0 : tfield Tryz.prog 69 0 = some (0, 1, false) := by kernel_rfl
theorem tfield_69_1 : tfield Tryz.prog 69 1 = some (1, 1, false) := by kernel_rfl
theorem tfield_69_2 : tfield Tryz.prog 69 2 = some (2, 8, true) := by kernel_rfl
theorem tfield_69_3 : tfield Tryz.prog 69 3 = some (10, 1, false) := by kernel_rfl
theorem tsh_70 : tsh Tryz.prog 70 = some .struct := by kernel_rfl
theorem tsize_70 : tsize Tryz.prog 70 = some 4 := by kernel_rfl
theorem tagg_70 : tagg Tryz.prog 70 = some true := by kernel_rfl
theorem tzero_70 : tzero Tryz.prog 70 = some [.str [], .bool false, .int .i64 0, .int .i64 0] := by kernel_rfl
theorem tplaces_70 : tplaces Tryz.prog 70 = some [(0, 1), (1, 1), (2, 1), (3, 1)] := by kernel_rfl
theorem srcOk_70 : srcOk Tryz.prog 70 = true := by kernel_rfl
theorem eqg_70 : Tryz.prog.eqGuardType Tryz.prog.depth 70 = false := by kernel_rfl
theorem tfield_70_0 : tfield Tryz.prog 70 0 = some (0, 1, false) := by kernel_rfl
theorem tfield_70_1 : tfield Tryz.prog 70 1 = some (1, 1, false) := by kernel_rfl
theorem tfield_70_2 : tfield Tryz.prog 70 2 = some (2, 1, false) := by kernel_rfl
theorem tfield_70_3 : tfield Tryz.prog 70 3 = some (3, 1, false) := by kernel_rfl
theorem tsh_71 : tsh Tryz.prog 71 = some .struct := by kernel_rfl
theorem tsize_71 : tsize Tryz.prog 71 = some 4 := by kernel_rfl
theorem tagg_71 : tagg Tryz.prog 71 = some true := by kernel_rfl
theorem tzero_71 : tzero Tryz.prog 71 = some [.str [], .bool false, .int .i64 0, .int .i64 0] := by kernel_rfl
theorem tplaces_71 : tplaces Tryz.prog 71 = some [(0, 1), (1, 1), (2, 1), (3, 1)] := by kernel_rfl
theorem srcOk_71 : srcOk Tryz.prog 71 = true := by kernel_rfl
theorem eqg_71 : Tryz.prog.eqGuardType Tryz.prog.depth 71 = false := by kernel_rfl
theorem tfield_71_0 : tfield Tryz.prog 71 0 = some (0, 1, false) := by kernel_rfl
theorem tfield_71_1 : tfield Tryz.prog 71 1 = some (1, 1, false) := by kernel_rfl
theorem tfield_71_2 : tfield Tryz.prog 71 2 = some (2, 1, false) := by kernel_rfl
theorem tfield_71_3 : tfield Tryz.prog 71 3 = some (3, 1, false) := by kernel_rfl
theorem tsh_72 : tsh Tryz.prog 72 = some .func := by kernel_rfl
theorem tsize_72 : tsize Tryz.prog 72 = some 1 := by kernel_rfl
theorem tagg_72 : tagg Tryz.prog 72 = some false := by kernel_rfl
theorem tzero_72 : tzero Tryz.prog 72 = some [.nilf] := by kernel_rfl
theorem srcOk_72 : srcOk Tryz.prog 72 = true := by kernel_rfl
theorem tsh_73 : tsh Tryz.prog 73 = some (.map 21 1) := by kernel_rfl
theorem tsize_73 : tsize Tryz.prog 73 = some 1 := by kernel_rfl
theorem tagg_73 : tagg Tryz.prog 73 = some false := by kernel_rfl
theorem tzero_73 : tzero Tryz.prog 73 = some [.nilm] := by kernel_rfl
theorem srcOk_73 : srcOk Tryz.prog 73 = true := by kernel_rfl
theorem tsh_74 : tsh Tryz.prog 74 = some .other := by kernel_rfl
theorem tsize_74 : tsize Tryz.prog 74 = some 1 := by kernel_rfl
theorem tagg_74 : tagg Tryz.prog 74 = some false := by kernel_rfl
theorem srcOk_74 : srcOk Tryz.prog 74 = true := by kernel_rfl
theorem tsh_75 : tsh Tryz.prog 75 = some .func := by kernel_rfl
theorem tsize_75 : tsize Tryz.prog 75 = some 1 := by kernel_rfl
theorem tagg_75 : tagg Tryz.prog 75 = some false := by kernel_rfl
theorem tzero_75 : tzero Tryz.prog 75 = some [.nilf] := by kernel_rfl
theorem srcOk_75 : srcOk Tryz.prog 75 = true := by kernel_rfl
theorem tsh_76 : tsh Tryz.prog 76 = some .struct := by kernel_rfl
theorem tsize_76 : tsize Tryz.prog 76 = some 3 := by kernel_rfl
theorem tagg_76 : tagg Tryz.prog 76 = some true := by kernel_rfl
theorem tzero_76 : tzero Tryz.prog 76 = some [.int .u16 0, .str [], .str []] := by kernel_rfl
theorem tplaces_76 : tplaces Tryz.prog 76 = some [(0, 1), (1, 1), (2, 1)] := by kernel_rfl
theorem srcOk_76 : srcOk Tryz.prog 76 = true := by kernel_rfl
theorem eqg_76 : Tryz.prog.eqGuardType Tryz.prog.depth 76 = false := by kernel_rfl
theorem tfield_76_0 : tfield Tryz.prog 76 0 = some (0, 1, false) := by kernel_rfl
theorem tfield_76_1 : tfield Tryz.prog 76 1 = some (1, 1, false) := by kernel_rfl
theorem tfield_76_2 : tfield Tryz.prog 76 2 = some (2, 1, false) := by kernel_rfl
theorem tsh_77 : tsh Tryz.prog 77 = some (.array 9 76 3) := by kernel_rfl
theorem tsize_77 : tsize Tryz.prog 77 = some 27 := by kernel_rfl
theorem tagg_77 : tagg Tryz.prog 77 = some true := by kernel_rfl
theorem tzero_77 : tzero Tryz.prog 77 = some [.int .u16 0, .str [], .str [], .int .u16 0, .str [], .str [], .int .u16 0, .str [], .str [], .int .u16 0, .str [], .str [], .int .u16 0, .str [], .str [], .int .u16 0, .str [], .str [], .int .u16 0, .str [], .str [], .int .u16 0, .str [], .str [], .int .u16 0, .str [], .str []] := by kernel_rfl
theorem srcOk_77 : srcOk Tryz.prog 77 = true := by kernel_rfl
theorem tsh_78 : tsh Tryz.prog 78 = some .func := by kernel_rfl
theorem tsize_78 : tsize Tryz.prog 78 = some 1 := by kernel_rfl
theorem tagg_78 : tagg Tryz.prog 78 = some false := by kernel_rfl
theorem tzero_78 : tzero Tryz.prog 78 = some [.nilf] := by kernel_rfl
theorem srcOk_78 : srcOk Tryz.prog 78 = true := by kernel_rfl
theorem tsh_79 : tsh Tryz.prog 79 = some .other := by kernel_rfl
theorem tsize_79 : tsize Tryz.prog 79 = some 1 := by kernel_rfl
theorem tagg_79 : tagg Tryz.prog 79 = some false := by kernel_rfl
theorem srcOk_79 : srcOk Tryz.prog 79 = true := by kernel_rfl
theorem tsh_80 : tsh Tryz.prog 80 = some .func := by kernel_rfl
theorem tsize_80 : tsize Tryz.prog 80 = some 1 := by kernel_rfl
theorem tagg_80 : tagg Tryz.prog 80 = some false := by kernel_rfl
theorem tzero_80 : tzero Tryz.prog 80 = some [.nilf] := by kernel_rfl
theorem srcOk_80 : srcOk Tryz.prog 80 = true := by kernel_rfl
theorem tsh_81 : tsh Tryz.prog 81 = some .func := by kernel_rfl
theorem tsize_81 : tsize Tryz.prog 81 = some 1 := by kernel_rfl
theorem tagg_81 : tagg Tryz.prog 81 = some false := by kernel_rfl
theorem tzero_81 : tzero Tryz.prog 81 = some [.nilf] := by kernel_rfl
theorem srcOk_81 : srcOk Tryz.prog 81 = true := by kernel_rfl
theorem tsh_82 : tsh Tryz.prog 82 = some .other := by kernel_rfl
theorem tsize_82 : tsize Tryz.prog 82 = some 1 := by kernel_rfl
theorem tagg_82 : tagg Tryz.prog 82 = some false := by kernel_rfl
theorem srcOk_82 : srcOk Tryz.prog 82 = true := by kernel_rfl
theorem tsh_83 : tsh Tryz.prog 83 = some .func := by kernel_rfl
theorem tsize_83 : tsize Tryz.prog 83 = some 1 := by kernel_rfl
theorem tagg_83 : tagg Tryz.prog 83 = some false := by kernel_rfl
theorem tzero_83 : tzero Tryz.prog 83 = some [.nilf] := by kernel_rfl
theorem srcOk_83 : srcOk Tryz.prog 83 = true := by kernel_rfl
theorem tsh_84 : tsh Tryz.prog 84 = some .func := by kernel_rfl
theorem tsize_84 : tsize Tryz.prog 84 = some 1 := by kernel_rfl
theorem tagg_84 : tagg Tryz.prog 84 = some false := by kernel_rfl
theorem tzero_84 : tzero Tryz.prog 84 = some [.nilf] := by kernel_rfl
theorem srcOk_84 : srcOk Tryz.prog 84 = true := by kernel_rfl
theorem tsh_85 : tsh Tryz.prog 85 = some (.ptr 5) := by kernel_rfl
theorem tsize_85 : tsize Tryz.prog 85 = some 1 := by kernel_rfl
theorem tagg_85 : tagg Tryz.prog 85 = some false := by kernel_rfl
theorem tzero_85 : tzero Tryz.prog 85 = some [.nilp] := by kernel_rfl
theorem srcOk_85 : srcOk Tryz.prog 85 = true := by kernel_rfl
theorem tsh_86 : tsh Tryz.prog 86 = some .func := by kernel_rfl
theorem tsize_86 : tsize Tryz.prog 86 = some 1 := by kernel_rfl
theorem tagg_86 : tagg Tryz.prog 86 = some false := by kernel_rfl
theorem tzero_86 : tzero Tryz.prog 86 = some [.nilf] := by kernel_rfl
theorem srcOk_86 : srcOk Tryz.prog 86 = true := by kernel_rfl
theorem tsh_87 : tsh Tryz.prog 87 = some .func := by kernel_rfl
theorem tsize_87 : tsize Tryz.prog 87 = some 1 := by kernel_rfl
theorem tagg_87 : tagg Tryz.prog 87 = some false := by kernel_rfl
theorem tzero_87 : tzero Tryz.prog 87 = some [.nilf] := by kernel_rfl
theorem srcOk_87 : srcOk Tryz.prog 87 = true := by kernel_rfl
theorem tsh_88 : tsh Tryz.prog 88 = some .func := by kernel_rfl
theorem tsize_88 : tsize Tryz.prog 88 = some 1 := by kernel_rfl
theorem tagg_88 : tagg Tryz.prog 88 = some false := by kernel_rfl
theorem tzero_88 : tzero Tryz.prog 88 = some [.nilf] := by kernel_rfl
theorem srcOk_88 : srcOk Tryz.prog 88 = true := by kernel_rfl
theorem tsh_89 : tsh Tryz.prog 89 = some (.map 23 3) := by kernel_rfl
theorem tsize_89 : tsize Tryz.prog 89 = some 1 := by kernel_rfl
theorem tagg_89 : tagg Tryz.prog 89 = some false := by kernel_rfl
theorem tzero_89 : tzero Tryz.prog 89 = some [.nilm] := by kernel_rfl
theorem srcOk_89 : srcOk Tryz.prog 89 = true := by kernel_rfl
theorem tsh_90 : tsh Tryz.prog 90 = some .struct := by kernel_rfl
theorem tsize_90 : tsize Tryz.prog 90 = some 1 := by kernel_rfl
theorem tagg_90 : tagg Tryz.prog 90 = some true := by kernel_rfl
theorem tzero_90 : tzero Tryz.prog 90 = some [.nilm] := by kernel_rfl
theorem tplaces_90 : tplaces Tryz.prog 90 = some [(0, 1)] := by kernel_rfl
theorem srcOk_90 : srcOk Tryz.prog 90 = true := by kernel_rfl
theorem eqg_90 : Tryz.prog.eqGuardType Tryz.prog.depth 90 = false := by kernel_rfl
theorem tfield_90_0 : tfield Tryz.prog 90 0 = some (0, 1, false) := by kernel_rfl
theorem tsh_91 : tsh Tryz.prog 91 = some .struct := by kernel_rfl
theorem tsize_91 : tsize Tryz.prog 91 = some 1 := by kernel_rfl
theorem tagg_91 : tagg Tryz.prog 91 = some true := by kernel_rfl
theorem tzero_91 : tzero Tryz.prog 91 = some [.nilm] := by kernel_rfl
theorem tplaces_91 : tplaces Tryz.prog 91 = some [(0, 1)] := by kernel_rfl
theorem srcOk_91 : srcOk Tryz.prog 91 = true := by kernel_rfl
theorem eqg_91 : Tryz.prog.eqGuardType Tryz.prog.depth 91 = false := by kernel_rfl
theorem tfield_91_0 : tfield Tryz.prog 91 0 = some (0, 1, false) := by kernel_rfl
theorem tsh_92 : tsh Tryz.prog 92 = some (.slice 3 1 8) := by kernel_rfl
theorem tsize_92 : tsize Tryz.prog 92 = some 1 := by kernel_rfl
theorem tagg_92 : tagg Tryz.prog 92 = some false := by kernel_rfl
theorem tzero_92 : tzero Tryz.prog 92 = some [.nils] := by kernel_rfl
theorem srcOk_92 : srcOk Tryz.prog 92 = true := by kernel_rfl
theorem zok_92 : zok Tryz.prog 3 1 = true := by kernel_rfl
theorem tsh_93 : tsh Tryz.prog 93 = some .other := by kernel_rfl
theorem tsize_93 : tsize Tryz.prog 93 = some 1 := by kernel_rfl
theorem tagg_93 : tagg Tryz.prog 93 = some false := by kernel_rfl
theorem srcOk_93 : srcOk Tryz.prog 93 = true := by kernel_rfl
theorem tsh_94 : tsh Tryz.prog 94 = some .func := by kernel_rfl
theorem tsize_94 : tsize Tryz.prog 94 = some 1 := by kernel_rfl
theorem tagg_94 : tagg Tryz.prog 94 = some false := by kernel_rfl
theorem tzero_94 : tzero Tryz.prog 94 = some [.nilf] := by kernel_rfl
theorem srcOk_94 : srcOk Tryz.prog 94 = true := by kernel_rfl
theorem tsh_95 : tsh Tryz.prog 95 = some .other := by kernel_rfl
theorem tsize_95 : tsize Tryz.prog 95 = some 1 := by kernel_rfl
theorem tagg_95 : tagg Tryz.prog 95 = some false := by kernel_rfl
theorem srcOk_95 : srcOk Tryz.prog 95 = true := by kernel_rfl
theorem tsh_96 : tsh Tryz.prog 96 = some .other := by kernel_rfl
theorem tsize_96 : tsize Tryz.prog 96 = some 1 := by kernel_rfl
theorem tagg_96 : tagg Tryz.prog 96 = some false := by kernel_rfl
theorem srcOk_96 : srcOk Tryz.prog 96 = true := by kernel_rfl
theorem tsh_97 : tsh Tryz.prog 97 = some .func := by kernel_rfl
theorem tsize_97 : tsize Tryz.prog 97 = some 1 := by kernel_rfl
theorem tagg_97 : tagg Tryz.prog 97 = some false := by kernel_rfl
theorem tzero_97 : tzero Tryz.prog 97 = some [.nilf] := by kernel_rfl
theorem srcOk_97 : srcOk Tryz.prog 97 = true := by kernel_rfl
theorem tsh_98 : tsh Tryz.prog 98 = some .func := by kernel_rfl
theorem tsize_98 : tsize Tryz.prog 98 = some 1 := by kernel_rfl
theorem tagg_98 : tagg Tryz.prog 98 = some false := by kernel_rfl
theorem tzero_98 : tzero Tryz.prog 98 = some [.nilf] := by kernel_rfl
theorem srcOk_98 : srcOk Tryz.prog 98 = true := by kernel_rfl
theorem tsh_99 : tsh Tryz.prog 99 = some .func := by kernel_rfl
theorem tsize_99 : tsize Tryz.prog 99 = some 1 := by kernel_rfl
theorem tagg_99 : tagg Tryz.prog 99 = some false := by kernel_rfl
theorem tzero_99 : tzero Tryz.prog 99 = some [.nilf] := by kernel_rfl
theorem srcOk_99 : srcOk Tryz.prog 99 = true := by kernel_rfl
theorem tsh_100 : tsh Tryz.prog 100 = some .func := by kernel_rfl
theorem tsize_100 : tsize Tryz.prog 100 = some 1 := by kernel_rfl
theorem tagg_100 : tagg Tryz.prog 100 = some false := by kernel_rfl
theorem tzero_100 : tzero Tryz.prog 100 = some [.nilf] := by kernel_rfl
theorem srcOk_100 : srcOk Tryz.prog 100 = true := by kernel_rfl
theorem tsh_101 : tsh Tryz.prog 101 = some .func := by kernel_rfl
theorem tsize_101 : tsize Tryz.prog 101 = some 1 := by kernel_rfl
theorem tagg_101 : tagg Tryz.prog 101 = some false := by kernel_rfl
theorem tzero_101 : tzero Tryz.prog 101 = some [.nilf] := by kernel_rfl
theorem srcOk_101 : srcOk Tryz.prog 101 = true := by kernel_rfl
theorem tsh_102 : tsh Tryz.prog 102 = some .other := by kernel_rfl
theorem tsize_102 : tsize Tryz.prog 102 = some 1 := by kernel_rfl
theorem tagg_102 : tagg Tryz.prog 102 = some false := by kernel_rfl
theorem srcOk_102 : srcOk Tryz.prog 102 = true := by kernel_rfl
theorem tsh_103 : tsh Tryz.prog 103 = some .func := by kernel_rfl
theorem tsize_103 : tsize Tryz.prog 103 = some 1 := by kernel_rfl
theorem tagg_103 : tagg Tryz.prog 103 = some false := by kernel_rfl
theorem tzero_103 : tzero Tryz.prog 103 = some [.nilf] := by kernel_rfl
theorem srcOk_103 : srcOk Tryz.prog 103 = true := by kernel_rfl
theorem tsh_104 : tsh Tryz.prog 104 = some .func := by kernel_rfl
theorem tsize_104 : tsize Tryz.prog 104 = some 1 := by kernel_rfl
theorem tagg_104 : tagg Tryz.prog 104 = some false := by kernel_rfl
theorem tzero_104 : tzero Tryz.prog 104 = some [.nilf] := by kernel_rfl
theorem srcOk_104 : srcOk Tryz.prog 104 = true := by kernel_rfl
theorem tsh_105 : tsh Tryz.prog 105 = some .func := by kernel_rfl
theorem tsize_105 : tsize Tryz.prog 105 = some 1 := by kernel_rfl
theorem tagg_105 : tagg Tryz.prog 105 = some false := by kernel_rfl
theorem tzero_105 : tzero Tryz.prog 105 = some [.nilf] := by kernel_rfl
theorem srcOk_105 : srcOk Tryz.prog 105 = true := by kernel_rfl
theorem tsh_106 : tsh Tryz.prog 106 = some .func := by kernel_rfl
theorem tsize_106 : tsize Tryz.prog 106 = some 1 := by kernel_rfl
theorem tagg_106 : tagg Tryz.prog 106 = some false := by kernel_rfl
theorem tzero_106 : tzero Tryz.prog 106 = some [.nilf] := by kernel_rfl
theorem srcOk_106 : srcOk Tryz.prog 106 = true := by kernel_rfl
theorem tsh_107 : tsh Tryz.prog 107 = some (.array 24 5 1) := by kernel_rfl
theorem tsize_107 : tsize Tryz.prog 107 = some 24 := by kernel_rfl
theorem tagg_107 : tagg Tryz.prog 107 = some true := by kernel_rfl
theorem tzero_107 : tzero Tryz.prog 107 = some [.int .u8 0, .int .u8 0, .int .u8 0, .int .u8 0, .int .u8 0, .int .u8 0, .int .u8 0, .int .u8 0, .int .u8 0, .int .u8 0, .int .u8 0, .int .u8 0, .int .u8 0, .int .u8 0, .int .u8 0, .int .u8 0, .int .u8 0, .int .u8 0, .int .u8 0, .int .u8 0, .int .u8 0, .int .u8 0, .int .u8 0, .int .u8 0] := by kernel_rfl
theorem srcOk_107 : srcOk Tryz.prog 107 = true := by kernel_rfl
theorem tsh_108 : tsh Tryz.prog 108 = some .func := by kernel_rfl
theorem tsize_108 : tsize Tryz.prog 108 = some 1 := by kernel_rfl
theorem tagg_108 : tagg Tryz.prog 108 = some false := by kernel_rfl
theorem tzero_108 : tzero Tryz.prog 108 = some [.nilf] := by kernel_rfl
theorem srcOk_108 : srcOk Tryz.prog 108 = true := by kernel_rfl
theorem tsh_109 : tsh Tryz.prog 109 = some .func := by kernel_rfl
theorem tsize_109 : tsize Tryz.prog 109 = some 1 := by kernel_rfl
theorem tagg_109 : tagg Tryz.prog 109 = some false := by kernel_rfl
theorem tzero_109 : tzero Tryz.prog 109 = some [.nilf] := by kernel_rfl
theorem srcOk_109 : srcOk Tryz.prog 109 = true := by kernel_rfl
theorem tsh_110 : tsh Tryz.prog 110 = some .other := by kernel_rfl
theorem tsize_110 : tsize Tryz.prog 110 = some 1 := by kernel_rfl
theorem tagg_110 : tagg Tryz.prog 110 = some false := by kernel_rfl
theorem srcOk_110 : srcOk Tryz.prog 110 = true := by kernel_rfl
theorem tsh_111 : tsh Tryz.prog 111 = some .func := by kernel_rfl
theorem tsize_111 : tsize Tryz.prog 111 = some 1 := by kernel_rfl
theorem tagg_111 : tagg Tryz.prog 111 = some false := by kernel_rfl
theorem tzero_111 : tzero Tryz.prog 111 = some [.nilf] := by kernel_rfl
theorem srcOk_111 : srcOk Tryz.prog 111 = true := by kernel_rfl
theorem tsh_112 : tsh Tryz.prog 112 = some .func := by kernel_rfl
theorem tsize_112 : tsize Tryz.prog 112 = some 1 := by kernel_rfl
theorem tagg_112 : tagg Tryz.prog 112 = some false := by kernel_rfl
theorem tzero_112 : tzero Tryz.prog 112 = some [.nilf] := by kernel_rfl
theorem srcOk_112 : srcOk Tryz.prog 112 = true := by kernel_rfl
theorem tsh_113 : tsh Tryz.prog 113 = some .other := by kernel_rfl
theorem tsize_113 : tsize Tryz.prog 113 = some 1 := by kernel_rfl
theorem tagg_113 : tagg Tryz.prog 113 = some false := by kernel_rfl
theorem srcOk_113 : srcOk Tryz.prog 113 = true := by kernel_rfl
theorem tsh_114 : tsh Tryz.prog 114 = some .func := by kernel_rfl
theorem tsize_114 : tsize Tryz.prog 114 = some 1 := by kernel_rfl
theorem tagg_114 : tagg Tryz.prog 114 = some false := by kernel_rfl
theorem tzero_114 : tzero Tryz.prog 114 = some [.nilf] := by kernel_rfl
theorem srcOk_114 : srcOk Tryz.prog 114 = true := by kernel_rfl
theorem tsh_115 : tsh Tryz.prog 115 = some .upt := by kernel_rfl
theorem tsize_115 : tsize Tryz.prog 115 = some 1 := by kernel_rfl
theorem tagg_115 : tagg Tryz.prog 115 = some false := by kernel_rfl
theorem tzero_115 : tzero Tryz.prog 115 = some [.nilp] := by kernel_rfl
theorem srcOk_115 : srcOk Tryz.prog 115 = true := by kernel_rfl
theorem tsh_116 : tsh Tryz.prog 116 = some .func := by kernel_rfl
theorem tsize_116 : tsize Tryz.prog 116 = some 1 := by kernel_rfl
theorem tagg_116 : tagg Tryz.prog 116 = some false := by kernel_rfl
theorem tzero_116 : tzero Tryz.prog 116 = some [.nilf] := by kernel_rfl
theorem srcOk_116 : srcOk Tryz.prog 116 = true := by kernel_rfl
theorem tsh_117 : tsh Tryz.prog 117 = some .func := by kernel_rfl
theorem tsize_117 : tsize Tryz.prog 117 = some 1 := by kernel_rfl
theorem tagg_117 : tagg Tryz.prog 117 = some false := by kernel_rfl
theorem tzero_117 : tzero Tryz.prog 117 = some [.nilf] := by kernel_rfl
theorem srcOk_117 : srcOk Tryz.prog 117 = true := by kernel_rfl
theorem tsh_118 : tsh Tryz.prog 118 = some .func := by kernel_rfl
theorem tsize_118 : tsize Tryz.prog 118 = some 1 := by kernel_rfl
theorem tagg_118 : tagg Tryz.prog 118 = some false := by kernel_rfl
theorem tzero_118 : tzero Tryz.prog 118 = some [.nilf] := by kernel_rfl
theorem srcOk_118 : srcOk Tryz.prog 118 = true := by kernel_rfl
theorem tsh_119 : tsh Tryz.prog 119 = some .other := by kernel_rfl
theorem tsize_119 : tsize Tryz.prog 119 = some 1 := by kernel_rfl
theorem tagg_119 : tagg Tryz.prog 119 = some false := by kernel_rfl
theorem srcOk_119 : srcOk Tryz.prog 119 = true := by kernel_rfl
theorem tsh_120 : tsh Tryz.prog 120 = some .func := by kernel_rfl
theorem tsize_120 : tsize Tryz.prog 120 = some 1 := by kernel_rfl
theorem tagg_120 : tagg Tryz.prog 120 = some false := by kernel_rfl
theorem tzero_120 : tzero Tryz.prog 120 = some [.nilf] := by kernel_rfl
theorem srcOk_120 : srcOk Tryz.prog 120 = true := by kernel_rfl
theorem tsh_121 : tsh Tryz.prog 121 = some .func := by kernel_rfl
theorem tsize_121 : tsize Tryz.prog 121 = some 1 := by kernel_rfl
theorem tagg_121 : tagg Tryz.prog 121 = some false := by kernel_rfl
theorem tzero_121 : tzero Tryz.prog 121 = some [.nilf] := by kernel_rfl
theorem srcOk_121 : srcOk Tryz.prog 121 = true := by kernel_rfl
theorem tsh_122 : tsh Tryz.prog 122 = some (.ptr 124) := by kernel_rfl
theorem tsize_122 : tsize Tryz.prog 122 = some 1 := by kernel_rfl
theorem tagg_122 : tagg Tryz.prog 122 = some false := by kernel_rfl
theorem tzero_122 : tzero Tryz.prog 122 = some [.nilp] := by kernel_rfl
theorem srcOk_122 : srcOk Tryz.prog 122 = true := by kernel_rfl
theorem tsh_123 : tsh Tryz.prog 123 = some .struct := by kernel_rfl
theorem tsize_123 : tsize Tryz.prog 123 = some 12 := by kernel_rfl
theorem tagg_123 : tagg Tryz.prog 123 = some true := by kernel_rfl
theorem tzero_123 : tzero Tryz.prog 123 = some [.nils, .int .i64 0, .int .i64 0, .str [], .str [], .str [], .int .u32 0, .int .u32 0, .int .u32 0, .int .u32 0, .int .u32 0, .int .i64 0] := by kernel_rfl
theorem tplaces_123 : tplaces Tryz.prog 123 = some [(0, 1), (1, 1), (2, 1), (3, 8), (11, 1)] := by kernel_rfl
theorem srcOk_123 : srcOk Tryz.prog 123 = true := by kernel_rfl
theorem eqg_123 : Tryz.prog.eqGuardType Tryz.prog.depth 123 = false := by kernel_rfl
theorem tfield_123_0 : tfield Tryz.prog 123 0 = some (0, 1, false) := by kernel_rfl
theorem tfield_123_1 : tfield Tryz.prog 123 1 = some (1, 1, false) := by kernel_rfl
theorem tfield_123_2 : tfield Tryz.prog 123 2 = some (2, 1, false) := by kernel_rfl
theorem tfield_123_3 : tfield Tryz.prog 123 3 = some (3, 8, true) := by kernel_rfl
theorem tfield_123_4 : tfield Tryz.prog 123 4 = some (11, 1, false) := by kernel_rfl
theorem tsh_124 : tsh Tryz.prog 124 = some .struct := by kernel_rfl
theorem tsize_124 : tsize Tryz.prog 124 = some 12 := by kernel_rfl
theorem tagg_124 : tagg Tryz.prog 124 = some true := by kernel_rfl
theorem tzero_124 : tzero Tryz.prog 124 = some [.nils, .int .i64 0, .int .i64 0, .str [], .str [], .str [], .int .u32 0, .int .u32 0, .int .u32 0, .int .u32 0, .int .u32 0, .int .i64 0] := by kernel_rfl
theorem tplaces_124 : tplaces Tryz.prog 124 = some [(0, 1), (1, 1), (2, 1), (3, 8), (11, 1)] := by kernel_rfl
theorem srcOk_124 : srcOk Tryz.prog 124 = true := by kernel_rfl
theorem eqg_124 : Tryz.prog.eqGuardType Tryz.prog.depth 124 = false := by kernel_rfl
theorem tfield_124_0 : tfield Tryz.prog 124 0 = some (0, 1, false) := by kernel_rfl
theorem tfield_124_1 : tfield Tryz.prog 124 1 = some (1, 1, false) := by kernel_rfl
theorem tfield_124_2 : tfield Tryz.prog 124 2 = some (2, 1, false) := by kernel_rfl
theorem tfield_124_3 : tfield Tryz.prog 124 3 = some (3, 8, true) := by kernel_rfl
theorem tfield_124_4 : tfield Tryz.prog 124 4 = some (11, 1, false) := by kernel_rfl
theorem tsh_125 : tsh Tryz.prog 125 = some .other := by kernel_rfl
theorem tsize_125 : tsize Tryz.prog 125 = some 1 := by kernel_rfl
theorem tagg_125 : tagg Tryz.prog 125 = some false := by kernel_rfl
theorem srcOk_125 : srcOk Tryz.prog 125 = true := by kernel_rfl
theorem tsh_126 : tsh Tryz.prog 126 = some .func := by kernel_rfl
theorem tsize_126 : tsize Tryz.prog 126 = some 1 := by kernel_rfl
theorem tagg_126 : tagg Tryz.prog 126 = some false := by kernel_rfl
theorem tzero_126 : tzero Tryz.prog 126 = some [.nilf] := by kernel_rfl
theorem srcOk_126 : srcOk Tryz.prog 126 = true := by kernel_rfl
theorem tsh_127 : tsh Tryz.prog 127 = some .func := by kernel_rfl
theorem tsize_127 : tsize Tryz.prog 127 = some 1 := by kernel_rfl
theorem tagg_127 : tagg Tryz.prog 127 = some false := by kernel_rfl
theorem tzero_127 : tzero Tryz.prog 127 = some [.nilf] := by kernel_rfl
theorem srcOk_127 : srcOk Tryz.prog 127 = true := by kernel_rfl
theorem tsh_128 : tsh Tryz.prog 128 = some .other := by kernel_rfl
theorem tsize_128 : tsize Tryz.prog 128 = some 1 := by kernel_rfl
theorem tagg_128 : tagg Tryz.prog 128 = some false := by kernel_rfl
theorem srcOk_128 : srcOk Tryz.prog 128 = true := by kernel_rfl
theorem tsh_129 : tsh Tryz.prog 129 = some .func := by kernel_rfl
theorem tsize_129 : tsize Tryz.prog 129 = some 1 := by kernel_rfl
theorem tagg_129 : tagg Tryz.prog 129 = some false := by kernel_rfl
theorem tzero_129 : tzero Tryz.prog 129 = some [.nilf] := by kernel_rfl
theorem srcOk_129 : srcOk Tryz.prog 129 = true := by kernel_rfl
theorem tsh_130 : tsh Tryz.prog 130 = some .func := by kernel_rfl
theorem tsize_130 : tsize Tryz.prog 130 = some 1 := by kernel_rfl
theorem tagg_130 : tagg Tryz.prog 130 = some false := by kernel_rfl
theorem tzero_130 : tzero Tryz.prog 130 = some [.nilf] := by kernel_rfl
theorem srcOk_130 : srcOk Tryz.prog 130 = true := by kernel_rfl
theorem tsh_131 : tsh Tryz.prog 131 = some .func := by kernel_rfl
theorem tsize_131 : tsize Tryz.prog 131 = some 1 := by kernel_rfl
theorem tagg_131 : tagg Tryz.prog 131 = some false := by kernel_rfl
theorem tzero_131 : tzero Tryz.prog 131 = some [.nilf] := by kernel_rfl
theorem srcOk_131 : srcOk Tryz.prog 131 = true := by kernel_rfl
theorem tsh_132 : tsh Tryz.prog 132 = some .func := by kernel_rfl
theorem tsize_132 : tsize Tryz.prog 132 = some 1 := by kernel_rfl
theorem tagg_132 : tagg Tryz.prog 132 = some false := by kernel_rfl
theorem tzero_132 : tzero Tryz.prog 132 = some [.nilf] := by kernel_rfl
theorem srcOk_132 : srcOk Tryz.prog 132 = true := by kernel_rfl
theorem tsh_133 : tsh Tryz.prog 133 = some .func := by kernel_rfl
theorem tsize_133 : tsize Tryz.prog 133 = some 1 := by kernel_rfl
theorem tagg_133 : tagg Tryz.prog 133 = some false := by kernel_rfl
theorem tzero_133 : tzero Tryz.prog 133 = some [.nilf] := by kernel_rfl
theorem srcOk_133 : srcOk Tryz.prog 133 = true := by kernel_rfl
theorem tsh_134 : tsh Tryz.prog 134 = some (.array 20 42 1) := by kernel_rfl
theorem tsize_134 : tsize Tryz.prog 134 = some 20 := by kernel_rfl
theorem tagg_134 : tagg Tryz.prog 134 = some true := by kernel_rfl
theorem tzero_134 : tzero Tryz.prog 134 = some [.int .u64 0, .int .u64 0, .int .u64 0, .int .u64 0, .int .u64 0, .int .u64 0, .int .u64 0, .int .u64 0, .int .u64 0, .int .u64 0, .int .u64 0, .int .u64 0, .int .u64 0, .int .u64 0, .int .u64 0, .int .u64 0, .int .u64 0, .int .u64 0, .int .u64 0, .int .u64 0] := by kernel_rfl
theorem srcOk_134 : srcOk Tryz.prog 134 = true := by kernel_rfl
theorem tsh_135 : tsh Tryz.prog 135 = some (.array 65 5 1) := by kernel_rfl
theorem tsize_135 : tsize Tryz.prog 135 = some 65 := by kernel_rfl
theorem tagg_135 : tagg Tryz.prog 135 = some true := by kernel_rfl
theorem tzero_135 : tzero Tryz.prog 135 = some [.int .u8 0, .int .u8 0, .int .u8 0, .int .u8 0, .int .u8 0, .int .u8 0, .int .u8 0, .int .u8 0, .int .u8 0, .int .u8 0, .int .u8 0, .int .u8 0, .int .u8 0, .int .u8 0, .int .u8 0, .int .u8 0, .int .u8 0, .int .u8 0, .int .u8 0, .int .u8 0, .int .u8 0, .int .u8 0, .int .u8 0, .int .u8 0, .int .u8 0, .int .u8 0, .int .u8 0, .int .u8 0, .int .u8 0, .int .u8 0, .int .u8 0, .int .u8 0, .int .u8 0, .int .u8 0, .int .u8 0, .int .u8 0, .int .u8 0, .int .u8 0, .int .u8 0, .int .u8 0, .int .u8 0, .int .u8 0, .int .u8 0, .int .u8 0, .int .u8 0, .int .u8 0, .int .u8 0, .int .u8 0, .int .u8 0, .int .u8 0, .int .u8 0, .int .u8 0, .int .u8 0, .int .u8 0, .int .u8 0, .int .u8 0, .int .u8 0, .int .u8 0, .int .u8 0, .int .u8 0, .int .u8 0, .int .u8 0, .int .u8 0, .int .u8 0, .int .u8 0] := by kernel_rfl
theorem srcOk_135 : srcOk Tryz.prog 135 = true := by kernel_rfl
theorem tsh_136 : tsh Tryz.prog 136 = some .func := by kernel_rfl
theorem tsize_136 : tsize Tryz.prog 136 = some 1 := by kernel_rfl
theorem tagg_136 : tagg Tryz.prog 136 = some false := by kernel_rfl
theorem tzero_136 : tzero Tryz.prog 136 = some [.nilf] := by kernel_rfl
theorem srcOk_136 : srcOk Tryz.prog 136 = true := by kernel_rfl
theorem tsh_137 : tsh Tryz.prog 137 = some .func := by kernel_rfl
theorem tsize_137 : tsize Tryz.prog 137 = some 1 := by kernel_rfl
theorem tagg_137 : tagg Tryz.prog 137 = some false := by kernel_rfl
theorem tzero_137 : tzero Tryz.prog 137 = some [.nilf] := by kernel_rfl
theorem srcOk_137 : srcOk Tryz.prog 137 = true := by kernel_rfl
theorem tsh_138 : tsh Tryz.prog 138 = some .func := by kernel_rfl
theorem tsize_138 : tsize Tryz.prog 138 = some 1 := by kernel_rfl
theorem tagg_138 : tagg Tryz.prog 138 = some false := by kernel_rfl
theorem tzero_138 : tzero Tryz.prog 138 = some [.nilf] := by kernel_rfl
theorem srcOk_138 : srcOk Tryz.prog 138 = true := by kernel_rfl
theorem tsh_139 : tsh Tryz.prog 139 = some .func := by kernel_rfl
theorem tsize_139 : tsize Tryz.prog 139 = some 1 := by kernel_rfl
theorem tagg_139 : tagg Tryz.prog 139 = some false := by kernel_rfl
theorem tzero_139 : tzero Tryz.prog 139 = some [.nilf] := by kernel_rfl
theorem srcOk_139 : srcOk Tryz.prog 139 = true := by kernel_rfl
theorem tsh_140 : tsh Tryz.prog 140 = some .func := by kernel_rfl
theorem tsize_140 : tsize Tryz.prog 140 = some 1 := by kernel_rfl
theorem tagg_140 : tagg Tryz.prog 140 = some false := by kernel_rfl
theorem tzero_140 : tzero Tryz.prog 140 = some [.nilf] := by kernel_rfl
theorem srcOk_140 : srcOk Tryz.prog 140 = true := by kernel_rfl
theorem tsh_141 : tsh Tryz.prog 141 = some .other := by kernel_rfl
theorem tsize_141 : tsize Tryz.prog 141 = some 1 := by kernel_rfl
theorem tagg_141 : tagg Tryz.prog 141 = some false := by kernel_rfl
theorem srcOk_141 : srcOk Tryz.prog 141 = true := by kernel_rfl
theorem tsh_142 : tsh Tryz.prog 142 = some .func := by kernel_rfl
theorem tsize_142 : tsize Tryz.prog 142 = some 1 := by kernel_rfl
theorem tagg_142 : tagg Tryz.prog 142 = some false := by kernel_rfl
theorem tzero_142 : tzero Tryz.prog 142 = some [.nilf] := by kernel_rfl
theorem srcOk_142 : srcOk Tryz.prog 142 = true := by kernel_rfl
theorem tsh_143 : tsh Tryz.prog 143 = some .func := by kernel_rfl
theorem tsize_143 : tsize Tryz.prog 143 = some 1 := by kernel_rfl
theorem tagg_143 : tagg Tryz.prog 143 = some false := by kernel_rfl
theorem tzero_143 : tzero Tryz.prog 143 = some [.nilf] := by kernel_rfl
theorem srcOk_143 : srcOk Tryz.prog 143 = true := by kernel_rfl
theorem tsh_144 : tsh Tryz.prog 144 = some .func := by kernel_rfl
theorem tsize_144 : tsize Tryz.prog 144 = some 1 := by kernel_rfl
theorem tagg_144 : tagg Tryz.prog 144 = some false := by kernel_rfl
theorem tzero_144 : tzero Tryz.prog 144 = some [.nilf] := by kernel_rfl
theorem srcOk_144 : srcOk Tryz.prog 144 = true := by kernel_rfl
theorem tsh_145 : tsh Tryz.prog 145 = some .func := by kernel_rfl
theorem tsize_145 : tsize Tryz.prog 145 = some 1 := by kernel_rfl
theorem tagg_145 : tagg Tryz.prog 145 = some false := by kernel_rfl
theorem tzero_145 : tzero Tryz.prog 145 = some [.nilf] := by kernel_rfl
theorem srcOk_145 : srcOk Tryz.prog 145 = true := by kernel_rfl
theorem tsh_146 : tsh Tryz.prog 146 = some .func := by kernel_rfl
theorem tsize_146 : tsize Tryz.prog 146 = some 1 := by kernel_rfl
theorem tagg_146 : tagg Tryz.prog 146 = some false := by kernel_rfl
theorem tzero_146 : tzero Tryz.prog 146 = some [.nilf] := by kernel_rfl
theorem srcOk_146 : srcOk Tryz.prog 146 = true := by kernel_rfl
theorem tsh_147 : tsh Tryz.prog 147 = some .other := by kernel_rfl
theorem tsize_147 : tsize Tryz.prog 147 = some 1 := by kernel_rfl
theorem tagg_147 : tagg Tryz.prog 147 = some false := by kernel_rfl
theorem srcOk_147 : srcOk Tryz.prog 147 = true := by kernel_rfl
theorem tsh_148 : tsh Tryz.prog 148 = some .func := by kernel_rfl
theorem tsize_148 : tsize Tryz.prog 148 = some 1 := by kernel_rfl
theorem tagg_148 : tagg Tryz.prog 148 = some false := by kernel_rfl
theorem tzero_148 : tzero Tryz.prog 148 = some [.nilf] := by kernel_rfl
theorem srcOk_148 : srcOk Tryz.prog 148 = true := by kernel_rfl
theorem tsh_149 : tsh Tryz.prog 149 = some .other := by kernel_rfl
theorem tsize_149 : tsize Tryz.prog 149 = some 1 := by kernel_rfl
theorem tagg_149 : tagg Tryz.prog 149 = some false := by kernel_rfl
theorem srcOk_149 : srcOk Tryz.prog 149 = true := by kernel_rfl
theorem tsh_150 : tsh Tryz.prog 150 = some .func := by kernel_rfl
theorem tsize_150 : tsize Tryz.prog 150 = some 1 := by kernel_rfl
theorem tagg_150 : tagg Tryz.prog 150 = some false := by kernel_rfl
theorem tzero_150 : tzero Tryz.prog 150 = some [.nilf] := by kernel_rfl
theorem srcOk_150 : srcOk Tryz.prog 150 = true := by kernel_rfl
theorem tsh_151 : tsh Tryz.prog 151 = some .func := by kernel_rfl
theorem tsize_151 : tsize Tryz.prog 151 = some 1 := by kernel_rfl
theorem tagg_151 : tagg Tryz.prog 151 = some false := by kernel_rfl
theorem tzero_151 : tzero Tryz.prog 151 = some [.nilf] := by kernel_rfl
theorem srcOk_151 : srcOk Tryz.prog 151 = true := by kernel_rfl
theorem tsh_152 : tsh Tryz.prog 152 = some .func := by kernel_rfl
theorem tsize_152 : tsize Tryz.prog 152 = some 1 := by kernel_rfl
theorem tagg_152 : tagg Tryz.prog 152 = some false := by kernel_rfl
theorem tzero_152 : tzero Tryz.prog 152 = some [.nilf] := by kernel_rfl
theorem srcOk_152 : srcOk Tryz.prog 152 = true := by kernel_rfl
theorem tsh_153 : tsh Tryz.prog 153 = some .other := by kernel_rfl
theorem tsize_153 : tsize Tryz.prog 153 = some 1 := by kernel_rfl
theorem tagg_153 : tagg Tryz.prog 153 = some false := by kernel_rfl
theorem srcOk_153 : srcOk Tryz.prog 153 = true := by kernel_rfl
theorem tsh_154 : tsh Tryz.prog 154 = some .func := by kernel_rfl
theorem tsize_154 : tsize Tryz.prog 154 = some 1 := by kernel_rfl
theorem tagg_154 : tagg Tryz.prog 154 = some false := by kernel_rfl
theorem tzero_154 : tzero Tryz.prog 154 = some [.nilf] := by kernel_rfl
theorem srcOk_154 : srcOk Tryz.prog 154 = true := by kernel_rfl
theorem tsh_155 : tsh Tryz.prog 155 = some (.int .i64) := by kernel_rfl
theorem tsize_155 : tsize Tryz.prog 155 = some 1 := by kernel_rfl
theorem tagg_155 : tagg Tryz.prog 155 = some false := by kernel_rfl
theorem tzero_155 : tzero Tryz.prog 155 = some [.int .i64 0] := by kernel_rfl
theorem srcOk_155 : srcOk Tryz.prog 155 = false := by kernel_rfl
theorem tsh_156 : tsh Tryz.prog 156 = some .func := by kernel_rfl
theorem tsize_156 : tsize Tryz.prog 156 = some 1 := by kernel_rfl
theorem tagg_156 : tagg Tryz.prog 156 = some false := by kernel_rfl
theorem tzero_156 : tzero Tryz.prog 156 = some [.nilf] := by kernel_rfl
theorem srcOk_156 : srcOk Tryz.prog 156 = true := by kernel_rfl
theorem tsh_157 : tsh Tryz.prog 157 = some .func := by kernel_rfl
theorem tsize_157 : tsize Tryz.prog 157 = some 1 := by kernel_rfl
theorem tagg_157 : tagg Tryz.prog 157 = some false := by kernel_rfl
theorem tzero_157 : tzero Tryz.prog 157 = some [.nilf] := by kernel_rfl
theorem srcOk_157 : srcOk Tryz.prog 157 = true := by kernel_rfl
theorem tsh_158 : tsh Tryz.prog 158 = some (.ptr 169) := by kernel_rfl
theorem tsize_158 : tsize Tryz.prog 158 = some 1 := by kernel_rfl
theorem tagg_158 : tagg Tryz.prog 158 = some false := by kernel_rfl
theorem tzero_158 : tzero Tryz.prog 158 = some [.nilp] := by kernel_rfl
theorem srcOk_158 : srcOk Tryz.prog 158 = true := by kernel_rfl
theorem tsh_159 : tsh Tryz.prog 159 = some .func := by kernel_rfl
theorem tsize_159 : tsize Tryz.prog 159 = some 1 := by kernel_rfl
theorem tagg_159 : tagg Tryz.prog 159 = some false := by kernel_rfl
theorem tzero_159 : tzero Tryz.prog 159 = some [.nilf] := by kernel_rfl
theorem srcOk_159 : srcOk Tryz.prog 159 = true := by kernel_rfl
theorem tsh_160 : tsh Tryz.prog 160 = some .func := by kernel_rfl
theorem tsize_160 : tsize Tryz.prog 160 = some 1 := by kernel_rfl
theorem tagg_160 : tagg Tryz.prog 160 = some false := by kernel_rfl
theorem tzero_160 : tzero Tryz.prog 160 = some [.nilf] := by kernel_rfl
theorem srcOk_160 : srcOk Tryz.prog 160 = true := by kernel_rfl
theorem tsh_161 : tsh Tryz.prog 161 = some .other := by kernel_rfl
theorem tsize_161 : tsize Tryz.prog 161 = some 1 := by kernel_rfl
theorem tagg_161 : tagg Tryz.prog 161 = some false := by kernel_rfl
theorem srcOk_161 : srcOk Tryz.prog 161 = true := by kernel_rfl
theorem tsh_162 : tsh Tryz.prog 162 = some .func := by kernel_rfl
theorem tsize_162 : tsize Tryz.prog 162 = some 1 := by kernel_rfl
theorem tagg_162 : tagg Tryz.prog 162 = some false := by kernel_rfl
theorem tzero_162 : tzero Tryz.prog 162 = some [.nilf] := by kernel_rfl
theorem srcOk_162 : srcOk Tryz.prog 162 = true := by kernel_rfl
theorem tsh_163 : tsh Tryz.prog 163 = some .func := by kernel_rfl
theorem tsize_163 : tsize Tryz.prog 163 = some 1 := by kernel_rfl
theorem tagg_163 : tagg Tryz.prog 163 = some false := by kernel_rfl
theorem tzero_163 : tzero Tryz.prog 163 = some [.nilf] := by kernel_rfl
theorem srcOk_163 : srcOk Tryz.prog 163 = true := by kernel_rfl
theorem tsh_164 : tsh Tryz.prog 164 = some .other := by kernel_rfl
theorem tsize_164 : tsize Tryz.prog 164 = some 1 := by kernel_rfl
theorem tagg_164 : tagg Tryz.prog 164 = some false := by kernel_rfl
theorem srcOk_164 : srcOk Tryz.prog 164 = true := by kernel_rfl
theorem tsh_165 : tsh Tryz.prog 165 = some .func := by kernel_rfl
theorem tsize_165 : tsize Tryz.prog 165 = some 1 := by kernel_rfl
theorem tagg_165 : tagg Tryz.prog 165 = some false := by kernel_rfl
theorem tzero_165 : tzero Tryz.prog 165 = some [.nilf] := by kernel_rfl
theorem srcOk_165 : srcOk Tryz.prog 165 = true := by kernel_rfl
theorem tsh_166 : tsh Tryz.prog 166 = some (.array 32 5 1) := by kernel_rfl
theorem tsize_166 : tsize Tryz.prog 166 = some 32 := by kernel_rfl
theorem tagg_166 : tagg Tryz.prog 166 = some true := by kernel_rfl
theorem tzero_166 : tzero Tryz.prog 166 = some [.int .u8 0, .int .u8 0, .int .u8 0, .int .u8 0, .int .u8 0, .int .u8 0, .int .u8 0, .int .u8 0, .int .u8 0, .int .u8 0, .int .u8 0, .int .u8 0, .int .u8 0, .int .u8 0, .int .u8 0, .int .u8 0, .int .u8 0, .int .u8 0, .int .u8 0, .int .u8 0, .int .u8 0, .int .u8 0, .int .u8 0, .int .u8 0, .int .u8 0, .int .u8 0, .int .u8 0, .int .u8 0, .int .u8 0, .int .u8 0, .int .u8 0, .int .u8 0] := by kernel_rfl
theorem srcOk_166 : srcOk Tryz.prog 166 = true := by kernel_rfl
theorem tsh_167 : tsh Tryz.prog 167 = some (.array 64 5 1) := by kernel_rfl
theorem tsize_167 : tsize Tryz.prog 167 = some 64 := by kernel_rfl
theorem tagg_167 : tagg Tryz.prog 167 = some true := by kernel_rfl
theorem tzero_167 : tzero Tryz.prog 167 = some [.int .u8 0, .int .u8 0, .int .u8 0, .int .u8 0, .int .u8 0, .int .u8 0, .int .u8 0, .int .u8 0, .int .u8 0, .int .u8 0, .int .u8 0, .int .u8 0, .int .u8 0, .int .u8 0, .int .u8 0, .int .u8 0, .int .u8 0, .int .u8 0, .int .u8 0, .int .u8 0, .int .u8 0, .int .u8 0, .int .u8 0, .int .u8 0, .int .u8 0, .int .u8 0, .int .u8 0, .int .u8 0, .int .u8 0, .int .u8 0, .int .u8 0, .int .u8 0, .int .u8 0, .int .u8 0, .int .u8 0, .int .u8 0, .int .u8 0, .int .u8 0, .int .u8 0, .int .u8 0, .int .u8 0, .int .u8 0, .int .u8 0, .int .u8 0, .int .u8 0, .int .u8 0, .int .u8 0, .int .u8 0, .int .u8 0, .int .u8 0, .int .u8 0, .int .u8 0, .int .u8 0, .int .u8 0, .int .u8 0, .int .u8 0, .int .u8 0, .int .u8 0, .int .u8 0, .int .u8 0, .int .u8 0, .int .u8 0, .int .u8 0, .int .u8 0] := by kernel_rfl
theorem srcOk_167 : srcOk Tryz.prog 167 = true := by kernel_rfl
theorem tsh_168 : tsh Tryz.prog 168 = some .struct := by kernel_rfl
theorem tsize_168 : tsize Tryz.prog 168 = some 3 := by kernel_rfl
theorem tagg_168 : tagg Tryz.prog 168 = some true := by kernel_rfl
theorem tzero_168 : tzero Tryz.prog 168 = some [.str [], .str [], .nili] := by kernel_rfl
theorem tplaces_168 : tplaces Tryz.prog 168 = some [(0, 1), (1, 1), (2, 1)] := by kernel_rfl
theorem srcOk_168 : srcOk Tryz.prog 168 = true := by kernel_rfl
theorem tfield_168_0 : tfield Tryz.prog 168 0 = some (0, 1, false) := by kernel_rfl
theorem tfield_168_1 : tfield Tryz.prog 168 1 = some (1, 1, false) := by kernel_rfl
theorem tfield_168_2 : tfield Tryz.prog 168 2 = some (2, 1, false) := by kernel_rfl
theorem tsh_169 : tsh Tryz.prog 169 = some .struct := by kernel_rfl
theorem tsize_169 : tsize Tryz.prog 169 = some 3 := by kernel_rfl
theorem tagg_169 : tagg Tryz.prog 169 = some true := by kernel_rfl
theorem tzero_169 : tzero Tryz.prog 169 = some [.str [], .str [], .nili] := by kernel_rfl
theorem tplaces_169 : tplaces Tryz.prog 169 = some [(0, 1), (1, 1), (2, 1)] := by kernel_rfl
theorem srcOk_169 : srcOk Tryz.prog 169 = true := by kernel_rfl
theorem tfield_169_0 : tfield Tryz.prog 169 0 = some (0, 1, false) := by kernel_rfl
theorem tfield_169_1 : tfield Tryz.prog 169 1 = some (1, 1, false) := by kernel_rfl
theorem tfield_169_2 : tfield Tryz.prog 169 2 = some (2, 1, false) := by kernel_rfl
theorem tsh_170 : tsh Tryz.prog 170 = some .func := by kernel_rfl
theorem tsize_170 : tsize Tryz.prog 170 = some 1 := by kernel_rfl
theorem tagg_170 : tagg Tryz.prog 170 = some false := by kernel_rfl
theorem tzero_170 : tzero Tryz.prog 170 = some [.nilf] := by kernel_rfl
theorem srcOk_170 : srcOk Tryz.prog 170 = true := by kernel_rfl
theorem tsh_171 : tsh Tryz.prog 171 = some .other := by kernel_rfl
theorem tsize_171 : tsize Tryz.prog 171 = some 1 := by kernel_rfl
theorem tagg_171 : tagg Tryz.prog 171 = some false := by kernel_rfl
theorem srcOk_171 : srcOk Tryz.prog 171 = true := by kernel_rfl
theorem tsh_172 : tsh Tryz.prog 172 = some .func := by kernel_rfl
theorem tsize_172 : tsize Tryz.prog 172 = some 1 := by kernel_rfl
theorem tagg_172 : tagg Tryz.prog 172 = some false := by kernel_rfl
theorem tzero_172 : tzero Tryz.prog 172 = some [.nilf] := by kernel_rfl
theorem srcOk_172 : srcOk Tryz.prog 172 = true := by kernel_rfl
theorem tsh_173 : tsh Tryz.prog 173 = some .func := by kernel_rfl
theorem tsize_173 : tsize Tryz.prog 173 = some 1 := by kernel_rfl
theorem tagg_173 : tagg Tryz.prog 173 = some false := by kernel_rfl
theorem tzero_173 : tzero Tryz.prog 173 = some [.nilf] := by kernel_rfl
theorem srcOk_173 : srcOk Tryz.prog 173 = true := by kernel_rfl
theorem tsh_174 : tsh Tryz.prog 174 = some (.ptr 176) := by kernel_rfl
theorem tsize_174 : tsize Tryz.prog 174 = some 1 := by kernel_rfl
theorem tagg_174 : tagg Tryz.prog 174 = some false := by kernel_rfl
theorem tzero_174 : tzero Tryz.prog 174 = some [.nilp] := by kernel_rfl
theorem srcOk_174 : srcOk Tryz.prog 174 = true := by kernel_rfl
theorem tsh_175 : tsh Tryz.prog 175 = some .struct := by kernel_rfl
theorem tsize_175 : tsize Tryz.prog 175 = some 1 := by kernel_rfl
theorem tagg_175 : tagg Tryz.prog 175 = some true := by kernel_rfl
theorem tzero_175 : tzero Tryz.prog 175 = some [.str []] := by kernel_rfl
theorem tplaces_175 : tplaces Tryz.prog 175 = some [(0, 1)] := by kernel_rfl
theorem srcOk_175 : srcOk Tryz.prog 175 = true := by kernel_rfl
theorem eqg_175 : Tryz.prog.eqGuardType Tryz.prog.depth 175 = false := by kernel_rfl
theorem tfield_175_0 : tfield Tryz.prog 175 0 = some (0, 1, false) := by kernel_rfl
theorem tsh_176 : tsh Tryz.prog 176 = some .struct := by kernel_rfl
theorem tsize_176 : tsize Tryz.prog 176 = some 1 := by kernel_rfl
theorem tagg_176 : tagg Tryz.prog 176 = some true := by kernel_rfl
theorem tzero_176 : tzero Tryz.prog 176 = some [.str []] := by kernel_rfl
theorem tplaces_176 : tplaces Tryz.prog 176 = some [(0, 1)] := by kernel_rfl
theorem srcOk_176 : srcOk Tryz.prog 176 = true := by kernel_rfl
theorem eqg_176 : Tryz.prog.eqGuardType Tryz.prog.depth 176 = false := by kernel_rfl
theorem tfield_176_0 : tfield Tryz.prog 176 0 = some (0, 1, false) := by kernel_rfl
theorem tsh_177 : tsh Tryz.prog 177 = some (.array 256 5 1) := by kernel_rfl
theorem tsize_177 : tsize Tryz.prog 177 = some 256 := by kernel_rfl
theorem tagg_177 : tagg Tryz.prog 177 = some true := by kernel_rfl
theorem tzero_177 : tzero Tryz.prog 177 = some [.int .u8 0, .int .u8 0, .int .u8 0, .int .u8 0, .int .u8 0, .int .u8 0, .int .u8 0, .int .u8 0, .int .u8 0, .int .u8 0, .int .u8 0, .int .u8 0, .int .u8 0, .int .u8 0, .int .u8 0, .int .u8 0, .int .u8 0, .int .u8 0, .int .u8 0, .int .u8 0, .int .u8 0, .int .u8 0, .int .u8 0, .int .u8 0, .int .u8 0, .int .u8 0, .int .u8 0, .int .u8 0, .int .u8 0, .int .u8 0, .int .u8 0, .int .u8 0, .int .u8 0, .int .u8 0, .int .u8 0, .int .u8 0, .int .u8 0, .int .u8 0, .int .u8 0, .int .u8 0, .int .u8 0, .int .u8 0, .int .u8 0, .int .u8 0, .int .u8 0, .int .u8 0, .int .u8 0, .int .u8 0, .int .u8 0, .int .u8 0, .int .u8 0, .int .u8 0, .int .u8 0, .int .u8 0, .int .u8 0, .int .u8 0, .int .u8 0, .int .u8 0, .int .u8 0, .int .u8 0, .int .u8 0, .int .u8 0, .int .u8 0, .int .u8 0, .int .u8 0, .int .u8 0, .int .u8 0, .int .u8 0, .int .u8 0, .int .u8 0, .int .u8 0, .int .u8 0, .int .u8 0, .int .u8 0, .int .u8 0, .int .u8 0, .int .u8 0, .int .u8 0, .int .u8 0, .int .u8 0, .int .u8 0, .int .u8 0, .int .u8 0, .int .u8 0, .int .u8 0, .int .u8 0, .int .u8 0, .int .u8 0, .int .u8 0, .int .u8 0, .int .u8 0, .int .u8 0, .int .u8 0, .int .u8 0, .int .u8 0, .int .u8 0, .int .u8 0, .int .u8 0, .int .u8 0, .int .u8 0, .int .u8 0, .int .u8 0, .int .u8 0, .int .u8 0, .int .u8 0, .int .u8 0, .int .u8 0, .int .u8 0, .int .u8 0, .int .u8 0, .int .u8 0, .int .u8 0, .int .u8 0, .int .u8 0, .int .u8 0, .int .u8 0, .int .u8 0, .int .u8 0, .int .u8 0, .int .u8 0, .int .u8 0, .int .u8 0, .int .u8 0, .int .u8 0, .int .u8 0, .int .u8 0, .int .u8 0, .int .u8 0, .int .u8 0, .int .u8 0, .int .u8 0, .int .u8 0, .int .u8 0, .int .u8 0, .int .u8 0, .int .u8 0, .int .u8 0, .int .u8 0, .int .u8 0, .int .u8 0, .int .u8 0, .int .u8 0, .int .u8 0, .int .u8 0, .int .u8 0, .int .u8 0, .int .u8 0, .int .u8 0, .int .u8 0, .int .u8 0, .int .u8 0, .int .u8 0, .int .u8 0, .int .u8 0, .int .u8 0, .int .u8 0, .int .u8 0, .int .u8 0, .int .u8 0, .int .u8 0, .int .u8 0, .int .u8 0, .int .u8 0, .int .u8 0, .int .u8 0, .int .u8 0, .int .u8 0, .int .u8 0, .int .u8 0, .int .u8 0, .int .u8 0, .int .u8 0, .int .u8 0, .int .u8 0, .int .u8 0, .int .u8 0, .int .u8 0, .int .u8 0, .int .u8 0, .int .u8 0, .int .u8 0, .int .u8 0, .int .u8 0, .int .u8 0, .int .u8 0, .int .u8 0, .int .u8 0, .int .u8 0, .int .u8 0, .int .u8 0, .int .u8 0, .int .u8 0, .int .u8 0, .int .u8 0, .int .u8 0, .int .u8 0, .int .u8 0, .int .u8 0, .int .u8 0, .int .u8 0, .int .u8 0, .int .u8 0, .int .u8 0, .int .u8 0, .int .u8 0, .int .u8 0, .int .u8 0, .int .u8 0, .int .u8 0, .int .u8 0, .int .u8 0, .int .u8 0, .int .u8 0, .int .u8 0, .int .u8 0, .int .u8 0, .int .u8 0, .int .u8 0, .int .u8 0, .int .u8 0, .int .u8 0, .int .u8 0, .int .u8 0, .int .u8 0, .int .u8 0, .int .u8 0, .int .u8 0, .int .u8 0, .int .u8 0, .int .u8 0, .int .u8 0, .int .u8 0, .int .u8 0, .int .u8 0, .int .u8 0, .int .u8 0, .int .u8 0, .int .u8 0, .int .u8 0, .int .u8 0, .int .u8 0, .int .u8 0, .int .u8 0, .int .u8 0, .int .u8 0, .int .u8 0, .int .u8 0, .int .u8 0, .int .u8 0, .int .u8 0, .int .u8 0, .int .u8 0, .int .u8 0, .int .u8 0, .int .u8 0, .int .u8 0] := by kernel_rfl
theorem srcOk_177 : srcOk Tryz.prog 177 = true := by kernel_rfl
theorem tsh_178 : tsh Tryz.prog 178 = some .struct := by kernel_rfl
theorem tsize_178 : tsize Tryz.prog 178 = some 2 := by kernel_rfl
theorem tagg_178 : tagg Tryz.prog 178 = some true := by kernel_rfl
theorem tzero_178 : tzero Tryz.prog 178 = some [.int .u8 0, .int .u8 0] := by kernel_rfl
theorem tplaces_178 : tplaces Tryz.prog 178 = some [(0, 1), (1, 1)] := by kernel_rfl
theorem srcOk_178 : srcOk Tryz.prog 178 = true := by kernel_rfl
theorem eqg_178 : Tryz.prog.eqGuardType Tryz.prog.depth 178 = false := by kernel_rfl
theorem tfield_178_0 : tfield Tryz.prog 178 0 = some (0, 1, false) := by kernel_rfl
theorem tfield_178_1 : tfield Tryz.prog 178 1 = some (1, 1, false) := by kernel_rfl
theorem tsh_179 : tsh Tryz.prog 179 = some .struct := by kernel_rfl
theorem tsize_179 : tsize Tryz.prog 179 = some 2 := by kernel_rfl
theorem tagg_179 : tagg Tryz.prog 179 = some true := by kernel_rfl
theorem tzero_179 : tzero Tryz.prog 179 = some [.int .u8 0, .int .u8 0] := by kernel_rfl
theorem tplaces_179 : tplaces Tryz.prog 179 = some [(0, 1), (1, 1)] := by kernel_rfl
theorem srcOk_179 : srcOk Tryz.prog 179 = true := by kernel_rfl
theorem eqg_179 : Tryz.prog.eqGuardType Tryz.prog.depth 179 = false := by kernel_rfl
theorem tfield_179_0 : tfield Tryz.prog 179 0 = some (0, 1, false) := by kernel_rfl
theorem tfield_179_1 : tfield Tryz.prog 179 1 = some (1, 1, false) := by kernel_rfl
theorem tsh_180 : tsh Tryz.prog 180 = some (.array 16 179 2) := by kernel_rfl
theorem tsize_180 : tsize Tryz.prog 180 = some 32 := by kernel_rfl
theorem tagg_180 : tagg Tryz.prog 180 = some true := by kernel_rfl
theorem tzero_180 : tzero Tryz.prog 180 = some [.int .u8 0, .int .u8 0, .int .u8 0, .int .u8 0, .int .u8 0, .int .u8 0, .int .u8 0, .int .u8 0, .int .u8 0, .int .u8 0, .int .u8 0, .int .u8 0, .int .u8 0, .int .u8 0, .int .u8 0, .int .u8 0, .int .u8 0, .int .u8 0, .int .u8 0, .int .u8 0, .int .u8 0, .int .u8 0, .int .u8 0, .int .u8 0, .int .u8 0, .int .u8 0, .int .u8 0, .int .u8 0, .int .u8 0, .int .u8 0, .int .u8 0, .int .u8 0] := by kernel_rfl
theorem srcOk_180 : srcOk Tryz.prog 180 = true := by kernel_rfl
theorem tsh_181 : tsh Tryz.prog 181 = some .struct := by kernel_rfl
theorem tsize_181 : tsize Tryz.prog 181 = some 4 := by kernel_rfl
theorem tagg_181 : tagg Tryz.prog 181 = some true := by kernel_rfl
theorem tzero_181 : tzero Tryz.prog 181 = some [.nilp, .nilp, .nilp, .str []] := by kernel_rfl
theorem tplaces_181 : tplaces Tryz.prog 181 = some [(0, 1), (1, 1), (2, 1), (3, 1)] := by kernel_rfl
theorem srcOk_181 : srcOk Tryz.prog 181 = true := by kernel_rfl
theorem eqg_181 : Tryz.prog.eqGuardType Tryz.prog.depth 181 = false := by kernel_rfl
theorem tfield_181_0 : tfield Tryz.prog 181 0 = some (0, 1, false) := by kernel_rfl
theorem tfield_181_1 : tfield Tryz.prog 181 1 = some (1, 1, false) := by kernel_rfl
theorem tfield_181_2 : tfield Tryz.prog 181 2 = some (2, 1, false) := by kernel_rfl
theorem tfield_181_3 : tfield Tryz.prog 181 3 = some (3, 1, false) := by kernel_rfl
theorem tsh_182 : tsh Tryz.prog 182 = some .struct := by kernel_rfl
theorem tsize_182 : tsize Tryz.prog 182 = some 4 := by kernel_rfl
theorem tagg_182 : tagg Tryz.prog 182 = some true := by kernel_rfl
theorem tzero_182 : tzero Tryz.prog 182 = some [.nilp, .nilp, .nilp, .str []] := by kernel_rfl
theorem tplaces_182 : tplaces Tryz.prog 182 = some [(0, 1), (1, 1), (2, 1), (3, 1)] := by kernel_rfl
theorem srcOk_182 : srcOk Tryz.prog 182 = true := by kernel_rfl
theorem eqg_182 : Tryz.prog.eqGuardType Tryz.prog.depth 182 = false := by kernel_rfl
theorem tfield_182_0 : tfield Tryz.prog 182 0 = some (0, 1, false) := by kernel_rfl
theorem tfield_182_1 : tfield Tryz.prog 182 1 = some (1, 1, false) := by kernel_rfl
theorem tfield_182_2 : tfield Tryz.prog 182 2 = some (2, 1, false) := by kernel_rfl
theorem tfield_182_3 : tfield Tryz.prog 182 3 = some (3, 1, false) := by kernel_rfl
theorem tsh_183 : tsh Tryz.prog 183 = some (.array 0 16 1) := by kernel_rfl
theorem tsize_183 : tsize Tryz.prog 183 = some 0 := by kernel_rfl
theorem tagg_183 : tagg Tryz.prog 183 = some true := by kernel_rfl
theorem tzero_183 : tzero Tryz.prog 183 = some [] := by kernel_rfl
theorem srcOk_183 : srcOk Tryz.prog 183 = true := by kernel_rfl
theorem tsh_184 : tsh Tryz.prog 184 = some .struct := by kernel_rfl
theorem tsize_184 : tsize Tryz.prog 184 = some 0 := by kernel_rfl
theorem tagg_184 : tagg Tryz.prog 184 = some true := by kernel_rfl
theorem tzero_184 : tzero Tryz.prog 184 = some [] := by kernel_rfl
theorem tplaces_184 : tplaces Tryz.prog 184 = some [(0, 0)] := by kernel_rfl
theorem srcOk_184 : srcOk Tryz.prog 184 = true := by kernel_rfl
theorem eqg_184 : Tryz.prog.eqGuardType Tryz.prog.depth 184 = false := by kernel_rfl
theorem tfield_184_0 : tfield Tryz.prog 184 0 = some (0, 0, true) := by kernel_rfl
theorem tsh_185 : tsh Tryz.prog 185 = some .struct := by kernel_rfl
theorem tsize_185 : tsize Tryz.prog 185 = some 0 := by kernel_rfl
theorem tagg_185 : tagg Tryz.prog 185 = some true := by kernel_rfl
theorem tzero_185 : tzero Tryz.prog 185 = some [] := by kernel_rfl
theorem tplaces_185 : tplaces Tryz.prog 185 = some [(0, 0)] := by kernel_rfl
theorem srcOk_185 : srcOk Tryz.prog 185 = true := by kernel_rfl
theorem eqg_185 : Tryz.prog.eqGuardType Tryz.prog.depth 185 = false := by kernel_rfl
theorem tfield_185_0 : tfield Tryz.prog 185 0 = some (0, 0, true) := by kernel_rfl
theorem tsh_186 : tsh Tryz.prog 186 = some (.int .u8) := by kernel_rfl
theorem tsize_186 : tsize Tryz.prog 186 = some 1 := by kernel_rfl
theorem tagg_186 : tagg Tryz.prog 186 = some false := by kernel_rfl
theorem tzero_186 : tzero Tryz.prog 186 = some [.int .u8 0] := by kernel_rfl
theorem srcOk_186 : srcOk Tryz.prog 186 = false := by kernel_rfl
theorem tsh_187 : tsh Tryz.prog 187 = some (.int .u8) := by kernel_rfl
theorem tsize_187 : tsize Tryz.prog 187 = some 1 := by kernel_rfl
theorem tagg_187 : tagg Tryz.prog 187 = some false := by kernel_rfl
theorem tzero_187 : tzero Tryz.prog 187 = some [.int .u8 0] := by kernel_rfl
theorem srcOk_187 : srcOk Tryz.prog 187 = false := by kernel_rfl
theorem tsh_188 : tsh Tryz.prog 188 = some .func := by kernel_rfl
theorem tsize_188 : tsize Tryz.prog 188 = some 1 := by kernel_rfl
theorem tagg_188 : tagg Tryz.prog 188 = some false := by kernel_rfl
theorem tzero_188 : tzero Tryz.prog 188 = some [.nilf] := by kernel_rfl
theorem srcOk_188 : srcOk Tryz.prog 188 = true := by kernel_rfl
theorem tsh_189 : tsh Tryz.prog 189 = some (.int .i32) := by kernel_rfl
theorem tsize_189 : tsize Tryz.prog 189 = some 1 := by kernel_rfl
theorem tagg_189 : tagg Tryz.prog 189 = some false := by kernel_rfl
theorem tzero_189 : tzero Tryz.prog 189 = some [.int .i32 0] := by kernel_rfl
theorem srcOk_189 : srcOk Tryz.prog 189 = false := by kernel_rfl
theorem tsh_190 : tsh Tryz.prog 190 = some (.int .i32) := by kernel_rfl
theorem tsize_190 : tsize Tryz.prog 190 = some 1 := by kernel_rfl
theorem tagg_190 : tagg Tryz.prog 190 = some false := by kernel_rfl
theorem tzero_190 : tzero Tryz.prog 190 = some [.int .i32 0] := by kernel_rfl
theorem srcOk_190 : srcOk Tryz.prog 190 = false := by kernel_rfl
theorem tsh_191 : tsh Tryz.prog 191 = some .struct := by kernel_rfl
theorem tsize_191 : tsize Tryz.prog 191 = some 11 := by kernel_rfl
theorem tagg_191 : tagg Tryz.prog 191 = some true := by kernel_rfl
theorem tzero_191 : tzero Tryz.prog 191 = some [.int .u64 0, .int .u64 0, .int .u32 0, .int .u8 0, .int .u8 0, .int .u8 0, .int .u8 0, .nilf, .nilp, .int .i32 0, .int .i32 0] := by kernel_rfl
theorem tplaces_191 : tplaces Tryz.prog 191 = some [(0, 1), (1, 1), (2, 1), (3, 1), (4, 1), (5, 1), (6, 1), (7, 1), (8, 1), (9, 1), (10, 1)] := by kernel_rfl
theorem srcOk_191 : srcOk Tryz.prog 191 = true := by kernel_rfl
theorem eqg_191 : Tryz.prog.eqGuardType Tryz.prog.depth 191 = false := by kernel_rfl
theorem tfield_191_0 : tfield Tryz.prog 191 0 = some (0, 1, false) := by kernel_rfl
theorem tfield_191_1 : tfield Tryz.prog 191 1 = some (1, 1, false) := by kernel_rfl
theorem tfield_191_2 : tfield Tryz.prog 191 2 = some (2, 1, false) := by kernel_rfl
theorem tfield_191_3 : tfield Tryz.prog 191 3 = some (3, 1, false) := by kernel_rfl
theorem tfield_191_4 : tfield Tryz.prog 191 4 = some (4, 1, false) := by kernel_rfl
theorem tfield_191_5 : tfield Tryz.prog 191 5 = some (5, 1, false) := by kernel_rfl
theorem tfield_191_6 : tfield Tryz.prog 191 6 = some (6, 1, false) := by kernel_rfl
theorem tfield_191_7 : tfield Tryz.prog 191 7 = some (7, 1, false) := by kernel_rfl
theorem tfield_191_8 : tfield Tryz.prog 191 8 = some (8, 1, false) := by kernel_rfl
theorem tfield_191_9 : tfield Tryz.prog 191 9 = some (9, 1, false) := by kernel_rfl
theorem tfield_191_10 : tfield Tryz.prog 191 10 = some (10, 1, false) := by kernel_rfl
theorem tsh_192 : tsh Tryz.prog 192 = some .struct := by kernel_rfl
theorem tsize_192 : tsize Tryz.prog 192 = some 11 := by kernel_rfl
theorem tagg_192 : tagg Tryz.prog 192 = some true := by kernel_rfl
theorem tzero_192 : tzero Tryz.prog 192 = some [.int .u64 0, .int .u64 0, .int .u32 0, .int .u8 0, .int .u8 0, .int .u8 0, .int .u8 0, .nilf, .nilp, .int .i32 0, .int .i32 0] := by kernel_rfl
theorem tplaces_192 : tplaces Tryz.prog 192 = some [(0, 1), (1, 1), (2, 1), (3, 1), (4, 1), (5, 1), (6, 1), (7, 1), (8, 1), (9, 1), (10, 1)] := by kernel_rfl
theorem srcOk_192 : srcOk Tryz.prog 192 = true := by kernel_rfl
theorem eqg_192 : Tryz.prog.eqGuardType Tryz.prog.depth 192 = false := by kernel_rfl
theorem tfield_192_0 : tfield Tryz.prog 192 0 = some (0, 1, false) := by kernel_rfl
theorem tfield_192_1 : tfield Tryz.prog 192 1 = some (1, 1, false) := by kernel_rfl
theorem tfield_192_2 : tfield Tryz.prog 192 2 = some (2, 1, false) := by kernel_rfl
theorem tfield_192_3 : tfield Tryz.prog 192 3 = some (3, 1, false) := by kernel_rfl
theorem tfield_192_4 : tfield Tryz.prog 192 4 = some (4, 1, false) := by kernel_rfl
theorem tfield_192_5 : tfield Tryz.prog 192 5 = some (5, 1, false) := by kernel_rfl
theorem tfield_192_6 : tfield Tryz.prog 192 6 = some (6, 1, false) := by kernel_rfl
theorem tfield_192_7 : tfield Tryz.prog 192 7 = some (7, 1, false) := by kernel_rfl
theorem tfield_192_8 : tfield Tryz.prog 192 8 = some (8, 1, false) := by kernel_rfl
theorem tfield_192_9 : tfield Tryz.prog 192 9 = some (9, 1, false) := by kernel_rfl
theorem tfield_192_10 : tfield Tryz.prog 192 10 = some (10, 1, false) := by kernel_rfl
theorem hasBody_2 : hasBody Tryz.prog 2 = true := by kernel_rfl
theorem hasBody_3 : hasBody Tryz.prog 3 = true := by kernel_rfl
theorem hasBody_4 : hasBody Tryz.prog 4 = true := by kernel_rfl
theorem hasBody_5 : hasBody Tryz.prog 5 = true := by kernel_rfl
theorem hasBody_6 : hasBody Tryz.prog 6 = true := by kernel_rfl
theorem hasBody_7 : hasBody Tryz.prog 7 = true := by kernel_rfl
theorem hasBody_8 : hasBody Tryz.prog 8 = true := by kernel_rfl
theorem hasBody_9 : hasBody Tryz.prog 9 = true := by kernel_rfl
theorem hasBody_10 : hasBody Tryz.prog 10 = true := by kernel_rfl
theorem hasBody_11 : hasBody Tryz.prog 11 = true := by kernel_rfl
theorem hasBody_12 : hasBody Tryz.prog 12 = true := by kernel_rfl
theorem hasBody_13 : hasBody Tryz.prog 13 = true := by kernel_rfl
theorem hasBody_14 : hasBody Tryz.prog 14 = true := by kernel_rfl
theorem hasBody_15 : hasBody Tryz.prog 15 = true := by kernel_rfl
theorem hasBody_16 : hasBody Tryz.prog 16 = true := by kernel_rfl
theorem hasBody_17 : hasBody Tryz.prog 17 = true := by kernel_rfl
theorem hasBody_18 : hasBody Tryz.prog 18 = true := by kernel_rfl
theorem hasBody_19 : hasBody Tryz.prog 19 = true := by kernel_rfl
theorem hasBody_20 : hasBody Tryz.prog 20 = true := by kernel_rfl
theorem hasBody_21 : hasBody Tryz.prog 21 = true := by kernel_rfl
theorem hasBody_22 : hasBody Tryz.prog 22 = true := by kernel_rfl
theorem hasBody_23 : hasBody Tryz.prog 23 = true := by kernel_rfl
theorem hasBody_24 : hasBody Tryz.prog 24 = true := by kernel_rfl
theorem hasBody_25 : hasBody Tryz.prog 25 = true := by kernel_rfl
theorem hasBody_26 : hasBody Tryz.prog 26 = true := by kernel_rfl
theorem hasBody_27 : hasBody Tryz.prog 27 = true := by kernel_rfl
theorem hasBody_28 : hasBody Tryz.prog 28 = true := by kernel_rfl
theorem hasBody_29 : hasBody Tryz.prog 29 = true := by kernel_rfl
theorem hasBody_30 : hasBody Tryz.prog 30 = true := by kernel_rfl
theorem hasBody_31 : hasBody Tryz.prog 31 = true := by kernel_rfl
theorem hasBody_32 : hasBody Tryz.prog 32 = true := by kernel_rfl
theorem hasBody_33 : hasBody Tryz.prog 33 = true := by kernel_rfl
theorem hasBody_34 : hasBody Tryz.prog 34 = true := by kernel_rfl
theorem hasBody_35 : hasBody Tryz.prog 35 = true := by kernel_rfl
theorem hasBody_36 : hasBody Tryz.prog 36 = true := by kernel_rfl
theorem hasBody_37 : hasBody Tryz.prog 37 = true := by kernel_rfl
theorem hasBody_38 : hasBody Tryz.prog 38 = true := by kernel_rfl
theorem hasBody_39 : hasBody Tryz.prog 39 = true := by kernel_rfl
theorem hasBody_40 : hasBody Tryz.prog 40 = true := by kernel_rfl
theorem hasBody_41 : hasBody Tryz.prog 41 = true := by kernel_rfl
theorem hasBody_42 : hasBody Tryz.prog 42 = true := by kernel_rfl
theorem hasBody_43 : hasBody Tryz.prog 43 = true := by kernel_rfl
theorem hasBody_44 : hasBody Tryz.prog 44 = true := by kernel_rfl
theorem hasBody_45 : hasBody Tryz.prog 45 = true := by kernel_rfl
theorem hasBody_46 : hasBody Tryz.prog 46 = true := by kernel_rfl
theorem hasBody_47 : hasBody Tryz.prog 47 = true := by kernel_rfl
theorem hasBody_48 : hasBody Tryz.prog 48 = true := by kernel_rfl
theorem hasBody_49 : hasBody Tryz.prog 49 = true := by kernel_rfl
theorem hasBody_50 : hasBody Tryz.prog 50 = true := by kernel_rfl
theorem hasBody_51 : hasBody Tryz.prog 51 = true := by kernel_rfl
theorem hasBody_52 : hasBody Tryz.prog 52 = true := by kernel_rfl
theorem hasBody_53 : hasBody Tryz.prog 53 = true := by kernel_rfl
theorem hasBody_54 : hasBody Tryz.prog 54 = true := by kernel_rfl
theorem hasBody_55 : hasBody Tryz.prog 55 = true := by kernel_rfl
theorem hasBody_56 : hasBody Tryz.prog 56 = true := by kernel_rfl
theorem hasBody_57 : hasBody Tryz.prog 57 = true := by kernel_rfl
theorem hasBody_58 : hasBody Tryz.prog 58 = true := by kernel_rfl
theorem hasBody_59 : hasBody Tryz.prog 59 = true := by kernel_rfl
theorem hasBody_60 : hasBody Tryz.prog 60 = true := by kernel_rfl
theorem hasBody_61 : hasBody Tryz.prog 61 = true := by kernel_rfl
theorem isNZ_62 : isNZ Tryz.prog 62 = none := by kernel_rfl
theorem isExt_62 : isExt Tryz.prog 62 = some .same := by kernel_rfl
theorem hasBody_62 : hasBody Tryz.prog 62 = false := by kernel_rfl
theorem hasBody_63 : hasBody Tryz.prog 63 = true := by kernel_rfl
theorem hasBody_64 : hasBody Tryz.prog 64 = true := by kernel_rfl
theorem hasBody_65 : hasBody Tryz.prog 65 = true := by kernel_rfl
theorem hasBody_66 : hasBody Tryz.prog 66 = true := by kernel_rfl
theorem hasBody_67 : hasBody Tryz.prog 67 = true := by kernel_rfl
theorem hasBody_68 : hasBody Tryz.prog 68 = true := by kernel_rfl
theorem hasBody_69 : hasBody Tryz.prog 69 = true := by kernel_rfl
theorem hasBody_70 : hasBody Tryz.prog 70 = true := by kernel_rfl
theorem hasBody_71 : hasBody Tryz.prog 71 = true := by kernel_rfl
theorem hasBody_72 : hasBody Tryz.prog 72 = true := by kernel_rfl
theorem hasBody_73 : hasBody Tryz.prog 73 = true := by kernel_rfl
theorem hasBody_74 : hasBody Tryz.prog 74 = true := by kernel_rfl
theorem hasBody_75 : hasBody Tryz.prog 75 = true := by kernel_rfl
theorem hasBody_76 : hasBody Tryz.prog 76 = true := by kernel_rfl
theorem hasBody_77 : hasBody Tryz.prog 77 = true := by kernel_rfl
theorem hasBody_78 : hasBody Tryz.prog 78 = true := by kernel_rfl
theorem hasBody_79 : hasBody Tryz.prog 79 = true := by kernel_rfl
theorem hasBody_80 : hasBody Tryz.prog 80 = true := by kernel_rfl
theorem hasBody_81 : hasBody Tryz.prog 81 = true := by kernel_rfl
theorem hasBody_82 : hasBody Tryz.prog 82 = true := by kernel_rfl
theorem hasBody_83 : hasBody Tryz.prog 83 = true := by kernel_rfl
theorem hasBody_84 : hasBody Tryz.prog 84 = true := by kernel_rfl
theorem isNZ_85 : isNZ Tryz.prog 85 = some 5 := by kernel_rfl
theorem hasBody_85 : hasBody Tryz.prog 85 = false := by kernel_rfl
theorem hasBody_86 : hasBody Tryz.prog 86 = true := by kernel_rfl
theorem hasBody_87 : hasBody Tryz.prog 87 = true := by kernel_rfl
theorem hasBody_88 : hasBody Tryz.prog 88 = true := by kernel_rfl
theorem hasBody_89 : hasBody Tryz.prog 89 = true := by kernel_rfl
theorem hasBody_90 : hasBody Tryz.prog 90 = true := by kernel_rfl
theorem hasBody_91 : hasBody Tryz.prog 91 = true := by kernel_rfl
theorem hasBody_92 : hasBody Tryz.prog 92 = true := by kernel_rfl
theorem hasBody_93 : hasBody Tryz.prog 93 = true := by kernel_rfl
theorem hasBody_94 : hasBody Tryz.prog 94 = true := by kernel_rfl
theorem hasBody_95 : hasBody Tryz.prog 95 = true := by kernel_rfl
theorem hasBody_96 : hasBody Tryz.prog 96 = true := by kernel_rfl
theorem hasBody_97 : hasBody Tryz.prog 97 = true := by kernel_rfl
theorem hasBody_98 : hasBody Tryz.prog 98 = true := by kernel_rfl
theorem hasBody_99 : hasBody Tryz.prog 99 = true := by kernel_rfl
theorem hasBody_100 : hasBody Tryz.prog 100 = true := by kernel_rfl
theorem hasBody_101 : hasBody Tryz.prog 101 = true := by kernel_rfl
theorem hasBody_102 : hasBody Tryz.prog 102 = true := by kernel_rfl
theorem hasBody_103 : hasBody Tryz.prog 103 = true := by kernel_rfl
theorem hasBody_104 : hasBody Tryz.prog 104 = true := by kernel_rfl
theorem hasBody_105 : hasBody Tryz.prog 105 = true := by kernel_rfl
theorem hasBody_106 : hasBody Tryz.prog 106 = true := by kernel_rfl
theorem hasBody_107 : hasBody Tryz.prog 107 = true := by kernel_rfl
theorem hasBody_108 : hasBody Tryz.prog 108 = true := by kernel_rfl
theorem hasBody_109 : hasBody Tryz.prog 109 = true := by kernel_rfl
theorem hasBody_110 : hasBody Tryz.prog 110 = true := by kernel_rfl
theorem hasBody_111 : hasBody Tryz.prog 111 = true := by kernel_rfl
theorem isNZ_112 : isNZ Tryz.prog 112 = none := by kernel_rfl
theorem isExt_112 : isExt Tryz.prog 112 = some .idxB := by kernel_rfl
theorem hasBody_112 : hasBody Tryz.prog 112 = false := by kernel_rfl
theorem hasBody_113 : hasBody Tryz.prog 113 = true := by kernel_rfl
theorem hasBody_114 : hasBody Tryz.prog 114 = true := by kernel_rfl
theorem hasBody_115 : hasBody Tryz.prog 115 = true := by kernel_rfl
theorem isNZ_116 : isNZ Tryz.prog 116 = none := by kernel_rfl
theorem isExt_116 : isExt Tryz.prog 116 = some .cntB := by kernel_rfl
theorem hasBody_116 : hasBody Tryz.prog 116 = false := by kernel_rfl
theorem isNZ_117 : isNZ Tryz.prog 117 = none := by kernel_rfl
theorem isExt_117 : isExt Tryz.prog 117 = some .idxS := by kernel_rfl
theorem hasBody_117 : hasBody Tryz.prog 117 = false := by kernel_rfl
theorem hasBody_118 : hasBody Tryz.prog 118 = true := by kernel_rfl
theorem hasBody_119 : hasBody Tryz.prog 119 = true := by kernel_rfl
theorem hasBody_120 : hasBody Tryz.prog 120 = true := by kernel_rfl
theorem hasBody_121 : hasBody Tryz.prog 121 = true := by kernel_rfl
theorem hasBody_122 : hasBody Tryz.prog 122 = true := by kernel_rfl
theorem hasBody_123 : hasBody Tryz.prog 123 = true := by kernel_rfl
theorem hasBody_124 : hasBody Tryz.prog 124 = true := by kernel_rfl
theorem hasBody_156 : hasBody Tryz.prog 156 = true := by kernel_rfl
theorem glob_0 : decide (0 < Tryz.prog.globals.size) = true := by kernel_rfl
theorem glob_1 : decide (1 < Tryz.prog.globals.size) = true := by kernel_rfl
theorem glob_2 : decide (2 < Tryz.prog.globals.size) = true := by kernel_rfl
theorem glob_3 : decide (3 < Tryz.prog.globals.size) = true := by kernel_rfl
theorem glob_4 : decide (4 < Tryz.prog.globals.size) = true := by kernel_rfl
theorem glob_5 : decide (5 < Tryz.prog.globals.size) = true := by kernel_rfl
theorem glob_6 : decide (6 < Tryz.prog.globals.size) = true := by kernel_rfl
theorem glob_7 : decide (7 < Tryz.prog.globals.size) = true := by kernel_rfl
theorem glob_8 : decide (8 < Tryz.prog.globals.size) = true := by kernel_rfl
section
variable {H : Hp}
theorem conv_2_42 {kd n} : evConv Tryz.prog 2 42 (.int kd n) H = some (.int .u64 (IntKind.wrap .u64 n), H) := by simp only [evConv, tsh_2, tsh_42]
theorem conv_3_5 {kd n} : evConv Tryz.prog 3 5 (.int kd n) H = some (.int .u8 (IntKind.wrap .u8 n), H) := by simp only [evConv, tsh_3, tsh_5]
theorem conv_3_22 {kd n} : evConv Tryz.prog 3 22 (.int kd n) H = some (.int .u16 (IntKind.wrap .u16 n), H) := by simp only [evConv, tsh_3, tsh_22]
theorem conv_3_24 {kd n} : evConv Tryz.prog 3 24 (.int kd n) H = some (.int .u32 (IntKind.wrap .u32 n), H) := by simp only [evConv, tsh_3, tsh_24]
theorem conv_3_42 {kd n} : evConv Tryz.prog 3 42 (.int kd n) H = some (.int .u64 (IntKind.wrap .u64 n), H) := by simp only [evConv, tsh_3, tsh_42]
theorem conv_3_47 {kd n} : evConv Tryz.prog 3 47 (.int kd n) H = some (.int .u64 (IntKind.wrap .u64 n), H) := by simp only [evConv, tsh_3, tsh_47]
theorem conv_5_3 {kd n} : evConv Tryz.prog 5 3 (.int kd n) H = some (.int .i64 (IntKind.wrap .i64 n), H) := by simp only [evConv, tsh_5, tsh_3]
theorem conv_5_21 {kd n} : evConv Tryz.prog 5 21 (.int kd n) H = some (.int .i32 (IntKind.wrap .i32 n), H) := by simp only [evConv, tsh_5, tsh_21]
theorem conv_5_24 {kd n} : evConv Tryz.prog 5 24 (.int kd n) H = some (.int .u32 (IntKind.wrap .u32 n), H) := by simp only [evConv, tsh_5, tsh_24]
theorem conv_5_42 {kd n} : evConv Tryz.prog 5 42 (.int kd n) H = some (.int .u64 (IntKind.wrap .u64 n), H) := by simp only [evConv, tsh_5, tsh_42]
theorem conv_9_52 {s} : evConv Tryz.prog 9 52 (.str s) H = some (.slice H.length 0 s.length (.op 0), H ++ [.cells (s.map fun b => .int .u8 b.toNat) 5 (.op 0 true)]) := by simp only [evConv, tsh_9, tsh_52, tsh_5]
theorem conv_22_3 {kd n} : evConv Tryz.prog 22 3 (.int kd n) H = some (.int .i64 (IntKind.wrap .i64 n), H) := by simp only [evConv, tsh_22, tsh_3]
theorem conv_22_24 {kd n} : evConv Tryz.prog 22 24 (.int kd n) H = some (.int .u32 (IntKind.wrap .u32 n), H) := by simp only [evConv, tsh_22, tsh_24]
theorem conv_24_3 {kd n} : evConv Tryz.prog 24 3 (.int kd n) H = some (.int .i64 (IntKind.wrap .i64 n), H) := by simp only [evConv, tsh_24, tsh_3]
theorem conv_24_5 {kd n} : evConv Tryz.prog 24 5 (.int kd n) H = some (.int .u8 (IntKind.wrap .u8 n), H) := by simp only [evConv, tsh_24, tsh_5]
theorem conv_24_22 {kd n} : evConv Tryz.prog 24 22 (.int kd n) H = some (.int .u16 (IntKind.wrap .u16 n), H) := by simp only [evConv, tsh_24, tsh_22]
theorem conv_24_42 {kd n} : evConv Tryz.prog 24 42 (.int kd n) H = some (.int .u64 (IntKind.wrap .u64 n), H) := by simp only [evConv, tsh_24, tsh_42]
theorem conv_24_47 {kd n} : evConv Tryz.prog 24 47 (.int kd n) H = some (.int .u64 (IntKind.wrap .u64 n), H) := by simp only [evConv, tsh_24, tsh_47]
theorem conv_42_3 {kd n} : evConv Tryz.prog 42 3 (.int kd n) H = some (.int .i64 (IntKind.wrap .i64 n), H) := by simp only [evConv, tsh_42, tsh_3]
theorem conv_42_5 {kd n} : evConv Tryz.prog 42 5 (.int kd n) H = some (.int .u8 (IntKind.wrap .u8 n), H) := by simp only [evConv, tsh_42, tsh_5]
theorem conv_42_24 {kd n} : evConv Tryz.prog 42 24 (.int kd n) H = some (.int .u32 (IntKind.wrap .u32 n), H) := by simp only [evConv, tsh_42, tsh_24]
theorem conv_47_3 {kd n} : evConv Tryz.prog 47 3 (.int kd n) H = some (.int .i64 (IntKind.wrap .i64 n), H) := by simp only [evConv, tsh_47, tsh_3]
theorem conv_47_24 {kd n} : evConv Tryz.prog 47 24 (.int kd n) H = some (.int .u32 (IntKind.wrap .u32 n), H) := by simp only [evConv, tsh_47, tsh_24]
-- convert 51 115: some (.ptr 54) to some .upt
theorem conv_52_9 {p o n c} : evConv Tryz.prog 52 9 (.slice p o n c) H = (rd H p o n).bind fun c => (evConv.bytesOf c).map fun s => (.str s, H) := by simp only [evConv, tsh_52, tsh_9, tsh_5]
theorem conv_52_9n : evConv Tryz.prog 52 9 .nils H = some (.str [], H) := by simp only [evConv, tsh_52, tsh_9, tsh_5]
theorem conv_52_23 {p o n c} : evConv Tryz.prog 52 23 (.slice p o n c) H = (rd H p o n).bind fun c => (evConv.bytesOf c).map fun s => (.str s, H) := by simp only [evConv, tsh_52, tsh_23, tsh_5]
theorem conv_52_23n : evConv Tryz.prog 52 23 .nils H = some (.str [], H) := by simp only [evConv, tsh_52, tsh_23, tsh_5]
-- convert 115 51: some .upt to some (.ptr 54)
end
attribute [go_sem] tsh_0 tsize_0 tagg_0 srcOk_0 tsh_1 tsize_1 tagg_1 tzero_1 srcOk_1 tsh_2 tsize_2 tagg_2 tzero_2 srcOk_2 tsh_3 tsize_3 tagg_3 tzero_3 srcOk_3 tsh_4 tsize_4 tagg_4 tzero_4 srcOk_4 und_4 tsh_5 tsize_5 tagg_5 tzero_5 srcOk_5 tsh_6 tsize_6 tagg_6 tzero_6 srcOk_6 tsh_7 tsize_7 tagg_7 tzero_7 tplaces_7
attribute [go_sem] srcOk_7 eqg_7 tfield_7_0 tfield_7_1 tfield_7_2 tfield_7_3 tsh_8 tsize_8 tagg_8 tzero_8 tplaces_8 srcOk_8 eqg_8 tfield_8_0 tfield_8_1 tfield_8_2 tfield_8_3 tsh_9 tsize_9 tagg_9 tzero_9 srcOk_9 tsh_10 tsize_10 tagg_10 tzero_10 srcOk_10 tsh_11 tsize_11 tagg_11 tzero_11 srcOk_11 tsh_12 tsize_12 tagg_12 tzero_12 srcOk_12 tsh_13 tsize_13 tagg_13
attribute [go_sem] tzero_13 tplaces_13 srcOk_13 eqg_13 tfield_13_0 tfield_13_1 tsh_14 tsize_14 tagg_14 tzero_14 tplaces_14 srcOk_14 eqg_14 tfield_14_0 tfield_14_1 tsh_15 tsize_15 tagg_15 tzero_15 srcOk_15 tsh_16 tsize_16 tagg_16 tzero_16 srcOk_16 tsh_17 tsize_17 tagg_17 tzero_17 srcOk_17 tsh_18 tsize_18 tagg_18 tzero_18 tplaces_18 srcOk_18 eqg_18 tfield_18_0 tsh_19 tsize_19
attribute [go_sem] tagg_19 tzero_19 tplaces_19 srcOk_19 eqg_19 tfield_19_0 tsh_20 tsize_20 tagg_20 tzero_20 srcOk_20 tsh_21 tsize_21 tagg_21 tzero_21 srcOk_21 tsh_22 tsize_22 tagg_22 tzero_22 srcOk_22 tsh_23 tsize_23 tagg_23 tzero_23 srcOk_23 tsh_24 tsize_24 tagg_24 tzero_24 srcOk_24 tsh_25 tsize_25 tagg_25 tzero_25 srcOk_25 tsh_26 tsize_26 tagg_26 tzero_26
attribute [go_sem] tplaces_26 srcOk_26 eqg_26 tfield_26_0 tfield_26_1 tfield_26_2 tfield_26_3 tsh_27 tsize_27 tagg_27 tzero_27 tplaces_27 srcOk_27 eqg_27 tfield_27_0 tfield_27_1 tfield_27_2 tfield_27_3 tsh_28 tsize_28 tagg_28 tzero_28 srcOk_28 tsh_29 tsize_29 tagg_29 srcOk_29 tsh_30 tsize_30 tagg_30 tzero_30 srcOk_30 tsh_31 tsize_31 tagg_31 tzero_31 srcOk_31 tsh_32 tsize_32 tagg_32
attribute [go_sem] srcOk_32 tsh_33 tsize_33 tagg_33 tzero_33 srcOk_33 tsh_34 tsize_34 tagg_34 tzero_34 srcOk_34 zok_34 tsh_35 tsize_35 tagg_35 tzero_35 srcOk_35 tsh_36 tsize_36 tagg_36 tzero_36 srcOk_36 tsh_37 tsize_37 tagg_37 tzero_37 srcOk_37 tsh_38 tsize_38 tagg_38 tzero_38 srcOk_38 zok_38 tsh_39 tsize_39 tagg_39 tzero_39 srcOk_39 tsh_40 tsize_40
attribute [go_sem] tagg_40 tzero_40 srcOk_40 tsh_41 tsize_41 tagg_41 tzero_41 srcOk_41 tsh_42 tsize_42 tagg_42 tzero_42 srcOk_42 tsh_43 tsize_43 tagg_43 tzero_43 srcOk_43 tsh_44 tsize_44 tagg_44 tzero_44 srcOk_44 tsh_45 tsize_45 tagg_45 tzero_45 srcOk_45 tsh_46 tsize_46 tagg_46 tzero_46 srcOk_46 tsh_47 tsize_47 tagg_47 tzero_47 srcOk_47 tsh_48 tsize_48
attribute [go_sem] tagg_48 srcOk_48 tsh_49 tsize_49 tagg_49 tzero_49 srcOk_49 tsh_50 tsize_50 tagg_50 tzero_50 srcOk_50 tsh_51 tsize_51 tagg_51 tzero_51 srcOk_51 tsh_52 tsize_52 tagg_52 tzero_52 srcOk_52 zok_52 tsh_53 tsize_53 tagg_53 tzero_53 tplaces_53 srcOk_53 eqg_53 tfield_53_0 tfield_53_1 tsh_54 tsize_54 tagg_54 tzero_54 tplaces_54 srcOk_54 eqg_54 tfield_54_0
attribute [go_sem] tfield_54_1 tsh_55 tsize_55 tagg_55 tzero_55 srcOk_55 tsh_56 tsize_56 tagg_56 tzero_56 srcOk_56 tsh_57 tsize_57 tagg_57 tzero_57 srcOk_57 tsh_58 tsize_58 tagg_58 tzero_58 srcOk_58 tsh_59 tsize_59 tagg_59 srcOk_59 tsh_60 tsize_60 tagg_60 tzero_60 srcOk_60 tsh_61 tsize_61 tagg_61 tzero_61 srcOk_61 tsh_62 tsize_62 tagg_62 tzero_62 srcOk_62
attribute [go_sem] tsh_63 tsize_63 tagg_63 tzero_63 srcOk_63 tsh_64 tsize_64 tagg_64 tzero_64 srcOk_64 tsh_65 tsize_65 tagg_65 tzero_65 srcOk_65 tsh_66 tsize_66 tagg_66 tzero_66 srcOk_66 tsh_67 tsize_67 tagg_67 tzero_67 srcOk_67 tsh_68 tsize_68 tagg_68 tzero_68 tplaces_68 srcOk_68 eqg_68 tfield_68_0 tfield_68_1 tfield_68_2 tfield_68_3 tsh_69 tsize_69 tagg_69 tzero_69
attribute [go_sem] tplaces_69 srcOk_69 eqg_69 tfield_69_0 tfield_69_1 tfield_69_2 tfield_69_3 tsh_70 tsize_70 tagg_70 tzero_70 tplaces_70 srcOk_70 eqg_70 tfield_70_0 tfield_70_1 tfield_70_2 tfield_70_3 tsh_71 tsize_71 tagg_71 tzero_71 tplaces_71 srcOk_71 eqg_71 tfield_71_0 tfield_71_1 tfield_71_2 tfield_71_3 tsh_72 tsize_72 tagg_72 tzero_72 srcOk_72 tsh_73 tsize_73 tagg_73 tzero_73 srcOk_73 tsh_74
attribute [go_sem] tsize_74 tagg_74 srcOk_74 tsh_75 tsize_75 tagg_75 tzero_75 srcOk_75 tsh_76 tsize_76 tagg_76 tzero_76 tplaces_76 srcOk_76 eqg_76 tfield_76_0 tfield_76_1 tfield_76_2 tsh_77 tsize_77 tagg_77 tzero_77 srcOk_77 tsh_78 tsize_78 tagg_78 tzero_78 srcOk_78 tsh_79 tsize_79 tagg_79 srcOk_79 tsh_80 tsize_80 tagg_80 tzero_80 srcOk_80 tsh_81 tsize_81 tagg_81
attribute [go_sem] tzero_81 srcOk_81 tsh_82 tsize_82 tagg_82 srcOk_82 tsh_83 tsize_83 tagg_83 tzero_83 srcOk_83 tsh_84 tsize_84 tagg_84 tzero_84 srcOk_84 tsh_85 tsize_85 tagg_85 tzero_85 srcOk_85 tsh_86 tsize_86 tagg_86 tzero_86 srcOk_86 tsh_87 tsize_87 tagg_87 tzero_87 srcOk_87 tsh_88 tsize_88 tagg_88 tzero_88 srcOk_88 tsh_89 tsize_89 tagg_89 tzero_89
attribute [go_sem] srcOk_89 tsh_90 tsize_90 tagg_90 tzero_90 tplaces_90 srcOk_90 eqg_90 tfield_90_0 tsh_91 tsize_91 tagg_91 tzero_91 tplaces_91 srcOk_91 eqg_91 tfield_91_0 tsh_92 tsize_92 tagg_92 tzero_92 srcOk_92 zok_92 tsh_93 tsize_93 tagg_93 srcOk_93 tsh_94 tsize_94 tagg_94 tzero_94 srcOk_94 tsh_95 tsize_95 tagg_95 srcOk_95 tsh_96 tsize_96 tagg_96 srcOk_96
attribute [go_sem] tsh_97 tsize_97 tagg_97 tzero_97 srcOk_97 tsh_98 tsize_98 tagg_98 tzero_98 srcOk_98 tsh_99 tsize_99 tagg_99 tzero_99 srcOk_99 tsh_100 tsize_100 tagg_100 tzero_100 srcOk_100 tsh_101 tsize_101 tagg_101 tzero_101 srcOk_101 tsh_102 tsize_102 tagg_102 srcOk_102 tsh_103 tsize_103 tagg_103 tzero_103 srcOk_103 tsh_104 tsize_104 tagg_104 tzero_104 srcOk_104 tsh_105
attribute [go_sem] tsize_105 tagg_105 tzero_105 srcOk_105 tsh_106 tsize_106 tagg_106 tzero_106 srcOk_106 tsh_107 tsize_107 tagg_107 tzero_107 srcOk_107 tsh_108 tsize_108 tagg_108 tzero_108 srcOk_108 tsh_109 tsize_109 tagg_109 tzero_109 srcOk_109 tsh_110 tsize_110 tagg_110 srcOk_110 tsh_111 tsize_111 tagg_111 tzero_111 srcOk_111 tsh_112 tsize_112 tagg_112 tzero_112 srcOk_112 tsh_113 tsize_113
attribute [go_sem] tagg_113 srcOk_113 tsh_114 tsize_114 tagg_114 tzero_114 srcOk_114 tsh_115 tsize_115 tagg_115 tzero_115 srcOk_115 tsh_116 tsize_116 tagg_116 tzero_116 srcOk_116 tsh_117 tsize_117 tagg_117 tzero_117 srcOk_117 tsh_118 tsize_118 tagg_118 tzero_118 srcOk_118 tsh_119 tsize_119 tagg_119 srcOk_119 tsh_120 tsize_120 tagg_120 tzero_120 srcOk_120 tsh_121 tsize_121 tagg_121 tzero_121
attribute [go_sem] srcOk_121 tsh_122 tsize_122 tagg_122 tzero_122 srcOk_122 tsh_123 tsize_123 tagg_123 tzero_123 tplaces_123 srcOk_123 eqg_123 tfield_123_0 tfield_123_1 tfield_123_2 tfield_123_3 tfield_123_4 tsh_124 tsize_124 tagg_124 tzero_124 tplaces_124 srcOk_124 eqg_124 tfield_124_0 tfield_124_1 tfield_124_2 tfield_124_3 tfield_124_4 tsh_125 tsize_125 tagg_125 srcOk_125 tsh_126 tsize_126 tagg_126 tzero_126 srcOk_126 tsh_127
attribute [go_sem] tsize_127 tagg_127 tzero_127 srcOk_127 tsh_128 tsize_128 tagg_128 srcOk_128 tsh_129 tsize_129 tagg_129 tzero_129 srcOk_129 tsh_130 tsize_130 tagg_130 tzero_130 srcOk_130 tsh_131 tsize_131 tagg_131 tzero_131 srcOk_131 tsh_132 tsize_132 tagg_132 tzero_132 srcOk_132 tsh_133 tsize_133 tagg_133 tzero_133 srcOk_133 tsh_134 tsize_134 tagg_134 tzero_134 srcOk_134 tsh_135 tsize_135
attribute [go_sem] tagg_135 tzero_135 srcOk_135 tsh_136 tsize_136 tagg_136 tzero_136 srcOk_136 tsh_137 tsize_137 tagg_137 tzero_137 srcOk_137 tsh_138 tsize_138 tagg_138 tzero_138 srcOk_138 tsh_139 tsize_139 tagg_139 tzero_139 srcOk_139 tsh_140 tsize_140 tagg_140 tzero_140 srcOk_140 tsh_141 tsize_141 tagg_141 srcOk_141 tsh_142 tsize_142 tagg_142 tzero_142 srcOk_142 tsh_143 tsize_143 tagg_143
attribute [go_sem] tzero_143 srcOk_143 tsh_144 tsize_144 tagg_144 tzero_144 srcOk_144 tsh_145 tsize_145 tagg_145 tzero_145 srcOk_145 tsh_146 tsize_146 tagg_146 tzero_146 srcOk_146 tsh_147 tsize_147 tagg_147 srcOk_147 tsh_148 tsize_148 tagg_148 tzero_148 srcOk_148 tsh_149 tsize_149 tagg_149 srcOk_149 tsh_150 tsize_150 tagg_150 tzero_150 srcOk_150 tsh_151 tsize_151 tagg_151 tzero_151 srcOk_151
attribute [go_sem] tsh_152 tsize_152 tagg_152 tzero_152 srcOk_152 tsh_153 tsize_153 tagg_153 srcOk_153 tsh_154 tsize_154 tagg_154 tzero_154 srcOk_154 tsh_155 tsize_155 tagg_155 tzero_155 srcOk_155 tsh_156 tsize_156 tagg_156 tzero_156 srcOk_156 tsh_157 tsize_157 tagg_157 tzero_157 srcOk_157 tsh_158 tsize_158 tagg_158 tzero_158 srcOk_158 tsh_159 tsize_159 tagg_159 tzero_159 srcOk_159 tsh_160
attribute [go_sem] tsize_160 tagg_160 tzero_160 srcOk_160 tsh_161 tsize_161 tagg_161 srcOk_161 tsh_162 tsize_162 tagg_162 tzero_162 srcOk_162 tsh_163 tsize_163 tagg_163 tzero_163 srcOk_163 tsh_164 tsize_164 tagg_164 srcOk_164 tsh_165 tsize_165 tagg_165 tzero_165 srcOk_165 tsh_166 tsize_166 tagg_166 tzero_166 srcOk_166 tsh_167 tsize_167 tagg_167 tzero_167 srcOk_167 tsh_168 tsize_168 tagg_168
attribute [go_sem] tzero_168 tplaces_168 srcOk_168 tfield_168_0 tfield_168_1 tfield_168_2 tsh_169 tsize_169 tagg_169 tzero_169 tplaces_169 srcOk_169 tfield_169_0 tfield_169_1 tfield_169_2 tsh_170 tsize_170 tagg_170 tzero_170 srcOk_170 tsh_171 tsize_171 tagg_171 srcOk_171 tsh_172 tsize_172 tagg_172 tzero_172 srcOk_172 tsh_173 tsize_173 tagg_173 tzero_173 srcOk_173 tsh_174 tsize_174 tagg_174 tzero_174 srcOk_174 tsh_175
attribute [go_sem] tsize_175 tagg_175 tzero_175 tplaces_175 srcOk_175 eqg_175 tfield_175_0 tsh_176 tsize_176 tagg_176 tzero_176 tplaces_176 srcOk_176 eqg_176 tfield_176_0 tsh_177 tsize_177 tagg_177 tzero_177 srcOk_177 tsh_178 tsize_178 tagg_178 tzero_178 tplaces_178 srcOk_178 eqg_178 tfield_178_0 tfield_178_1 tsh_179 tsize_179 tagg_179 tzero_179 tplaces_179 srcOk_179 eqg_179 tfield_179_0 tfield_179_1 tsh_180 tsize_180
attribute [go_sem] tagg_180 tzero_180 srcOk_180 tsh_181 tsize_181 tagg_181 tzero_181 tplaces_181 srcOk_181 eqg_181 tfield_181_0 tfield_181_1 tfield_181_2 tfield_181_3 tsh_182 tsize_182 tagg_182 tzero_182 tplaces_182 srcOk_182 eqg_182 tfield_182_0 tfield_182_1 tfield_182_2 tfield_182_3 tsh_183 tsize_183 tagg_183 tzero_183 srcOk_183 tsh_184 tsize_184 tagg_184 tzero_184 tplaces_184 srcOk_184 eqg_184 tfield_184_0 tsh_185 tsize_185
attribute [go_sem] tagg_185 tzero_185 tplaces_185 srcOk_185 eqg_185 tfield_185_0 tsh_186 tsize_186 tagg_186 tzero_186 srcOk_186 tsh_187 tsize_187 tagg_187 tzero_187 srcOk_187 tsh_188 tsize_188 tagg_188 tzero_188 srcOk_188 tsh_189 tsize_189 tagg_189 tzero_189 srcOk_189 tsh_190 tsize_190 tagg_190 tzero_190 srcOk_190 tsh_191 tsize_191 tagg_191 tzero_191 tplaces_191 srcOk_191 eqg_191 tfield_191_0 tfield_191_1
attribute [go_sem] tfield_191_2 tfield_191_3 tfield_191_4 tfield_191_5 tfield_191_6 tfield_191_7 tfield_191_8 tfield_191_9 tfield_191_10 tsh_192 tsize_192 tagg_192 tzero_192 tplaces_192 srcOk_192 eqg_192 tfield_192_0 tfield_192_1 tfield_192_2 tfield_192_3 tfield_192_4 tfield_192_5 tfield_192_6 tfield_192_7 tfield_192_8 tfield_192_9 tfield_192_10 hasBody_2 hasBody_3 hasBody_4 hasBody_5 hasBody_6 hasBody_7 hasBody_8 hasBody_9 hasBody_10 hasBody_11 hasBody_12 hasBody_13 hasBody_14
attribute [go_sem] hasBody_15 hasBody_16 hasBody_17 hasBody_18 hasBody_19 hasBody_20 hasBody_21 hasBody_22 hasBody_23 hasBody_24 hasBody_25 hasBody_26 hasBody_27 hasBody_28 hasBody_29 hasBody_30 hasBody_31 hasBody_32 hasBody_33 hasBody_34 hasBody_35 hasBody_36 hasBody_37 hasBody_38 hasBody_39 hasBody_40 hasBody_41 hasBody_42 hasBody_43 hasBody_44 hasBody_45 hasBody_46 hasBody_47 hasBody_48 hasBody_49 hasBody_50 hasBody_51 hasBody_52 hasBody_53 hasBody_54
attribute [go_sem] hasBody_55 hasBody_56 hasBody_57 hasBody_58 hasBody_59 hasBody_60 hasBody_61 isNZ_62 isExt_62 hasBody_62 hasBody_63 hasBody_64 hasBody_65 hasBody_66 hasBody_67 hasBody_68 hasBody_69 hasBody_70 hasBody_71 hasBody_72 hasBody_73 hasBody_74 hasBody_75 hasBody_76 hasBody_77 hasBody_78 hasBody_79 hasBody_80 hasBody_81 hasBody_82 hasBody_83 hasBody_84 isNZ_85 hasBody_85 hasBody_86 hasBody_87 hasBody_88 hasBody_89 hasBody_90 hasBody_91
attribute [go_sem] hasBody_92 hasBody_93 hasBody_94 hasBody_95 hasBody_96 hasBody_97 hasBody_98 hasBody_99 hasBody_100 hasBody_101 hasBody_102 hasBody_103 hasBody_104 hasBody_105 hasBody_106 hasBody_107 hasBody_108 hasBody_109 hasBody_110 hasBody_111 isNZ_112 isExt_112 hasBody_112 hasBody_113 hasBody_114 hasBody_115 isNZ_116 isExt_116 hasBody_116 isNZ_117 isExt_117 hasBody_117 hasBody_118 hasBody_119 hasBody_120 hasBody_121 hasBody_122 hasBody_123 hasBody_124 hasBody_156
attribute [go_sem] glob_0 glob_1 glob_2 glob_3 glob_4 glob_5 glob_6 glob_7 glob_8 conv_2_42 conv_3_5 conv_3_22 conv_3_24 conv_3_42 conv_3_47 conv_5_3 conv_5_21 conv_5_24 conv_5_42 conv_9_52 conv_22_3 conv_22_24 conv_24_3 conv_24_5 conv_24_22 conv_24_42 conv_24_47 conv_42_3 conv_42_5 conv_42_24 conv_47_3 conv_47_24 conv_52_9 conv_52_9n conv_52_23 conv_52_23n
end Go.Proofs.YtgkpgpdkolpfkaaGreatDoor.V
namespace Go.Proofs.YtgkpgpdkolpfkaaGreatDoor.V
open Go Go.RowKit

inductive Ck where
  | b | i (k : IntKind) | s
section
variable {H : Type} {enc : TypeId × Value → H} {P : Program} {W : World} {base : Nat} {sp : Nat → Bool} {held : Bool}

def rows : List (List AV) → List AV := List.flatten

def start (W : World) : Gh := ⟨(· < W.heap.size), W, fun _ => False, ([], false)⟩
theorem HRel.ro {g : Gh} {μ : Mu} {Hh : Hp} (h : HRel P g μ Hh W) (hno : ∀ x ∈ Hh, apart x = false) {l : Loc} {c : List AV} {e : TypeId} (hl : l.blk < W.heap.size) (hx : BRel P μ W l (.cells c e .ro)) :
    HRel P g (upd μ Hh.length l) (Hh ++ [.cells c e .ro]) W where
  dom := fun b l' e => by
    by_cases hb : b = Hh.length
    · subst hb; simp
    · rw [upd_other _ _ hb] at e
      have := h.dom b l' e
      simp; omega
  glob := fun i hi => by
    obtain ⟨c, hc⟩ := h.glob i hi
    exact ⟨c, h.le_upd _ _ _ hc⟩
  lt := fun b l' e => by
    by_cases hb : b = Hh.length
    · subst hb; rw [upd_same] at e; cases e; exact hl
    · rw [upd_other _ _ hb] at e; exact h.lt b l' e
  blk := fun b l' x e e' => by
    rw [get_snoc] at e'
    by_cases hb : b = Hh.length
    · subst hb
      rw [upd_same] at e
      rw [if_pos rfl] at e'
      cases e; cases e'
      exact hx.mono (h.le_upd _) (fun _ => rfl)
    · rw [upd_other _ _ hb] at e
      rw [if_neg hb] at e'
      exact (h.blk b l' x e e').mono (h.le_upd _) (fun _ => rfl)
  sep := fun b b' l1 l2 x x' hne e1 e2 hx1 hx2 hw hv => by
    exfalso
    rw [get_snoc] at hx1
    split at hx1
    · cases hx1; cases hw
    · rw [hno x (List.mem_of_getElem? hx1)] at hw; cases hw
  own := fun b l1 x e1 hx1 hw => by
    exfalso
    rw [get_snoc] at hx1
    split at hx1
    · cases hx1; cases hw
    · have := apart_w hw; rw [hno x (List.mem_of_getElem? hx1)] at this; cases this
  old := h.old
  os := h.os
  tape := h.tape
  output := h.output
  size := h.size
theorem start_below {μ : Mu} {Hh : Hp} {w' : World} (h : HRel P (start W) μ Hh w') : Below W.heap.size W w' :=
  ⟨h.os, h.tape, h.output, h.size, fun k hk => (h.old k hk).2⟩
theorem calls_of {f : FuncId} {args : List AV} {Hh : Hp} {q : AV × Hp × Ef} {g : Gh} {μ : Mu} {vs : List Value} (hf : hasBody P f = true) (h : callK P f args Hh (fun r => r = q)) (hr : HRel P g μ Hh W) (hv : concs μ args = some vs) :
    Calls P f vs.toArray W (fun e w' => ∃ μ' v', e = .returned v' ∧ Ok P g μ Hh q μ' v' w') := by
  obtain ⟨n, r, hn, rfl⟩ := h
  have hlt : f < P.funcs.size := by
    unfold hasBody at hf
    split at hf
    · rename_i fn hfn; exact (Array.getElem?_eq_some_iff.1 hfn).1
    · cases hf
  exact (evN_ok P n).fn f args Hh r hlt hn g μ W vs hr hv
end
end Go.Proofs.YtgkpgpdkolpfkaaGreatDoor.V
namespace Go.Proofs.YtgkpgpdkolpfkaaGreatDoor.V
open Go Go.RowKit

section
variable {H : Type} {enc : TypeId × Value → H} {P : Program} {W : World} {base : Nat} {sp : Nat → Bool} {held : Bool}

theorem var_block {n : String} {g : Nat} {cs : Array Value} (hg : P.globalNamed n = some g) (h : W.var? P n = some cs) : ∃ e fr, W.heap[g]? = some (.cells cs e fr) := by
  unfold World.var? at h
  rw [hg] at h
  simp only [Option.bind_some] at h
  split at h
  · rename_i c e fr hb
    cases h
    exact ⟨e, fr, hb⟩
  · cases h
theorem laid_block {μ : Mu} {g : Nat} {cs : Array Value} {e : TypeId} {fr : Nat × Nat} {vs : List AV} (hb : W.heap[g]? = some (.cells cs e fr)) (hv : concs μ vs = some cs.toList) : BRel P μ W ⟨g, 0, 0⟩ (.cells vs e .ro) := by
  refine ⟨cs, fr, cs.toList, hb, hv, ?_, fun i v hi => ?_, trivial⟩
  · have := concs_length hv; simp only [Array.length_toList] at this; show 0 + vs.length ≤ _; omega
  · simpa using hi

theorem shaped_size {n : Nat} (hn : P.globals.size = n) (h : W.ShapedOpen P) (hz : ((((begin P (fun _ _ => 0) default).world.heap)[n - 1]?).bind Obj.row?).isSome = true) : n ≤ W.heap.size := by
  by_cases h0 : n = 0
  · omega
  · obtain ⟨⟨z, t⟩, hx⟩ := Option.isSome_iff_exists.1 hz
    obtain ⟨cs, hcs, _⟩ := h.1 (n - 1) z t (by omega) hx
    have := (Array.getElem?_eq_some_iff.1 hcs).1
    omega

end
end Go.Proofs.YtgkpgpdkolpfkaaGreatDoor.V
namespace Go.Proofs.YtgkpgpdkolpfkaaGreatDoor.V
open Go

def hexD (n : Nat) : UInt8 := if n < 10 then UInt8.ofNat (48 + n) else UInt8.ofNat (87 + n)
def twoP (c : UInt8) : List UInt8 := [hexD (c.toNat / 16), hexD (c.toNat % 16)]
def hexP (s : List UInt8) : List UInt8 := s.flatMap twoP
def decP (n : Nat) : List UInt8 := if n < 10 then [hexD n] else decP (n / 10) ++ [hexD (n % 10)]
termination_by n
decreasing_by omega
theorem hexD_at {n : Nat} (h : n < 16) : ([48, 49, 50, 51, 52, 53, 54, 55, 56, 57, 97, 98, 99, 100, 101, 102] : List UInt8)[n]? = some (hexD n) := by
  have : ∀ n : Fin 16, ([48, 49, 50, 51, 52, 53, 54, 55, 56, 57, 97, 98, 99, 100, 101, 102] : List UInt8)[n.val]? = some (hexD n.val) := by decide
  exact this ⟨n, h⟩
theorem hexP_len (s : List UInt8) : (hexP s).length = 2 * s.length := by
  induction s with
  | nil => rfl
  | cons c s ih => show (twoP c ++ hexP s).length = _; rw [List.length_append, ih, List.length_cons]; show 2 + _ = _; omega
theorem take_snoc {α : Type} {l : List α} {i : Nat} {a : α} (h : l[i]? = some a) : l.take (i + 1) = l.take i ++ [a] := by
  rw [List.take_add_one, h]; rfl
theorem hexP_snoc {s : List UInt8} {i : Nat} {c : UInt8} (h : s[i]? = some c) : hexP (s.take (i + 1)) = hexP (s.take i) ++ twoP c := by
  rw [take_snoc h]; simp [hexP]
theorem all_not {s : List UInt8} {i : Nat} {c : UInt8} {p : UInt8 → Bool} (h : s[i]? = some c) (hc : p c = false) : s.all p = false := by
  rw [List.all_eq_false]
  exact ⟨c, List.mem_of_getElem? h, by simp [hc]⟩
def fixd : ABlk → Bool
  | .cells _ e (.op _ _) => !(e == 5)
  | .dead => false
  | _ => true
def Keep (T : Hp) (j : Nat) (T' : Hp) : Prop := T.length ≤ T'.length ∧ ∀ (i : Nat) x, i ≠ j → T[i]? = some x → fixd x = true → T'[i]? = some x
theorem Keep.refl (T : Hp) (j : Nat) : Keep T j T := ⟨Nat.le_refl _, fun i x _ h _ => h⟩
theorem Keep.trans {T T' T'' : Hp} {j : Nat} (h : Keep T j T') (h' : Keep T' j T'') : Keep T j T'' :=
  ⟨Nat.le_trans h.1 h'.1, fun i x hi hx hf => h'.2 i x hi (h.2 i x hi hx hf) hf⟩
def Cl (n j : Nat) (e : Ef) : Prop := ∃ x, e.es = some x ∧ n ≤ x ∧ x ≤ n + j ∧ low n e.ws = none
theorem Cl.cln {n j : Nat} {e : Ef} (h : Cl n j e) : clean n e := by
  obtain ⟨x, h1, h2, h3, h4⟩ := h
  exact ⟨by rw [h1]; simp [low, h2], h4⟩
theorem omin_some {x : Nat} {o : Option Nat} {n : Nat} (hx : n ≤ x) (ho : low n o = none) : ∃ y, omin (some x) o = some y ∧ n ≤ y ∧ y ≤ x := by
  cases o with
  | none => exact ⟨x, rfl, hx, Nat.le_refl _⟩
  | some z =>
    refine ⟨min x z, rfl, ?_, Nat.min_le_left _ _⟩
    have : n ≤ z := by rw [low_w] at ho; exact ho
    omega
theorem omin_comm (a b : Option Nat) : omin a b = omin b a := by
  cases a <;> cases b <;> simp [omin, Nat.min_comm]
theorem Cl.andl {n j : Nat} {a b : Ef} (h : Cl n j a) (h' : clean n b) : Cl n j (a.and b) := by
  obtain ⟨x, h1, h2, h3, h4⟩ := h
  obtain ⟨y, y1, y2, y3⟩ := omin_some (o := b.es) h2 h'.1
  exact ⟨y, by show omin a.es b.es = _; rw [h1, y1], y2, by omega, low_omin h4 h'.2⟩
theorem Cl.andr {n j : Nat} {a b : Ef} (h : clean n a) (h' : Cl n j b) : Cl n j (a.and b) := by
  obtain ⟨x, h1, h2, h3, h4⟩ := h'
  obtain ⟨y, y1, y2, y3⟩ := omin_some (o := a.es) h2 h.1
  exact ⟨y, by show omin a.es b.es = _; rw [omin_comm, h1, y1], y2, by omega, low_omin h.2 h4⟩
theorem low_low {n m : Nat} {o : Option Nat} (h : low n o = none) : low n (low m o) = none := by
  cases o with
  | none => rfl
  | some x =>
    rw [low_w] at h
    by_cases hm : m ≤ x
    · simp [low, hm]
    · simp [low, hm, h]
theorem Cl.leave {n j m : Nat} {e : Ef} (h : Cl n j e) (hj : n + j < m) : ∃ e', Cl n j e' ∧ ∀ v H, leave m v H e = (v, H, e') := by
  obtain ⟨x, h1, h2, h3, h4⟩ := h
  have h5 : low m e.es = some x := by
    have : ¬ m ≤ x := by omega
    rw [h1]; simp [low, this]
  refine ⟨⟨low m e.es, low m e.ws⟩, ⟨x, h5, h2, h3, low_low h4⟩, fun v H => ?_⟩
  unfold V.leave
  rw [if_neg (by rw [h5]; simp)]
theorem lt_of_get {T : Hp} {j : Nat} {x : ABlk} (h : T[j]? = some x) : j < T.length := (List.getElem?_eq_some_iff.1 h).1
theorem set_get {T : Hp} {j : Nat} {x : ABlk} (h : T[j]? = some x) : T.set j x = T := by
  apply List.ext_getElem?
  intro i
  by_cases hi : j = i
  · subst hi; rw [List.getElem?_set_self (lt_of_get h), h]
  · rw [List.getElem?_set_ne hi]
theorem lse {T l : Hp} {j : Nat} {v : ABlk} : (T.set j v ++ l)[T.length]? = l[0]? := by
  rw [List.getElem?_append_right (by simp)]; simp
attribute [go_sem] lse
theorem low_sm {n m : Nat} (h : m < n) : low n (some m) = some m := by
  have : ¬ n ≤ m := by omega
  simp [low, this]
theorem leave_st {n : Nat} {v : AV} {H : Hp} {e : Ef} {x : Nat} (h : low n e.es = some x) : leave n v H e = (v, H, ⟨some x, low n e.ws⟩) := by
  unfold leave; rw [if_neg (by rw [h]; simp), h]
theorem get_app {T l : Hp} {i : Nat} {x : ABlk} (h : T[i]? = some x) : (T ++ l)[i]? = some x := hp_old h
theorem sh_r {kd : IntKind} {a b : Int} (h : decide (b < 0) = false) : evShift .shr kd a b = some (.int kd (a.fdiv (2 ^ (min b.toNat kd.bits)))) := by
  have : ¬ b < 0 := by simpa using h
  simp only [evShift]; rw [if_neg this]
theorem sh_l {kd : IntKind} {a b : Int} (h : decide (b < 0) = false) : evShift .shl kd a b = some (.int kd (kd.wrap (a * 2 ^ (min b.toNat kd.bits)))) := by
  have : ¬ b < 0 := by simpa using h
  simp only [evShift]; rw [if_neg this]
theorem bits_i64 : IntKind.bits .i64 = 64 := rfl
theorem bits_u64 : IntKind.bits .u64 = 64 := rfl
theorem bits_u8 : IntKind.bits .u8 = 8 := rfl
theorem bits_u16 : IntKind.bits .u16 = 16 := rfl
theorem bits_u32 : IntKind.bits .u32 = 32 := rfl
theorem wrapl_i64 {n : Nat} (h : decide (n < 9223372036854775808) = true) : IntKind.i64.wrap (no_index (@OfNat.ofNat Int n instOfNat)) = @OfNat.ofNat Int n instOfNat := by
  have h : n < 9223372036854775808 := of_decide_eq_true h
  show IntKind.i64.wrap (n : Int) = (n : Int)
  exact wrap_i64 (by omega)
theorem wrapl_u64 {n : Nat} (h : decide (n < 18446744073709551616) = true) : IntKind.u64.wrap (no_index (@OfNat.ofNat Int n instOfNat)) = @OfNat.ofNat Int n instOfNat := by
  have h : n < 18446744073709551616 := of_decide_eq_true h
  show IntKind.u64.wrap (n : Int) = (n : Int)
  exact wrap_u64 (by omega)
theorem wrapl_u32 {n : Nat} (h : decide (n < 4294967296) = true) : IntKind.u32.wrap (no_index (@OfNat.ofNat Int n instOfNat)) = @OfNat.ofNat Int n instOfNat := by
  have h : n < 4294967296 := of_decide_eq_true h
  show IntKind.u32.wrap (n : Int) = (n : Int)
  exact wrap_u32 (by omega)
theorem wrapl_u16 {n : Nat} (h : decide (n < 65536) = true) : IntKind.u16.wrap (no_index (@OfNat.ofNat Int n instOfNat)) = @OfNat.ofNat Int n instOfNat := by
  have h : n < 65536 := of_decide_eq_true h
  show IntKind.u16.wrap (n : Int) = (n : Int)
  exact wrap_u16 (by omega)
theorem wrapl_u8 {n : Nat} (h : decide (n < 256) = true) : IntKind.u8.wrap (no_index (@OfNat.ofNat Int n instOfNat)) = @OfNat.ofNat Int n instOfNat := by
  have h : n < 256 := of_decide_eq_true h
  show IntKind.u8.wrap (n : Int) = (n : Int)
  exact wrap_u8 (by omega)
theorem wrapl_i32 {n : Nat} (h : decide (n < 2147483648) = true) : IntKind.i32.wrap (no_index (@OfNat.ofNat Int n instOfNat)) = @OfNat.ofNat Int n instOfNat := by
  have h : n < 2147483648 := of_decide_eq_true h
  show IntKind.i32.wrap (n : Int) = (n : Int)
  exact wrap_i32 (by omega)
attribute [go_sem] wrapl_i64 wrapl_u64 wrapl_u32 wrapl_u16 wrapl_u8 wrapl_i32
attribute [go_sem] sh_r sh_l bits_i64 bits_u64 bits_u8 bits_u16 bits_u32

theorem ofNat_le {n m : Nat} (h : n ≤ m) (hm : m < 256) : (UInt8.ofNat n).toNat = n := by
  have : n < 256 := by omega
  exact UInt8.toNat_ofNat_of_lt' (by simpa using this)
theorem bind_ixs {P : Program} {t : TypeId} {b o n : Nat} {c : Cap} {kd : IntKind} {i : Int} {f : AV → Prop} (h : (match tsh P t with | some (.slice _ _ _) => true | _ => false) = true) :
    bindK (evIndexAddr P t (.slice b o n c) (.int kd i)) f = bindK (tsh P t) fun sh => (0 ≤ i ∧ i < n) ∧ f (.ptr b (o + i.toNat * shZ sh)) := by
  split at h
  · rename_i e z w he
    simp only [evIndexAddr, he, bindK_ite, bindK_some, shZ]
  · cases h
theorem bind_ixa {P : Program} {t : TypeId} {b o : Nat} {kd : IntKind} {i : Int} {f : AV → Prop} (h : (match tsh P t with | some (.array _ _ _) => true | _ => false) = true) :
    bindK (evIndexAddr P t (.ptr b o) (.int kd i)) f = bindK (tsh P t) fun sh => (0 ≤ i ∧ i < (shA sh).1) ∧ f (.ptr b (o + i.toNat * (shA sh).2)) := by
  split at h
  · rename_i e z w he
    simp only [evIndexAddr, he, bindK_ite, bindK_some, shA]
  · cases h
attribute [go_sem ↓] bind_ixs bind_ixa
theorem bytesOf_n : evConv.bytesOf [] = some [] := rfl
theorem bytesOf_c {b : UInt8} {r : List AV} : evConv.bytesOf (.int .u8 (b.toNat : Int) :: r) = (evConv.bytesOf r).map (b :: ·) := by
  show (evConv.bytesOf r).map (UInt8.ofNat ((b.toNat : Int)).toNat :: ·) = _
  simp
attribute [go_sem] bytesOf_n bytesOf_c
theorem leave_same {n : Nat} {v : AV} {H : Hp} {w : Option Nat} (hv : flat v = true) (h : H.length = n) : leave n v H ⟨none, w⟩ = (v, H, ⟨none, low n w⟩) := by
  unfold leave
  have hlo : low n none = none := rfl
  simp only [hlo, hv, and_self, if_true]
  rw [List.take_of_length_le (by omega)]
theorem and_ww {a : Nat} : Ef.and ⟨none, some a⟩ ⟨none, some a⟩ = ⟨none, some a⟩ := by simp [Ef.and, omin]
attribute [go_sem] and_ww
theorem str_eq {a b : List UInt8} {H : Hp} (h : a = b) : (AV.str a, H, z0) = (AV.str b, H, z0) := by rw [h]
theorem callK_exP {α : Type} {P : Program} {f : FuncId} {args : List AV} {H : Hp} (p : α → Prop) (g : α → AV × Hp × Ef) (h : callK P f args H (fun q => ∃ b, p b ∧ q = g b)) : ∃ b, p b ∧ ∀ k, callK P f args H k = k (g b) := by
  obtain ⟨r, hr⟩ := callK_ex (fun r : {b : α // p b} => g r.1) (callK_mono h (fun q ⟨b, hb, hq⟩ => ⟨⟨b, hb⟩, hq⟩))
  exact ⟨r.1, r.2, hr⟩
def cutQ (P : Program) (Q : Ex → St → Prop) (k : List It) (I : St → Prop) : Ex → St → Prop
  | .normal, s => I s
  | .exit i, s => leaveTo P Q i k s
  | ex, s => contQ P Q k ex s
section
variable {P : Program} {Q : Ex → St → Prop} {k : List It} {σ : List AV} {H : Hp} {e : Ef} {I : St → Prop}
instance [hc : Calm Q] : Calm (cutQ P Q k I) := ⟨fun s h => hc.no s ((contQ_pan (P := P) (Q := Q) k s) ▸ h)⟩
theorem cutQ_p : cutQ P Q k I .pan ⟨σ, H, e⟩ = Q .pan ⟨σ, H, e⟩ := contQ_pan k _
theorem cutQ_n : cutQ P Q k I .normal ⟨σ, H, e⟩ = I ⟨σ, H, e⟩ := rfl
theorem cutQ_e {i : Nat} : cutQ P Q k I (.exit i) ⟨σ, H, e⟩ = leaveTo P Q i k ⟨σ, H, e⟩ := rfl
theorem cutQ_r : cutQ P Q k I .ret ⟨σ, H, e⟩ = Q .ret ⟨σ, H, e⟩ := contQ_ret k _
attribute [go_sem ↓] cutQ_n cutQ_e cutQ_r cutQ_p
end
attribute [local irreducible] go goOps goD opK callK callT stepK leaveTo nextK
theorem add_ok {a b : List UInt8} {m n : Nat} (ha : a.length ≤ m) (hb : b.length ≤ n) (h : m + n ≤ 9223372036854775807) : evStr .add a b = some (.str (a ++ b)) := by
  rw [s_add, if_pos (by show _ ≤ 9223372036854775807; omega)]
theorem quiet_g1 {v : AV} {H : Hp} {x : ABlk} {e : Ef} : quiet (v, H ++ [x], e) H = false := by simp [quiet]
theorem quiet_g2 {v : AV} {H T : Hp} {x : ABlk} {e : Ef} : quiet (v, H ++ (T ++ [x]), e) (H ++ T) = false := by simp [quiet]
theorem quiet_g3 {v : AV} {H T : Hp} {x y : ABlk} {e : Ef} : quiet (v, H ++ y :: (T ++ [x]), e) (H ++ y :: T) = false := by simp [quiet]
attribute [go_sem] quiet_g1 quiet_g2 quiet_g3
def GBuf (n : Nat) (T : Hp) (v : AV) (e z len : Nat) (cs : List AV) : Prop := (v = .nils ∧ cs = [] ∧ len = 0) ∨ (0 < len ∧ cs.length = len * z ∧ ∃ m, v = .slice (n + m) 0 len (.op 0) ∧ T[m]? = some (.cells cs e (.op 0 false)))
theorem GBuf.scl {n : Nat} {T : Hp} {v : AV} {e z len : Nat} {cs : List AV} (h : GBuf n T v e z len cs) : scal v = true := by
  obtain ⟨rfl, _⟩ | ⟨_, _, m, rfl, _⟩ := h <;> rfl
theorem GBuf.more {n : Nat} {T : Hp} {v : AV} {e z len : Nat} {cs : List AV} (h : GBuf n T v e z len cs) (l : Hp) : GBuf n (T ++ l) v e z len cs := by
  obtain h | ⟨h1, h2, m, rfl, hm⟩ := h
  · exact .inl h
  · exact .inr ⟨h1, h2, m, rfl, get_app hm⟩
theorem GBuf.set {n : Nat} {T : Hp} {v : AV} {e z len : Nat} {cs : List AV} (h : GBuf n T v e z len cs) {j : Nat} {c : List AV} {e' : TypeId} {x : ABlk} (hj : T[j]? = some (.cells c e' .rw)) : GBuf n (T.set j x) v e z len cs := by
  obtain h | ⟨h1, h2, m, rfl, hm⟩ := h
  · exact .inl h
  · refine .inr ⟨h1, h2, m, rfl, ?_⟩
    have : j ≠ m := by rintro rfl; rw [hj] at hm; cases hm
    rw [List.getElem?_set_ne this]; exact hm
theorem GBuf.app2 {P : Program} {H T : Hp} {v : AV} {e z b len : Nat} {cs : List AV} (h : GBuf H.length T v e z len cs) (hz : decide (0 < z) = true) (hk : zok P e z = true) (xs : List AV) (q : Nat) (hq : 0 < q) (hx : xs.length = q * z) (hsc : xs.all V.scal = true) (hf : fits (len + q) b = true) :
    ∃ v' T2 e2, (∀ kk, stepK (appTo P (.slice e z b) v (xs, q) (H ++ T)) kk = kk (v', H ++ T2, e2)) ∧ T2.length = T.length + 1 ∧ clean H.length e2 ∧ (∀ (i : Nat) x, T[i]? = some x → (∀ c fz st, x ≠ .cells c e (.op fz st)) → T2[i]? = some x) ∧ GBuf H.length T2 v' e z (len + q) (cs ++ xs) ∧ flat v' = false ∧ vcells v' = [v'] ∧ ∀ v e, quiet (v, H ++ T2, e) (H ++ T) = false := by
  have hz' : 0 < z := by simpa using hz
  obtain ⟨rfl, rfl, rfl⟩ | ⟨hpos, hcl, m, rfl, hm⟩ := h
  · refine ⟨.slice (H.length + T.length) 0 q (.op 0), T ++ [.cells xs e (.op 0 false)], z0, fun kk => ?_, by simp, ⟨rfl, rfl⟩, fun i x hx _ => get_app hx, .inr ⟨by omega, by simpa using hx, T.length, by simp, by simp⟩, by simp only [flat], rfl, fun v e => by simp [quiet]⟩
    rw [appTo_nils hz hk]
    have hd : decide (q = 0) = false := by simp; omega
    have hf : fits q b = true := by simpa using hf
    simp only [hd, guardK_ft, hf, true_and, List.length_append, List.append_assoc]
  · have hlt := lt_of_get hm
    have hg : (H ++ T)[H.length + m]? = some (.cells cs e (.op 0 false)) := by rw [hp_new, hm]
    refine ⟨.slice (H.length + T.length) 0 (len + q) (.op 0), T.set m .dead ++ [.cells (cs ++ xs) e (.op 0 false)], ⟨none, some (H.length + m)⟩, fun kk => ?_, by simp, by simp [clean, low], fun i x hx hf => ?_, .inr ⟨by omega, by rw [List.length_append, hcl, hx, Nat.add_mul], T.length, rfl, by simp⟩, by simp only [flat], rfl, fun v e => by simp [quiet]⟩
    · rw [appTo_op hz hk, hg]
      simp only [bindK_some, appO_c]
      have hqz : 0 < q * z := Nat.mul_pos hq hz'
      have hd : decide (0 + (len + q) * z ≤ cs.length) = false := by
        rw [hcl, Nat.add_mul]; simp; omega
      have ht : (List.drop 0 cs).take (len * z) ++ xs = cs ++ xs := by
        rw [List.drop_zero, List.take_of_length_le (by rw [hcl]; exact Nat.le_refl _)]
      have hle : 0 + len * z ≤ cs.length := by rw [hcl]; omega
      rw [hd, guardK_ft]
      simp only [ht, hf, hsc, hle, hp_set, List.length_append, List.append_assoc, Nat.sub_self, Nat.zero_le, true_and, and_true, Nat.zero_mul]
    · have hne : m ≠ i := by
        rintro rfl
        rw [hm] at hx; cases hx; exact absurd rfl (hf _ _ _)
      rw [get_app (x := x)]
      rw [List.getElem?_set_ne hne]; exact hx
theorem drop_at {α : Type} {s : List α} {i : Nat} {c : α} (h : s[i]? = some c) : s.drop i = c :: s.drop (i + 1) := by
  obtain ⟨hi, rfl⟩ := List.getElem?_eq_some_iff.1 h
  exact List.drop_eq_getElem_cons hi
def strs (R : List (List UInt8)) : List AV := R.map .str
attribute [go_sem] Nat.mul_one
theorem strs_len {R : List (List UInt8)} : (strs R).length = R.length := by simp [strs]
theorem strs_snoc {A : List (List UInt8)} {k : Nat} {q : List UInt8} (h : A[k]? = some q) : strs (A.take k) ++ [.str q] = strs (A.take (k + 1)) := by
  rw [take_snoc h]; simp [strs]
theorem strs_at {A : List (List UInt8)} {i : Nat} {p : List UInt8} (h : A[i]? = some p) : (strs A)[i]? = some (.str p) := by simp [strs, h]
theorem strs_ld {A : List (List UInt8)} {i : Nat} {p : List UInt8} (h : A[i]? = some p) (e : TypeId) (k : Kd) : ldC i 1 false (.cells (strs A) e k) = some (.str p) := by
  rw [ldC_f]; exact strs_at h
end Go.Proofs.YtgkpgpdkolpfkaaGreatDoor.V
namespace Go.Proofs.YtgkpgpdkolpfkaaGreatDoor.V
open Go
attribute [local irreducible] go goOps goD opK callK callT stepK leaveTo nextK

def labF : Nat → List UInt8 → Option (List (List UInt8))
  | 0, _ => none
  | _ + 1, [] => none
  | n + 1, k :: t => if k.toNat = 0 then (if t.length = 0 then some [] else none) else if 63 < k.toNat ∨ t.length < k.toNat then none else (labF n (t.drop k.toNat)).map (t.take k.toNat :: ·)
theorem labF_more : ∀ (n m : Nat) (s : List UInt8), s.length < n → s.length < m → labF n s = labF m s
  | 0, _, s, h, _ => by omega
  | _ + 1, 0, s, _, h => by omega
  | n + 1, m + 1, [], _, _ => rfl
  | n + 1, m + 1, k :: t, h, h' => by
    simp only [labF]
    simp only [List.length_cons] at h h'
    rw [labF_more n m (t.drop k.toNat) (by rw [List.length_drop]; omega) (by rw [List.length_drop]; omega)]
def lab (s : List UInt8) : Option (List (List UInt8)) := labF (s.length + 1) s
theorem lab_nil : lab [] = none := rfl
theorem lab_cons (k : UInt8) (t : List UInt8) : lab (k :: t) = if k.toNat = 0 then (if t.length = 0 then some [] else none) else if 63 < k.toNat ∨ t.length < k.toNat then none else (lab (t.drop k.toNat)).map (t.take k.toNat :: ·) := by
  unfold lab
  rw [List.length_cons, labF, labF_more (t.length + 1) _ (t.drop k.toNat) (by rw [List.length_drop]; omega) (Nat.lt_succ_self _)]
def nm (s : List UInt8) : Option (List (List UInt8)) := if 255 < s.length then none else lab s
def tot (L : List (List UInt8)) : Nat := (L.map fun l => 1 + l.length).sum
def posn : Nat → List (List UInt8) → List Nat
  | _, [] => []
  | a, l :: L => a :: posn (a + (1 + l.length)) L
def posA (L : List (List UInt8)) : List AV := (posn 0 L).map fun n => .int .i64 (n : Nat)
theorem tot_snoc (L : List (List UInt8)) (l : List UInt8) : tot (L ++ [l]) = tot L + (1 + l.length) := by simp [tot]
theorem posn_snoc : ∀ (L : List (List UInt8)) (a : Nat) (l : List UInt8), posn a (L ++ [l]) = posn a L ++ [a + tot L]
  | [], a, l => by simp [posn, tot]
  | m :: L, a, l => by
    have := posn_snoc L (a + (1 + m.length)) l
    simp only [List.cons_append, posn, this]
    simp [tot]; omega
theorem posA_snoc (L : List (List UInt8)) (l : List UInt8) : posA (L ++ [l]) = posA L ++ [.int .i64 (tot L : Nat)] := by
  simp only [posA, posn_snoc, List.map_append, List.map_cons, List.map_nil, Nat.zero_add]
theorem lab_step {s : List UInt8} {i : Nat} {c : UInt8} {L1 : List (List UInt8)} (hc : s[i]? = some c) (hl : lab s = (lab (s.drop i)).map (L1 ++ ·)) :
    (c.toNat = 0 → lab s = if i + 1 = s.length then some L1 else none) ∧ (63 < c.toNat → lab s = none) ∧
    (c.toNat ≠ 0 → c.toNat ≤ 63 → (s.length < i + (1 + c.toNat) ∧ lab s = none) ∨ (i + (1 + c.toNat) ≤ s.length ∧ ((s.drop (i + 1)).take c.toNat).length = c.toNat ∧ lab s = (lab (s.drop (i + (1 + c.toNat)))).map ((L1 ++ [(s.drop (i + 1)).take c.toNat]) ++ ·))) := by
  have hi : i < s.length := (List.getElem?_eq_some_iff.1 hc).1
  rw [drop_at hc, lab_cons] at hl
  refine ⟨fun h0 => ?_, fun h => ?_, fun h0 h1 => ?_⟩
  · rw [if_pos h0] at hl
    rw [hl, List.length_drop]
    by_cases h : i + 1 = s.length
    · rw [if_pos h, if_pos (by omega)]; simp
    · rw [if_neg h, if_neg (by omega)]; rfl
  · rw [if_neg (by omega), if_pos (.inl h)] at hl
    exact hl
  · rw [if_neg h0, List.length_drop] at hl
    by_cases h : s.length < i + (1 + c.toNat)
    · rw [if_pos (by omega)] at hl
      exact .inl ⟨h, hl⟩
    · rw [if_neg (by omega)] at hl
      refine .inr ⟨by omega, by rw [List.length_take, List.length_drop]; omega, ?_⟩
      rw [hl, List.drop_drop, show i + 1 + c.toNat = i + (1 + c.toNat) by omega, Option.map_map]
      congr 1
      funext x
      simp
theorem lab_end {s : List UInt8} {i : Nat} {L1 : List (List UInt8)} (hi : i = s.length) (hl : lab s = (lab (s.drop i)).map (L1 ++ ·)) : lab s = none := by
  rw [hl, hi, List.drop_length, lab_nil]; rfl

theorem bslice_int (n : Int) (H : Hp) : evBuildSlice Tryz.prog 92 1 [(0, .int .i64 n)] H = some (.slice H.length 0 1 (.ex 1), H ++ [.cells [.int .i64 n] 3 .rw]) := by
  simp only [evBuildSlice, tsh_92, tzero_3, Option.bind_some]
  rfl

set_option maxRecDepth 20000 in
theorem name_starts (s : List UInt8) (H) (hs : s.length ≤ maxI) : ∃ b : AV × Hp, (∀ L, nm s = some L → GBuf H.length b.2 b.1 3 1 L.length (posA L)) ∧
    ∀ k, callK Tryz.prog 43 [.str s] H k = k (.tuple [b.1, .bool (nm s).isSome], H ++ b.2, z0) := by
  refine callK_exP (fun b : AV × Hp => ∀ L, nm s = some L → GBuf H.length b.2 b.1 3 1 L.length (posA L)) (fun b => (.tuple [b.1, .bool (nm s).isSome], H ++ b.2, z0)) ?_
  refine callK_start (n := 40) (rs := [.tmp 2, .tmp 3]) Tryz.func43 rfl rfl rfl ?_
  intro σ hl ha
  have h0 := ha 0 (by simp)
  clear ha
  have hs : s.length ≤ 9223372036854775807 := hs
  simp only [Option.getD_some, List.getElem?_cons_zero, List.getElem?_cons_succ] at h0
  by_cases hbig : 255 < s.length
  · have g : decide ((s.length : Int) > 255) = true := by simp; omega
    have hn : nm s = none := if_pos hbig
    simp only [go_sem, simprocAttr, hl, h0, g]
    exact ⟨(.nils, []), by simp [hn], by simp [hn]⟩
  have g : decide ((s.length : Int) > 255) = false := by simp; omega
  have hnm : nm s = lab s := if_neg hbig
  simp only [go_sem, simprocAttr, hl, h0, g]
  rw [hnm]
  refine go_rounds (fun n st => ∃ σ i L1 v T e, n + i = 400 ∧ i < 320 ∧ i = tot L1 ∧ ((i ≤ s.length ∧ lab s = (lab (s.drop i)).map (L1 ++ ·)) ∨ (s.length < i ∧ lab s = none)) ∧ L1.length ≤ i ∧ GBuf H.length T v 3 1 L1.length (posA L1) ∧ st = ⟨σ, H ++ T, e⟩ ∧ clean H.length e ∧ σ.length = 40 ∧ fr σ 0 = .str s ∧ fr σ 4 = v ∧ fr σ 5 = .int .i64 (i : Nat)) 400
    ⟨_, 0, [], .nils, [], _, rfl, by omega, rfl, .inl ⟨Nat.zero_le _, by simp⟩, Nat.le_refl _, .inl ⟨rfl, rfl, rfl⟩, by rw [List.append_nil], ⟨rfl, rfl⟩, by simp only [go_sem, simprocAttr, hl], by simp only [go_sem, simprocAttr, hl, h0], by simp only [go_sem, simprocAttr, hl], by simp only [go_sem, simprocAttr, hl]⟩ ?_
  rintro n _ ⟨σ, i, L1, v, T, e, hn, hi, hit, hm, hLi, hv, rfl, he, hl, h0, h4, h5⟩
  have fin : ∀ b : Bool, (∀ L, lab s = some L → L = L1 ∧ b = true) → (lab s = none → b = false) →
      ∃ b1 : AV × Hp, (∀ L, lab s = some L → GBuf H.length b1.2 b1.1 3 1 L.length (posA L)) ∧ leave H.length (.tuple [v, .bool b]) (H ++ T) e = (.tuple [b1.1, .bool (lab s).isSome], H ++ b1.2, z0) := by
    intro b hb1 hb2
    have hb : b = (lab s).isSome := by
      cases hs : lab s with
      | none => exact hb2 hs
      | some L => exact (hb1 L hs).2
    subst hb
    obtain ⟨rfl, h2, h3⟩ | ⟨h1, h2, m, rfl, h3⟩ := hv
    · refine ⟨(.nils, []), fun L hL => .inl ?_, ?_⟩
      · obtain ⟨rfl, _⟩ := hb1 L hL
        exact ⟨rfl, h2, h3⟩
      · rw [leave_flat rfl he, List.append_nil]
    · refine ⟨(.slice (H.length + m) 0 L1.length (.op 0), T), fun L hL => .inr ?_, ?_⟩
      · obtain ⟨rfl, _⟩ := hb1 L hL
        exact ⟨h1, h2, m, rfl, h3⟩
      · rw [leave_keep (by simp [flat, flats]) he]
  by_cases hlt : i < s.length
  · obtain ⟨c, hc⟩ : ∃ c, s[i]? = some c := ⟨_, List.getElem?_eq_getElem hlt⟩
    have hlb : lab s = (lab (s.drop i)).map (L1 ++ ·) := by
      rcases hm with ⟨_, h⟩ | ⟨h, _⟩
      · exact h
      · omega
    obtain ⟨s0, s1, s2⟩ := lab_step hc hlb
    have g0 : decide ((i : Int) < (s.length : Int)) = true := by simp; omega
    have hcl := c.toNat_lt
    by_cases hz : c.toNat = 0
    · have g1 : ((c.toNat : Int) != 0) = false := by simp; omega
      have w1 : IntKind.i64.wrap ((s.length : Int) - 1) = (s.length : Int) - 1 := by rw [wrap_i64 (by omega)]
      simp only [go_sem, simprocAttr, hl, h0, h4, h5, g0, hc, hlt, g1, w1]
      refine fin _ (fun L hL => ?_) (fun hL => ?_)
      · rw [s0 hz] at hL
        split at hL
        · rename_i h; cases hL; exact ⟨rfl, by simp; omega⟩
        · cases hL
      · rw [s0 hz] at hL
        split at hL
        · cases hL
        · rename_i h; simp; omega
    · have g1 : ((c.toNat : Int) != 0) = true := by simp; omega
      by_cases hb : 63 < c.toNat
      · have g2 : decide ((c.toNat : Int) > 63) = true := by simp; omega
        have hN := s1 hb
        simp only [go_sem, simprocAttr, hl, h0, h4, h5, g0, hc, hlt, g1, g2, he]
        exact ⟨(.nils, []), by simp [hN], by simp [hN]⟩
      · have g2 : decide ((c.toNat : Int) > 63) = false := by simp; omega
        have w0 : IntKind.i64.wrap (c.toNat : Int) = (c.toNat : Int) := by rw [wrap_i64 (by omega)]
        have w1 : IntKind.i64.wrap (1 + (c.toNat : Int)) = ((1 + c.toNat : Nat) : Int) := by rw [wrap_i64 (by omega)]; omega
        have w2 : IntKind.i64.wrap ((i : Int) + ((1 + c.toNat : Nat) : Int)) = ((i + (1 + c.toNat) : Nat) : Int) := by rw [wrap_i64 (by omega)]; omega
        have hbs := bslice_int (i : Nat)
        obtain ⟨v', T2, e2, happ, _, hcl2, _, hv3, _, _, _⟩ := (hv.more [.cells [.int .i64 (i : Nat)] 3 .rw]).app2 (P := Tryz.prog) (b := 8) (by decide) zok_92 [.int .i64 (i : Nat)] 1 (by decide) rfl rfl (by simp only [fits, decide_eq_true_eq]; omega)
        simp only [go_sem, simprocAttr, hl, h0, h4, h5, g0, hc, hlt, g1, g2, w0, w1, w2, hbs, happ]
        obtain ⟨ll, hll, hm'⟩ : ∃ l : List UInt8, l.length = c.toNat ∧ ((i + (1 + c.toNat) ≤ s.length ∧ lab s = (lab (s.drop (i + (1 + c.toNat)))).map ((L1 ++ [l]) ++ ·)) ∨ (s.length < i + (1 + c.toNat) ∧ lab s = none)) := by
          rcases s2 hz (by omega) with h | ⟨h1, h2, h3⟩
          · exact ⟨List.replicate c.toNat 0, by simp, .inr h⟩
          · exact ⟨_, h2, .inl ⟨h1, h3⟩⟩
        rw [show posA L1 ++ [.int .i64 (i : Nat)] = posA (L1 ++ [ll]) by rw [posA_snoc, hit]] at hv3
        refine ⟨n - (1 + c.toNat), by omega, _, i + (1 + c.toNat), L1 ++ [ll], v', T2, _, by omega, by omega, by rw [tot_snoc, hll, hit], hm', by simp; omega, by simpa using hv3, rfl, by simp only [go_sem, simprocAttr, he, hcl2], by simp only [go_sem, simprocAttr, hl], by simp only [go_sem, simprocAttr, hl, h0], by simp only [go_sem, simprocAttr, hl], by simp only [go_sem, simprocAttr, hl]⟩
  · have g0 : decide ((i : Int) < (s.length : Int)) = false := by simp; omega
    have hN : lab s = none := by
      rcases hm with ⟨h, h'⟩ | ⟨_, h⟩
      · exact lab_end (by omega) h'
      · exact h
    have w1 : IntKind.i64.wrap ((s.length : Int) - 1) = (s.length : Int) - 1 := by rw [wrap_i64 (by omega)]
    simp only [go_sem, simprocAttr, hl, h0, h4, h5, hlt, w1]
    refine fin _ (fun L hL => by rw [hN] at hL; cases hL) (fun _ => by simp; omega)

set_option maxRecDepth 20000 in
theorem name_Check (s : List UInt8) (H k) (hs : s.length ≤ maxI) : callK Tryz.prog 20 [.str s] H k = k (.int .i64 (if (nm s).isSome then 0 else 11), H, z0) := by
  obtain ⟨b, _, hb⟩ := name_starts s H hs
  refine callK_eq (r := (.int .i64 (if (nm s).isSome then 0 else 11), H, z0)) ?_ k
  refine callK_start (n := 12) (rs := [.tmp 2]) Tryz.func20 rfl rfl rfl ?_
  intro σ hl ha
  have h0 := ha 0 (by simp)
  clear ha
  simp only [Option.getD_some, List.getElem?_cons_zero, List.getElem?_cons_succ] at h0
  cases h : (nm s).isSome <;> rw [h] at hb <;> simp only [go_sem, simprocAttr, hl, h0, hb]
end Go.Proofs.YtgkpgpdkolpfkaaGreatDoor.V
namespace Go.Proofs.YtgkpgpdkolpfkaaGreatDoor.V
open Go
attribute [local irreducible] go goOps goD opK callK callT stepK leaveTo nextK

theorem bslice_str (p : List UInt8) (H : Hp) : evBuildSlice Tryz.prog 38 1 [(0, .str p)] H = some (.slice H.length 0 1 (.ex 1), H ++ [.cells [.str p] 9 .rw]) := by
  simp only [evBuildSlice, tsh_38, tzero_9, Option.bind_some]
  rfl

theorem i_orT {kd : IntKind} {a b : Int} : evInt .or kd a b = some (.int kd (kd.wrap (BitVec.ofInt kd.bits a ||| BitVec.ofInt kd.bits b).toNat)) := rfl

theorem u8s_at {s : List UInt8} {i : Nat} {c : UInt8} (h : s[i]? = some c) : (u8s s)[i]? = some (.int .u8 c.toNat) := by simp [u8s, h]
theorem u8s_ld {s : List UInt8} {i n : Nat} {c : UInt8} {e : TypeId} {k : Kd} (h : s[i]? = some c) : ldC i n false (.cells (u8s s) e k) = some (.int .u8 c.toNat) := u8s_at h
theorem u8s_st {s : List UInt8} {i : Nat} {c d : UInt8} (h : s[i]? = some c) : splice (u8s s) i [.int .u8 d.toNat] = u8s (s.set i d) := by
  have hi : i < s.length := (List.getElem?_eq_some_iff.1 h).1
  unfold splice u8s
  rw [List.set_eq_take_append_cons_drop, if_pos hi]
  simp [List.map_take, List.map_drop]
theorem rdC_u8s {s : List UInt8} {e : TypeId} {k : Kd} {n : Nat} (h : s.length = n) : rdC 0 n (.cells (u8s s) e k) = some (u8s s) := by
  rw [rdC_c, if_pos (by rw [u8s_len]; omega), List.drop_zero, List.take_of_length_le (by rw [u8s_len]; omega)]
theorem u8s_fold (s : List UInt8) : (s.map fun b => AV.int .u8 (b.toNat : Int)) = u8s s := rfl

end Go.Proofs.YtgkpgpdkolpfkaaGreatDoor.V
namespace Go.Proofs.YtgkpgpdkolpfkaaGreatDoor.V
open Go
attribute [local irreducible] go goOps goD opK callK callT stepK leaveTo nextK

def Rd (H : Hp) (v : AV) (bs : List UInt8) : Prop := (v = .nils ∧ bs = []) ∨
  ∃ b o c pre post e k, v = .slice b o bs.length c ∧ pre.length = o ∧ H[b]? = some (.cells (pre ++ (u8s bs ++ post)) e k) ∧ ((∃ n, c = .ex n ∧ bs.length ≤ n) ∨ (c = .op o ∧ e = 5 ∧ ∃ fz st, k = .op fz st))
def Rv (H : Hp) (v : AV) (bs : List UInt8) : Prop := Rd H v bs ∨ ∃ b, v = .slice b 0 0 (.op 0) ∧ H[b]? = some .void ∧ bs = []
theorem Rd.old {H : Hp} {v : AV} {bs : List UInt8} (h : Rd H v bs) (l : Hp) : Rd (H ++ l) v bs := by
  obtain h | ⟨b, o, c, pre, post, e, k, h1, h2, h3, h4⟩ := h
  · exact .inl h
  · exact .inr ⟨b, o, c, pre, post, e, k, h1, h2, hp_old h3, h4⟩
theorem Rv.old {H : Hp} {v : AV} {bs : List UInt8} (h : Rv H v bs) (l : Hp) : Rv (H ++ l) v bs := by
  obtain h | ⟨b, h1, h2, h3⟩ := h
  · exact .inl (h.old l)
  · exact .inr ⟨b, h1, hp_old h2, h3⟩
theorem Rd.v {H : Hp} {v : AV} {bs : List UInt8} (h : Rd H v bs) : Rv H v bs := .inl h
theorem Rd.scl {H : Hp} {v : AV} {bs : List UInt8} (h : Rd H v bs) : scal v = true := by
  obtain ⟨rfl, rfl⟩ | ⟨b, o, c, pre, post, e, k, rfl, h2, h3, h4⟩ := h <;> rfl
theorem Rv.len {H : Hp} {v : AV} {bs : List UInt8} (h : Rv H v bs) (H' : Hp) : evLen Tryz.prog 52 v H' = some (.int .i64 bs.length) := by
  obtain (⟨rfl, rfl⟩ | ⟨b, o, c, pre, post, e, k, rfl, h2, h3, h4⟩) | ⟨b, rfl, h2, rfl⟩ := h <;> simp only [evLen, tsh_52] <;> rfl
theorem Rv.at {H : Hp} {v : AV} {bs : List UInt8} (h : Rv H v bs) {i : Nat} {c : UInt8} (hc : bs[i]? = some c) :
    ∃ b j row e k, evIndexAddr Tryz.prog 52 v (.int .i64 (i : Nat)) = some (.ptr b j) ∧ (∀ l : Hp, (H ++ l)[b]? = some (.cells row e k)) ∧ H[b]? = some (.cells row e k) ∧ ldC j 1 false (.cells row e k) = some (.int .u8 c.toNat) := by
  have hi : i < bs.length := (List.getElem?_eq_some_iff.1 hc).1
  obtain (⟨rfl, rfl⟩ | ⟨b, o, cc, pre, post, e, k, rfl, h2, h3, h4⟩) | ⟨b, rfl, h2, rfl⟩ := h
  · simp at hi
  · refine ⟨b, o + i, _, e, k, ?_, fun l => hp_old h3, h3, ?_⟩
    · simp only [evIndexAddr, tsh_52]
      rw [if_pos (by omega)]
      simp
    · rw [ldC_f, ← h2, List.getElem?_append_right (by omega), Nat.add_sub_cancel_left, List.getElem?_append_left (by rw [u8s_len]; exact hi)]
      exact u8s_at hc
  · simp at hi
theorem u8s_mid {pre post : List AV} {bs : List UInt8} {lo hi : Nat} (h1 : lo ≤ hi) (h2 : hi ≤ bs.length) : pre ++ (u8s bs ++ post) = (pre ++ u8s (bs.take lo)) ++ (u8s ((bs.drop lo).take (hi - lo)) ++ (u8s (bs.drop hi) ++ post)) := by
  have : bs = bs.take lo ++ ((bs.drop lo).take (hi - lo) ++ bs.drop hi) := by
    have e : bs.drop hi = (bs.drop lo).drop (hi - lo) := by rw [List.drop_drop]; congr 1; omega
    rw [e, List.take_append_drop, List.take_append_drop]
  conv => lhs; rw [this]
  simp only [u8s_app, List.append_assoc]
theorem Rd.sl {H : Hp} {v : AV} {bs : List UInt8} (h : Rd H v bs) {lo hi : Nat} (h1 : lo ≤ hi) (h2 : hi ≤ bs.length) :
    ∃ y L, (∀ kk, slK Tryz.prog 52 v (some (.int .i64 (lo : Nat))) (some (.int .i64 (hi : Nat))) none H kk = kk (y, H ++ L, z0)) ∧ Rv (H ++ L) y ((bs.drop lo).take (hi - lo)) := by
  have b1 : (0 : Int) ≤ (hi : Nat) := by omega
  have b2 : (0 : Int) ≤ (lo : Nat) := by omega
  have b3 : ((lo : Nat) : Int) ≤ (hi : Nat) := by omega
  obtain ⟨rfl, rfl⟩ | ⟨b, o, c, pre, post, e, k, rfl, ho, hb, hc⟩ := h
  · have : hi = 0 := by simpa using h2
    subst this
    have : lo = 0 := by omega
    subst this
    refine ⟨.nils, [], fun kk => ?_, .inl (.inl ⟨rfl, rfl⟩)⟩
    simp only [go_sem, simprocAttr, List.append_nil]
  · have hmid := u8s_mid (pre := pre) (post := post) h1 h2
    have hlen : ((bs.drop lo).take (hi - lo)).length = hi - lo := by rw [List.length_take, List.length_drop]; omega
    have hpl : (pre ++ u8s (bs.take lo)).length = o + lo := by rw [List.length_append, u8s_len, List.length_take, ho]; omega
    have hrow : (pre ++ (u8s bs ++ post)).length = o + (bs.length + post.length) := by rw [List.length_append, List.length_append, u8s_len, ho]
    have hb0 := hb
    rw [hmid] at hb
    obtain ⟨n, rfl, hn⟩ | ⟨rfl, rfl, fz, st, rfl⟩ := hc
    · have c1 : hi ≤ n := by omega
      by_cases hq : n = lo
      · refine ⟨.slice b o (hi - lo) (.ex (n - lo)), [], fun kk => ?_, .inl (.inr ⟨b, o, _, pre, u8s (bs.take lo) ++ (u8s (bs.drop hi) ++ post), e, k, by rw [hlen], ho, ?_, .inl ⟨_, rfl, by rw [hlen]; omega⟩⟩)⟩
        · simp only [go_sem, simprocAttr, b1, b2, b3, c1, hq, List.append_nil]
          simp [show lo ≤ hi from h1, show hi ≤ lo by omega]
        · have : (bs.drop lo).take (hi - lo) = [] := by rw [show hi - lo = 0 by omega, List.take_zero]
          rw [this] at hb ⊢
          simpa [u8s] using hb
      · refine ⟨.slice b (o + lo) (hi - lo) (.ex (n - lo)), [], fun kk => ?_, .inl (.inr ⟨b, o + lo, _, pre ++ u8s (bs.take lo), u8s (bs.drop hi) ++ post, e, k, by rw [hlen], hpl, by rw [List.append_nil]; exact hb, .inl ⟨_, rfl, by rw [hlen]; omega⟩⟩)⟩
        simp only [go_sem, simprocAttr, b1, b2, b3, c1, hq, List.append_nil]
    · have hrule : ∀ kk, slK Tryz.prog 52 (.slice b o bs.length (.op o)) (some (.int .i64 (lo : Nat))) (some (.int .i64 (hi : Nat))) none H kk = guardK (.bool (decide (lo = 0 ∨ lo < bs.length + post.length))) true (kk (.slice b (o + lo) (hi - lo) (.op (o + lo)), H, z0)) (lo = hi ∧ kk (.slice H.length 0 0 (.op 0), H ++ [.void], z0)) := by
        intro kk
        rw [slK_op (by rw [tsh_52]; rfl), tsh_52, bindK_some, hb0, bindK_some, knC_c, if_pos ⟨rfl, by decide, by omega⟩, bindK_some, bnd_lh, hrow, Nat.div_one, Nat.add_sub_cancel_left]
        simp only [Int.toNat_natCast, shZ_s, Nat.mul_one]
        have q1 : ((0 : Int) ≤ (hi : Nat) ∧ ((hi : Nat) : Int) ≤ ((bs.length + post.length : Nat) : Int)) = True := eq_true ⟨b1, by omega⟩
        have q2 : ((0 : Int) ≤ (lo : Nat) ∧ ((lo : Nat) : Int) ≤ ((hi : Nat) : Int)) = True := eq_true ⟨b2, b3⟩
        rw [q1, q2, true_and, true_and, show o + lo * 1 = o + lo by omega]
      by_cases hq : lo = 0 ∨ lo < bs.length + post.length
      · refine ⟨.slice b (o + lo) (hi - lo) (.op (o + lo)), [], fun kk => ?_, .inl (.inr ⟨b, o + lo, _, pre ++ u8s (bs.take lo), u8s (bs.drop hi) ++ post, _, _, by rw [hlen], hpl, by rw [List.append_nil]; exact hb, .inr ⟨rfl, rfl, fz, st, rfl⟩⟩)⟩
        rw [hrule, decide_eq_true hq, guardK_tt, List.append_nil]
      · refine ⟨.slice H.length 0 0 (.op 0), [.void], fun kk => ?_, .inr ⟨H.length, rfl, by simp, ?_⟩⟩
        · rw [hrule, decide_eq_false hq, guardK_ft]
          simp only [show lo = hi by omega, true_and]
        · rw [show hi - lo = 0 by omega, List.take_zero]
theorem bytesOf_u8s (s : List UInt8) : evConv.bytesOf (u8s s) = some s := conv_u8s s
theorem Rv.rd {H : Hp} {v : AV} {bs : List UInt8} (h : Rv H v bs) : v = .nils ∧ bs = [] ∨ ∃ b o c, v = .slice b o bs.length c ∧ rd H b o bs.length = some (u8s bs) := by
  obtain (⟨rfl, rfl⟩ | ⟨b, o, c, pre, post, e, k, rfl, h2, h3, h4⟩) | ⟨b, rfl, h2, rfl⟩ := h
  · exact .inl ⟨rfl, rfl⟩
  · refine .inr ⟨b, o, c, rfl, ?_⟩
    unfold V.rd
    rw [h3]
    show (if _ then _ else _) = _
    rw [if_pos (by rw [List.length_append, List.length_append, u8s_len]; omega), ← h2, List.drop_left, List.take_left' (by rw [u8s_len])]
  · refine .inr ⟨b, 0, .op 0, rfl, ?_⟩
    unfold V.rd
    rw [h2]
    rfl
theorem Rv.str {H : Hp} {v : AV} {bs : List UInt8} (h : Rv H v bs) : evConv Tryz.prog 52 9 v H = some (.str bs, H) := by
  obtain ⟨rfl, rfl⟩ | ⟨b, o, c, rfl, hr⟩ := h.rd
  · exact conv_52_9n
  · rw [conv_52_9, hr, Option.bind_some, bytesOf_u8s]; rfl

set_option maxRecDepth 20000 in
theorem size8 (H k) : callK Tryz.prog 86 [] H k = k (.int .i64 1, H, z0) := by
  refine callK_eq (r := (.int .i64 1, H, z0)) ?_ k
  refine callK_start (n := 19) (rs := [.tmp 0]) Tryz.func86 rfl rfl rfl ?_
  intro σ hl ha
  clear ha
  have w2 : IntKind.u8.wrap 0 = 0 := by decide
  have w3 : IntKind.u8.wrap (-1) = 255 := by decide
  have w4 : IntKind.u32.wrap 255 = 255 := by decide
  have g1 : decide ((255 : Int).fdiv (2 ^ min 7 32) > 1) = false := by decide
  simp only [go_sem, simprocAttr, hl, w2, w3]
  rw [go_loop]
  simp only [go_sem, simprocAttr, hl, w2, w3, w4, g1]

def tk8 (bs : List UInt8) (at_ : Nat) : Nat × Nat × Nat := if bs.length < at_ then (0, 0, 1) else match bs[at_]? with | some c => (c.toNat, at_ + 1, 0) | none => (0, 0, 6)
set_option maxRecDepth 20000 in
theorem take8 (bs : List UInt8) (a : Nat) (H k) (v : AV) (hv : Rd H v bs) (hn : bs.length ≤ 4611686018427387904) (ha' : a ≤ 4611686018427387904) :
    callK Tryz.prog 61 [v, .int .i64 (a : Nat)] H k = k (.tuple [.int .u8 ((tk8 bs a).1 : Nat), .int .i64 ((tk8 bs a).2.1 : Nat), .int .i64 ((tk8 bs a).2.2 : Nat)], H, z0) := by
  refine callK_eq (r := (.tuple [.int .u8 ((tk8 bs a).1 : Nat), .int .i64 ((tk8 bs a).2.1 : Nat), .int .i64 ((tk8 bs a).2.2 : Nat)], H, z0)) ?_ k
  refine callK_start (n := 50) (rs := [.tmp 4, .tmp 5, .tmp 6]) Tryz.func61 rfl rfl rfl ?_
  intro σ hl ha
  have h0 := ha 0 (by simp)
  have h1 := ha 1 (by simp)
  clear ha
  simp only [Option.getD_some, List.getElem?_cons_zero, List.getElem?_cons_succ] at h0 h1
  have hs := fun H k => size8 H k
  have hlen := fun H' => hv.v.len H'
  have g0 : decide ((a : Int) < 0) = false := by simp
  by_cases hbig : bs.length < a
  · have ht : tk8 bs a = (0, 0, 1) := if_pos hbig
    simp only [go_sem, simprocAttr, hl, h0, h1, hs, hlen, g0, hbig, ht, gt_iff_lt]
  · have w1 : IntKind.i64.wrap ((bs.length : Int) - (a : Int)) = ((bs.length - a : Nat) : Int) := by rw [wrap_i64 (by omega)]; omega
    cases hc : bs[a]? with
    | none =>
      have ht : tk8 bs a = (0, 0, 6) := by unfold tk8; rw [if_neg hbig, hc]
      have hl' : bs.length ≤ a := by simpa using hc
      have g2 : decide (((bs.length - a : Nat) : Int) < 1) = true := by simp; omega
      simp only [go_sem, simprocAttr, hl, h0, h1, hs, hlen, g0, hbig, w1, g2, ht]
    | some c =>
      have ht : tk8 bs a = (c.toNat, a + 1, 0) := by unfold tk8; rw [if_neg hbig, hc]
      have hlt : a < bs.length := (List.getElem?_eq_some_iff.1 hc).1
      have g2 : decide (((bs.length - a : Nat) : Int) < 1) = false := by simp; omega
      have w2 : IntKind.i64.wrap ((a : Int) + 1) = ((a + 1 : Nat) : Int) := by rw [wrap_i64 (by omega)]; omega
      obtain ⟨y, L, hsl, hy⟩ := hv.sl (lo := a) (hi := a + 1) (by omega) (by omega)
      have hy1 : (bs.drop a).take (a + 1 - a) = [c] := by rw [Nat.add_sub_cancel_left, drop_at hc]; rfl
      rw [hy1] at hy
      have hylen := fun H' => hy.len H'
      obtain ⟨b, j, row, e, kd, hix, hg, hg0, hld⟩ := hy.at (i := 0) (c := c) rfl
      have hix : evIndexAddr Tryz.prog 52 y (.int .i64 0) = some (.ptr b j) := hix
      have g3 : decide ((0 : Int) < ((([c] : List UInt8).length : Nat) : Int)) = true := by simp
      have hcl := c.toNat_lt
      have w3 : IntKind.u32.wrap (c.toNat : Int) = (c.toNat : Int) := wrap_u32 (by omega)
      have w4 : IntKind.u8.wrap (c.toNat : Int) = (c.toNat : Int) := wrap_u8 (by omega)
      have w5 : IntKind.u32.wrap (BitVec.ofInt 32 0 ||| BitVec.ofInt 32 (c.toNat : Int)).toNat = (c.toNat : Int) := by
        have : (BitVec.ofInt 32 0 ||| BitVec.ofInt 32 (c.toNat : Int)).toNat = c.toNat := by
          simp [BitVec.ofInt_natCast]
        rw [this]; exact w3
      simp only [go_sem, simprocAttr, hl, h0, h1, hs, hlen, g0, hbig, w1, g2, w2, hsl, hylen, ht]
      rw [go_loop]
      have w6 : IntKind.u32.wrap 0 = 0 := rfl
      simp only [go_sem, simprocAttr, hl, g3, hix, hg, hg0, hld, w3, i_orT]
      rw [go_loop]
      simp only [go_sem, simprocAttr, hl, hs, h1, w2, w6, ht]
      refine congrArg (fun n => (AV.tuple [AV.int IntKind.u8 n, AV.int IntKind.i64 ((a + 1 : Nat) : Int), AV.int IntKind.i64 0], H, z0)) ?_
      show IntKind.u8.wrap (IntKind.u32.wrap (BitVec.ofInt 32 0 ||| BitVec.ofInt 32 (c.toNat : Int)).toNat) = (c.toNat : Int)
      rw [w5, w4]
end Go.Proofs.YtgkpgpdkolpfkaaGreatDoor.V
namespace Go.Proofs.YtgkpgpdkolpfkaaGreatDoor.V
open Go
attribute [local irreducible] go goOps goD opK callK callT stepK leaveTo nextK

def tkText (bs : List UInt8) (a : Nat) : List UInt8 × Nat × Nat :=
  if bs.length < a then ([], 0, 1) else match bs[a]? with
    | some c => if bs.length - (a + 1) < c.toNat then ([], 0, 6) else ((bs.drop (a + 1)).take c.toNat, a + (1 + c.toNat), 0)
    | none => ([], 0, 6)

set_option maxRecDepth 20000 in
theorem takeText (bs : List UInt8) (a : Nat) (H k) (v : AV) (hv : Rd H v bs) (hn : bs.length ≤ 4611686018427387904) (ha' : a ≤ 4611686018427387904) :
    callK Tryz.prog 36 [v, .int .i64 (a : Nat)] H k = k (.tuple [.str (tkText bs a).1, .int .i64 ((tkText bs a).2.1 : Nat), .int .i64 ((tkText bs a).2.2 : Nat)], H, z0) := by
  refine callK_eq (r := (.tuple [.str (tkText bs a).1, .int .i64 ((tkText bs a).2.1 : Nat), .int .i64 ((tkText bs a).2.2 : Nat)], H, z0)) ?_ k
  refine callK_start (n := 42) (rs := [.tmp 4, .tmp 5, .tmp 6]) Tryz.func36 rfl rfl rfl ?_
  intro σ hl ha
  have h0 := ha 0 (by simp)
  have h1 := ha 1 (by simp)
  clear ha
  simp only [Option.getD_some, List.getElem?_cons_zero, List.getElem?_cons_succ] at h0 h1
  have hs := fun H' (h : Rd H' v bs) k => take8 bs a H' k v h hn ha'
  have hs := fun k => hs H hv k
  have hlen := fun H' => hv.v.len H'
  by_cases hbig : bs.length < a
  · have ht : tkText bs a = ([], 0, 1) := if_pos hbig
    have h8 : tk8 bs a = (0, 0, 1) := if_pos hbig
    rw [h8] at hs
    simp only [go_sem, simprocAttr, hl, h0, h1, hs, ht, Int.natCast_one]
  · cases hc : bs[a]? with
    | none =>
      have ht : tkText bs a = ([], 0, 6) := by unfold tkText; rw [if_neg hbig, hc]
      have h8 : tk8 bs a = (0, 0, 6) := by unfold tk8; rw [if_neg hbig, hc]
      rw [h8] at hs
      simp only [go_sem, simprocAttr, hl, h0, h1, hs, ht]
    | some c =>
      have h8 : tk8 bs a = (c.toNat, a + 1, 0) := by unfold tk8; rw [if_neg hbig, hc]
      rw [h8] at hs
      have hlt : a < bs.length := (List.getElem?_eq_some_iff.1 hc).1
      have hcl := c.toNat_lt
      have w0 : IntKind.i64.wrap (c.toNat : Int) = (c.toNat : Int) := by rw [wrap_i64 (by omega)]
      have w1 : IntKind.i64.wrap ((bs.length : Int) - ((a + 1 : Nat) : Int)) = ((bs.length - (a + 1) : Nat) : Int) := by rw [wrap_i64 (by omega)]; omega
      by_cases hsh : bs.length - (a + 1) < c.toNat
      · have ht : tkText bs a = ([], 0, 6) := by unfold tkText; rw [if_neg hbig, hc]; exact if_pos hsh
        simp only [go_sem, simprocAttr, hl, h0, h1, hs, hlen, w0, w1, hsh, ht]
      · have ht : tkText bs a = ((bs.drop (a + 1)).take c.toNat, a + (1 + c.toNat), 0) := by unfold tkText; rw [if_neg hbig, hc]; exact if_neg hsh
        have w2 : IntKind.i64.wrap (((a + 1 : Nat) : Int) + (c.toNat : Int)) = ((a + (1 + c.toNat) : Nat) : Int) := by rw [wrap_i64 (by omega)]; omega
        obtain ⟨y, L, hsl, hy⟩ := hv.sl (lo := a + 1) (hi := a + (1 + c.toNat)) (by omega) (by omega)
        rw [show a + (1 + c.toNat) - (a + 1) = c.toNat by omega] at hy
        have hstr := hy.str
        simp only [go_sem, simprocAttr, hl, h0, h1, hs, hlen, w0, w1, w2, hsh, hsl, hstr, ht]

def txF : Nat → List UInt8 → Option (List (List UInt8))
  | 0, _ => none
  | _ + 1, [] => some []
  | n + 1, c :: t => if t.length < c.toNat then none else (txF n (t.drop c.toNat)).map (t.take c.toNat :: ·)
theorem txF_more : ∀ (n m : Nat) (s : List UInt8), s.length < n → s.length < m → txF n s = txF m s
  | 0, _, s, h, _ => by omega
  | _ + 1, 0, s, _, h => by omega
  | n + 1, m + 1, [], _, _ => rfl
  | n + 1, m + 1, k :: t, h, h' => by
    simp only [txF]
    simp only [List.length_cons] at h h'
    rw [txF_more n m (t.drop k.toNat) (by rw [List.length_drop]; omega) (by rw [List.length_drop]; omega)]
def txts (s : List UInt8) : Option (List (List UInt8)) := txF (s.length + 1) s
theorem txts_nil : txts [] = some [] := rfl
theorem txts_cons (k : UInt8) (t : List UInt8) : txts (k :: t) = if t.length < k.toNat then none else (txts (t.drop k.toNat)).map (t.take k.toNat :: ·) := by
  unfold txts
  rw [List.length_cons, txF, txF_more (t.length + 1) _ (t.drop k.toNat) (by rw [List.length_drop]; omega) (Nat.lt_succ_self _)]
def txOk (s : List UInt8) : Bool := match txts s with
  | some (_ :: _) => true
  | _ => false

theorem txOk_nil {s : List UInt8} (h : txts s = some []) : txOk s = false := by unfold txOk; rw [h]
theorem txOk_none {s : List UInt8} (h : txts s = none) : txOk s = false := by unfold txOk; rw [h]
theorem txOk_some {s : List UInt8} {L : List (List UInt8)} (h : txts s = some L) (hL : L ≠ []) : txOk s = true := by
  unfold txOk; rw [h]
  cases L with
  | nil => exact absurd rfl hL
  | cons => rfl

set_option maxRecDepth 20000 in
theorem rdata_texts (s : List UInt8) (H) (hs : s.length ≤ 1048576) : ∃ b : AV × Hp, (∀ L, txts s = some L → L ≠ [] → GBuf H.length b.2 b.1 9 1 L.length (strs L)) ∧
    ∀ k, callK Tryz.prog 14 [.str s] H k = k (.tuple [b.1, .bool (txOk s)], H ++ b.2, z0) := by
  refine callK_exP (fun b : AV × Hp => ∀ L, txts s = some L → L ≠ [] → GBuf H.length b.2 b.1 9 1 L.length (strs L)) (fun b => (.tuple [b.1, .bool (txOk s)], H ++ b.2, z0)) ?_
  refine callK_start (n := 32) (rs := [.tmp 2, .tmp 3]) Tryz.func14 rfl rfl rfl ?_
  intro σ hl ha
  have h0 := ha 0 (by simp)
  clear ha
  simp only [Option.getD_some, List.getElem?_cons_zero, List.getElem?_cons_succ] at h0
  simp only [go_sem, simprocAttr, hl, h0]
  refine go_rounds (fun n st => ∃ σ i L1 v T e, n + i = s.length ∧ txts s = (txts (s.drop i)).map (L1 ++ ·) ∧ L1.length ≤ i ∧ GBuf H.length T v 9 1 L1.length (strs L1) ∧ st = ⟨σ, H ++ T, e⟩ ∧ clean H.length e ∧ σ.length = 32 ∧ fr σ 0 = .str s ∧ fr σ 4 = v ∧ fr σ 5 = .int .i64 (i : Nat)) s.length
    ⟨_, 0, [], .nils, [], _, rfl, by simp, Nat.le_refl _, .inl ⟨rfl, rfl, rfl⟩, by rw [List.append_nil], ⟨rfl, rfl⟩, by simp only [go_sem, simprocAttr, hl], by simp only [go_sem, simprocAttr, hl, h0], by simp only [go_sem, simprocAttr, hl], by simp only [go_sem, simprocAttr, hl]⟩ ?_
  rintro n _ ⟨σ, i, L1, v, T, e, hn, hm, hLi, hv, rfl, he, hl, h0, h4, h5⟩
  by_cases hlt : i < s.length
  · obtain ⟨c, hc⟩ : ∃ c, s[i]? = some c := ⟨_, List.getElem?_eq_getElem hlt⟩
    rw [drop_at hc, txts_cons, List.length_drop] at hm
    have hcl := c.toNat_lt
    have hrd : Rd ((H ++ T) ++ [.cells (u8s s) 5 (.op 0 true)]) (.slice (H ++ T).length 0 s.length (.op 0)) s :=
      .inr ⟨_, 0, _, [], [], _, _, rfl, rfl, by rw [hp_new0]; simp, .inr ⟨rfl, rfl, 0, true, rfl⟩⟩
    have ht := fun k => takeText s i _ k _ hrd (by omega) (by omega)
    simp only [List.append_assoc, List.length_append] at ht
    by_cases hsh : s.length - (i + 1) < c.toNat
    · have htx : tkText s i = ([], 0, 6) := by unfold tkText; rw [if_neg (by omega), hc]; exact if_pos hsh
      rw [htx] at ht
      rw [if_pos hsh] at hm
      have hm : txts s = none := hm
      have hok := txOk_none hm
      simp only [go_sem, simprocAttr, hl, h0, h4, h5, hlt, u8s_fold, ht, he]
      exact ⟨(.nils, []), by simp [hm], by simp [hok]⟩
    · have htx : tkText s i = ((s.drop (i + 1)).take c.toNat, i + (1 + c.toNat), 0) := by unfold tkText; rw [if_neg (by omega), hc]; exact if_neg hsh
      rw [htx] at ht
      rw [if_neg hsh, Option.map_map, List.drop_drop, Nat.add_assoc] at hm
      have hbs := bslice_str ((s.drop (i + 1)).take c.toNat)
      obtain ⟨v', T2, e2, happ, _, hcl2, _, hv3, _, _, _⟩ := (hv.more ([.cells (u8s s) 5 (.op 0 true), .cells [.str ((s.drop (i + 1)).take c.toNat)] 9 .rw])).app2 (P := Tryz.prog) (b := 16) (by decide) zok_38 [.str ((s.drop (i + 1)).take c.toNat)] 1 (by decide) rfl rfl (by simp only [fits, decide_eq_true_eq]; omega)
      simp only [go_sem, simprocAttr, hl, h0, h4, h5, hlt, u8s_fold, ht, hbs, happ]
      refine ⟨n - (1 + c.toNat), by omega, _, i + (1 + c.toNat), L1 ++ [(s.drop (i + 1)).take c.toNat], v', T2, _, by omega, ?_, by simp; omega, by simpa [strs] using hv3, rfl, by simp only [go_sem, simprocAttr, he, hcl2], by simp only [go_sem, simprocAttr, hl], by simp only [go_sem, simprocAttr, hl, h0], by simp only [go_sem, simprocAttr, hl], by simp only [go_sem, simprocAttr, hl]⟩
      rw [hm]
      congr 1
      funext x
      simp
  · have hi : i = s.length := by omega
    rw [hi, List.drop_length, txts_nil] at hm
    have hm : txts s = some L1 := by rw [hm]; simp
    obtain ⟨rfl, h2, h3⟩ | ⟨h1, h2, m, rfl, h3⟩ := hv
    · have : L1 = [] := List.length_eq_zero_iff.1 h3
      subst this
      have hok := txOk_nil hm
      simp only [go_sem, simprocAttr, hl, h0, h4, h5, hlt, he]
      exact ⟨(.nils, []), fun L hL hne => by rw [hm] at hL; cases hL; exact absurd rfl hne, by simp [hok]⟩
    · have hok := txOk_some hm (by intro e; rw [e] at h1; cases h1)
      have g : decide ((L1.length : Int) > 0) = true := by simp; omega
      simp only [go_sem, simprocAttr, hl, h0, h4, h5, hlt, he, g]
      exact ⟨(.slice (H.length + m) 0 L1.length (.op 0), T), fun L hL hne => by rw [hm] at hL; cases hL; exact .inr ⟨h1, h2, m, rfl, h3⟩, by simp [hok]⟩

end Go.Proofs.YtgkpgpdkolpfkaaGreatDoor.V
namespace Go.Proofs.YtgkpgpdkolpfkaaGreatDoor.V
open Go
attribute [local irreducible] go goOps goD opK callK callT stepK leaveTo nextK

def Buf (n : Nat) (T : Hp) (v : AV) (bs : List UInt8) : Prop := (v = .nils ∧ bs = []) ∨ (0 < bs.length ∧ ∃ m, v = .slice (n + m) 0 bs.length (.op 0) ∧ T[m]? = some (.cells (u8s bs) 5 (.op 0 false)))
def Bld (n : Nat) (T : Hp) (j : Nat) (bs : List UInt8) : Prop :=
  ∃ p v, T[j]? = some (.cells [p, v] 54 .rw) ∧ (p = .nilp ∨ p = .ptr (n + j) 0) ∧ Buf n T v bs
theorem und_Bp : Tryz.prog.underlying 51 = some (.pointer 54) := by kernel_rfl
theorem lies_B : liesAt Tryz.prog Tryz.prog.depth 54 (2 / Tryz.prog.cellsOf 54) 0 54 1 = true := by kernel_rfl
theorem info_B : ∃ j, Tryz.prog.info? 54 = some j ∧ j.size = 2 := by
  have := tsize_54
  unfold tsize at this
  simpa using this
theorem conv_51_115 {b : Nat} {p v : AV} {k : Kd} {H : Hp} (h : H[b]? = some (.cells [p, v] 54 k)) : evConv Tryz.prog 51 115 (.ptr b 0) H = some (.ptr b 0, H) := by
  obtain ⟨j, hj, hz⟩ := info_B
  simp [evConv, tsh_51, tsh_115, h, hj, hz]
theorem conv_115_51 {b : Nat} {p v : AV} {H : Hp} (h : H[b]? = some (.cells [p, v] 54 .rw)) : evConv Tryz.prog 115 51 (.ptr b 0) H = some (.ptr b 0, H) := by
  obtain ⟨j, hj, hz⟩ := info_B
  have := lies_B
  simp only [evConv, tsh_51, tsh_115, h, hj]
  exact if_pos this
theorem eqBn {c : Bool} : binV Tryz.prog .eql 51 .nilp .nilp c = some (.bool true) := by simp [binV, evBin, evEq, und_Bp]
theorem eqBp {b o : Nat} {c : Bool} : binV Tryz.prog .eql 51 (.ptr b o) .nilp c = some (.bool false) := by simp [binV, evBin, evEq, und_Bp]
theorem neB {b o : Nat} {c : Bool} : binV Tryz.prog .neq 51 (.ptr b o) (.ptr b o) c = some (.bool false) := by
  obtain ⟨j, hj, _⟩ := info_B
  simp [binV, evBin, evEq, und_Bp, hj]
attribute [go_sem] eqBn eqBp neB

set_option maxRecDepth 20000 in
theorem b_check (H T : Hp) (j : Nat) (p v : AV) (hj : T[j]? = some (.cells [p, v] 54 .rw)) (hp : p = .nilp ∨ p = .ptr (H.length + j) 0) (hv : scal v = true) :
    ∃ e, (e = z0 ∨ Cl H.length j e) ∧ ∀ k, callK Tryz.prog 38 [.ptr (H.length + j) 0] (H ++ T) k = k (.tuple [], H ++ T.set j (.cells [.ptr (H.length + j) 0, v] 54 .rw), e) := by
  have hlt := lt_of_get hj
  have hd : decide (j < T.length) = true := by simpa using hlt
  refine (fun h : ∃ r : {e : Ef // e = z0 ∨ Cl H.length j e}, ∀ k, callK Tryz.prog 38 [.ptr (H.length + j) 0] (H ++ T) k = k (.tuple [], H ++ T.set j (.cells [.ptr (H.length + j) 0, v] 54 .rw), r.1) => ?_) (callK_ex (fun r : {e : Ef // e = z0 ∨ Cl H.length j e} => (.tuple [], H ++ T.set j (.cells [.ptr (H.length + j) 0, v] 54 .rw), r.1)) ?_)
  · obtain ⟨r, hr⟩ := h
    exact ⟨r.1, r.2, hr⟩
  refine callK_start (n := 20) (rs := []) Tryz.func38 rfl rfl rfl ?_
  intro σ hl ha
  have h0 := ha 0 (by simp)
  clear ha
  simp only [Option.getD_some, List.getElem?_cons_zero, List.getElem?_cons_succ] at h0
  have hb : (H ++ T)[H.length + j]? = some (.cells [p, v] 54 .rw) := by rw [hp_new, hj]
  have c1 := conv_51_115 hb
  have c2 := conv_115_51 hb
  obtain rfl | rfl := hp
  · simp only [go_sem, simprocAttr, hl, h0, hj, hd, hv, c1, c2]
    have hcl : Cl H.length j ⟨some (H.length + j), some (H.length + j)⟩ := ⟨_, rfl, by omega, by omega, by simp [low]⟩
    obtain ⟨e', h1, h2⟩ := hcl.leave (m := H.length + T.length) (by omega)
    exact ⟨⟨e', .inr h1⟩, h2 _ _⟩
  · simp only [go_sem, simprocAttr, hl, h0, hj, hd, hv]
    rw [set_get hj]
    refine ⟨⟨z0, .inl rfl⟩, ?_⟩
    rw [← List.length_append]
    exact leave_flat0 rfl (by rw [clean_z0]; trivial)

theorem Buf.scl {n : Nat} {T : Hp} {v : AV} {bs : List UInt8} (h : Buf n T v bs) : scal v = true := by
  obtain ⟨rfl, _⟩ | ⟨_, m, rfl, _⟩ := h <;> rfl
theorem Buf.len {n : Nat} {T : Hp} {v : AV} {bs : List UInt8} (h : Buf n T v bs) (H : Hp) : evLen Tryz.prog 52 v H = some (.int .i64 bs.length) := by
  obtain ⟨rfl, rfl⟩ | ⟨_, m, rfl, _⟩ := h
  · simp only [evLen, tsh_52]; rfl
  · simp only [evLen, tsh_52]
theorem Buf.app {H T : Hp} {v : AV} {bs : List UInt8} (h : Buf H.length T v bs) (s : List UInt8) (hf : fits (bs.length + s.length) 1 = true) :
    ∃ v' T2 e2, (∀ kk, stepK (appTo Tryz.prog (.slice 5 1 1) v (u8s s, s.length) (H ++ T)) kk = kk (v', H ++ T2, e2)) ∧ T.length ≤ T2.length ∧ clean H.length e2 ∧ (∀ (i : Nat) x, T[i]? = some x → fixd x = true → T2[i]? = some x) ∧ Buf H.length T2 v' (bs ++ s) := by
  obtain ⟨rfl, rfl⟩ | ⟨hpos, m, rfl, hm⟩ := h
  · by_cases hs : s = []
    · subst hs
      refine ⟨.nils, T, z0, fun kk => ?_, Nat.le_refl _, ⟨rfl, rfl⟩, fun i x hx _ => hx, .inl ⟨rfl, rfl⟩⟩
      rw [appTo_nils (by decide) zok_52]
      have hd : decide (([] : List UInt8).length = 0) = true := rfl
      rw [hd, guardK_tt]
    · have hl : 0 < s.length := by cases s <;> simp_all
      refine ⟨.slice (H.length + T.length) 0 s.length (.op 0), T ++ [.cells (u8s s) 5 (.op 0 false)], z0, fun kk => ?_, by simp, ⟨rfl, rfl⟩, fun i x hx _ => get_app hx, .inr ⟨by simpa using hl, T.length, by simp, by simp⟩⟩
      rw [appTo_nils (by decide) zok_52]
      have hd : decide (s.length = 0) = false := by simp; omega
      have hf : fits s.length 1 = true := by simpa using hf
      simp only [hd, guardK_ft, hf, true_and, List.length_append, List.append_assoc]
  · have hlt := lt_of_get hm
    have hg : (H ++ T)[H.length + m]? = some (.cells (u8s bs) 5 (.op 0 false)) := by rw [hp_new, hm]
    by_cases hs : s = []
    · subst hs
      refine ⟨.slice (H.length + m) 0 bs.length (.op 0), T, ⟨none, some (H.length + m)⟩, fun kk => ?_, Nat.le_refl _, by simp [clean, low], fun i x hx _ => hx, .inr ⟨by simpa using hpos, m, by simp, by simpa using hm⟩⟩
      have hsp : splice (u8s bs) (bs.length) [] = u8s bs := by
        unfold splice
        simp
      rw [appTo_op (by decide) zok_52, hg]
      have hset : (H ++ T).set (H.length + m) (.cells (u8s bs) 5 (.op 0 false)) = H ++ T := set_get hg
      have hd : decide (0 + (bs.length + ([] : List UInt8).length) * 1 ≤ (u8s bs).length) = true := by rw [u8s_len]; simp
      have e1 : (0 + bs.length * 1 + (u8s []).length ≤ (u8s bs).length ∧ canWr (Kd.op 0 false) (0 + bs.length * 1) = true ∧ (u8s []).all scal = true) := ⟨by simp [u8s_len], rfl, rfl⟩
      have e2 : splice (u8s bs) (0 + bs.length * 1) (u8s []) = u8s bs := by rw [Nat.zero_add, Nat.mul_one]; exact hsp
      have hwr : wr (H ++ T) (H.length + m) (0 + bs.length * 1) (u8s []) = some (H ++ T, ⟨none, some (H.length + m)⟩) := by
        unfold wr
        rw [hg]
        show (if _ then _ else _) = _
        rw [if_pos e1, e2, hset, u8s_flat, if_pos rfl]
      simp only [bindK_some, appO_c, hwr]
      rw [hd, guardK_tt]
      rw [hwr]
      simp only [bindK_some, u8s_len, Nat.zero_add, Nat.mul_one, Nat.le_refl, and_self, true_and, List.length_nil, Nat.add_zero]
    · have hl : 0 < s.length := by cases s <;> simp_all
      refine ⟨.slice (H.length + T.length) 0 (bs ++ s).length (.op 0), T.set m .dead ++ [.cells (u8s (bs ++ s)) 5 (.op 0 false)], ⟨none, some (H.length + m)⟩, fun kk => ?_, by simp, by simp [clean, low], fun i x hx hf => ?_, .inr ⟨by simp; omega, T.length, rfl, by simp⟩⟩
      · rw [appTo_op (by decide) zok_52, hg]
        simp only [bindK_some, appO_c]
        have hd : decide (0 + (bs.length + s.length) * 1 ≤ (u8s bs).length) = false := by
          rw [u8s_len]; simp; omega
        have ht : (List.drop 0 (u8s bs)).take bs.length ++ u8s s = u8s (bs ++ s) := by
          rw [List.drop_zero, List.take_of_length_le (by rw [u8s_len]; exact Nat.le_refl _), u8s_app]
        rw [hd, guardK_ft]
        simp only [ht, hf, u8s_scal, hp_set, List.length_append, List.append_assoc, u8s_len, Nat.sub_self, Nat.zero_le, true_and, and_true, Nat.mul_one, Nat.zero_add, Nat.le_refl]
      · have hne : m ≠ i := by
          rintro rfl
          rw [hm] at hx; cases hx; cases hf
        rw [get_app (x := x)]
        rw [List.getElem?_set_ne hne]; exact hx

theorem Buf.set {n : Nat} {T : Hp} {v : AV} {bs : List UInt8} {j : Nat} {c : List AV} {e : TypeId} {x : ABlk} (h : Buf n T v bs) (hj : T[j]? = some (.cells c e .rw)) : Buf n (T.set j x) v bs := by
  obtain h | ⟨hp, m, rfl, hm⟩ := h
  · exact .inl h
  · refine .inr ⟨hp, m, rfl, ?_⟩
    have : j ≠ m := by rintro rfl; rw [hj] at hm; cases hm
    rw [List.getElem?_set_ne this]; exact hm
theorem Buf.pos {n : Nat} {T : Hp} {v : AV} {bs : List UInt8} (h : Buf n T v bs) (hp : 0 < bs.length) : ∃ m, v = .slice (n + m) 0 bs.length (.op 0) ∧ T[m]? = some (.cells (u8s bs) 5 (.op 0 false)) := by
  obtain ⟨_, rfl⟩ | ⟨_, h⟩ := h
  · cases hp
  · exact h

set_option maxRecDepth 20000 in
theorem b_wstr (H T : Hp) (j : Nat) (bs s : List UInt8) (hb : Bld H.length T j bs) (hs : 0 < s.length) (hf : fits (bs.length + s.length) 1 = true) :
    ∃ T' e, Bld H.length T' j (bs ++ s) ∧ Keep T j T' ∧ Cl H.length j e ∧ ∀ k, callK Tryz.prog 32 [.ptr (H.length + j) 0, .str s] (H ++ T) k = k (.tuple [.int .i64 s.length, .nili], H ++ T', e) := by
  obtain ⟨p, v, hj, hp, hv⟩ := hb
  have hlt := lt_of_get hj
  obtain ⟨e1, he1, hck⟩ := b_check H T j p v hj hp hv.scl
  have hj1 : (T.set j (.cells [.ptr (H.length + j) 0, v] 54 .rw))[j]? = some (.cells [.ptr (H.length + j) 0, v] 54 .rw) := by rw [List.getElem?_set_self hlt]
  have hv1 := hv.set (x := .cells [.ptr (H.length + j) 0, v] 54 .rw) hj
  obtain ⟨v', T2, e2, happ, hlen, hcl, hkeep, hbuf⟩ := hv1.app s hf
  obtain ⟨m, hvm, hm⟩ := hbuf.pos (by simp; omega)
  have hj2 := hkeep j _ hj1 rfl
  have hlt2 := lt_of_get hj2
  have hfl : flat v' = false := by rw [hvm]; simp only [flat]
  have hsc := hbuf.scl
  have hvc : vcells v' = [v'] := by rw [hvm]; rfl
  have hc0 : clean H.length e1 := by
    obtain rfl | h := he1
    · exact ⟨rfl, rfl⟩
    · exact h.cln
  have hcl3 : Cl H.length j ((e1.and e2).and ⟨some (H.length + j), some (H.length + j)⟩) := .andr (clean_and hc0 hcl) ⟨_, rfl, by omega, by omega, by simp [low]⟩
  obtain ⟨e', hE, hleave⟩ := hcl3.leave (m := H.length + T.length) (by omega)
  refine ⟨T2.set j (.cells [.ptr (H.length + j) 0, v'] 54 .rw), e', ⟨_, v', by rw [List.getElem?_set_self hlt2], .inr rfl, hbuf.set hj2⟩, ⟨by simp at hlen ⊢; omega, fun i x hi hx hf => ?_⟩, hE, fun k => ?_⟩
  · rw [List.getElem?_set_ne (Ne.symm hi)]
    exact hkeep i x (by rw [List.getElem?_set_ne (Ne.symm hi)]; exact hx) hf
  simp only [u8s] at happ
  refine callK_eq ?_ k
  refine callK_start (n := 19) (rs := [.tmp 4, .tmp 5]) Tryz.func32 rfl rfl rfl ?_
  intro σ hl ha
  have h0 := ha 0 (by simp)
  have h1 := ha 1 (by simp)
  clear ha
  simp only [Option.getD_some, List.getElem?_cons_zero, List.getElem?_cons_succ] at h0 h1
  have d1 : decide (j < T.length) = true := by simpa using hlt
  have d2 : decide (j < T2.length) = true := by simpa using hlt2
  simp only [go_sem, simprocAttr, hl, h0, h1, hck, d1, d2, hj1, hj2, happ, hvc, hsc, hfl]
  exact hleave _ _

set_option maxRecDepth 20000 in
theorem b_wbyte (H T : Hp) (j : Nat) (bs : List UInt8) (c : UInt8) (hb : Bld H.length T j bs) (hf : fits (bs.length + 1) 1 = true) :
    ∃ T' e, Bld H.length T' j (bs ++ [c]) ∧ Keep T j T' ∧ Cl H.length j e ∧ ∀ k, callK Tryz.prog 16 [.ptr (H.length + j) 0, .int .u8 c.toNat] (H ++ T) k = k (.nili, H ++ T', e) := by
  obtain ⟨p, v, hj, hp, hv⟩ := hb
  have hlt := lt_of_get hj
  obtain ⟨e1, he1, hck⟩ := b_check H T j p v hj hp hv.scl
  have hj1 : (T.set j (.cells [.ptr (H.length + j) 0, v] 54 .rw))[j]? = some (.cells [.ptr (H.length + j) 0, v] 54 .rw) := by rw [List.getElem?_set_self hlt]
  have hj1' : (T.set j (.cells [.ptr (H.length + j) 0, v] 54 .rw) ++ [.cells [.int .u8 c.toNat] 5 .rw])[j]? = some (.cells [.ptr (H.length + j) 0, v] 54 .rw) := get_app hj1
  have hv1 : Buf H.length (T.set j (.cells [.ptr (H.length + j) 0, v] 54 .rw) ++ [.cells [.int .u8 c.toNat] 5 .rw]) v bs := by
    obtain h | ⟨hp, m, rfl, hm⟩ := hv.set (x := .cells [.ptr (H.length + j) 0, v] 54 .rw) hj
    · exact .inl h
    · exact .inr ⟨hp, m, rfl, get_app hm⟩
  obtain ⟨v', T2, e2, happ, hlen, hcl, hkeep, hbuf⟩ := hv1.app [c] hf
  obtain ⟨m, hvm, hm⟩ := hbuf.pos (by simp)
  have hj2 := hkeep j _ hj1' rfl
  have hlt2 := lt_of_get hj2
  have hfl : flat v' = false := by rw [hvm]; simp only [flat]
  have hsc := hbuf.scl
  have hvc : vcells v' = [v'] := by rw [hvm]; rfl
  have hc0 : clean H.length e1 := by
    obtain rfl | h := he1
    · exact ⟨rfl, rfl⟩
    · exact h.cln
  have hcl3 : Cl H.length j ((e1.and e2).and ⟨some (H.length + j), some (H.length + j)⟩) := .andr (clean_and hc0 hcl) ⟨_, rfl, by omega, by omega, by simp [low]⟩
  obtain ⟨e', hE, hleave⟩ := hcl3.leave (m := H.length + T.length) (by omega)
  refine ⟨T2.set j (.cells [.ptr (H.length + j) 0, v'] 54 .rw), e', ⟨_, v', by rw [List.getElem?_set_self hlt2], .inr rfl, hbuf.set hj2⟩, ⟨by simp at hlen ⊢; omega, fun i x hi hx hf => ?_⟩, hE, fun k => ?_⟩
  · rw [List.getElem?_set_ne (Ne.symm hi)]
    exact hkeep i x (get_app (by rw [List.getElem?_set_ne (Ne.symm hi)]; exact hx)) hf
  simp only [u8s, List.map_cons, List.map_nil, List.length_cons, List.length_nil, Nat.zero_add] at happ
  refine callK_eq ?_ k
  refine callK_start (n := 17) (rs := [.tmp 4]) Tryz.func16 rfl rfl rfl ?_
  intro σ hl ha
  have h0 := ha 0 (by simp)
  have h1 := ha 1 (by simp)
  clear ha
  simp only [Option.getD_some, List.getElem?_cons_zero, List.getElem?_cons_succ] at h0 h1
  have d1 : decide (j < T.length) = true := by simpa using hlt
  have d2 : decide (j < T2.length) = true := by simpa using hlt2
  have hbs : ∀ H, evBuildSlice Tryz.prog 52 1 [(0, .int .u8 c.toNat)] H = some (.slice H.length 0 1 (.ex 1), H ++ [.cells [.int .u8 c.toNat] 5 .rw]) := by
    intro H
    simp only [evBuildSlice, tsh_52, tzero_5, Option.bind_some]
    rfl
  simp only [go_sem, simprocAttr, hl, h0, h1, hck, d1, d2, hj1, hj2, hbs, happ, hvc, hsc, hfl]
  exact hleave _ _

theorem b_stringK (H T : Hp) (j : Nat) (bs : List UInt8) (hb : Bld H.length T j bs) (hn : bs.length ≤ 9223372036854775807) :
    ∃ T' e, Keep T j T' ∧ clean H.length e ∧ ∀ k, callK Tryz.prog 17 [.ptr (H.length + j) 0] (H ++ T) k = k (.str bs, H ++ T', e) := by
  obtain ⟨p, v, hj, hp, hv⟩ := hb
  have hlt := lt_of_get hj
  have hlen := hv.len
  obtain ⟨rfl, rfl⟩ | ⟨hpos, m, rfl, hm⟩ := hv
  · refine ⟨T, z0, Keep.refl T j, ⟨rfl, rfl⟩, fun k => ?_⟩
    refine callK_eq ?_ k
    refine callK_start (n := 14) (rs := [.tmp 2]) Tryz.func17 rfl rfl rfl ?_
    intro σ hl ha
    have h0 := ha 0 (by simp)
    clear ha
    simp only [Option.getD_some, List.getElem?_cons_zero, List.getElem?_cons_succ] at h0
    have hsd : evSliceData Tryz.prog .nils (H ++ T) = some .nilp := rfl
    have hst : evString Tryz.prog 85 .nilp (.int .i64 0) (H ++ T) = some (.str [], H ++ T, z0) := rfl
    have d1 : decide (j < T.length) = true := by simpa using hlt
    simp only [go_sem, simprocAttr, hl, h0]
    refine go_drawZ tFollows (by kernel_rfl) ?_
    simp only [go_sem, simprocAttr, hl, h0, hj, d1, hsd, hst, hlen]
    rw [← List.length_append]
    exact leave_flat0 rfl (by rw [clean_z0]; trivial)
  · have hlm := lt_of_get hm
    have hg : (H ++ T)[H.length + m]? = some (.cells (u8s bs) 5 (.op 0 false)) := by rw [hp_new, hm]
    have hsd : evSliceData Tryz.prog (.slice (H.length + m) 0 bs.length (.op 0)) (H ++ T) = some (.ptr (H.length + m) 0) := by
      simp only [evSliceData, hg, tsize_5, Option.bind_some]
      rw [if_pos ⟨by decide, trivial, hpos, by rw [u8s_len]; omega⟩]
    have hst : evString Tryz.prog 85 (.ptr (H.length + m) 0) (.int .i64 bs.length) (H ++ T) = some (.str bs, (H ++ T).set (H.length + m) (.cells (u8s bs) 5 (.op bs.length false)), ⟨none, some (H.length + m)⟩) := by
      have c1 : ¬ ((bs.length : Int) = 0) := by omega
      have c2 : 0 < (bs.length : Int) ∧ (bs.length : Int) ≤ 9223372036854775807 := by omega
      have c3 : Tryz.prog.cellsOf 5 = 1 := by kernel_rfl
      have c5 : ((u8s bs).drop 0).take (bs.length : Int).toNat = u8s bs := by
        rw [List.drop_zero, List.take_of_length_le (by rw [u8s_len]; simp)]
      simp only [evString, tsh_85, hg]
      rw [if_neg c1, if_pos c2, if_pos ⟨trivial, tsize_5, c3, by rw [u8s_len]; simp⟩, c5, bytes_u8s]
      simp
    refine ⟨T.set m (.cells (u8s bs) 5 (.op bs.length false)), ⟨none, low (H.length + T.length) (some (H.length + m))⟩, ⟨by simp, fun i x hi hx hf => by
      have hne : m ≠ i := by
        rintro rfl
        rw [hm] at hx; cases hx; cases hf
      rw [List.getElem?_set_ne hne]; exact hx⟩, ⟨rfl, low_low (m := H.length + T.length) (by simp [low] : low H.length (some (H.length + m)) = none)⟩, fun k => ?_⟩
    refine callK_eq ?_ k
    refine callK_start (n := 14) (rs := [.tmp 2]) Tryz.func17 rfl rfl rfl ?_
    intro σ hl ha
    have h0 := ha 0 (by simp)
    clear ha
    simp only [Option.getD_some, List.getElem?_cons_zero, List.getElem?_cons_succ] at h0
    have d1 : decide (j < T.length) = true := by simpa using hlt
    simp only [go_sem, simprocAttr, hl, h0]
    refine go_drawZ tFollows (by kernel_rfl) ?_
    simp only [go_sem, simprocAttr, hl, h0, hj, d1, hsd, hst, hlen]
    refine ⟨(by kernel_rfl : effOk _ _ _ = true), ?_⟩
    unfold leave
    have hlo : low (H.length + T.length) none = none := rfl
    simp only [hlo, flat, and_self, if_true]
    rw [List.take_of_length_le (by simp)]
theorem b_string (H T : Hp) (j : Nat) (bs : List UInt8) (hb : Bld H.length T j bs) (hn : bs.length ≤ 9223372036854775807) :
    ∃ T' e, clean H.length e ∧ ∀ k, callK Tryz.prog 17 [.ptr (H.length + j) 0] (H ++ T) k = k (.str bs, H ++ T', e) := by
  obtain ⟨T', e, _, h1, h2⟩ := b_stringK H T j bs hb hn
  exact ⟨T', e, h1, h2⟩
end Go.Proofs.YtgkpgpdkolpfkaaGreatDoor.V
namespace Go.Proofs.YtgkpgpdkolpfkaaGreatDoor.V
open Go
attribute [local irreducible] go goOps goD opK callK callT stepK leaveTo nextK

def escB (q : Bool) (c : UInt8) : List UInt8 :=
  if c.toNat = 34 ∨ c.toNat = 92 then [92, c]
  else if c.toNat = 46 ∨ c.toNat = 59 ∨ c.toNat = 40 ∨ c.toNat = 41 ∨ c.toNat = 64 ∨ c.toNat = 36 then (if q = true then [c] else [92, c])
  else if (32 < c.toNat ∧ c.toNat < 127) ∨ (c.toNat = 32 ∧ q = true) then [c]
  else [92, UInt8.ofNat (48 + c.toNat / 100), UInt8.ofNat (48 + c.toNat / 10 % 10), UInt8.ofNat (48 + c.toNat % 10)]
def escS (q : Bool) (s : List UInt8) : List UInt8 := s.flatMap (escB q)
theorem escB_len (q : Bool) (c : UInt8) : (escB q c).length ≤ 4 := by
  unfold escB; split
  · simp
  split
  · split <;> simp
  split <;> simp
theorem escS_snoc {q : Bool} {s : List UInt8} {i : Nat} {c : UInt8} (h : s[i]? = some c) : escS q (s.take (i + 1)) = escS q (s.take i) ++ escB q c := by
  rw [take_snoc h]; simp [escS]
theorem escS_len (q : Bool) : ∀ (s : List UInt8), (escS q s).length ≤ 4 * s.length
  | [] => by simp [escS]
  | c :: s => by
    have := escS_len q s
    have h := escB_len q c
    have e : escS q (c :: s) = escB q c ++ escS q s := rfl
    rw [e, List.length_append, List.length_cons]; omega

theorem Bld.more {n : Nat} {T : Hp} {j : Nat} {bs : List UInt8} (h : Bld n T j bs) (l : Hp) : Bld n (T ++ l) j bs := by
  obtain ⟨p, v, hj, hp, hv⟩ := h
  refine ⟨p, v, get_app hj, hp, ?_⟩
  obtain h | ⟨q, m, rfl, hm⟩ := hv
  · exact .inl h
  · exact .inr ⟨q, m, rfl, get_app hm⟩
theorem Bld.lt {n : Nat} {T : Hp} {j : Nat} {bs : List UInt8} (h : Bld n T j bs) : j < T.length := by
  obtain ⟨p, v, hj, hp, hv⟩ := h
  exact lt_of_get hj

set_option maxRecDepth 20000 in
theorem b_write (H T : Hp) (j q : Nat) (bs s : List UInt8) (hb : Bld H.length T j bs) (hq : T[q]? = some (.cells (u8s s) 5 .rw)) (hqj : j ≠ q) (hs : 0 < s.length) (hf : fits (bs.length + s.length) 1 = true) :
    ∃ T' e, Bld H.length T' j (bs ++ s) ∧ Keep T j T' ∧ Cl H.length j e ∧ ∀ k, callK Tryz.prog 37 [.ptr (H.length + j) 0, .slice (H.length + q) 0 s.length (.ex s.length)] (H ++ T) k = k (.tuple [.int .i64 s.length, .nili], H ++ T', e) := by
  obtain ⟨p, v, hj, hp, hv⟩ := hb
  have hlt := lt_of_get hj
  obtain ⟨e1, he1, hck⟩ := b_check H T j p v hj hp hv.scl
  have hj1 : (T.set j (.cells [.ptr (H.length + j) 0, v] 54 .rw))[j]? = some (.cells [.ptr (H.length + j) 0, v] 54 .rw) := by rw [List.getElem?_set_self hlt]
  have hq1 : (T.set j (.cells [.ptr (H.length + j) 0, v] 54 .rw))[q]? = some (.cells (u8s s) 5 .rw) := by rw [List.getElem?_set_ne hqj]; exact hq
  have hv1 := hv.set (x := .cells [.ptr (H.length + j) 0, v] 54 .rw) hj
  obtain ⟨v', T2, e2, happ, hlen, hcl, hkeep, hbuf⟩ := hv1.app s hf
  obtain ⟨m, hvm, hm⟩ := hbuf.pos (by simp; omega)
  have hj2 := hkeep j _ hj1 rfl
  have hlt2 := lt_of_get hj2
  have hfl : flat v' = false := by rw [hvm]; simp only [flat]
  have hsc := hbuf.scl
  have hvc : vcells v' = [v'] := by rw [hvm]; rfl
  have hc0 : clean H.length e1 := by
    obtain rfl | h := he1
    · exact ⟨rfl, rfl⟩
    · exact h.cln
  have hcl3 : Cl H.length j ((e1.and e2).and ⟨some (H.length + j), some (H.length + j)⟩) := .andr (clean_and hc0 hcl) ⟨_, rfl, by omega, by omega, by simp [low]⟩
  obtain ⟨e', hE, hleave⟩ := hcl3.leave (m := H.length + T.length) (by omega)
  refine ⟨T2.set j (.cells [.ptr (H.length + j) 0, v'] 54 .rw), e', ⟨_, v', by rw [List.getElem?_set_self hlt2], .inr rfl, hbuf.set hj2⟩, ⟨by simp at hlen ⊢; omega, fun i x hi hx hf => ?_⟩, hE, fun k => ?_⟩
  · rw [List.getElem?_set_ne (Ne.symm hi)]
    exact hkeep i x (by rw [List.getElem?_set_ne (Ne.symm hi)]; exact hx) hf
  have hrd := fun (e : TypeId) (k : Kd) => rdC_u8s (s := s) (e := e) (k := k) (n := s.length) rfl
  refine callK_eq ?_ k
  refine callK_start (n := 19) (rs := [.tmp 4, .tmp 5]) Tryz.func37 rfl rfl rfl ?_
  intro σ hl ha
  have h0 := ha 0 (by simp)
  have h1 := ha 1 (by simp)
  clear ha
  simp only [Option.getD_some, List.getElem?_cons_zero, List.getElem?_cons_succ] at h0 h1
  have d1 : decide (j < T.length) = true := by simpa using hlt
  have d2 : decide (j < T2.length) = true := by simpa using hlt2
  simp only [go_sem, simprocAttr, hl, h0, h1, hck, d1, d2, hj1, hj2, hq1, hrd, Nat.mul_one, happ, hvc, hsc, hfl]
  exact hleave _ _
theorem b_wlit (H T : Hp) (j : Nat) (bs : List UInt8) (c : UInt8) (n : Int) (hn : n = c.toNat) (hb : Bld H.length T j bs) (hf : fits (bs.length + 1) 1 = true) :
    ∃ T' e, Bld H.length T' j (bs ++ [c]) ∧ Keep T j T' ∧ Cl H.length j e ∧ ∀ k, callK Tryz.prog 16 [.ptr (H.length + j) 0, .int .u8 n] (H ++ T) k = k (.nili, H ++ T', e) := by
  subst hn
  exact b_wbyte H T j bs c hb hf
theorem bslice4 (a b c d : Int) (H : Hp) : evBuildSlice Tryz.prog 52 4 [(0, .int .u8 a), (1, .int .u8 b), (2, .int .u8 c), (3, .int .u8 d)] H = some (.slice H.length 0 4 (.ex 4), H ++ [.cells [.int .u8 a, .int .u8 b, .int .u8 c, .int .u8 d] 5 .rw]) := by
  simp only [evBuildSlice, tsh_52, tzero_5, Option.bind_some]
  rfl
theorem dg_a {n : Nat} (h : n < 256) : IntKind.u8.wrap (48 + IntKind.u8.wrap ((n : Int).tdiv 100)) = ((UInt8.ofNat (48 + n / 100)).toNat : Int) := by
  have e : (n : Int).tdiv 100 = ((n / 100 : Nat) : Int) := rfl
  rw [e, show IntKind.u8.wrap ((n / 100 : Nat) : Int) = ((n / 100 : Nat) : Int) from wrap_u8 (by omega), ofNat_le (m := 255) (by omega) (by omega), wrap_u8 (by omega)]; omega
theorem dg_b {n : Nat} (h : n < 256) : IntKind.u8.wrap (48 + (IntKind.u8.wrap ((n : Int).tdiv 10)).tmod 10) = ((UInt8.ofNat (48 + n / 10 % 10)).toNat : Int) := by
  have e : (n : Int).tdiv 10 = ((n / 10 : Nat) : Int) := rfl
  rw [e, show IntKind.u8.wrap ((n / 10 : Nat) : Int) = ((n / 10 : Nat) : Int) from wrap_u8 (by omega)]
  have e : ((n / 10 : Nat) : Int).tmod 10 = ((n / 10 % 10 : Nat) : Int) := rfl
  rw [e, ofNat_le (m := 255) (by omega) (by omega), wrap_u8 (by omega)]; omega
theorem dg_c {n : Nat} (h : n < 256) : IntKind.u8.wrap (48 + (n : Int).tmod 10) = ((UInt8.ofNat (48 + n % 10)).toNat : Int) := by
  have e : (n : Int).tmod 10 = ((n % 10 : Nat) : Int) := rfl
  rw [e, ofNat_le (m := 255) (by omega) (by omega), wrap_u8 (by omega)]; omega

set_option maxRecDepth 20000 in
set_option maxHeartbeats 2000000 in
theorem name_Escape (s : List UInt8) (q : Bool) (H k) (hs : s.length ≤ 1000000) : callK Tryz.prog 15 [.str s, .bool q] H k = k (.str (escS q s), H, z0) := by
  refine callK_eq (r := (.str (escS q s), H, z0)) ?_ k
  refine callK_start (n := 63) (rs := [.tmp 4]) Tryz.func15 rfl rfl rfl ?_
  intro σ hl ha
  have h0 := ha 0 (by simp)
  have h1 := ha 1 (by simp)
  clear ha
  simp only [Option.getD_some, List.getElem?_cons_zero, List.getElem?_cons_succ] at h0 h1
  have hb0 : Bld H.length [.cells [.nilp, .nils] 54 .rw] 0 (escS q (s.take 0)) := ⟨_, _, rfl, .inl rfl, .inl ⟨rfl, rfl⟩⟩
  simp only [go_sem, simprocAttr, hl, h0, h1]
  refine go_rounds (fun n st => ∃ σ i T e, n + i = s.length ∧ st = ⟨σ, H ++ T, e⟩ ∧ Bld H.length T 0 (escS q (s.take i)) ∧ clean H.length e ∧ σ.length = 63 ∧ fr σ 0 = .str s ∧ fr σ 1 = .bool q ∧ fr σ 5 = .ptr H.length 0 ∧ fr σ 10 = .int .i64 s.length ∧ fr σ 11 = .int .i64 (i : Nat)) s.length
    ⟨_, 0, _, _, rfl, rfl, hb0, ⟨rfl, rfl⟩, by simp only [go_sem, simprocAttr, hl], by simp only [go_sem, simprocAttr, hl, h0], by simp only [go_sem, simprocAttr, hl, h1], by simp only [go_sem, simprocAttr, hl], by simp only [go_sem, simprocAttr, hl], by simp only [go_sem, simprocAttr, hl]⟩ ?_
  rintro n _ ⟨σ, i, T, e, hn, rfl, hb, he, hl, h0, h1, h5, h10, h11⟩
  by_cases hlt : i < s.length
  · obtain ⟨c, hc⟩ : ∃ c, s[i]? = some c := ⟨_, List.getElem?_eq_getElem hlt⟩
    have hcl := c.toNat_lt
    have hw := wrap_succ (show i < 9223372036854775807 by omega)
    have hsn := escS_snoc (q := q) hc
    have hbl : (escS q (s.take i)).length ≤ 4000000 := by
      have := escS_len q (s.take i)
      rw [List.length_take] at this; omega
    have hT := hb.lt
    generalize hB : escS q (s.take i) = B at *
    by_cases q34 : c.toNat = 34
    · have hE : escB q c = [92, c] := by unfold escB; exact if_pos (by omega)
      have g46 : ((c.toNat : Int) == 46) = false := by simp; omega
      have g59 : ((c.toNat : Int) == 59) = false := by simp; omega
      have g40 : ((c.toNat : Int) == 40) = false := by simp; omega
      have g41 : ((c.toNat : Int) == 41) = false := by simp; omega
      have g64 : ((c.toNat : Int) == 64) = false := by simp; omega
      have g36 : ((c.toNat : Int) == 36) = false := by simp; omega
      have g34 : ((c.toNat : Int) == 34) = true := by simp; omega
      have g92 : ((c.toNat : Int) == 92) = false := by simp; omega
      obtain ⟨T1, e1, b1, k1, c1, r1⟩ := b_wlit H T 0 (B) 92 92 rfl hb (by simp only [fits, decide_eq_true_eq, List.length_append, List.length_cons, List.length_nil] at *; omega)
      have c1 := c1.cln
      simp only [Nat.add_zero] at r1
      obtain ⟨T2, e2, b2, k2, c2, r2⟩ := b_wlit H T1 0 (B ++ [92]) c c.toNat rfl b1 (by simp only [fits, decide_eq_true_eq, List.length_append, List.length_cons, List.length_nil] at *; omega)
      have c2 := c2.cln
      simp only [Nat.add_zero] at r2
      simp only [go_sem, simprocAttr, hl, h0, h1, h5, h10, h11, hc, hlt, hw, bslice4, g46, g59, g40, g41, g64, g36, g34, g92, r1, r2]
      refine ⟨n - 1, by omega, _, i + 1, T2, _, by omega, rfl, ?_, by simp only [go_sem, simprocAttr, he, c1, c2], by simp only [go_sem, simprocAttr, hl], by simp only [go_sem, simprocAttr, hl, h0], by simp only [go_sem, simprocAttr, hl, h1], by simp only [go_sem, simprocAttr, hl, h5], by simp only [go_sem, simprocAttr, hl, h10], by simp only [go_sem, simprocAttr, hl]⟩
      rw [hsn, hE]; simpa [List.append_assoc] using b2
    by_cases q92 : c.toNat = 92
    · have hE : escB q c = [92, c] := by unfold escB; exact if_pos (by omega)
      have g46 : ((c.toNat : Int) == 46) = false := by simp; omega
      have g59 : ((c.toNat : Int) == 59) = false := by simp; omega
      have g40 : ((c.toNat : Int) == 40) = false := by simp; omega
      have g41 : ((c.toNat : Int) == 41) = false := by simp; omega
      have g64 : ((c.toNat : Int) == 64) = false := by simp; omega
      have g36 : ((c.toNat : Int) == 36) = false := by simp; omega
      have g34 : ((c.toNat : Int) == 34) = false := by simp; omega
      have g92 : ((c.toNat : Int) == 92) = true := by simp; omega
      obtain ⟨T1, e1, b1, k1, c1, r1⟩ := b_wlit H T 0 (B) 92 92 rfl hb (by simp only [fits, decide_eq_true_eq, List.length_append, List.length_cons, List.length_nil] at *; omega)
      have c1 := c1.cln
      simp only [Nat.add_zero] at r1
      obtain ⟨T2, e2, b2, k2, c2, r2⟩ := b_wlit H T1 0 (B ++ [92]) c c.toNat rfl b1 (by simp only [fits, decide_eq_true_eq, List.length_append, List.length_cons, List.length_nil] at *; omega)
      have c2 := c2.cln
      simp only [Nat.add_zero] at r2
      simp only [go_sem, simprocAttr, hl, h0, h1, h5, h10, h11, hc, hlt, hw, bslice4, g46, g59, g40, g41, g64, g36, g34, g92, r1, r2]
      refine ⟨n - 1, by omega, _, i + 1, T2, _, by omega, rfl, ?_, by simp only [go_sem, simprocAttr, he, c1, c2], by simp only [go_sem, simprocAttr, hl], by simp only [go_sem, simprocAttr, hl, h0], by simp only [go_sem, simprocAttr, hl, h1], by simp only [go_sem, simprocAttr, hl, h5], by simp only [go_sem, simprocAttr, hl, h10], by simp only [go_sem, simprocAttr, hl]⟩
      rw [hsn, hE]; simpa [List.append_assoc] using b2
    by_cases q46 : c.toNat = 46
    · have hE : escB q c = if q = true then [c] else [92, c] := by unfold escB; rw [if_neg (by omega), if_pos (by omega)]
      have g46 : ((c.toNat : Int) == 46) = true := by simp; omega
      have g59 : ((c.toNat : Int) == 59) = false := by simp; omega
      have g40 : ((c.toNat : Int) == 40) = false := by simp; omega
      have g41 : ((c.toNat : Int) == 41) = false := by simp; omega
      have g64 : ((c.toNat : Int) == 64) = false := by simp; omega
      have g36 : ((c.toNat : Int) == 36) = false := by simp; omega
      have g34 : ((c.toNat : Int) == 34) = false := by simp; omega
      have g92 : ((c.toNat : Int) == 92) = false := by simp; omega
      cases q
      · rw [if_neg (by simp)] at hE
        obtain ⟨T1, e1, b1, k1, c1, r1⟩ := b_wlit H T 0 (B) 92 92 rfl hb (by simp only [fits, decide_eq_true_eq, List.length_append, List.length_cons, List.length_nil] at *; omega)
        have c1 := c1.cln
        simp only [Nat.add_zero] at r1
        obtain ⟨T2, e2, b2, k2, c2, r2⟩ := b_wlit H T1 0 (B ++ [92]) c c.toNat rfl b1 (by simp only [fits, decide_eq_true_eq, List.length_append, List.length_cons, List.length_nil] at *; omega)
        have c2 := c2.cln
        simp only [Nat.add_zero] at r2
        simp only [go_sem, simprocAttr, hl, h0, h1, h5, h10, h11, hc, hlt, hw, bslice4, g46, g59, g40, g41, g64, g36, g34, g92, r1, r2]
        refine ⟨n - 1, by omega, _, i + 1, T2, _, by omega, rfl, ?_, by simp only [go_sem, simprocAttr, he, c1, c2], by simp only [go_sem, simprocAttr, hl], by simp only [go_sem, simprocAttr, hl, h0], by simp only [go_sem, simprocAttr, hl, h1], by simp only [go_sem, simprocAttr, hl, h5], by simp only [go_sem, simprocAttr, hl, h10], by simp only [go_sem, simprocAttr, hl]⟩
        rw [hsn, hE]; simpa [List.append_assoc] using b2
      · rw [if_pos rfl] at hE
        obtain ⟨T1, e1, b1, k1, c1, r1⟩ := b_wlit H T 0 (B) c c.toNat rfl hb (by simp only [fits, decide_eq_true_eq, List.length_append, List.length_cons, List.length_nil] at *; omega)
        have c1 := c1.cln
        simp only [Nat.add_zero] at r1
        simp only [go_sem, simprocAttr, hl, h0, h1, h5, h10, h11, hc, hlt, hw, bslice4, g46, g59, g40, g41, g64, g36, g34, g92, r1]
        refine ⟨n - 1, by omega, _, i + 1, T1, _, by omega, rfl, ?_, by simp only [go_sem, simprocAttr, he, c1], by simp only [go_sem, simprocAttr, hl], by simp only [go_sem, simprocAttr, hl, h0], by simp only [go_sem, simprocAttr, hl, h1], by simp only [go_sem, simprocAttr, hl, h5], by simp only [go_sem, simprocAttr, hl, h10], by simp only [go_sem, simprocAttr, hl]⟩
        rw [hsn, hE]; simpa [List.append_assoc] using b1
    by_cases q59 : c.toNat = 59
    · have hE : escB q c = if q = true then [c] else [92, c] := by unfold escB; rw [if_neg (by omega), if_pos (by omega)]
      have g46 : ((c.toNat : Int) == 46) = false := by simp; omega
      have g59 : ((c.toNat : Int) == 59) = true := by simp; omega
      have g40 : ((c.toNat : Int) == 40) = false := by simp; omega
      have g41 : ((c.toNat : Int) == 41) = false := by simp; omega
      have g64 : ((c.toNat : Int) == 64) = false := by simp; omega
      have g36 : ((c.toNat : Int) == 36) = false := by simp; omega
      have g34 : ((c.toNat : Int) == 34) = false := by simp; omega
      have g92 : ((c.toNat : Int) == 92) = false := by simp; omega
      cases q
      · rw [if_neg (by simp)] at hE
        obtain ⟨T1, e1, b1, k1, c1, r1⟩ := b_wlit H T 0 (B) 92 92 rfl hb (by simp only [fits, decide_eq_true_eq, List.length_append, List.length_cons, List.length_nil] at *; omega)
        have c1 := c1.cln
        simp only [Nat.add_zero] at r1
        obtain ⟨T2, e2, b2, k2, c2, r2⟩ := b_wlit H T1 0 (B ++ [92]) c c.toNat rfl b1 (by simp only [fits, decide_eq_true_eq, List.length_append, List.length_cons, List.length_nil] at *; omega)
        have c2 := c2.cln
        simp only [Nat.add_zero] at r2
        simp only [go_sem, simprocAttr, hl, h0, h1, h5, h10, h11, hc, hlt, hw, bslice4, g46, g59, g40, g41, g64, g36, g34, g92, r1, r2]
        refine ⟨n - 1, by omega, _, i + 1, T2, _, by omega, rfl, ?_, by simp only [go_sem, simprocAttr, he, c1, c2], by simp only [go_sem, simprocAttr, hl], by simp only [go_sem, simprocAttr, hl, h0], by simp only [go_sem, simprocAttr, hl, h1], by simp only [go_sem, simprocAttr, hl, h5], by simp only [go_sem, simprocAttr, hl, h10], by simp only [go_sem, simprocAttr, hl]⟩
        rw [hsn, hE]; simpa [List.append_assoc] using b2
      · rw [if_pos rfl] at hE
        obtain ⟨T1, e1, b1, k1, c1, r1⟩ := b_wlit H T 0 (B) c c.toNat rfl hb (by simp only [fits, decide_eq_true_eq, List.length_append, List.length_cons, List.length_nil] at *; omega)
        have c1 := c1.cln
        simp only [Nat.add_zero] at r1
        simp only [go_sem, simprocAttr, hl, h0, h1, h5, h10, h11, hc, hlt, hw, bslice4, g46, g59, g40, g41, g64, g36, g34, g92, r1]
        refine ⟨n - 1, by omega, _, i + 1, T1, _, by omega, rfl, ?_, by simp only [go_sem, simprocAttr, he, c1], by simp only [go_sem, simprocAttr, hl], by simp only [go_sem, simprocAttr, hl, h0], by simp only [go_sem, simprocAttr, hl, h1], by simp only [go_sem, simprocAttr, hl, h5], by simp only [go_sem, simprocAttr, hl, h10], by simp only [go_sem, simprocAttr, hl]⟩
        rw [hsn, hE]; simpa [List.append_assoc] using b1
    by_cases q40 : c.toNat = 40
    · have hE : escB q c = if q = true then [c] else [92, c] := by unfold escB; rw [if_neg (by omega), if_pos (by omega)]
      have g46 : ((c.toNat : Int) == 46) = false := by simp; omega
      have g59 : ((c.toNat : Int) == 59) = false := by simp; omega
      have g40 : ((c.toNat : Int) == 40) = true := by simp; omega
      have g41 : ((c.toNat : Int) == 41) = false := by simp; omega
      have g64 : ((c.toNat : Int) == 64) = false := by simp; omega
      have g36 : ((c.toNat : Int) == 36) = false := by simp; omega
      have g34 : ((c.toNat : Int) == 34) = false := by simp; omega
      have g92 : ((c.toNat : Int) == 92) = false := by simp; omega
      cases q
      · rw [if_neg (by simp)] at hE
        obtain ⟨T1, e1, b1, k1, c1, r1⟩ := b_wlit H T 0 (B) 92 92 rfl hb (by simp only [fits, decide_eq_true_eq, List.length_append, List.length_cons, List.length_nil] at *; omega)
        have c1 := c1.cln
        simp only [Nat.add_zero] at r1
        obtain ⟨T2, e2, b2, k2, c2, r2⟩ := b_wlit H T1 0 (B ++ [92]) c c.toNat rfl b1 (by simp only [fits, decide_eq_true_eq, List.length_append, List.length_cons, List.length_nil] at *; omega)
        have c2 := c2.cln
        simp only [Nat.add_zero] at r2
        simp only [go_sem, simprocAttr, hl, h0, h1, h5, h10, h11, hc, hlt, hw, bslice4, g46, g59, g40, g41, g64, g36, g34, g92, r1, r2]
        refine ⟨n - 1, by omega, _, i + 1, T2, _, by omega, rfl, ?_, by simp only [go_sem, simprocAttr, he, c1, c2], by simp only [go_sem, simprocAttr, hl], by simp only [go_sem, simprocAttr, hl, h0], by simp only [go_sem, simprocAttr, hl, h1], by simp only [go_sem, simprocAttr, hl, h5], by simp only [go_sem, simprocAttr, hl, h10], by simp only [go_sem, simprocAttr, hl]⟩
        rw [hsn, hE]; simpa [List.append_assoc] using b2
      · rw [if_pos rfl] at hE
        obtain ⟨T1, e1, b1, k1, c1, r1⟩ := b_wlit H T 0 (B) c c.toNat rfl hb (by simp only [fits, decide_eq_true_eq, List.length_append, List.length_cons, List.length_nil] at *; omega)
        have c1 := c1.cln
        simp only [Nat.add_zero] at r1
        simp only [go_sem, simprocAttr, hl, h0, h1, h5, h10, h11, hc, hlt, hw, bslice4, g46, g59, g40, g41, g64, g36, g34, g92, r1]
        refine ⟨n - 1, by omega, _, i + 1, T1, _, by omega, rfl, ?_, by simp only [go_sem, simprocAttr, he, c1], by simp only [go_sem, simprocAttr, hl], by simp only [go_sem, simprocAttr, hl, h0], by simp only [go_sem, simprocAttr, hl, h1], by simp only [go_sem, simprocAttr, hl, h5], by simp only [go_sem, simprocAttr, hl, h10], by simp only [go_sem, simprocAttr, hl]⟩
        rw [hsn, hE]; simpa [List.append_assoc] using b1
    by_cases q41 : c.toNat = 41
    · have hE : escB q c = if q = true then [c] else [92, c] := by unfold escB; rw [if_neg (by omega), if_pos (by omega)]
      have g46 : ((c.toNat : Int) == 46) = false := by simp; omega
      have g59 : ((c.toNat : Int) == 59) = false := by simp; omega
      have g40 : ((c.toNat : Int) == 40) = false := by simp; omega
      have g41 : ((c.toNat : Int) == 41) = true := by simp; omega
      have g64 : ((c.toNat : Int) == 64) = false := by simp; omega
      have g36 : ((c.toNat : Int) == 36) = false := by simp; omega
      have g34 : ((c.toNat : Int) == 34) = false := by simp; omega
      have g92 : ((c.toNat : Int) == 92) = false := by simp; omega
      cases q
      · rw [if_neg (by simp)] at hE
        obtain ⟨T1, e1, b1, k1, c1, r1⟩ := b_wlit H T 0 (B) 92 92 rfl hb (by simp only [fits, decide_eq_true_eq, List.length_append, List.length_cons, List.length_nil] at *; omega)
        have c1 := c1.cln
        simp only [Nat.add_zero] at r1
        obtain ⟨T2, e2, b2, k2, c2, r2⟩ := b_wlit H T1 0 (B ++ [92]) c c.toNat rfl b1 (by simp only [fits, decide_eq_true_eq, List.length_append, List.length_cons, List.length_nil] at *; omega)
        have c2 := c2.cln
        simp only [Nat.add_zero] at r2
        simp only [go_sem, simprocAttr, hl, h0, h1, h5, h10, h11, hc, hlt, hw, bslice4, g46, g59, g40, g41, g64, g36, g34, g92, r1, r2]
        refine ⟨n - 1, by omega, _, i + 1, T2, _, by omega, rfl, ?_, by simp only [go_sem, simprocAttr, he, c1, c2], by simp only [go_sem, simprocAttr, hl], by simp only [go_sem, simprocAttr, hl, h0], by simp only [go_sem, simprocAttr, hl, h1], by simp only [go_sem, simprocAttr, hl, h5], by simp only [go_sem, simprocAttr, hl, h10], by simp only [go_sem, simprocAttr, hl]⟩
        rw [hsn, hE]; simpa [List.append_assoc] using b2
      · rw [if_pos rfl] at hE
        obtain ⟨T1, e1, b1, k1, c1, r1⟩ := b_wlit H T 0 (B) c c.toNat rfl hb (by simp only [fits, decide_eq_true_eq, List.length_append, List.length_cons, List.length_nil] at *; omega)
        have c1 := c1.cln
        simp only [Nat.add_zero] at r1
        simp only [go_sem, simprocAttr, hl, h0, h1, h5, h10, h11, hc, hlt, hw, bslice4, g46, g59, g40, g41, g64, g36, g34, g92, r1]
        refine ⟨n - 1, by omega, _, i + 1, T1, _, by omega, rfl, ?_, by simp only [go_sem, simprocAttr, he, c1], by simp only [go_sem, simprocAttr, hl], by simp only [go_sem, simprocAttr, hl, h0], by simp only [go_sem, simprocAttr, hl, h1], by simp only [go_sem, simprocAttr, hl, h5], by simp only [go_sem, simprocAttr, hl, h10], by simp only [go_sem, simprocAttr, hl]⟩
        rw [hsn, hE]; simpa [List.append_assoc] using b1
    by_cases q64 : c.toNat = 64
    · have hE : escB q c = if q = true then [c] else [92, c] := by unfold escB; rw [if_neg (by omega), if_pos (by omega)]
      have g46 : ((c.toNat : Int) == 46) = false := by simp; omega
      have g59 : ((c.toNat : Int) == 59) = false := by simp; omega
      have g40 : ((c.toNat : Int) == 40) = false := by simp; omega
      have g41 : ((c.toNat : Int) == 41) = false := by simp; omega
      have g64 : ((c.toNat : Int) == 64) = true := by simp; omega
      have g36 : ((c.toNat : Int) == 36) = false := by simp; omega
      have g34 : ((c.toNat : Int) == 34) = false := by simp; omega
      have g92 : ((c.toNat : Int) == 92) = false := by simp; omega
      cases q
      · rw [if_neg (by simp)] at hE
        obtain ⟨T1, e1, b1, k1, c1, r1⟩ := b_wlit H T 0 (B) 92 92 rfl hb (by simp only [fits, decide_eq_true_eq, List.length_append, List.length_cons, List.length_nil] at *; omega)
        have c1 := c1.cln
        simp only [Nat.add_zero] at r1
        obtain ⟨T2, e2, b2, k2, c2, r2⟩ := b_wlit H T1 0 (B ++ [92]) c c.toNat rfl b1 (by simp only [fits, decide_eq_true_eq, List.length_append, List.length_cons, List.length_nil] at *; omega)
        have c2 := c2.cln
        simp only [Nat.add_zero] at r2
        simp only [go_sem, simprocAttr, hl, h0, h1, h5, h10, h11, hc, hlt, hw, bslice4, g46, g59, g40, g41, g64, g36, g34, g92, r1, r2]
        refine ⟨n - 1, by omega, _, i + 1, T2, _, by omega, rfl, ?_, by simp only [go_sem, simprocAttr, he, c1, c2], by simp only [go_sem, simprocAttr, hl], by simp only [go_sem, simprocAttr, hl, h0], by simp only [go_sem, simprocAttr, hl, h1], by simp only [go_sem, simprocAttr, hl, h5], by simp only [go_sem, simprocAttr, hl, h10], by simp only [go_sem, simprocAttr, hl]⟩
        rw [hsn, hE]; simpa [List.append_assoc] using b2
      · rw [if_pos rfl] at hE
        obtain ⟨T1, e1, b1, k1, c1, r1⟩ := b_wlit H T 0 (B) c c.toNat rfl hb (by simp only [fits, decide_eq_true_eq, List.length_append, List.length_cons, List.length_nil] at *; omega)
        have c1 := c1.cln
        simp only [Nat.add_zero] at r1
        simp only [go_sem, simprocAttr, hl, h0, h1, h5, h10, h11, hc, hlt, hw, bslice4, g46, g59, g40, g41, g64, g36, g34, g92, r1]
        refine ⟨n - 1, by omega, _, i + 1, T1, _, by omega, rfl, ?_, by simp only [go_sem, simprocAttr, he, c1], by simp only [go_sem, simprocAttr, hl], by simp only [go_sem, simprocAttr, hl, h0], by simp only [go_sem, simprocAttr, hl, h1], by simp only [go_sem, simprocAttr, hl, h5], by simp only [go_sem, simprocAttr, hl, h10], by simp only [go_sem, simprocAttr, hl]⟩
        rw [hsn, hE]; simpa [List.append_assoc] using b1
    by_cases q36 : c.toNat = 36
    · have hE : escB q c = if q = true then [c] else [92, c] := by unfold escB; rw [if_neg (by omega), if_pos (by omega)]
      have g46 : ((c.toNat : Int) == 46) = false := by simp; omega
      have g59 : ((c.toNat : Int) == 59) = false := by simp; omega
      have g40 : ((c.toNat : Int) == 40) = false := by simp; omega
      have g41 : ((c.toNat : Int) == 41) = false := by simp; omega
      have g64 : ((c.toNat : Int) == 64) = false := by simp; omega
      have g36 : ((c.toNat : Int) == 36) = true := by simp; omega
      have g34 : ((c.toNat : Int) == 34) = false := by simp; omega
      have g92 : ((c.toNat : Int) == 92) = false := by simp; omega
      cases q
      · rw [if_neg (by simp)] at hE
        obtain ⟨T1, e1, b1, k1, c1, r1⟩ := b_wlit H T 0 (B) 92 92 rfl hb (by simp only [fits, decide_eq_true_eq, List.length_append, List.length_cons, List.length_nil] at *; omega)
        have c1 := c1.cln
        simp only [Nat.add_zero] at r1
        obtain ⟨T2, e2, b2, k2, c2, r2⟩ := b_wlit H T1 0 (B ++ [92]) c c.toNat rfl b1 (by simp only [fits, decide_eq_true_eq, List.length_append, List.length_cons, List.length_nil] at *; omega)
        have c2 := c2.cln
        simp only [Nat.add_zero] at r2
        simp only [go_sem, simprocAttr, hl, h0, h1, h5, h10, h11, hc, hlt, hw, bslice4, g46, g59, g40, g41, g64, g36, g34, g92, r1, r2]
        refine ⟨n - 1, by omega, _, i + 1, T2, _, by omega, rfl, ?_, by simp only [go_sem, simprocAttr, he, c1, c2], by simp only [go_sem, simprocAttr, hl], by simp only [go_sem, simprocAttr, hl, h0], by simp only [go_sem, simprocAttr, hl, h1], by simp only [go_sem, simprocAttr, hl, h5], by simp only [go_sem, simprocAttr, hl, h10], by simp only [go_sem, simprocAttr, hl]⟩
        rw [hsn, hE]; simpa [List.append_assoc] using b2
      · rw [if_pos rfl] at hE
        obtain ⟨T1, e1, b1, k1, c1, r1⟩ := b_wlit H T 0 (B) c c.toNat rfl hb (by simp only [fits, decide_eq_true_eq, List.length_append, List.length_cons, List.length_nil] at *; omega)
        have c1 := c1.cln
        simp only [Nat.add_zero] at r1
        simp only [go_sem, simprocAttr, hl, h0, h1, h5, h10, h11, hc, hlt, hw, bslice4, g46, g59, g40, g41, g64, g36, g34, g92, r1]
        refine ⟨n - 1, by omega, _, i + 1, T1, _, by omega, rfl, ?_, by simp only [go_sem, simprocAttr, he, c1], by simp only [go_sem, simprocAttr, hl], by simp only [go_sem, simprocAttr, hl, h0], by simp only [go_sem, simprocAttr, hl, h1], by simp only [go_sem, simprocAttr, hl, h5], by simp only [go_sem, simprocAttr, hl, h10], by simp only [go_sem, simprocAttr, hl]⟩
        rw [hsn, hE]; simpa [List.append_assoc] using b1
    have g46 : ((c.toNat : Int) == 46) = false := by simp; omega
    have g59 : ((c.toNat : Int) == 59) = false := by simp; omega
    have g40 : ((c.toNat : Int) == 40) = false := by simp; omega
    have g41 : ((c.toNat : Int) == 41) = false := by simp; omega
    have g64 : ((c.toNat : Int) == 64) = false := by simp; omega
    have g36 : ((c.toNat : Int) == 36) = false := by simp; omega
    have g34 : ((c.toNat : Int) == 34) = false := by simp; omega
    have g92 : ((c.toNat : Int) == 92) = false := by simp; omega
    have hE : escB q c = if (32 < c.toNat ∧ c.toNat < 127) ∨ (c.toNat = 32 ∧ q = true) then [c] else [92, UInt8.ofNat (48 + c.toNat / 100), UInt8.ofNat (48 + c.toNat / 10 % 10), UInt8.ofNat (48 + c.toNat % 10)] := by unfold escB; rw [if_neg (by omega), if_neg (by omega)]
    by_cases hp : 32 < c.toNat ∧ c.toNat < 127
    · rw [if_pos (.inl hp)] at hE
      have p0 : decide ((c.toNat : Int) > 32) = true := by simp; omega
      have p1 : decide ((c.toNat : Int) < 127) = true := by simp; omega
      have p2 : ((c.toNat : Int) == 32) = false := by simp; omega
      obtain ⟨T1, e1, b1, k1, c1, r1⟩ := b_wlit H T 0 (B) c c.toNat rfl hb (by simp only [fits, decide_eq_true_eq, List.length_append, List.length_cons, List.length_nil] at *; omega)
      have c1 := c1.cln
      simp only [Nat.add_zero] at r1
      simp only [go_sem, simprocAttr, hl, h0, h1, h5, h10, h11, hc, hlt, hw, bslice4, g46, g59, g40, g41, g64, g36, g34, g92, p0, p1, p2, r1]
      refine ⟨n - 1, by omega, _, i + 1, T1, _, by omega, rfl, ?_, by simp only [go_sem, simprocAttr, he, c1], by simp only [go_sem, simprocAttr, hl], by simp only [go_sem, simprocAttr, hl, h0], by simp only [go_sem, simprocAttr, hl, h1], by simp only [go_sem, simprocAttr, hl, h5], by simp only [go_sem, simprocAttr, hl, h10], by simp only [go_sem, simprocAttr, hl]⟩
      rw [hsn, hE]; simpa [List.append_assoc] using b1
    by_cases hz : c.toNat = 32
    · have p0 : decide ((c.toNat : Int) > 32) = false := by simp; omega
      have p1 : decide ((c.toNat : Int) < 127) = true := by simp; omega
      have p2 : ((c.toNat : Int) == 32) = true := by simp; omega
      cases q
      · rw [if_neg (by simp; omega)] at hE
        have hb' := hb.more [.cells (u8s [92, UInt8.ofNat (48 + c.toNat / 100), UInt8.ofNat (48 + c.toNat / 10 % 10), UInt8.ofNat (48 + c.toNat % 10)]) 5 .rw]
        obtain ⟨T1, e1, b1, k1, c1, r1⟩ := b_write H (T ++ [.cells (u8s [92, UInt8.ofNat (48 + c.toNat / 100), UInt8.ofNat (48 + c.toNat / 10 % 10), UInt8.ofNat (48 + c.toNat % 10)]) 5 .rw]) 0 T.length (B) [92, UInt8.ofNat (48 + c.toNat / 100), UInt8.ofNat (48 + c.toNat / 10 % 10), UInt8.ofNat (48 + c.toNat % 10)] hb' (by simp) (by omega) (by simp) (by simp only [fits, decide_eq_true_eq, List.length_append, List.length_cons, List.length_nil] at *; omega)
        simp only [u8s, List.map_cons, List.map_nil, List.length_cons, List.length_nil, ← dg_a hcl, ← dg_b hcl, ← dg_c hcl] at r1
        have r1 : ∀ k, callK Tryz.prog 37 [.ptr (H.length + 0) 0, .slice (H.length + T.length) 0 4 (.ex 4)] (H ++ (T ++ [.cells [.int .u8 92, .int .u8 (IntKind.u8.wrap (48 + IntKind.u8.wrap ((c.toNat : Int).tdiv 100))), .int .u8 (IntKind.u8.wrap (48 + (IntKind.u8.wrap ((c.toNat : Int).tdiv 10)).tmod 10)), .int .u8 (IntKind.u8.wrap (48 + (c.toNat : Int).tmod 10))] 5 .rw])) k = k (.tuple [.int .i64 4, .nili], H ++ T1, e1) := r1
        have c1 := c1.cln
        simp only [Nat.add_zero] at r1
        simp only [go_sem, simprocAttr, hl, h0, h1, h5, h10, h11, hc, hlt, hw, bslice4, g46, g59, g40, g41, g64, g36, g34, g92, p0, p1, p2, r1]
        refine ⟨n - 1, by omega, _, i + 1, T1, _, by omega, rfl, ?_, by simp only [go_sem, simprocAttr, he, c1], by simp only [go_sem, simprocAttr, hl], by simp only [go_sem, simprocAttr, hl, h0], by simp only [go_sem, simprocAttr, hl, h1], by simp only [go_sem, simprocAttr, hl, h5], by simp only [go_sem, simprocAttr, hl, h10], by simp only [go_sem, simprocAttr, hl]⟩
        rw [hsn, hE]; simpa [List.append_assoc] using b1
      · rw [if_pos (.inr ⟨hz, rfl⟩)] at hE
        obtain ⟨T1, e1, b1, k1, c1, r1⟩ := b_wlit H T 0 (B) c c.toNat rfl hb (by simp only [fits, decide_eq_true_eq, List.length_append, List.length_cons, List.length_nil] at *; omega)
        have c1 := c1.cln
        simp only [Nat.add_zero] at r1
        simp only [go_sem, simprocAttr, hl, h0, h1, h5, h10, h11, hc, hlt, hw, bslice4, g46, g59, g40, g41, g64, g36, g34, g92, p0, p1, p2, r1]
        refine ⟨n - 1, by omega, _, i + 1, T1, _, by omega, rfl, ?_, by simp only [go_sem, simprocAttr, he, c1], by simp only [go_sem, simprocAttr, hl], by simp only [go_sem, simprocAttr, hl, h0], by simp only [go_sem, simprocAttr, hl, h1], by simp only [go_sem, simprocAttr, hl, h5], by simp only [go_sem, simprocAttr, hl, h10], by simp only [go_sem, simprocAttr, hl]⟩
        rw [hsn, hE]; simpa [List.append_assoc] using b1
    rw [if_neg (by omega)] at hE
    by_cases hlo : c.toNat < 32
    · have p0 : decide ((c.toNat : Int) > 32) = false := by simp; omega
      have p1 : decide ((c.toNat : Int) < 127) = true := by simp; omega
      have p2 : ((c.toNat : Int) == 32) = false := by simp; omega
      have hb' := hb.more [.cells (u8s [92, UInt8.ofNat (48 + c.toNat / 100), UInt8.ofNat (48 + c.toNat / 10 % 10), UInt8.ofNat (48 + c.toNat % 10)]) 5 .rw]
      obtain ⟨T1, e1, b1, k1, c1, r1⟩ := b_write H (T ++ [.cells (u8s [92, UInt8.ofNat (48 + c.toNat / 100), UInt8.ofNat (48 + c.toNat / 10 % 10), UInt8.ofNat (48 + c.toNat % 10)]) 5 .rw]) 0 T.length (B) [92, UInt8.ofNat (48 + c.toNat / 100), UInt8.ofNat (48 + c.toNat / 10 % 10), UInt8.ofNat (48 + c.toNat % 10)] hb' (by simp) (by omega) (by simp) (by simp only [fits, decide_eq_true_eq, List.length_append, List.length_cons, List.length_nil] at *; omega)
      simp only [u8s, List.map_cons, List.map_nil, List.length_cons, List.length_nil, ← dg_a hcl, ← dg_b hcl, ← dg_c hcl] at r1
      have r1 : ∀ k, callK Tryz.prog 37 [.ptr (H.length + 0) 0, .slice (H.length + T.length) 0 4 (.ex 4)] (H ++ (T ++ [.cells [.int .u8 92, .int .u8 (IntKind.u8.wrap (48 + IntKind.u8.wrap ((c.toNat : Int).tdiv 100))), .int .u8 (IntKind.u8.wrap (48 + (IntKind.u8.wrap ((c.toNat : Int).tdiv 10)).tmod 10)), .int .u8 (IntKind.u8.wrap (48 + (c.toNat : Int).tmod 10))] 5 .rw])) k = k (.tuple [.int .i64 4, .nili], H ++ T1, e1) := r1
      have c1 := c1.cln
      simp only [Nat.add_zero] at r1
      simp only [go_sem, simprocAttr, hl, h0, h1, h5, h10, h11, hc, hlt, hw, bslice4, g46, g59, g40, g41, g64, g36, g34, g92, p0, p1, p2, r1]
      refine ⟨n - 1, by omega, _, i + 1, T1, _, by omega, rfl, ?_, by simp only [go_sem, simprocAttr, he, c1], by simp only [go_sem, simprocAttr, hl], by simp only [go_sem, simprocAttr, hl, h0], by simp only [go_sem, simprocAttr, hl, h1], by simp only [go_sem, simprocAttr, hl, h5], by simp only [go_sem, simprocAttr, hl, h10], by simp only [go_sem, simprocAttr, hl]⟩
      rw [hsn, hE]; simpa [List.append_assoc] using b1
    · have p0 : decide ((c.toNat : Int) > 32) = true := by simp; omega
      have p1 : decide ((c.toNat : Int) < 127) = false := by simp; omega
      have p2 : ((c.toNat : Int) == 32) = false := by simp; omega
      have hb' := hb.more [.cells (u8s [92, UInt8.ofNat (48 + c.toNat / 100), UInt8.ofNat (48 + c.toNat / 10 % 10), UInt8.ofNat (48 + c.toNat % 10)]) 5 .rw]
      obtain ⟨T1, e1, b1, k1, c1, r1⟩ := b_write H (T ++ [.cells (u8s [92, UInt8.ofNat (48 + c.toNat / 100), UInt8.ofNat (48 + c.toNat / 10 % 10), UInt8.ofNat (48 + c.toNat % 10)]) 5 .rw]) 0 T.length (B) [92, UInt8.ofNat (48 + c.toNat / 100), UInt8.ofNat (48 + c.toNat / 10 % 10), UInt8.ofNat (48 + c.toNat % 10)] hb' (by simp) (by omega) (by simp) (by simp only [fits, decide_eq_true_eq, List.length_append, List.length_cons, List.length_nil] at *; omega)
      simp only [u8s, List.map_cons, List.map_nil, List.length_cons, List.length_nil, ← dg_a hcl, ← dg_b hcl, ← dg_c hcl] at r1
      have r1 : ∀ k, callK Tryz.prog 37 [.ptr (H.length + 0) 0, .slice (H.length + T.length) 0 4 (.ex 4)] (H ++ (T ++ [.cells [.int .u8 92, .int .u8 (IntKind.u8.wrap (48 + IntKind.u8.wrap ((c.toNat : Int).tdiv 100))), .int .u8 (IntKind.u8.wrap (48 + (IntKind.u8.wrap ((c.toNat : Int).tdiv 10)).tmod 10)), .int .u8 (IntKind.u8.wrap (48 + (c.toNat : Int).tmod 10))] 5 .rw])) k = k (.tuple [.int .i64 4, .nili], H ++ T1, e1) := r1
      have c1 := c1.cln
      simp only [Nat.add_zero] at r1
      simp only [go_sem, simprocAttr, hl, h0, h1, h5, h10, h11, hc, hlt, hw, bslice4, g46, g59, g40, g41, g64, g36, g34, g92, p0, p1, p2, r1]
      refine ⟨n - 1, by omega, _, i + 1, T1, _, by omega, rfl, ?_, by simp only [go_sem, simprocAttr, he, c1], by simp only [go_sem, simprocAttr, hl], by simp only [go_sem, simprocAttr, hl, h0], by simp only [go_sem, simprocAttr, hl, h1], by simp only [go_sem, simprocAttr, hl, h5], by simp only [go_sem, simprocAttr, hl, h10], by simp only [go_sem, simprocAttr, hl]⟩
      rw [hsn, hE]; simpa [List.append_assoc] using b1
  · have hi : i = s.length := by omega
    subst hi
    rw [List.take_length] at hb
    obtain ⟨T1, e1, c1, r1⟩ := b_string H T 0 _ hb (by have := escS_len q s; omega)
    simp only [Nat.add_zero] at r1
    simp only [go_sem, simprocAttr, hl, h0, h1, h5, h10, h11, hlt, r1]
    exact leave_flat rfl (clean_and he c1)
end Go.Proofs.YtgkpgpdkolpfkaaGreatDoor.V
namespace Go.Proofs.YtgkpgpdkolpfkaaGreatDoor.V
open Go
attribute [local irreducible] go goOps goD opK callK callT stepK leaveTo nextK

def labs (s : List UInt8) : List (List UInt8) := (nm s).getD []
theorem lab_at : ∀ (L : List (List UInt8)) (s : List UInt8) (a : Nat), lab (s.drop a) = some L → ∀ (i : Nat) (l : List UInt8), L[i]? = some l →
    ∃ p c, (posn a L)[i]? = some p ∧ s[p]? = some c ∧ c.toNat = l.length ∧ (s.drop (p + 1)).take l.length = l ∧ p + (1 + l.length) ≤ s.length ∧ 0 < l.length ∧ l.length ≤ 63
  | [], s, a, h, i, l, hi => by simp at hi
  | m :: L, s, a, h, i, l, hi => by
    cases hd : s.drop a with
    | nil => rw [hd, lab_nil] at h; cases h
    | cons c t =>
      rw [hd, lab_cons] at h
      have ha : a < s.length := by
        have := congrArg List.length hd
        simp at this; omega
      have hc : s[a]? = some c := by
        have := congrArg (·[0]?) hd
        simpa using this
      have ht : t = s.drop (a + 1) := by
        rw [drop_at hc] at hd
        injection hd with _ h2
        exact h2.symm
      split at h
      · split at h <;> cases h
      · split at h
        · cases h
        · rename_i h0 h1
          cases hL : lab (t.drop c.toNat) with
          | none => rw [hL] at h; cases h
          | some L' =>
            rw [hL] at h
            simp only [Option.map_some, Option.some.injEq, List.cons.injEq] at h
            obtain ⟨rfl, rfl⟩ := h
            have hml : (t.take c.toNat).length = c.toNat := by rw [List.length_take]; omega
            have htl : t.length = s.length - (a + 1) := by rw [ht, List.length_drop]
            cases i with
            | zero =>
              simp only [List.getElem?_cons_zero, Option.some.injEq] at hi
              subst hi
              refine ⟨a, c, rfl, hc, hml.symm, by rw [hml, ht], by rw [hml]; omega, by rw [hml]; omega, by rw [hml]; omega⟩
            | succ i =>
              simp only [List.getElem?_cons_succ] at hi
              have hr : lab (s.drop (a + (1 + (t.take c.toNat).length))) = some L' := by
                rw [hml, show a + (1 + c.toNat) = (a + 1) + c.toNat by omega, ← List.drop_drop, ← ht]; exact hL
              obtain ⟨p, c', h1, h2⟩ := lab_at L' s _ hr i l hi
              exact ⟨p, c', h1, h2⟩
theorem posA_at {L : List (List UInt8)} {i p : Nat} (h : (posn 0 L)[i]? = some p) (e : TypeId) (k : Kd) : ldC i 1 false (.cells (posA L) e k) = some (.int .i64 (p : Nat)) := by
  rw [ldC_f]; simp [posA, h]
theorem nm_lab {s : List UInt8} {L : List (List UInt8)} (h : nm s = some L) : lab s = some L ∧ s.length ≤ 255 := by
  unfold nm at h
  split at h
  · cases h
  · exact ⟨h, by omega⟩
theorem tot_le : ∀ (L : List (List UInt8)) (s : List UInt8), lab s = some L → s.length = tot L + 1
  | [], s, h => by
    cases s with
    | nil => cases h
    | cons c t =>
      rw [lab_cons] at h
      split at h
      · split at h
        · rename_i h'; rw [List.length_cons, h']; rfl
        · cases h
      · split at h
        · cases h
        · rw [Option.map_eq_some_iff] at h
          obtain ⟨_, _, h⟩ := h
          cases h
  | l :: L, s, h => by
    cases s with
    | nil => cases h
    | cons c t =>
      rw [lab_cons] at h
      split at h
      · split at h <;> cases h
      · split at h
        · cases h
        · rename_i h0 h1
          rw [Option.map_eq_some_iff] at h
          obtain ⟨L', h2, h3⟩ := h
          injection h3 with h4 h5
          subst h4 h5
          have := tot_le L' _ h2
          rw [List.length_drop] at this
          have e : tot (t.take c.toNat :: L') = (1 + (t.take c.toNat).length) + tot L' := by simp [tot]
          rw [e, List.length_take, List.length_cons]; omega
theorem len_tot : ∀ (L : List (List UInt8)), L.length ≤ tot L
  | [] => Nat.zero_le _
  | l :: L => by
    have := len_tot L
    have e : tot (l :: L) = (1 + l.length) + tot L := by simp [tot]
    rw [e, List.length_cons]; omega

set_option maxRecDepth 20000 in
theorem name_Labels (s : List UInt8) (H) (hs : s.length ≤ maxI) : ∃ b : AV × Hp, GBuf H.length b.2 b.1 9 1 (labs s).length (strs (labs s)) ∧
    ∀ k, callK Tryz.prog 31 [.str s] H k = k (b.1, H ++ b.2, z0) := by
  obtain ⟨⟨bv, bT⟩, hb, hst⟩ := name_starts s H hs
  refine callK_exP (fun b : AV × Hp => GBuf H.length b.2 b.1 9 1 (labs s).length (strs (labs s))) (fun b => (b.1, H ++ b.2, z0)) ?_
  refine callK_start (n := 37) (rs := [.tmp 2]) Tryz.func31 rfl rfl rfl ?_
  intro σ hl ha
  have h0 := ha 0 (by simp)
  clear ha
  simp only [Option.getD_some, List.getElem?_cons_zero, List.getElem?_cons_succ] at h0
  cases hn : nm s with
  | none =>
    have hlb : labs s = [] := by rw [labs, hn]; rfl
    rw [hn] at hst
    simp only [Option.isSome_none] at hst
    simp only [go_sem, simprocAttr, hl, h0, hst]
    exact ⟨(.nils, []), by rw [hlb]; exact .inl ⟨rfl, rfl, rfl⟩, by simp⟩
  | some L =>
    have hlb : labs s = L := by rw [labs, hn]; rfl
    have hB := hb L hn
    obtain ⟨hL, h255⟩ := nm_lab hn
    have hLl : L.length ≤ 255 := by have := tot_le L s hL; have := len_tot L; omega
    rw [hn] at hst
    simp only [Option.isSome_some] at hst
    rw [hlb]
    have hlen : ∀ H', evLen Tryz.prog 92 bv H' = some (.int .i64 L.length) := by
      intro H'
      obtain ⟨rfl, h2, h3⟩ | ⟨h1, h2, m, rfl, h3⟩ := hB
      · simp only [evLen, tsh_92, h3]; rfl
      · simp only [evLen, tsh_92]
    simp only [go_sem, simprocAttr, hl, h0, hst, hlen]
    refine go_rounds (fun n st => ∃ σ i v T e, n + i = L.length ∧ st = ⟨σ, H ++ T, e⟩ ∧ GBuf H.length T v 9 1 i (strs (L.take i)) ∧ GBuf H.length T bv 3 1 L.length (posA L) ∧ clean H.length e ∧ σ.length = 37 ∧ fr σ 0 = .str s ∧ fr σ 5 = v ∧ fr σ 15 = bv ∧ fr σ 16 = .int .i64 L.length ∧ fr σ 17 = .int .i64 (i : Nat)) L.length
      ⟨_, 0, .nils, bT, _, rfl, rfl, .inl ⟨rfl, rfl, rfl⟩, hB, ⟨rfl, rfl⟩, by simp only [go_sem, simprocAttr, hl], by simp only [go_sem, simprocAttr, hl, h0], by simp only [go_sem, simprocAttr, hl], by simp only [go_sem, simprocAttr, hl], by simp only [go_sem, simprocAttr, hl], by simp only [go_sem, simprocAttr, hl]⟩ ?_
    rintro n _ ⟨σ, i, v, T, e, hi, rfl, hv, hB, he, hl, h0, h5, h15, h16, h17⟩
    by_cases hlt : i < L.length
    · obtain ⟨l, hli⟩ : ∃ l, L[i]? = some l := ⟨_, List.getElem?_eq_getElem hlt⟩
      obtain ⟨p, c, hp, hc, hcl, htk, hle, hpos, h63⟩ := lab_at L s 0 (by simpa using hL) i l hli
      obtain ⟨rfl, h2, h3⟩ | ⟨h1, h2, m, rfl, h3⟩ := hB
      · omega
      have hg : (H ++ T)[H.length + m]? = some (.cells (posA L) 3 (.op 0 false)) := by rw [hp_new, h3]
      have hld := posA_at hp
      have hw := wrap_succ (show i < 9223372036854775807 by omega)
      have w0 : IntKind.i64.wrap (c.toNat : Int) = (c.toNat : Int) := by rw [wrap_i64 (by omega)]
      have w1 : IntKind.i64.wrap ((p : Int) + 1) = ((p + 1 : Nat) : Int) := by rw [wrap_i64 (by omega)]; omega
      have w2 : IntKind.i64.wrap (((p + 1 : Nat) : Int) + (c.toNat : Int)) = ((p + (1 + c.toNat) : Nat) : Int) := by rw [wrap_i64 (by omega)]; omega
      have hsl : (s.take (p + (1 + c.toNat))).drop (p + 1) = l := by
        rw [List.drop_take, hcl, show p + (1 + l.length) - (p + 1) = l.length by omega]; exact htk
      have hsl2 : (s.drop (p + 1)).take c.toNat = l := by rw [hcl]; exact htk
      have hplt : p < s.length := by omega
      have hbs := fun H => bslice_str l H
      obtain ⟨v', T2, e2, happ, _, hcl2, hk2, hv3, _, hvc, hq⟩ := (hv.more [.cells [.str l] 9 .rw]).app2 (P := Tryz.prog) (b := 16) (by decide) zok_38 [.str l] 1 (by decide) rfl rfl (by simp only [fits, decide_eq_true_eq]; omega)
      have d1 : decide (p + 1 ≤ p + (1 + c.toNat)) = true := by simp
      have d2 : decide (p + (1 + c.toNat) ≤ s.length) = true := by simp; omega
      have d3 : p + (1 + c.toNat) - (p + 1) = c.toNat := by omega
      have hbm : T2[m]? = some (.cells (posA L) 3 (.op 0 false)) := hk2 m _ (get_app h3) (by intro c fz st hx; injection hx with _ h _; exact absurd h (by decide))
      simp only [go_sem, simprocAttr, hl, h0, h5, h15, h16, h17, hlt, hg, h3, hld, hc, hplt, w0, w1, w2, hsl, hsl2, d1, d2, d3, hbs, happ, hw]
      rw [show strs (L.take i) ++ [.str l] = strs (L.take (i + 1)) from strs_snoc hli] at hv3
      refine ⟨by omega, by omega, n - 1, by omega, _, i + 1, v', T2, _, by omega, rfl, hv3, .inr ⟨h1, h2, m, rfl, hbm⟩, by simp only [go_sem, simprocAttr, he, hcl2], by simp only [go_sem, simprocAttr, hl], by simp only [go_sem, simprocAttr, hl, h0], by simp only [go_sem, simprocAttr, hl], by simp only [go_sem, simprocAttr, hl, h15], by simp only [go_sem, simprocAttr, hl, h16], by simp only [go_sem, simprocAttr, hl]⟩
    · have hi : i = L.length := by omega
      subst hi
      rw [List.take_length] at hv
      simp only [go_sem, simprocAttr, hl, h0, h5, h15, h16, h17, hlt]
      obtain ⟨rfl, h2, h3⟩ | ⟨h1, h2, m, rfl, h3⟩ := hv
      · exact ⟨(.nils, []), .inl ⟨rfl, h2, h3⟩, by rw [leave_flat rfl he, List.append_nil]⟩
      · exact ⟨(.slice (H.length + m) 0 L.length (.op 0), T), .inr ⟨h1, h2, m, rfl, h3⟩, by rw [leave_keep (by simp [flat, flats]) he]⟩

def txtL (L : List (List UInt8)) : List UInt8 := L.flatMap fun l => escS false l ++ [46]
def txtN (s : List UInt8) : List UInt8 := if s = [0] then [46] else txtL (labs s)
theorem txtL_snoc {L : List (List UInt8)} {i : Nat} {l : List UInt8} (h : L[i]? = some l) : txtL (L.take (i + 1)) = txtL (L.take i) ++ (escS false l ++ [46]) := by
  rw [take_snoc h]; simp [txtL]
theorem txtL_len : ∀ (L : List (List UInt8)), (txtL L).length ≤ 4 * tot L
  | [] => by simp [txtL]
  | l :: L => by
    have := txtL_len L
    have h := escS_len false l
    have e : txtL (l :: L) = (escS false l ++ [46]) ++ txtL L := rfl
    have e2 : tot (l :: L) = (1 + l.length) + tot L := by simp [tot]
    rw [e, e2, List.length_append, List.length_append, List.length_cons, List.length_nil]; omega
theorem tot_take (L : List (List UInt8)) (i : Nat) : tot (L.take i) ≤ tot L := by
  have : tot L = tot (L.take i) + tot (L.drop i) := by
    conv => lhs; rw [← List.take_append_drop i L]
    simp only [tot, List.map_append, List.sum_append]
  omega
theorem escS_pos {q : Bool} {l : List UInt8} (h : 0 < l.length) : 0 < (escS q l).length := by
  cases l with
  | nil => cases h
  | cons c l =>
    have e : escS q (c :: l) = escB q c ++ escS q l := rfl
    rw [e, List.length_append]
    have : 0 < (escB q c).length := by
      unfold escB; split
      · simp
      split
      · split <;> simp
      split <;> simp
    omega
theorem labs_tot {s : List UInt8} : tot (labs s) ≤ 255 := by
  cases h : nm s with
  | none => rw [labs, h]; simp [tot]
  | some L =>
    obtain ⟨hL, h255⟩ := nm_lab h
    have := tot_le L s hL
    rw [labs, h]; simp only [Option.getD_some]; omega
theorem labs_pos {s l : List UInt8} {i : Nat} (h : (labs s)[i]? = some l) : 0 < l.length ∧ l.length ≤ 63 := by
  cases hn : nm s with
  | none => rw [labs, hn] at h; simp at h
  | some L =>
    rw [labs, hn] at h
    obtain ⟨hL, h255⟩ := nm_lab hn
    obtain ⟨p, c, _, _, _, _, _, h1, h2⟩ := lab_at L s 0 (by simpa using hL) i l h
    exact ⟨h1, h2⟩

set_option maxRecDepth 20000 in
theorem name_Text (s : List UInt8) (H k) (hs : s.length ≤ maxI) : callK Tryz.prog 10 [.str s] H k = k (.str (txtN s), H, z0) := by
  refine callK_eq (r := (.str (txtN s), H, z0)) ?_ k
  refine callK_start (n := 21) (rs := [.tmp 2]) Tryz.func10 rfl rfl rfl ?_
  intro σ hl ha
  have h0 := ha 0 (by simp)
  clear ha
  simp only [Option.getD_some, List.getElem?_cons_zero, List.getElem?_cons_succ] at h0
  by_cases hr : s = [0]
  · have hx : txtN s = [46] := if_pos hr
    rw [hx]
    subst hr
    simp only [go_sem, simprocAttr, hl, h0]
  have hx : txtN s = txtL (labs s) := if_neg hr
  rw [hx]
  obtain ⟨⟨bv, bT⟩, hB, hst⟩ := name_Labels s (H ++ [.cells [.nilp, .nils] 54 .rw]) hs
  have hB : GBuf H.length ([.cells [.nilp, .nils] 54 .rw] ++ bT) bv 9 1 (labs s).length (strs (labs s)) := by
    obtain h | ⟨h1, h2, m, h3, h4⟩ := hB
    · exact .inl h
    · exact .inr ⟨h1, h2, m + 1, by simp only at h3; rw [h3]; simp; omega, by simpa using h4⟩
  have hlen : ∀ H', evLen Tryz.prog 38 bv H' = some (.int .i64 (labs s).length) := by
    intro H'
    obtain ⟨rfl, h2, h3⟩ | ⟨h1, h2, m, rfl, h3⟩ := hB
    · simp only [evLen, tsh_38, h3]; rfl
    · simp only [evLen, tsh_38]
  have hne : (s == [0]) = false := by simpa using hr
  have hb0 : Bld H.length ([.cells [.nilp, .nils] 54 .rw] ++ bT) 0 (txtL ((labs s).take 0)) := ⟨_, _, rfl, .inl rfl, .inl ⟨rfl, rfl⟩⟩
  have hst : ∀ k, callK Tryz.prog 31 [.str s] (H ++ [.cells [.nilp, .nils] 54 .rw]) k = k (bv, H ++ ([.cells [.nilp, .nils] 54 .rw] ++ bT), z0) := by
    intro k; rw [hst]; simp
  generalize hT0 : [ABlk.cells [.nilp, .nils] 54 .rw] ++ bT = T0 at *
  simp only [go_sem, simprocAttr, hl, h0, hne, hst, hlen]
  generalize hL : labs s = L at *
  have hLt : tot L ≤ 255 := by rw [← hL]; exact labs_tot
  have hLl := len_tot L
  refine go_rounds (fun n st => ∃ σ i T e, n + i = L.length ∧ st = ⟨σ, H ++ T, e⟩ ∧ Bld H.length T 0 (txtL (L.take i)) ∧ GBuf H.length T bv 9 1 L.length (strs L) ∧ clean H.length e ∧ σ.length = 21 ∧ fr σ 3 = .ptr H.length 0 ∧ fr σ 9 = bv ∧ fr σ 10 = .int .i64 L.length ∧ fr σ 11 = .int .i64 (i : Nat)) L.length
    ⟨_, 0, _, _, rfl, rfl, hb0, hB, ⟨rfl, rfl⟩, by simp only [go_sem, simprocAttr, hl], by simp only [go_sem, simprocAttr, hl], by simp only [go_sem, simprocAttr, hl], by simp only [go_sem, simprocAttr, hl], by simp only [go_sem, simprocAttr, hl]⟩ ?_
  rintro n _ ⟨σ, i, T, e, hi, rfl, hb, hB, he, hl, h3, h9, h10, h11⟩
  by_cases hlt : i < L.length
  · obtain ⟨l, hli⟩ : ∃ l, L[i]? = some l := ⟨_, List.getElem?_eq_getElem hlt⟩
    obtain ⟨p1, p2⟩ := labs_pos (s := s) (by rw [hL]; exact hli)
    have hsn := txtL_snoc hli
    have hbl : (txtL (L.take i)).length ≤ 1020 := by have := txtL_len (L.take i); have := tot_take L i; omega
    have hw := wrap_succ (show i < 9223372036854775807 by omega)
    obtain ⟨rfl, _, h3'⟩ | ⟨g1, g2, m, rfl, g3⟩ := hB
    · omega
    have hm0 : m ≠ 0 := by
      rintro rfl
      obtain ⟨_, _, hj, _⟩ := hb
      rw [hj] at g3; injection g3 with g; injection g with _ g; exact absurd g (by decide)
    have hg : (H ++ T)[H.length + m]? = some (.cells (strs L) 9 (.op 0 false)) := by rw [hp_new, g3]
    have hld := strs_ld hli
    have hE := fun H' k => name_Escape l false H' k (by omega)
    have hEl := escS_len false l
    obtain ⟨T1, e1, b1, k1, c1, r1⟩ := b_wstr H T 0 _ (escS false l) hb (escS_pos p1) (by simp only [fits, decide_eq_true_eq]; omega)
    obtain ⟨T2, e2, b2, k2, c2, r2⟩ := b_wlit H T1 0 _ 46 46 rfl b1 (by simp only [fits, decide_eq_true_eq, List.length_append]; omega)
    have c1 := c1.cln
    have c2 := c2.cln
    simp only [Nat.add_zero] at r1 r2
    simp only [go_sem, simprocAttr, hl, h3, h9, h10, h11, hlt, hg, g3, hld, hE, r1, r2, hw]
    refine ⟨n - 1, by omega, _, i + 1, T2, _, by omega, rfl, by rw [hsn, ← List.append_assoc]; exact b2, ?_, by simp only [go_sem, simprocAttr, he, c1, c2], by simp only [go_sem, simprocAttr, hl], by simp only [go_sem, simprocAttr, hl, h3], by simp only [go_sem, simprocAttr, hl, h9], by simp only [go_sem, simprocAttr, hl, h10], by simp only [go_sem, simprocAttr, hl]⟩
    have hf : ∀ c k, fixd (.cells c 9 k) = true := by intro c k; cases k <;> rfl
    exact .inr ⟨g1, g2, m, rfl, k2.2 m _ hm0 (k1.2 m _ hm0 g3 (hf _ _)) (hf _ _)⟩
  · have hi : i = L.length := by omega
    subst hi
    rw [List.take_length] at hb
    have htl := txtL_len L
    obtain ⟨T1, e1, c1, r1⟩ := b_string H T 0 _ hb (by omega)
    simp only [Nat.add_zero] at r1
    simp only [go_sem, simprocAttr, hl, h3, h9, h10, h11, hlt, r1]
    exact leave_flat rfl (clean_and he c1)
end Go.Proofs.YtgkpgpdkolpfkaaGreatDoor.V
