/- What the loaded program's types are, as rewriting rules for a run of 'V'. No conditions. -/
import Derived.Test.YtjemmehgfheflaaVSim
import Derived.Test.YtjemmehgfheflaaProg
namespace Go.Proofs.Ytjemmehgfheflaa.V
open Go
set_option linter.unusedSimpArgs false
set_option linter.unusedVariables false
theorem tFollows : Try.prog.follows .mixedOrders = true := by kernel_rfl
attribute [go_sem] tFollows
theorem tsh_3 : tsh Try.prog 3 = some (.int .i64) := by kernel_rfl
theorem tsize_3 : tsize Try.prog 3 = some 1 := by kernel_rfl
theorem tagg_3 : tagg Try.prog 3 = some false := by kernel_rfl
theorem tzero_3 : tzero Try.prog 3 = some [.int .i64 0] := by kernel_rfl
theorem tsh_4 : tsh Try.prog 4 = some .bool := by kernel_rfl
theorem tsize_4 : tsize Try.prog 4 = some 1 := by kernel_rfl
theorem tagg_4 : tagg Try.prog 4 = some false := by kernel_rfl
theorem tzero_4 : tzero Try.prog 4 = some [.bool false] := by kernel_rfl
theorem srcOk_4 : srcOk Try.prog 4 = true := by kernel_rfl
theorem und_4 : Try.prog.underlying 4 = some .bool := by kernel_rfl
theorem tsh_9 : tsh Try.prog 9 = some .str := by kernel_rfl
theorem tsize_9 : tsize Try.prog 9 = some 1 := by kernel_rfl
theorem tagg_9 : tagg Try.prog 9 = some false := by kernel_rfl
theorem tzero_9 : tzero Try.prog 9 = some [.str []] := by kernel_rfl
theorem srcOk_9 : srcOk Try.prog 9 = true := by kernel_rfl
theorem tsh_22 : tsh Try.prog 22 = some (.slice 29 6 40) := by kernel_rfl
theorem tsize_22 : tsize Try.prog 22 = some 1 := by kernel_rfl
theorem tagg_22 : tagg Try.prog 22 = some false := by kernel_rfl
theorem tzero_22 : tzero Try.prog 22 = some [.nils] := by kernel_rfl
theorem srcOk_22 : srcOk Try.prog 22 = true := by kernel_rfl
theorem zok_22 : zok Try.prog 29 6 = true := by kernel_rfl
theorem tsh_24 : tsh Try.prog 24 = some .struct := by kernel_rfl
theorem tsize_24 : tsize Try.prog 24 = some 4 := by kernel_rfl
theorem tagg_24 : tagg Try.prog 24 = some true := by kernel_rfl
theorem tzero_24 : tzero Try.prog 24 = some [.str [], .str [], .str [], .nils] := by kernel_rfl
theorem tplaces_24 : tplaces Try.prog 24 = some [(0, 1), (1, 1), (2, 1), (3, 1)] := by kernel_rfl
theorem srcOk_24 : srcOk Try.prog 24 = true := by kernel_rfl
theorem eqg_24 : Try.prog.eqGuardType Try.prog.depth 24 = false := by kernel_rfl
theorem tfield_24_0 : tfield Try.prog 24 0 = some (0, 1, false) := by kernel_rfl
theorem tfield_24_1 : tfield Try.prog 24 1 = some (1, 1, false) := by kernel_rfl
theorem tfield_24_2 : tfield Try.prog 24 2 = some (2, 1, false) := by kernel_rfl
theorem tfield_24_3 : tfield Try.prog 24 3 = some (3, 1, false) := by kernel_rfl
theorem tsh_27 : tsh Try.prog 27 = some (.int .u16) := by kernel_rfl
theorem tsize_27 : tsize Try.prog 27 = some 1 := by kernel_rfl
theorem tagg_27 : tagg Try.prog 27 = some false := by kernel_rfl
theorem tzero_27 : tzero Try.prog 27 = some [.int .u16 0] := by kernel_rfl
theorem tsh_29 : tsh Try.prog 29 = some .struct := by kernel_rfl
theorem tsize_29 : tsize Try.prog 29 = some 6 := by kernel_rfl
theorem tagg_29 : tagg Try.prog 29 = some true := by kernel_rfl
theorem tzero_29 : tzero Try.prog 29 = some [.str [], .bool false, .int .u16 0, .int .u16 0, .int .u16 0, .str []] := by kernel_rfl
theorem tplaces_29 : tplaces Try.prog 29 = some [(0, 1), (1, 1), (2, 1), (3, 1), (4, 1), (5, 1)] := by kernel_rfl
theorem srcOk_29 : srcOk Try.prog 29 = true := by kernel_rfl
theorem eqg_29 : Try.prog.eqGuardType Try.prog.depth 29 = false := by kernel_rfl
theorem tfield_29_0 : tfield Try.prog 29 0 = some (0, 1, false) := by kernel_rfl
theorem tfield_29_1 : tfield Try.prog 29 1 = some (1, 1, false) := by kernel_rfl
theorem tfield_29_2 : tfield Try.prog 29 2 = some (2, 1, false) := by kernel_rfl
theorem tfield_29_3 : tfield Try.prog 29 3 = some (3, 1, false) := by kernel_rfl
theorem tfield_29_4 : tfield Try.prog 29 4 = some (4, 1, false) := by kernel_rfl
theorem tfield_29_5 : tfield Try.prog 29 5 = some (5, 1, false) := by kernel_rfl
theorem tsh_30 : tsh Try.prog 30 = some .other := by kernel_rfl
theorem tsize_30 : tsize Try.prog 30 = some 1 := by kernel_rfl
theorem tagg_30 : tagg Try.prog 30 = some false := by kernel_rfl
theorem tzero_30 : tzero Try.prog 30 = some [.tuple [.agg [.str [], .bool false, .int .u16 0, .int .u16 0, .int .u16 0, .str []], .bool false]] := by kernel_rfl
theorem srcOk_30 : srcOk Try.prog 30 = true := by kernel_rfl
theorem hasBody_3 : hasBody Try.prog 3 = true := by kernel_rfl
theorem hasBody_4 : hasBody Try.prog 4 = true := by kernel_rfl
theorem hasBody_5 : hasBody Try.prog 5 = true := by kernel_rfl
theorem hasBody_6 : hasBody Try.prog 6 = true := by kernel_rfl
theorem hasBody_7 : hasBody Try.prog 7 = true := by kernel_rfl
theorem hasBody_8 : hasBody Try.prog 8 = true := by kernel_rfl
theorem hasBody_9 : hasBody Try.prog 9 = true := by kernel_rfl
attribute [go_sem] tsh_3 tsize_3 tagg_3 tzero_3 tsh_4 tsize_4 tagg_4 tzero_4 srcOk_4 und_4 tsh_9 tsize_9 tagg_9 tzero_9 srcOk_9 tsh_22 tsize_22 tagg_22 tzero_22 srcOk_22 zok_22 tsh_24 tsize_24 tagg_24 tzero_24 tplaces_24 srcOk_24 eqg_24 tfield_24_0 tfield_24_1 tfield_24_2 tfield_24_3 tsh_27 tsize_27 tagg_27 tzero_27 tsh_29 tsize_29 tagg_29 tzero_29 tplaces_29 srcOk_29 eqg_29 tfield_29_0 tfield_29_1 tfield_29_2 tfield_29_3 tfield_29_4 tfield_29_5 tsh_30 tsize_30 tagg_30 tzero_30 srcOk_30 hasBody_3 hasBody_4 hasBody_5 hasBody_6 hasBody_7 hasBody_8 hasBody_9
end Go.Proofs.Ytjemmehgfheflaa.V
