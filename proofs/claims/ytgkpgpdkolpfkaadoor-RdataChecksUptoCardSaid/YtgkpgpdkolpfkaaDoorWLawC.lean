/- The law RdataChecks: what it comes to, as 'V' runs it. No conditions. -/
import Derived.Test.YtgkpgpdkolpfkaaDoorWWake
import Derived.Test.YtgkpgpdkolpfkaaDoorWFold
namespace Go.Proofs.YtgkpgpdkolpfkaaDoor.V
open Go
set_option linter.unusedSimpArgs false
set_option linter.unusedVariables false
attribute [local irreducible] go goOps goD opK callK callT stepK leaveTo nextK

theorem eqdd (x : Dt) : evEq Tryd.prog 20 37 (.agg x.cells) (.agg x.cells) = some true := by
  obtain ⟨r, h, m, a, b, e, f, g⟩ := x
  rw [show Dt.cells ⟨r, h, m, a, b, e, f, g⟩ = [.str r, .str h, .str m, .int .u32 a, .int .u32 b, .int .u32 e, .int .u32 f, .int .u32 g] from rfl]
  rw [eq_data]
  simp [eqD]
set_option maxRecDepth 20000 in
theorem lawChecks (t : Int) (d : Dt) (H) (hk : Tk H) (ht : Tb H) (hdb : Db H) (hd : d.wf) : callK Tryd.prog 5 [.int .u16 t, .agg d.cells] H (fun q => q = (.bool true, H, z0)) := by
  refine callK_start (n := 24) (rs := [.tmp 4]) Tryd.func5 rfl rfl rfl ?_
  intro σ hl ha
  have h0 := ha 0 (by simp)
  have h1 := ha 1 (by simp)
  clear ha
  simp only [Option.getD_some, List.getElem?_cons_zero, List.getElem?_cons_succ] at h0 h1
  have hck := fun l k => rdata_Check t d (H ++ l) k (hk.old l) hd
  have hrc := fun l k => ref_Check t d (H ++ l) k hd
  have hfo := fun l k => rdata_Fold t d (H ++ l) k (hk.old l) hd
  have hrf := fun l k => ref_FoldD t d (H ++ l) k hd
  have hwk := fun l k => wk (H ++ l) k (hk.old l) (ht.old l) (hdb.old l)
  have heq := eqdd (foldD t d)
  simp only [go_sem, simprocAttr, hl, h0, h1, Dt.l8, Dt.vc, Dt.len]
  refine go_drawZ tFollows (by kernel_rfl) ?_
  simp only [go_sem, simprocAttr, hl, h0, h1, Dt.l8, Dt.vc, Dt.len, hck, hrc, hfo, hrf, hwk, heq]
end Go.Proofs.YtgkpgpdkolpfkaaDoor.V
