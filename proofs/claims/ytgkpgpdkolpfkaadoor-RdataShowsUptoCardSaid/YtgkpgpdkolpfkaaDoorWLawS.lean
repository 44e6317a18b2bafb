/- The law RdataShows: what it comes to, as 'V' runs it. No conditions. -/
import Derived.Test.YtgkpgpdkolpfkaaDoorWWake
import Derived.Test.YtgkpgpdkolpfkaaDoorWRefShow
namespace Go.Proofs.YtgkpgpdkolpfkaaDoor.V
open Go
set_option linter.unusedSimpArgs false
set_option linter.unusedVariables false
attribute [local irreducible] go goOps goD opK callK callT stepK leaveTo nextK

set_option maxRecDepth 20000 in
theorem lawShows (t : Int) (d : Dt) (H) (hk : Tk H) (ht : Tb H) (hdb : Db H) (hd : d.wf) : callK Tryd.prog 4 [.int .u16 t, .agg d.cells] H (fun q => q = (.bool true, H, z0)) := by
  refine callK_start (n := 32) (rs := [.tmp 4]) Tryd.func4 rfl rfl rfl ?_
  intro σ hl ha
  have h0 := ha 0 (by simp)
  have h1 := ha 1 (by simp)
  clear ha
  simp only [Option.getD_some, List.getElem?_cons_zero, List.getElem?_cons_succ] at h0 h1
  have hsh := fun l k => rdata_ShowK t d (H ++ l) k (hk.old l) (ht.old l) (hdb.old l) hd
  have hrs := fun l k => ref_ShowK t d (H ++ l) k hd
  have hwk := fun l k => wk (H ++ l) k (hk.old l) (ht.old l) (hdb.old l)
  have hss : (tellS t d == tellS t d) = true := by simp
  have hcc : (chk t d == chk t d) = true := by simp
  simp only [go_sem, simprocAttr, hl, h0, h1, Dt.l8, Dt.vc, Dt.len, hsh, hrs, hwk, hss, hcc]
end Go.Proofs.YtgkpgpdkolpfkaaDoor.V
