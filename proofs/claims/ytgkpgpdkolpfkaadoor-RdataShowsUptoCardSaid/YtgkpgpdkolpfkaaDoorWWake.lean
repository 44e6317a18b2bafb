/- Data that are known: as 'V' runs the law's 'wakes'. No conditions. -/
import Derived.Test.YtgkpgpdkolpfkaaDoorWPut
namespace Go.Proofs.YtgkpgpdkolpfkaaDoor.V
open Go
set_option linter.unusedSimpArgs false
set_option linter.unusedVariables false
attribute [local irreducible] go goOps goD opK callK callT stepK leaveTo nextK

abbrev wkMap : ABlk := .map [(.str [1, 97, 0], .int .i64 2)]
theorem wk_row' (H T : Hp) (q : Nat) (hT1 : T[1]? = some (.map [])) (hT2 : T[2]? = some (.cells [.map (H.length + 1)] 59 .rw)) (hq : T[q]? = some (.cells (u8s [0, 10]) 5 (.op 0 false))) :
    ∃ m L e, clean H.length e ∧ (T.set 1 wkMap ++ L)[m]? = some (.cells (u8s [0, 10, 1, 97, 0]) 5 .rw) ∧
      ∀ k, callK Tryd.prog 64 [.ptr (H.length + 2) 0, .slice (H.length + q) 0 2 (.op 0), .str [1, 97, 0], .bool false] (H ++ T) k = k (.tuple [.slice (H.length + m) 0 5 (.ex 5), .int .i64 0], H ++ (T.set 1 wkMap ++ L), e) := by
  obtain ⟨⟨m, L, e⟩, ⟨h1, h2⟩, h3⟩ := callK_exP (fun b : Nat × Hp × Ef => clean H.length b.2.2 ∧ (T.set 1 wkMap ++ b.2.1)[b.1]? = some (.cells (u8s [0, 10, 1, 97, 0]) 5 .rw)) (fun b => (.tuple [.slice (H.length + b.1) 0 5 (.ex 5), .int .i64 0], H ++ (T.set 1 wkMap ++ b.2.1), b.2.2))
    (callK_mono (wk_row H T q hT1 hT2 hq) (fun r ⟨m, L, e, h1, h2, h3⟩ => ⟨⟨m, L, e⟩, ⟨h2, h3⟩, h1⟩))
  exact ⟨m, L, e, h1, h2, h3⟩
set_option maxRecDepth 20000 in
theorem wk_tput (H T : Hp) (q : Nat) (hT1 : T[1]? = some (.map [])) (hT2 : T[2]? = some (.cells [.map (H.length + 1)] 59 .rw)) (hq : T[q]? = some (.cells (u8s [0, 10]) 5 (.op 0 false))) :
    ∃ m L e, clean H.length e ∧ (T.set 1 wkMap ++ L)[m]? = some (.cells (u8s [0, 10, 1, 97, 0]) 5 .rw) ∧
      ∀ k, callK Tryd.prog 24 [.ptr (H.length + 2) 0, .slice (H.length + q) 0 2 (.op 0), .str [1, 97, 0]] (H ++ T) k = k (.tuple [.slice (H.length + m) 0 5 (.ex 5), .int .i64 0], H ++ (T.set 1 wkMap ++ L), e) := by
  obtain ⟨m, L, e, h1, h2, h3⟩ := wk_row' H T q hT1 hT2 hq
  obtain ⟨e', h4, h5⟩ := leave_nf (n := H.length + T.length) (m := H.length) (v := .tuple [.slice (H.length + m) 0 5 (.ex 5), .int .i64 0]) (by simp [flat, flats]) h1
  refine ⟨m, L, e', h5, h2, fun k => callK_eq ?_ k⟩
  refine callK_start (n := 14) (rs := [.tmp 6, .tmp 7]) Tryd.func24 rfl rfl rfl ?_
  intro σ hl ha
  have g0 := ha 0 (by simp)
  have g1 := ha 1 (by simp)
  have g2 := ha 2 (by simp)
  clear ha
  simp only [Option.getD_some, List.getElem?_cons_zero, List.getElem?_cons_succ] at g0 g1 g2
  simp only [go_sem, simprocAttr, hl, g0, g1, g2, h3]
  exact h4 _

def dW : Dt := ⟨[], [1, 97, 0], [], 10, 0, 0, 0, 0⟩
theorem dW_wf : dW.wf := ⟨by decide, by decide, by decide, ⟨by decide, by decide⟩, ⟨by decide, by decide⟩, ⟨by decide, by decide⟩, ⟨by decide, by decide⟩, ⟨by decide, by decide⟩⟩
set_option maxRecDepth 20000 in
set_option maxHeartbeats 1000000 in
theorem wk_Put (H) (hk : Tk H) : callK Tryd.prog 10 [.nils, .ptr (H.length + 2) 0, .int .u16 15, .agg dW.cells] (H ++ [.cells dW.cells 37 .rw, .map [], .cells [.map (H.length + 1)] 59 .rw]) (fun r => ∃ m T e, r = (.tuple [.slice (H.length + m) 0 5 (.ex 5), .int .i64 0], H ++ T, e) ∧ clean H.length e ∧ T[m]? = some (.cells (u8s [0, 10, 1, 97, 0]) 5 .rw) ∧ T[0]? = some (.cells dW.cells 37 .rw) ∧ 3 < T.length) := by
  refine callK_start (n := 88) (rs := [.tmp 8, .tmp 9]) Tryd.func10 rfl rfl rfl ?_
  intro σ hl ha
  have h0 := ha 0 (by simp)
  have h1 := ha 1 (by simp)
  have h2 := ha 2 (by simp)
  have h3 := ha 3 (by simp)
  clear ha
  simp only [Option.getD_some, List.getElem?_cons_zero, List.getElem?_cons_succ] at h0 h1 h2 h3
  have hck := fun l k => rdata_Check 15 dW (H ++ l) k (hk.old l) dW_wf
  have hc0 : chk 15 dW = 0 := by decide
  rw [hc0] at hck
  have hfm := fun l k => rdata_form 15 (H ++ l) k (hk.old l)
  rw [show formS 15 = [115, 104] from rfl] at hfm
  have i0 : strIter [115, 104] 0 = (.tuple [.bool true, .int .i64 0, .int .i32 115], 1) := by rw [strIter_a (by decide)]; rfl
  have i1 : strIter [115, 104] 1 = (.tuple [.bool true, .int .i64 1, .int .i32 104], 2) := by rw [strIter_a (by decide)]; rfl
  have i2 : strIter [115, 104] 2 = (.tuple [.bool false], 2) := by rw [strIter_a (by decide)]; rfl
  have hln : ∀ H', evLen Tryd.prog 31 .nils H' = some (.int .i64 0) := by intro H'; simp only [evLen, tsh_31]
  simp only [go_sem, simprocAttr, hl, h0, h1, h2, h3, hck, hfm, i0, i1, i2, hln, Dt.l8, Dt.vc, Dt.len]
  have hput := fun H k => wk_put16 H k
  have hld : ∀ (e : TypeId) (k : Kd), ldC 3 1 false (.cells dW.cells e k) = some (.int .u32 10) := fun e k => rfl
  have hl1 : ∀ (e : TypeId) (k : Kd), ldC 1 1 false (.cells dW.cells e k) = some (.str [1, 97, 0]) := fun e k => rfl
  have w1 : IntKind.u16.wrap 10 = 10 := by decide
  obtain ⟨m, L, e, q1, q2, htp⟩ := wk_tput H [.cells dW.cells 37 .rw, .map [], .cells [.map (H.length + 1)] 59 .rw, .cells dW.cells 37 .rw, .iter [115, 104] 2, .cells [.int .u8 0] 5 .rw, .dead, .cells [.int .u8 10] 5 .rw, .cells [.int .u8 0, .int .u8 10] 5 (.op 0 false)] 8 rfl rfl rfl
  rw [go_loop]
  simp only [go_sem, simprocAttr, hl, h0, h1, h2, h3, hck, hfm, i0, i1, i2, hln, Dt.l8, Dt.vc, Dt.len, hl1, hld, w1, hput, htp]
  rw [go_loop]
  simp only [go_sem, simprocAttr, hl, h0, h1, h2, h3, hck, hfm, i0, i1, i2, hln, Dt.l8, Dt.vc, Dt.len, hl1, hld, w1, hput, htp]
  rw [go_loop]
  simp only [go_sem, simprocAttr, hl, h0, h1, h2, h3, hck, hfm, i0, i1, i2, hln, Dt.l8, Dt.vc, Dt.len, hl1, hld, w1, hput, htp]
  obtain ⟨e', h4, h5⟩ := leave_nf (n := H.length + 3) (m := H.length) (v := .tuple [.slice (H.length + m) 0 5 (.ex 5), .int .i64 0]) (by simp [flat, flats]) (e := Ef.and (Ef.and ⟨none, some (H.length + 4)⟩ e) ⟨none, some (H.length + 4)⟩) (clean_and (clean_and (by simp [clean, low]) q1) (by simp [clean, low]))
  exact ⟨m, _, e', h4 _, h5, q2, rfl, by simp⟩

set_option maxRecDepth 20000 in
set_option maxHeartbeats 1000000 in
theorem wk (H k) (hk : Tk H) (ht : Tb H) (hdb : Db H) : callK Tryd.prog 8 [] H k = k (.bool true, H, z0) := by
  refine callK_eq (r := (.bool true, H, z0)) ?_ k
  refine callK_start (n := 44) (rs := [.tmp 0]) Tryd.func8 rfl rfl rfl ?_
  intro σ hl ha
  clear ha
  obtain ⟨⟨m, T, e⟩, ⟨q1, q2, q3, q4⟩, hput⟩ := callK_exP (fun b : Nat × Hp × Ef => clean H.length b.2.2 ∧ b.2.1[b.1]? = some (.cells (u8s [0, 10, 1, 97, 0]) 5 .rw) ∧ b.2.1[0]? = some (.cells dW.cells 37 .rw) ∧ 3 < b.2.1.length) (fun b => (.tuple [.slice (H.length + b.1) 0 5 (.ex 5), .int .i64 0], H ++ b.2.1, b.2.2))
    (callK_mono (wk_Put H hk) (fun r ⟨m, T, e, h1, h2, h3⟩ => ⟨⟨m, T, e⟩, ⟨h2, h3⟩, h1⟩))
  simp only at q1 q2 q3 q4 hput
  have hq1 : ∀ (v : AV) (e : Ef) (A B C : ABlk), quiet (v, H ++ [A, B, C], e) (H ++ [A]) = false := by intro v e A B C; simp [quiet]
  have hq2 : ∀ (v : AV) (e : Ef) (A B C : ABlk), quiet (v, H ++ T, e) (H ++ [A, B, C]) = false := by intro v e A B C; simp [quiet]; omega
  have hbd5 : evBuild Tryd.prog 35 [(0, .int .u32 10)] = some (.agg [.int .u32 10, .int .u32 0, .int .u32 0, .int .u32 0, .int .u32 0]) := by kernel_rfl
  have hbdd : evBuild Tryd.prog 37 [(1, .str [1, 97, 0]), (3, .agg [.int .u32 10, .int .u32 0, .int .u32 0, .int .u32 0, .int .u32 0])] = some (.agg dW.cells) := by kernel_rfl
  have hnew := fun H k => press_New H k
  have hsh := fun l k => rdata_ShowK 15 dW (H ++ l) k (hk.old l) (ht.old l) (hdb.old l) dW_wf
  have hd10 : decP 10 = [49, 48] := by rw [decP_big (by decide), show 10 / 10 = 1 from rfl, decP_small (by decide)]; decide
  have htx : txtN [1, 97, 0] = [97, 46] := by decide
  have hts : tellS 15 dW = [49, 48, 32, 97, 46] := by
    rw [tellS, if_pos (by decide)]
    simp [showS, formS, showL, elemS, isN, joinS, Dt.n, dW, hd10, htx]
  have hc0 : chk 15 dW = 0 := by decide
  have hck := fun l k => rdata_Check 15 dW (H ++ l) k (hk.old l) dW_wf
  have hck1 := fun l k => rdata_Check 1 dW (H ++ l) k (hk.old l) dW_wf
  have hc1 : chk 1 dW = 40 := by decide
  rw [hts, hc0] at hsh
  rw [hc0] at hck
  rw [hc1] at hck1
  have hsp : splice [AV.str [], AV.str [], AV.str [], AV.int .u32 0, AV.int .u32 0, AV.int .u32 0, AV.int .u32 0, AV.int .u32 0] 0 dW.cells = dW.cells := rfl
  have hsc := Dt.scl dW
  have hg0 : ∀ l : Hp, (T ++ l)[0]? = some (.cells dW.cells 37 .rw) := fun l => get_app q3
  have hstr : evConv Tryd.prog 31 9 (.slice (H.length + m) 0 5 (.ex 5)) (H ++ T) = some (.str [0, 10, 1, 97, 0], H ++ T) := by
    have hr : Rd (H ++ T) (.slice (H.length + m) 0 5 (.ex 5)) [0, 10, 1, 97, 0] := .inr ⟨_, _, _, [], [], 5, .rw, rfl, rfl, by rw [hp_new, q2]; simp, .inl ⟨5, rfl, by decide⟩⟩
    exact hr.v.str
  have e1 : (([0, 10, 1, 97, 0] : List UInt8) == [0, 10, 1, 97, 0]) = true := by decide
  have e2 : (([49, 48, 32, 97, 46] : List UInt8) == [49, 48, 32, 97, 46]) = true := by decide
  simp only [go_sem, simprocAttr, hl, hbd5, hbdd, hnew, Dt.l8, Dt.vc, Dt.len, hsp, hsc]
  refine go_drawZ tFollows (by kernel_rfl) ?_
  simp only [go_sem, simprocAttr, hl, hnew, Dt.l8, Dt.vc, Dt.len, hput, q3, hg0, hsh, hck, hck1, hq1, hq2, hstr, e1, e2]
  refine ⟨by rcases tg_or 2 e with h | h <;> rw [h] <;> kernel_rfl, ?_⟩
  rw [Dt.flat dW, if_pos rfl]
  exact leave_flat rfl (clean_and (by simp [clean, low]) q1)
end Go.Proofs.YtgkpgpdkolpfkaaDoor.V
