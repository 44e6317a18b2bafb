/- Joined by mkclaim.py: WWake WCut WUn WParse WBytes WOf WPars WType WNumP WNumQ WNumR WSplit WPutA WPutB WPutC WPutE WPutD WPutF WRefA WRefB WRefC WRefD WRefE WRefF WLawP WTakeA WTakeB VDef WTakeC WTakeP. No conditions. -/
import Derived.Test.YtgkpgpdkolpfkaaGreatDoorJ4
import Derived.Test.YtgkpgpdkolpfkaaGreatDoorJ3
import Derived.Lib.IndexLaws
import Derived.Lib.IndexBytes
import Derived.Test.YtgkpgpdkolpfkaaGreatDoorJ2
set_option linter.unusedSimpArgs false
set_option linter.unusedVariables false
namespace Go.Proofs.YtgkpgpdkolpfkaaGreatDoor.V
open Go
attribute [local irreducible] go goOps goD opK callK callT stepK leaveTo nextK

abbrev wkMap : ABlk := .map [(.str [1, 97, 0], .int .i64 2)]
theorem wk_row' (H T : Hp) (q : Nat) (hT1 : T[1]? = some (.map [])) (hT2 : T[2]? = some (.cells [.map (H.length + 1)] 91 .rw)) (hq : T[q]? = some (.cells (u8s [0, 10]) 5 (.op 0 false))) :
    ∃ m L e, clean H.length e ∧ (T.set 1 wkMap ++ L)[m]? = some (.cells (u8s [0, 10, 1, 97, 0]) 5 .rw) ∧
      ∀ k, callK Tryz.prog 63 [.ptr (H.length + 2) 0, .slice (H.length + q) 0 2 (.op 0), .str [1, 97, 0], .bool false] (H ++ T) k = k (.tuple [.slice (H.length + m) 0 5 (.ex 5), .int .i64 0], H ++ (T.set 1 wkMap ++ L), e) := by
  obtain ⟨⟨m, L, e⟩, ⟨h1, h2⟩, h3⟩ := callK_exP (fun b : Nat × Hp × Ef => clean H.length b.2.2 ∧ (T.set 1 wkMap ++ b.2.1)[b.1]? = some (.cells (u8s [0, 10, 1, 97, 0]) 5 .rw)) (fun b => (.tuple [.slice (H.length + b.1) 0 5 (.ex 5), .int .i64 0], H ++ (T.set 1 wkMap ++ b.2.1), b.2.2))
    (callK_mono (wk_row H T q hT1 hT2 hq) (fun r ⟨m, L, e, h1, h2, h3⟩ => ⟨⟨m, L, e⟩, ⟨h2, h3⟩, h1⟩))
  exact ⟨m, L, e, h1, h2, h3⟩
set_option maxRecDepth 20000 in
theorem wk_tput (H T : Hp) (q : Nat) (hT1 : T[1]? = some (.map [])) (hT2 : T[2]? = some (.cells [.map (H.length + 1)] 91 .rw)) (hq : T[q]? = some (.cells (u8s [0, 10]) 5 (.op 0 false))) :
    ∃ m L e, clean H.length e ∧ (T.set 1 wkMap ++ L)[m]? = some (.cells (u8s [0, 10, 1, 97, 0]) 5 .rw) ∧
      ∀ k, callK Tryz.prog 39 [.ptr (H.length + 2) 0, .slice (H.length + q) 0 2 (.op 0), .str [1, 97, 0]] (H ++ T) k = k (.tuple [.slice (H.length + m) 0 5 (.ex 5), .int .i64 0], H ++ (T.set 1 wkMap ++ L), e) := by
  obtain ⟨m, L, e, h1, h2, h3⟩ := wk_row' H T q hT1 hT2 hq
  obtain ⟨e', h4, h5⟩ := leave_nf (n := H.length + T.length) (m := H.length) (v := .tuple [.slice (H.length + m) 0 5 (.ex 5), .int .i64 0]) (by simp [flat, flats]) h1
  refine ⟨m, L, e', h5, h2, fun k => callK_eq ?_ k⟩
  refine callK_start (n := 14) (rs := [.tmp 6, .tmp 7]) Tryz.func39 rfl rfl rfl ?_
  intro σ hl ha
  have g0 := ha 0 (by simp)
  have g1 := ha 1 (by simp)
  have g2 := ha 2 (by simp)
  clear ha
  simp only [Option.getD_some, List.getElem?_cons_zero, List.getElem?_cons_succ] at g0 g1 g2
  simp only [go_sem, simprocAttr, hl, g0, g1, g2, h3]
  exact h4 _

def dW : Dt := ⟨[], [1, 97, 0], [], 10, 0, 0, 0, 0⟩
theorem dW_wf : dW.wf := ⟨by decide, by decide, by decide, ⟨by decide, by decide⟩, ⟨by decide, by decide⟩, ⟨by decide, by decide⟩, ⟨by decide, by decide⟩, ⟨by decide, by decide⟩⟩
set_option maxRecDepth 20000 in
set_option maxHeartbeats 1000000 in
theorem wk_Put (H) (hk : Tk H) : callK Tryz.prog 18 [.nils, .ptr (H.length + 2) 0, .int .u16 15, .agg dW.cells] (H ++ [.cells dW.cells 27 .rw, .map [], .cells [.map (H.length + 1)] 91 .rw]) (fun r => ∃ m T e, r = (.tuple [.slice (H.length + m) 0 5 (.ex 5), .int .i64 0], H ++ T, e) ∧ clean H.length e ∧ T[m]? = some (.cells (u8s [0, 10, 1, 97, 0]) 5 .rw) ∧ T[0]? = some (.cells dW.cells 27 .rw) ∧ 3 < T.length) := by
  refine callK_start (n := 88) (rs := [.tmp 8, .tmp 9]) Tryz.func18 rfl rfl rfl ?_
  intro σ hl ha
  have h0 := ha 0 (by simp)
  have h1 := ha 1 (by simp)
  have h2 := ha 2 (by simp)
  have h3 := ha 3 (by simp)
  clear ha
  simp only [Option.getD_some, List.getElem?_cons_zero, List.getElem?_cons_succ] at h0 h1 h2 h3
  have hck := fun l k => rdata_Check 15 dW (H ++ l) k (hk.old l) dW_wf
  have hc0 : chk 15 dW = 0 := by decide
  rw [hc0] at hck
  have hfm := fun l k => rdata_form 15 (H ++ l) k (hk.old l)
  rw [show formS 15 = [115, 104] from rfl] at hfm
  have i0 : strIter [115, 104] 0 = (.tuple [.bool true, .int .i64 0, .int .i32 115], 1) := by rw [strIter_a (by decide)]; rfl
  have i1 : strIter [115, 104] 1 = (.tuple [.bool true, .int .i64 1, .int .i32 104], 2) := by rw [strIter_a (by decide)]; rfl
  have i2 : strIter [115, 104] 2 = (.tuple [.bool false], 2) := by rw [strIter_a (by decide)]; rfl
  have hln : ∀ H', evLen Tryz.prog 52 .nils H' = some (.int .i64 0) := by intro H'; simp only [evLen, tsh_52]
  simp only [go_sem, simprocAttr, hl, h0, h1, h2, h3, hck, hfm, i0, i1, i2, hln, Dt.l8, Dt.vc, Dt.len]
  have hput := fun H k => wk_put16 H k
  have hld : ∀ (e : TypeId) (k : Kd), ldC 3 1 false (.cells dW.cells e k) = some (.int .u32 10) := fun e k => rfl
  have hl1 : ∀ (e : TypeId) (k : Kd), ldC 1 1 false (.cells dW.cells e k) = some (.str [1, 97, 0]) := fun e k => rfl
  have w1 : IntKind.u16.wrap 10 = 10 := by decide
  obtain ⟨m, L, e, q1, q2, htp⟩ := wk_tput H [.cells dW.cells 27 .rw, .map [], .cells [.map (H.length + 1)] 91 .rw, .cells dW.cells 27 .rw, .iter [115, 104] 2, .cells [.int .u8 0] 5 .rw, .dead, .cells [.int .u8 10] 5 .rw, .cells [.int .u8 0, .int .u8 10] 5 (.op 0 false)] 8 rfl rfl rfl
  rw [go_loop]
  simp only [go_sem, simprocAttr, hl, h0, h1, h2, h3, hck, hfm, i0, i1, i2, hln, Dt.l8, Dt.vc, Dt.len, hl1, hld, w1, hput, htp]
  rw [go_loop]
  simp only [go_sem, simprocAttr, hl, h0, h1, h2, h3, hck, hfm, i0, i1, i2, hln, Dt.l8, Dt.vc, Dt.len, hl1, hld, w1, hput, htp]
  rw [go_loop]
  simp only [go_sem, simprocAttr, hl, h0, h1, h2, h3, hck, hfm, i0, i1, i2, hln, Dt.l8, Dt.vc, Dt.len, hl1, hld, w1, hput, htp]
  obtain ⟨e', h4, h5⟩ := leave_nf (n := H.length + 3) (m := H.length) (v := .tuple [.slice (H.length + m) 0 5 (.ex 5), .int .i64 0]) (by simp [flat, flats]) (e := Ef.and (Ef.and ⟨none, some (H.length + 4)⟩ e) ⟨none, some (H.length + 4)⟩) (clean_and (clean_and (by simp [clean, low]) q1) (by simp [clean, low]))
  exact ⟨m, _, e', h4 _, h5, q2, rfl, by simp⟩

set_option maxRecDepth 20000 in
set_option maxHeartbeats 1000000 in
theorem wk (H k) (hk : Tk H) (ht : Tb H) (hdb : Db H) : callK Tryz.prog 5 [] H k = k (.bool true, H, z0) := by
  refine callK_eq (r := (.bool true, H, z0)) ?_ k
  refine callK_start (n := 44) (rs := [.tmp 0]) Tryz.func5 rfl rfl rfl ?_
  intro σ hl ha
  clear ha
  obtain ⟨⟨m, T, e⟩, ⟨q1, q2, q3, q4⟩, hput⟩ := callK_exP (fun b : Nat × Hp × Ef => clean H.length b.2.2 ∧ b.2.1[b.1]? = some (.cells (u8s [0, 10, 1, 97, 0]) 5 .rw) ∧ b.2.1[0]? = some (.cells dW.cells 27 .rw) ∧ 3 < b.2.1.length) (fun b => (.tuple [.slice (H.length + b.1) 0 5 (.ex 5), .int .i64 0], H ++ b.2.1, b.2.2))
    (callK_mono (wk_Put H hk) (fun r ⟨m, T, e, h1, h2, h3⟩ => ⟨⟨m, T, e⟩, ⟨h2, h3⟩, h1⟩))
  simp only at q1 q2 q3 q4 hput
  have hq1 : ∀ (v : AV) (e : Ef) (A B C : ABlk), quiet (v, H ++ [A, B, C], e) (H ++ [A]) = false := by intro v e A B C; simp [quiet]
  have hq2 : ∀ (v : AV) (e : Ef) (A B C : ABlk), quiet (v, H ++ T, e) (H ++ [A, B, C]) = false := by intro v e A B C; simp [quiet]; omega
  have hbd5 : evBuild Tryz.prog 25 [(0, .int .u32 10)] = some (.agg [.int .u32 10, .int .u32 0, .int .u32 0, .int .u32 0, .int .u32 0]) := by kernel_rfl
  have hbdd : evBuild Tryz.prog 27 [(1, .str [1, 97, 0]), (3, .agg [.int .u32 10, .int .u32 0, .int .u32 0, .int .u32 0, .int .u32 0])] = some (.agg dW.cells) := by kernel_rfl
  have hnew := fun H k => press_New H k
  have hsh := fun l k => rdata_ShowK 15 dW (H ++ l) k (hk.old l) (ht.old l) (hdb.old l) dW_wf
  have hd10 : decP 10 = [49, 48] := by rw [decP_big (by decide), show 10 / 10 = 1 from rfl, decP_small (by decide)]; decide
  have htx : txtN [1, 97, 0] = [97, 46] := by decide
  have hts : tellS 15 dW = [49, 48, 32, 97, 46] := by
    rw [tellS, if_pos (by decide)]
    simp [showS, formS, showL, elemS, isN, joinS, Dt.n, dW, hd10, htx]
  have hc0 : chk 15 dW = 0 := by decide
  have hck := fun l k => rdata_Check 15 dW (H ++ l) k (hk.old l) dW_wf
  have hck1 := fun l k => rdata_Check 1 dW (H ++ l) k (hk.old l) dW_wf
  have hc1 : chk 1 dW = 40 := by decide
  rw [hts, hc0] at hsh
  rw [hc0] at hck
  rw [hc1] at hck1
  have hsp : splice [AV.str [], AV.str [], AV.str [], AV.int .u32 0, AV.int .u32 0, AV.int .u32 0, AV.int .u32 0, AV.int .u32 0] 0 dW.cells = dW.cells := rfl
  have hsc := Dt.scl dW
  have hg0 : ∀ l : Hp, (T ++ l)[0]? = some (.cells dW.cells 27 .rw) := fun l => get_app q3
  have hstr : evConv Tryz.prog 52 9 (.slice (H.length + m) 0 5 (.ex 5)) (H ++ T) = some (.str [0, 10, 1, 97, 0], H ++ T) := by
    have hr : Rd (H ++ T) (.slice (H.length + m) 0 5 (.ex 5)) [0, 10, 1, 97, 0] := .inr ⟨_, _, _, [], [], 5, .rw, rfl, rfl, by rw [hp_new, q2]; simp, .inl ⟨5, rfl, by decide⟩⟩
    exact hr.v.str
  have e1 : (([0, 10, 1, 97, 0] : List UInt8) == [0, 10, 1, 97, 0]) = true := by decide
  have e2 : (([49, 48, 32, 97, 46] : List UInt8) == [49, 48, 32, 97, 46]) = true := by decide
  simp only [go_sem, simprocAttr, hl, hbd5, hbdd, hnew, Dt.l8, Dt.vc, Dt.len, hsp, hsc]
  refine go_drawZ tFollows (by kernel_rfl) ?_
  simp only [go_sem, simprocAttr, hl, hnew, Dt.l8, Dt.vc, Dt.len, hput, q3, hg0, hsh, hck, hck1, hq1, hq2, hstr, e1, e2]
  refine ⟨by rcases tg_or 2 e with h | h <;> rw [h] <;> kernel_rfl, ?_⟩
  rw [Dt.flat dW, if_pos rfl]
  exact leave_flat rfl (clean_and (by simp [clean, low]) q1)
end Go.Proofs.YtgkpgpdkolpfkaaGreatDoor.V
namespace Go.Proofs.YtgkpgpdkolpfkaaGreatDoor.V
open Go

def scan (p : UInt8) : List UInt8 → Nat
  | [] => 0
  | [c] => if c = p then 0 else if c = 92 then 2 else 1
  | c :: d :: r => if c = p then 0 else if c = 92 then 2 + scan p r else 1 + scan p (d :: r)
def cwF : Nat → List UInt8 → List (List UInt8 × Bool)
  | 0, _ => []
  | _ + 1, [] => []
  | n + 1, c :: r => if c = 32 then cwF n r else
      if c = 34 then (r.take (scan 34 r), true) :: cwF n (r.drop (scan 34 r + 1))
      else ((c :: r).take (scan 32 (c :: r)), false) :: cwF n ((c :: r).drop (scan 32 (c :: r) + 1))
theorem cwF_more : ∀ (n m : Nat) (s : List UInt8), s.length < n → s.length < m → cwF n s = cwF m s
  | 0, _, s, h, _ => by omega
  | _ + 1, 0, s, _, h => by omega
  | n + 1, m + 1, [], _, _ => rfl
  | n + 1, m + 1, c :: r, h, k => by
    simp only [List.length_cons] at h k
    simp only [cwF]
    rw [cwF_more n m r (by omega) (by omega), cwF_more n m (r.drop (scan 34 r + 1)) (by rw [List.length_drop]; omega) (by rw [List.length_drop]; omega),
      cwF_more n m ((c :: r).drop (scan 32 (c :: r) + 1)) (by rw [List.length_drop, List.length_cons]; omega) (by rw [List.length_drop, List.length_cons]; omega)]
def cwS (s : List UInt8) : List (List UInt8 × Bool) := cwF (s.length + 1) s
theorem cwS_nil : cwS [] = [] := rfl
theorem cwS_cons (c : UInt8) (r : List UInt8) : cwS (c :: r) = if c = 32 then cwS r else
      if c = 34 then (r.take (scan 34 r), true) :: cwS (r.drop (scan 34 r + 1))
      else ((c :: r).take (scan 32 (c :: r)), false) :: cwS ((c :: r).drop (scan 32 (c :: r) + 1)) := by
  unfold cwS
  rw [List.length_cons]
  simp only [cwF]
  rw [cwF_more (r.length + 1) (r.drop (scan 34 r + 1)).length.succ (r.drop (scan 34 r + 1)) (by rw [List.length_drop]; omega) (by omega),
    cwF_more (r.length + 1) ((c :: r).drop (scan 32 (c :: r) + 1)).length.succ ((c :: r).drop (scan 32 (c :: r) + 1)) (by rw [List.length_drop, List.length_cons]; omega) (by omega)]

def solid (p : UInt8) : List UInt8 → Bool
  | [] => true
  | [c] => !(c == p) && !(c == 92)
  | c :: d :: r => if c = p then false else if c = 92 then solid p r else solid p (d :: r)
theorem scan_solid (p : UInt8) : ∀ (x r : List UInt8), solid p x = true → (r = [] ∨ ∃ r', r = p :: r') → scan p (x ++ r) = x.length
  | [], r, _, h => by
    rcases h with rfl | ⟨r', rfl⟩
    · rfl
    · cases r' with
      | nil => simp [scan]
      | cons a b => simp [scan]
  | [c], r, hs, h => by
    simp only [solid, Bool.and_eq_true, Bool.not_eq_true', beq_eq_false_iff_ne] at hs
    rcases h with rfl | ⟨r', rfl⟩
    · simp [scan, hs.1, hs.2]
    · cases r' with
      | nil => simp [scan, hs.1, hs.2]
      | cons a b => simp [scan, hs.1, hs.2]
  | c :: d :: x, r, hs, h => by
    simp only [solid] at hs
    split at hs
    · cases hs
    · rename_i hc
      show scan p (c :: d :: (x ++ r)) = _
      split at hs
      · rename_i h92
        rw [scan, if_neg hc, if_pos h92, scan_solid p x r hs h]
        simp; omega
      · rename_i h92
        rw [scan, if_neg hc, if_neg h92]
        have := scan_solid p (d :: x) r hs h
        rw [List.cons_append] at this
        rw [this]; simp; omega
theorem solid_app (p : UInt8) : ∀ (x y : List UInt8), solid p x = true → solid p y = true → solid p (x ++ y) = true
  | [], y, _, h => h
  | [c], y, hs, h => by
    simp only [solid, Bool.and_eq_true, Bool.not_eq_true', beq_eq_false_iff_ne] at hs
    cases y with
    | nil => simp [solid, hs.1, hs.2]
    | cons a b => show solid p (c :: a :: b) = true; simp only [solid]; rw [if_neg hs.1, if_neg hs.2]; exact h
  | c :: d :: x, y, hs, h => by
    simp only [solid] at hs
    show solid p (c :: d :: (x ++ y)) = true
    simp only [solid]
    split at hs
    · cases hs
    · rename_i hc
      rw [if_neg hc]
      split at hs
      · rename_i h92
        rw [if_pos h92]; exact solid_app p x y hs h
      · rename_i h92
        rw [if_neg h92]; exact solid_app p (d :: x) y hs h
theorem solid_plain (p : UInt8) : ∀ (x : List UInt8), (∀ c ∈ x, c ≠ p ∧ c ≠ 92) → solid p x = true
  | [], _ => rfl
  | c :: x, h => by
    have h1 := h c (by simp)
    have h2 := solid_plain p x (fun d hd => h d (by simp [hd]))
    exact solid_app p [c] x (by simp [solid, h1.1, h1.2]) h2
theorem u8_ne {c : UInt8} {n : Nat} (hn : n < 256) (h : c.toNat ≠ n) : c ≠ UInt8.ofNat n := by
  rintro rfl
  rw [UInt8.toNat_ofNat'] at h
  omega
theorem solid_escB (q : Bool) (p : UInt8) (hp : (q = false ∧ p = 32) ∨ (q = true ∧ p = 34)) (c : UInt8) : solid p (escB q c) = true := by
  have hc := c.toNat_lt
  have n92 : (92 : UInt8) ≠ p := by rcases hp with ⟨_, rfl⟩ | ⟨_, rfl⟩ <;> decide
  have two : solid p [92, c] = true := by simp [solid, n92]
  unfold escB
  split
  · exact two
  · rename_i h1
    have c92 : c ≠ 92 := u8_ne (n := 92) (by omega) (by omega)
    have c34 : c ≠ 34 := u8_ne (n := 34) (by omega) (by omega)
    split
    · rename_i h2
      have c32 : c ≠ 32 := u8_ne (n := 32) (by omega) (by omega)
      split
      · refine solid_plain p _ (fun x hx => ?_)
        simp only [List.mem_singleton] at hx; subst hx
        rcases hp with ⟨_, rfl⟩ | ⟨_, rfl⟩
        · exact ⟨c32, c92⟩
        · exact ⟨c34, c92⟩
      · exact two
    · split
      · rename_i h2 h3
        refine solid_plain p _ (fun x hx => ?_)
        simp only [List.mem_singleton] at hx; subst hx
        rcases hp with ⟨hq, rfl⟩ | ⟨_, rfl⟩
        · refine ⟨u8_ne (n := 32) (by omega) ?_, c92⟩
          rcases h3 with h3 | ⟨_, h3⟩
          · omega
          · rw [hq] at h3; cases h3
        · exact ⟨c34, c92⟩
      · have d2 : (UInt8.ofNat (48 + c.toNat / 10 % 10)).toNat = 48 + c.toNat / 10 % 10 := by rw [UInt8.toNat_ofNat']; omega
        have d3 : (UInt8.ofNat (48 + c.toNat % 10)).toNat = 48 + c.toNat % 10 := by rw [UInt8.toNat_ofNat']; omega
        simp only [solid]
        rw [if_neg n92]
        simp only [if_true]
        refine solid_plain p [UInt8.ofNat (48 + c.toNat / 10 % 10), UInt8.ofNat (48 + c.toNat % 10)] (fun x hx => ?_)
        have hx' : x.toNat = 48 + c.toNat / 10 % 10 ∨ x.toNat = 48 + c.toNat % 10 := by
          simp only [List.mem_cons, List.not_mem_nil, or_false] at hx
          rcases hx with rfl | rfl
          · exact .inl d2
          · exact .inr d3
        have a1 : x ≠ 92 := u8_ne (n := 92) (by omega) (by omega)
        have a2 : x ≠ 32 := u8_ne (n := 32) (by omega) (by omega)
        have a3 : x ≠ 34 := u8_ne (n := 34) (by omega) (by omega)
        rcases hp with ⟨_, rfl⟩ | ⟨_, rfl⟩
        · exact ⟨a2, a1⟩
        · exact ⟨a3, a1⟩
theorem solid_escS (q : Bool) (p : UInt8) (hp : (q = false ∧ p = 32) ∨ (q = true ∧ p = 34)) : ∀ s : List UInt8, solid p (escS q s) = true
  | [] => rfl
  | c :: s => solid_app p (escB q c) (escS q s) (solid_escB q p hp c) (solid_escS q p hp s)

def wOf (x : List UInt8) : List UInt8 × Bool := if x.head? = some 34 then (x.tail.dropLast, true) else (x, false)
def fine1 (x : List UInt8) : Prop := ∃ c r, x = c :: r ∧ c ≠ 34 ∧ c ≠ 32 ∧ solid 32 x = true
def fine (x : List UInt8) : Prop := fine1 x ∨ ∃ y, x = 34 :: (y ++ [34]) ∧ solid 34 y = true
theorem wOf_1 {x : List UInt8} (h : fine1 x) : wOf x = (x, false) := by
  obtain ⟨c, r, rfl, h34, _, _⟩ := h
  simp [wOf, h34]
theorem wOf_q (s : List UInt8) : wOf (34 :: (s ++ [34])) = (s, true) := by simp [wOf]
theorem cut_row : ∀ (x : List UInt8) (r : List (List UInt8)), fine x → (∀ y ∈ r, fine y) → cwS (x ++ r.flatMap ([32] ++ ·)) = wOf x :: r.map wOf
  | x, [], hx, _ => by
    rw [List.flatMap_nil, List.append_nil]
    rcases hx with ⟨c, r, rfl, h34, h32, hs⟩ | ⟨y, rfl, hs⟩
    · rw [cwS_cons, if_neg h32, if_neg h34]
      have := scan_solid 32 (c :: r) [] hs (.inl rfl)
      rw [List.append_nil] at this
      rw [this, List.take_length, List.drop_of_length_le (by omega), cwS_nil]
      simp [wOf, h34]
    · rw [cwS_cons, if_neg (by decide), if_pos rfl]
      have := scan_solid 34 y [34] hs (.inr ⟨[], rfl⟩)
      rw [this, List.take_left' rfl, List.drop_of_length_le (by simp), cwS_nil]
      simp [wOf]
  | x, y :: r, hx, hr => by
    have hy := cut_row y r (hr y (by simp)) (fun z hz => hr z (by simp [hz]))
    have e : (y :: r).flatMap ([32] ++ ·) = 32 :: (y ++ r.flatMap ([32] ++ ·)) := rfl
    rw [e]
    generalize y ++ r.flatMap ([32] ++ ·) = R at hy ⊢
    rcases hx with ⟨c, q, rfl, h34, h32, hs⟩ | ⟨z, rfl, hs⟩
    · rw [List.cons_append, cwS_cons, if_neg h32, if_neg h34]
      have := scan_solid 32 (c :: q) (32 :: R) hs (.inr ⟨R, rfl⟩)
      rw [List.cons_append] at this
      rw [this]
      have e1 : (c :: (q ++ 32 :: R)).take (c :: q).length = c :: q := List.take_left' (l₁ := c :: q) rfl
      have e2 : (c :: (q ++ 32 :: R)).drop ((c :: q).length + 1) = R := by
        rw [← List.drop_drop]
        have : (c :: (q ++ 32 :: R)).drop (c :: q).length = 32 :: R := List.drop_left' (l₁ := c :: q) rfl
        rw [this]; rfl
      rw [e1, e2, hy]
      simp [wOf, h34]
    · rw [List.cons_append, List.append_assoc, cwS_cons, if_neg (by decide), if_pos rfl]
      have := scan_solid 34 z (34 :: 32 :: R) hs (.inr ⟨_, rfl⟩)
      have e0 : z ++ ([34] ++ 32 :: R) = z ++ 34 :: 32 :: R := rfl
      rw [e0, this, List.take_left' rfl]
      have e2 : (z ++ 34 :: 32 :: R).drop (z.length + 1) = 32 :: R := by
        rw [← List.drop_drop, List.drop_left' rfl]; rfl
      rw [e2, cwS_cons, if_pos rfl, hy]
      simp [wOf]
theorem cut_join (L : List (List UInt8)) (h : ∀ x ∈ L, fine x) : cwS (joinS [32] L) = L.map wOf := by
  cases L with
  | nil => rfl
  | cons x r => exact cut_row x r (h x (by simp)) (fun y hy => h y (by simp [hy]))

theorem decP_dig (n : Nat) : ∀ c ∈ decP n, 48 ≤ c.toNat ∧ c.toNat ≤ 57 := by
  induction n using Nat.strongRecOn with
  | ind n ih =>
    intro c hc
    have hd : ∀ k, k < 10 → 48 ≤ (hexD k).toNat ∧ (hexD k).toNat ≤ 57 := by
      intro k hk
      unfold hexD; rw [if_pos hk, UInt8.toNat_ofNat']; omega
    unfold decP at hc
    split at hc
    · rename_i h
      simp only [List.mem_singleton] at hc; subst hc; exact hd n h
    · rename_i h
      rcases List.mem_append.1 hc with hc | hc
      · exact ih (n / 10) (by omega) c hc
      · simp only [List.mem_singleton] at hc; subst hc; exact hd _ (by omega)
def hxC (c : UInt8) : Prop := (48 ≤ c.toNat ∧ c.toNat ≤ 57) ∨ (97 ≤ c.toNat ∧ c.toNat ≤ 102)
theorem hexD_hx {k : Nat} (hk : k < 16) : hxC (hexD k) := by
  unfold hxC hexD
  split
  · rw [UInt8.toNat_ofNat']; omega
  · rw [UInt8.toNat_ofNat']; omega
theorem hexN_hx (n : Nat) : ∀ c ∈ hexN n, hxC c := by
  induction n using Nat.strongRecOn with
  | ind n ih =>
    intro c hc
    unfold hexN at hc
    split at hc
    · rename_i h
      simp only [List.mem_singleton] at hc; subst hc; exact hexD_hx h
    · rename_i h
      rcases List.mem_append.1 hc with hc | hc
      · exact ih (n / 16) (by omega) c hc
      · simp only [List.mem_singleton] at hc; subst hc; exact hexD_hx (by omega)
theorem hexP_hx (s : List UInt8) : ∀ c ∈ hexP s, hxC c := by
  intro c hc
  simp only [hexP, List.mem_flatMap] at hc
  obtain ⟨b, _, hb⟩ := hc
  have := b.toNat_lt
  simp only [twoP, List.mem_cons, List.not_mem_nil, or_false] at hb
  rcases hb with rfl | rfl
  · exact hexD_hx (by omega)
  · exact hexD_hx (by omega)
theorem joinS_mem {sep : List UInt8} {L : List (List UInt8)} {c : UInt8} (h : c ∈ joinS sep L) : c ∈ sep ∨ ∃ x ∈ L, c ∈ x := by
  cases L with
  | nil => cases h
  | cons x r =>
    rcases List.mem_append.1 h with h | h
    · exact .inr ⟨x, by simp, h⟩
    · simp only [List.mem_flatMap] at h
      obtain ⟨y, hy, h⟩ := h
      rcases List.mem_append.1 h with h | h
      · exact .inl h
      · exact .inr ⟨y, by simp [hy], h⟩
theorem fine_plain1 {x : List UInt8} (hx : 0 < x.length) (h : ∀ c ∈ x, c.toNat ≠ 32 ∧ c.toNat ≠ 34 ∧ c.toNat ≠ 92) : fine1 x := by
  cases x with
  | nil => cases hx
  | cons c r =>
    have h0 := h c (by simp)
    refine ⟨c, r, rfl, u8_ne (n := 34) (by omega) (by omega), u8_ne (n := 32) (by omega) (by omega), solid_plain _ _ (fun d hd => ?_)⟩
    have := h d hd
    exact ⟨u8_ne (n := 32) (by omega) (by omega), u8_ne (n := 92) (by omega) (by omega)⟩
theorem fine_plain {x : List UInt8} (hx : 0 < x.length) (h : ∀ c ∈ x, c.toNat ≠ 32 ∧ c.toNat ≠ 34 ∧ c.toNat ≠ 92) : fine x := .inl (fine_plain1 hx h)
theorem txtL_solid : ∀ (L : List (List UInt8)), solid 32 (txtL L) = true
  | [] => rfl
  | l :: L => by
    show solid 32 ((escS false l ++ [46]) ++ txtL L) = true
    exact solid_app _ _ _ (solid_app _ _ _ (solid_escS false 32 (.inl ⟨rfl, rfl⟩) l) (by decide)) (txtL_solid L)
theorem escB_head (c : UInt8) : ∃ b r, escB false c = b :: r ∧ b ≠ 34 ∧ b ≠ 32 := by
  have hc := c.toNat_lt
  unfold escB
  split
  · exact ⟨_, _, rfl, by decide, by decide⟩
  · split
    · exact ⟨_, _, rfl, by decide, by decide⟩
    · split
      · rename_i h1 h2 h3
        refine ⟨c, [], rfl, u8_ne (n := 34) (by omega) (by omega), u8_ne (n := 32) (by omega) ?_⟩
        rcases h3 with h3 | ⟨_, h3⟩
        · omega
        · cases h3
      · exact ⟨_, _, rfl, by decide, by decide⟩
theorem fine_txt1 {s : List UInt8} (h : (nm s).isSome = true) : fine1 (txtN s) := by
  unfold txtN
  split
  · exact fine_plain1 (by decide) (by decide)
  · rename_i h0
    have hp := txtN_pos h
    unfold txtN at hp
    rw [if_neg h0] at hp
    cases hL : labs s with
    | nil => rw [hL] at hp; cases hp
    | cons l L =>
      have hl := labs_pos (s := s) (l := l) (i := 0) (by rw [hL]; rfl)
      cases l with
      | nil => simp at hl
      | cons c l =>
        obtain ⟨b, r, hb, h34, h32⟩ := escB_head c
        have e : txtL ((c :: l) :: L) = b :: (r ++ escS false l ++ [46] ++ txtL L) := by
          show ((escB false c ++ escS false l) ++ [46]) ++ txtL L = _
          rw [hb]; simp
        refine ⟨b, _, e, h34, h32, txtL_solid _⟩
theorem fine_txt {s : List UInt8} (h : (nm s).isSome = true) : fine (txtN s) := .inl (fine_txt1 h)
theorem fine_quo (s : List UInt8) : fine (quoP s) := .inr ⟨escS true s, by simp [quoP], solid_escS true 34 (.inr ⟨rfl, rfl⟩) s⟩
theorem elem_fineW {t : Int} {d : Dt} (hd : d.wf) (hg : goodB t d = true) {c : UInt8} (hc : c ∈ formS t) (k : Nat) : ∀ x ∈ elemS d c k, fine x := by
  obtain ⟨gh, gm, ga, gq, gx, graw⟩ := good_by hg
  have hpos := (elem_fine hd hg hc k).1
  intro x hx
  have hxp := hpos x hx
  have dec : ∀ n, ∀ c ∈ decP n, c.toNat ≠ 32 ∧ c.toNat ≠ 34 ∧ c.toNat ≠ 92 := fun n c hc => by have := decP_dig n c hc; omega
  have hexa : ∀ c, hxC c → c.toNat ≠ 32 ∧ c.toNat ≠ 34 ∧ c.toNat ≠ 92 := fun c hc => by unfold hxC at hc; omega
  unfold elemS at hx
  split at hx
  · rename_i h
    simp only [List.mem_singleton] at hx; subst hx
    exact fine_txt (gh c hc h)
  split at hx
  · rename_i h
    simp only [List.mem_singleton] at hx; subst hx
    exact fine_txt (gm c hc h)
  split at hx
  · simp only [List.mem_singleton] at hx; subst hx
    exact fine_plain hxp (dec _)
  split at hx
  · simp only [List.mem_singleton] at hx; subst hx
    refine fine_plain hxp (fun c hc => ?_)
    rcases joinS_mem hc with h | ⟨y, hy, h⟩
    · simp only [List.mem_singleton] at h; subst h; decide
    · simp only [decA, List.mem_map] at hy; obtain ⟨b, _, rfl⟩ := hy; exact dec _ c h
  split at hx
  · simp only [List.mem_singleton] at hx; subst hx
    refine fine_plain hxp (fun c hc => ?_)
    rcases joinS_mem hc with h | ⟨y, hy, h⟩
    · simp only [List.mem_singleton] at h; subst h; decide
    · simp only [hexA, List.mem_map] at hy; obtain ⟨b, _, rfl⟩ := hy; exact hexa c (hexN_hx _ c h)
  split at hx
  · simp only [List.mem_map] at hx; obtain ⟨b, _, rfl⟩ := hx; exact fine_quo b
  · rcases List.mem_append.1 hx with hx | hx
    · simp only [List.mem_cons, List.not_mem_nil, or_false] at hx
      rcases hx with rfl | rfl
      · exact .inl ⟨92, [35], rfl, by decide, by decide, by decide⟩
      · exact fine_plain hxp (dec _)
    · split at hx
      · cases hx
      · simp only [List.mem_singleton] at hx; subst hx
        exact fine_plain hxp (fun c hc => hexa c (hexP_hx _ c hc))
theorem show_fineW {t : Int} {d : Dt} (hd : d.wf) (hg : goodB t d = true) : ∀ (f : List UInt8) (k : Nat), (∀ c ∈ f, c ∈ formS t) → ∀ x ∈ showL d f k, fine x
  | [], k, _, x, hx => by cases hx
  | c :: f, k, h, x, hx => by
    rw [showL] at hx
    rcases List.mem_append.1 hx with hx | hx
    · exact elem_fineW hd hg (h c (by simp)) k x hx
    · exact show_fineW hd hg f _ (fun y hy => h y (by simp [hy])) x hx
theorem cut_show {t : Int} {d : Dt} (hd : d.wf) (hg : goodB t d = true) : cwS (showS t d) = (showL d (formS t) 0).map wOf :=
  cut_join _ (show_fineW hd hg (formS t) 0 (fun _ h => h))
end Go.Proofs.YtgkpgpdkolpfkaaGreatDoor.V
namespace Go.Proofs.YtgkpgpdkolpfkaaGreatDoor.V
open Go

def dig (c : UInt8) : Bool := decide (48 ≤ c.toNat ∧ c.toNat ≤ 57)
def unC (c : UInt8) (r : List UInt8) : Option (UInt8 × List UInt8) :=
  if c.toNat ≠ 92 then some (c, r) else
  match r with
  | [] => none
  | d :: r1 => if dig d = false then some (d, r1) else
    match r1 with
    | e :: f :: r2 => if (dig e && dig f) = false then none else
      if (d.toNat - 48) * 100 + (e.toNat - 48) * 10 + (f.toNat - 48) > 255 then none else some (UInt8.ofNat ((d.toNat - 48) * 100 + (e.toNat - 48) * 10 + (f.toNat - 48)), r2)
    | _ => none
theorem unC_lt {c b : UInt8} {r r' : List UInt8} (h : unC c r = some (b, r')) : r'.length ≤ r.length := by
  unfold unC at h
  split at h
  · cases h; exact Nat.le_refl _
  · split at h
    · cases h
    · split at h
      · cases h; simp
      · split at h
        · split at h
          · cases h
          · split at h
            · cases h
            · cases h; simp; omega
        · cases h
def unF : Nat → List UInt8 → Option (List UInt8)
  | _, [] => some []
  | 0, _ :: _ => none
  | n + 1, c :: r => (unC c r).bind fun x => (unF n x.2).map (x.1 :: ·)
theorem unF_more : ∀ (n m : Nat) (s : List UInt8), s.length ≤ n → s.length ≤ m → unF n s = unF m s
  | _, _, [], _, _ => by unfold unF; rfl
  | 0, _, c :: r, h, _ => by simp at h
  | _, 0, c :: r, _, h => by simp at h
  | n + 1, m + 1, c :: r, h, k => by
    simp only [unF]
    cases hx : unC c r with
    | none => rfl
    | some x =>
      obtain ⟨b, r'⟩ := x
      have := unC_lt hx
      simp only [List.length_cons] at h k
      simp only [Option.bind_some]
      rw [unF_more n m r' (by omega) (by omega)]
def unB (s : List UInt8) : Option (List UInt8) := unF s.length s
theorem unB_nil : unB [] = some [] := rfl
theorem unB_cons (c : UInt8) (r : List UInt8) : unB (c :: r) = (unC c r).bind fun x => (unB x.2).map (x.1 :: ·) := by
  unfold unB
  rw [List.length_cons]
  simp only [unF]
  cases hx : unC c r with
  | none => rfl
  | some x =>
    obtain ⟨b, r'⟩ := x
    have := unC_lt hx
    simp only [Option.bind_some]
    rw [unF_more r.length r'.length r' (by omega) (Nat.le_refl _)]
theorem unB_esc1 (q : Bool) (c : UInt8) (r : List UInt8) : unB (escB q c ++ r) = (unB r).map (c :: ·) := by
  have hc := c.toNat_lt
  unfold escB
  have back : ∀ (r : List UInt8), dig c = false → unB (92 :: c :: r) = (unB r).map (c :: ·) := by
    intro r hd
    rw [unB_cons]
    have : unC 92 (c :: r) = some (c, r) := by unfold unC; rw [if_neg (by decide)]; simp only [hd, if_true]
    rw [this]; rfl
  have plain : c.toNat ≠ 92 → unB (c :: r) = (unB r).map (c :: ·) := by
    intro h
    rw [unB_cons]
    have : unC c r = some (c, r) := by unfold unC; rw [if_pos h]
    rw [this]; rfl
  split
  · rename_i h
    exact back r (by unfold dig; simp; omega)
  · rename_i h0
    split
    · rename_i h
      split
      · exact plain (by omega)
      · exact back r (by unfold dig; simp; omega)
    · split
      · exact plain (by omega)
      · have d1 : (UInt8.ofNat (48 + c.toNat / 100)).toNat = 48 + c.toNat / 100 := by rw [UInt8.toNat_ofNat']; omega
        have d2 : (UInt8.ofNat (48 + c.toNat / 10 % 10)).toNat = 48 + c.toNat / 10 % 10 := by rw [UInt8.toNat_ofNat']; omega
        have d3 : (UInt8.ofNat (48 + c.toNat % 10)).toNat = 48 + c.toNat % 10 := by rw [UInt8.toNat_ofNat']; omega
        show unB (92 :: UInt8.ofNat (48 + c.toNat / 100) :: UInt8.ofNat (48 + c.toNat / 10 % 10) :: UInt8.ofNat (48 + c.toNat % 10) :: r) = _
        rw [unB_cons]
        have : unC 92 (UInt8.ofNat (48 + c.toNat / 100) :: UInt8.ofNat (48 + c.toNat / 10 % 10) :: UInt8.ofNat (48 + c.toNat % 10) :: r) = some (c, r) := by
          unfold unC
          rw [if_neg (by decide)]
          have e1 : dig (UInt8.ofNat (48 + c.toNat / 100)) = true := by unfold dig; rw [d1]; simp; omega
          have e2 : dig (UInt8.ofNat (48 + c.toNat / 10 % 10)) = true := by unfold dig; rw [d2]; simp; omega
          have e3 : dig (UInt8.ofNat (48 + c.toNat % 10)) = true := by unfold dig; rw [d3]; simp; omega
          simp only [e1, e2, e3, d1, d2, d3, Bool.and_self, Bool.true_eq_false, if_false]
          have e4 : (48 + c.toNat / 100 - 48) * 100 + (48 + c.toNat / 10 % 10 - 48) * 10 + (48 + c.toNat % 10 - 48) = c.toNat := by omega
          rw [e4, if_neg (by omega)]
          simp
        rw [this]; rfl
theorem unB_esc (q : Bool) : ∀ s : List UInt8, unB (escS q s) = some s
  | [] => rfl
  | c :: s => by
    have e : escS q (c :: s) = escB q c ++ escS q s := rfl
    rw [e, unB_esc1, unB_esc q s]; rfl
end Go.Proofs.YtgkpgpdkolpfkaaGreatDoor.V
namespace Go.Proofs.YtgkpgpdkolpfkaaGreatDoor.V
open Go

def nameB (L : List (List UInt8)) : List UInt8 := L.flatMap fun l => UInt8.ofNat l.length :: l
def nameOf (L : List (List UInt8)) : List UInt8 := nameB L ++ [0]
theorem nameB_len (L : List (List UInt8)) : (nameB L).length = tot L := by
  induction L with
  | nil => rfl
  | cons l L ih =>
    have e1 : nameB (l :: L) = (UInt8.ofNat l.length :: l) ++ nameB L := rfl
    have e2 : tot (l :: L) = (1 + l.length) + tot L := by simp [tot]
    rw [e1, e2, List.length_append, ih, List.length_cons]; omega
theorem nameB_snoc {L : List (List UInt8)} {i : Nat} {l : List UInt8} (h : L[i]? = some l) : nameB (L.take (i + 1)) = nameB (L.take i) ++ (UInt8.ofNat l.length :: l) := by
  rw [take_snoc h]; simp [nameB]
theorem lab_nameOf : ∀ (L : List (List UInt8)) (s : List UInt8), lab s = some L → s = nameOf L
  | [], s, h => by
    cases s with
    | nil => cases h
    | cons c t =>
      rw [lab_cons] at h
      split at h
      · rename_i hc
        split at h
        · rename_i h'
          have ht : t = [] := List.length_eq_zero_iff.1 h'
          have hc' : c = 0 := UInt8.toNat.inj hc
          rw [ht, hc']; rfl
        · cases h
      · split at h
        · cases h
        · rw [Option.map_eq_some_iff] at h
          obtain ⟨_, _, h⟩ := h
          cases h
  | l :: L, s, h => by
    cases s with
    | nil => cases h
    | cons c t =>
      rw [lab_cons] at h
      split at h
      · split at h <;> cases h
      · split at h
        · cases h
        · rename_i h0 h1
          rw [Option.map_eq_some_iff] at h
          obtain ⟨L', h2, h3⟩ := h
          injection h3 with h4 h5
          subst h4 h5
          have := lab_nameOf L' _ h2
          have e : nameOf (t.take c.toNat :: L') = (UInt8.ofNat (t.take c.toNat).length :: t.take c.toNat) ++ nameOf L' := by simp [nameOf, nameB]
          have hl : (t.take c.toNat).length = c.toNat := by rw [List.length_take]; omega
          rw [e, ← this, hl, UInt8.ofNat_toNat, List.cons_append, List.take_append_drop]
def badL (l : List UInt8) : Bool := l.length == 0 || decide (63 < l.length)
def ofS (L : List (List UInt8)) : List UInt8 × Nat := if L.any badL = true then ([], 10) else if 255 < tot L + 1 then ([], 2) else (nameOf L, 0)
theorem ofS_nm {s : List UInt8} {L : List (List UInt8)} (h : nm s = some L) : ofS L = (s, 0) := by
  obtain ⟨hl, hs⟩ := nm_lab h
  have h1 := tot_le L s hl
  have h2 : L.any badL = false := by
    rw [List.any_eq_false]
    intro l hm
    obtain ⟨i, hi⟩ := List.getElem?_of_mem hm
    have hL : labs s = L := by unfold labs; rw [h]; rfl
    rw [← hL] at hi
    have := labs_pos hi
    unfold badL
    simp only [Bool.or_eq_true, beq_iff_eq, decide_eq_true_eq]
    omega
  unfold ofS
  rw [h2, if_neg (by simp), if_neg (by omega), ← lab_nameOf L s hl]

def lblE (x : List UInt8) : List UInt8 × Nat := match unB x with
  | none => ([], 12)
  | some l => (l, if badL l = true then 10 else 0)
def parsF : Nat → Bool → List UInt8 → Except Nat (List (List UInt8) × Bool)
  | 0, _, _ => .error 12
  | n + 1, fst, s =>
    if scan 46 s < s.length then
      (if (lblE (s.take (scan 46 s))).2 = 0 then (parsF n false (s.drop (scan 46 s + 1))).map fun r => ((lblE (s.take (scan 46 s))).1 :: r.1, r.2)
       else .error (lblE (s.take (scan 46 s))).2)
    else if 0 < s.length ∨ fst = true then (if (lblE s).2 = 0 then .ok ([(lblE s).1], true) else .error (lblE s).2)
    else .ok ([], false)
theorem parsF_more : ∀ (n m : Nat) (b : Bool) (s : List UInt8), s.length < n → s.length < m → parsF n b s = parsF m b s
  | 0, _, b, s, h, _ => by omega
  | _ + 1, 0, b, s, _, h => by omega
  | n + 1, m + 1, b, s, h, k => by
    simp only [parsF]
    by_cases hs : scan 46 s < s.length
    · rw [if_pos hs, if_pos hs, parsF_more n m false (s.drop (scan 46 s + 1)) (by rw [List.length_drop]; omega) (by rw [List.length_drop]; omega)]
    · rw [if_neg hs, if_neg hs]
def parsS (b : Bool) (s : List UInt8) : Except Nat (List (List UInt8) × Bool) := parsF (s.length + 1) b s
theorem parsS_eq (b : Bool) (s : List UInt8) : parsS b s = if scan 46 s < s.length then
      (if (lblE (s.take (scan 46 s))).2 = 0 then (parsS false (s.drop (scan 46 s + 1))).map fun r => ((lblE (s.take (scan 46 s))).1 :: r.1, r.2)
       else .error (lblE (s.take (scan 46 s))).2)
    else if 0 < s.length ∨ b = true then (if (lblE s).2 = 0 then .ok ([(lblE s).1], true) else .error (lblE s).2)
    else .ok ([], false) := by
  unfold parsS
  conv => lhs; unfold parsF
  by_cases hs : scan 46 s < s.length
  · rw [if_pos hs, if_pos hs, parsF_more s.length ((s.drop (scan 46 s + 1)).length + 1) false _ (by rw [List.length_drop]; omega) (by omega)]
  · rw [if_neg hs, if_neg hs]
def nameS (s o : List UInt8) : List UInt8 × Nat :=
  match nm o with
  | none => ([], 11)
  | some K => if s = [46] then ([0], 0) else match parsS true s with
    | .error e => ([], e)
    | .ok (L, b) => ofS (if b = true then L ++ K else L)
theorem solid_esc46B (c : UInt8) : solid 46 (escB false c) = true := by
  have hc := c.toNat_lt
  have two : solid 46 [92, c] = true := by simp [solid]
  unfold escB
  split
  · exact two
  · rename_i h1
    split
    · exact two
    · rename_i h2
      have c92 : c ≠ 92 := u8_ne (n := 92) (by omega) (by omega)
      have c46 : c ≠ 46 := u8_ne (n := 46) (by omega) (by omega)
      split
      · exact solid_plain _ _ (fun x hx => by simp only [List.mem_singleton] at hx; subst hx; exact ⟨c46, c92⟩)
      · have d2 : (UInt8.ofNat (48 + c.toNat / 10 % 10)).toNat = 48 + c.toNat / 10 % 10 := by rw [UInt8.toNat_ofNat']; omega
        have d3 : (UInt8.ofNat (48 + c.toNat % 10)).toNat = 48 + c.toNat % 10 := by rw [UInt8.toNat_ofNat']; omega
        simp only [solid]
        rw [if_neg (by decide)]
        simp only [if_true]
        refine solid_plain 46 [UInt8.ofNat (48 + c.toNat / 10 % 10), UInt8.ofNat (48 + c.toNat % 10)] (fun x hx => ?_)
        have hx' : x.toNat = 48 + c.toNat / 10 % 10 ∨ x.toNat = 48 + c.toNat % 10 := by
          simp only [List.mem_cons, List.not_mem_nil, or_false] at hx
          rcases hx with rfl | rfl
          · exact .inl d2
          · exact .inr d3
        exact ⟨u8_ne (n := 46) (by omega) (by omega), u8_ne (n := 92) (by omega) (by omega)⟩
theorem solid_esc46 : ∀ s : List UInt8, solid 46 (escS false s) = true
  | [] => rfl
  | c :: s => solid_app 46 (escB false c) (escS false s) (solid_esc46B c) (solid_esc46 s)
theorem pars_txt : ∀ (L : List (List UInt8)) (b : Bool), (∀ l ∈ L, badL l = false) → (L = [] → b = false) → parsS b (txtL L) = .ok (L, false)
  | [], b, _, hb => by rw [hb rfl]; rfl
  | l :: L, b, h, _ => by
    have e : txtL (l :: L) = escS false l ++ 46 :: txtL L := by show (escS false l ++ [46]) ++ txtL L = _; simp
    have hs := scan_solid 46 (escS false l) (46 :: txtL L) (solid_esc46 l) (.inr ⟨_, rfl⟩)
    have hl : lblE (escS false l) = (l, 0) := by unfold lblE; rw [unB_esc]; simp [h l (by simp)]
    rw [e, parsS_eq, hs, if_pos (by simp), List.take_left' rfl, hl]
    have e2 : (escS false l ++ 46 :: txtL L).drop ((escS false l).length + 1) = txtL L := by rw [← List.drop_drop, List.drop_left' rfl]; rfl
    rw [e2, pars_txt L false (fun x hx => h x (by simp [hx])) (fun _ => rfl)]
    rfl
theorem nameS_txt {s o : List UInt8} (hs : (nm s).isSome = true) (ho : (nm o).isSome = true) : nameS (txtN s) o = (s, 0) := by
  obtain ⟨L, hL⟩ := Option.isSome_iff_exists.1 hs
  obtain ⟨K, hK⟩ := Option.isSome_iff_exists.1 ho
  have hl : labs s = L := by unfold labs; rw [hL]; rfl
  unfold nameS
  rw [hK]
  by_cases h0 : s = [0]
  · subst h0; rfl
  · have ht : txtN s = txtL L := by unfold txtN; rw [if_neg h0, hl]
    have hb : ∀ l ∈ L, badL l = false := by
      intro l hm
      obtain ⟨i, hi⟩ := List.getElem?_of_mem hm
      rw [← hl] at hi
      have := labs_pos hi
      unfold badL
      simp only [Bool.or_eq_false_iff, beq_eq_false_iff_ne, decide_eq_false_iff_not]
      omega
    have hne : L ≠ [] := by
      intro h
      have := lab_nameOf L s (nm_lab hL).1
      rw [h] at this
      exact h0 this
    have h46 : txtL L ≠ [46] := by
      cases L with
      | nil => exact absurd rfl hne
      | cons l L =>
        have h1 := hb l (by simp)
        have hlp : 0 < l.length := by
          unfold badL at h1
          simp only [Bool.or_eq_false_iff, beq_eq_false_iff_ne] at h1
          omega
        have h2 := escS_pos (q := false) hlp
        intro h
        have h3 : (txtL (l :: L)).length = 1 := by rw [h]; rfl
        have e : txtL (l :: L) = (escS false l ++ [46]) ++ txtL L := rfl
        rw [e, List.length_append, List.length_append, List.length_singleton] at h3
        omega
    rw [ht]
    simp only [if_neg h46]
    rw [pars_txt L true hb (fun h => absurd h hne)]
    simp only [Bool.false_eq_true, if_false]
    exact ofS_nm hL
end Go.Proofs.YtgkpgpdkolpfkaaGreatDoor.V
namespace Go.Proofs.YtgkpgpdkolpfkaaGreatDoor.V
open Go
attribute [local irreducible] go goOps goD opK callK callT stepK leaveTo nextK

theorem bsliceU (a : Int) (H : Hp) : evBuildSlice Tryz.prog 52 1 [(0, .int .u8 a)] H = some (.slice H.length 0 1 (.ex 1), H ++ [.cells [.int .u8 a] 5 .rw]) := by
  simp only [evBuildSlice, tsh_52, tzero_5, Option.bind_some]
  rfl
def rowB (out : List UInt8) (n : Nat) : List AV := u8s (out ++ List.replicate (n - out.length) 0)
theorem rowB_len {out : List UInt8} {n : Nat} (h : out.length ≤ n) : (rowB out n).length = n := by simp [rowB, u8s]; omega
theorem rowB_put {out : List UInt8} {n : Nat} {c : UInt8} (h : out.length < n) : splice (rowB out n) out.length [.int .u8 c.toNat] = rowB (out ++ [c]) n := by
  unfold splice rowB
  have e : n - out.length = (n - (out ++ [c]).length) + 1 := by simp; omega
  rw [e, List.replicate_succ, u8s_app]
  have h1 : (u8s out).length = out.length := u8s_len
  rw [List.take_left' h1, List.length_singleton, ← List.drop_drop, List.drop_left' h1]
  simp [u8s]
theorem mk_row (n : Nat) (m : Nat) (H : Hp) (hm : m ≤ n) (hn : n ≤ 1048576) : evMake Tryz.prog 52 (.int .i64 (m : Nat)) (.int .i64 (n : Nat)) H = some (.slice H.length 0 m (.ex n), H ++ [.cells (rowB [] n) 5 .rw]) := by
  have hr : ∀ n, rep [.int .u8 0] n = List.replicate n (AV.int .u8 0) := by
    intro n; induction n with
    | zero => rfl
    | succ n ih => rw [rep, ih]; rfl
  simp only [evMake, tsh_52, tzero_5, Option.bind_some]
  rw [if_pos (by omega)]
  simp [hr, rowB, u8s]
theorem row_app {H : Hp} {bl : Nat} {out : List UInt8} {N : Nat} {c : UInt8} (hb : H[bl]? = some (.cells (rowB out N) 5 .rw)) (h : out.length < N) (kk : AV × Hp × Ef → Prop) :
    stepK (appTo Tryz.prog (.slice 5 1 1) (.slice bl 0 out.length (.ex N)) ([.int .u8 c.toNat], 1) H) kk = kk (.slice bl 0 (out.length + 1) (.ex N), H.set bl (.cells (rowB (out ++ [c]) N) 5 .rw), ⟨none, some bl⟩) := by
  rw [appTo_ex (by decide) zok_52]
  have g : decide (out.length + 1 ≤ N) = true := by simp; omega
  have hl := rowB_len (out := out) (n := N) (by omega)
  have hp := rowB_put (c := c) h
  simp only [go_sem, simprocAttr, g, hb, hl, Nat.mul_one]
  rw [hp]
  exact propext ⟨fun h => h.2, fun h => ⟨by omega, h⟩⟩
def digAt (s : List UInt8) (i : Nat) : Bool := match s[i]? with
  | some c => dig c
  | none => false
theorem digAt_s {s : List UInt8} {i : Nat} {c : UInt8} (h : s[i]? = some c) : digAt s i = dig c := by unfold digAt; rw [h]
set_option maxRecDepth 20000 in
theorem name_digit (s : List UInt8) (i b : Nat) (H k) (hb : H[b]? = some (.cells [.str s] 9 .rw)) : callK Tryz.prog 79 [.int .i64 (i : Nat), .ptr b 0] H k = k (.bool (digAt s i), H, z0) := by
  refine callK_eq (r := (.bool (digAt s i), H, z0)) ?_ k
  refine callK_start (n := 20) (rs := [.tmp 3]) Tryz.func79 rfl rfl rfl ?_
  intro σ hl ha
  have h0 := ha 0 (by simp)
  have h1 := ha 1 (by simp)
  clear ha
  simp only [Option.getD_some, List.getElem?_cons_zero, List.getElem?_cons_succ] at h0 h1
  by_cases hlt : i < s.length
  · obtain ⟨c, hc⟩ : ∃ c, s[i]? = some c := ⟨_, List.getElem?_eq_getElem hlt⟩
    rw [digAt_s hc]
    by_cases h48 : 48 ≤ c.toNat
    · have g1 : decide (48 ≤ (c.toNat : Int)) = true := by simp; omega
      by_cases h57 : c.toNat ≤ 57
      · have g2 : decide ((c.toNat : Int) ≤ 57) = true := by simp; omega
        have hd : dig c = true := by unfold dig; simp; omega
        simp only [go_sem, simprocAttr, hl, h0, h1, hb, hlt, hc, g1, g2, hd]
      · have g2 : decide ((c.toNat : Int) ≤ 57) = false := by simp; omega
        have hd : dig c = false := by unfold dig; simp; omega
        simp only [go_sem, simprocAttr, hl, h0, h1, hb, hlt, hc, g1, g2, hd]
    · have g1 : decide (48 ≤ (c.toNat : Int)) = false := by simp; omega
      have hd : dig c = false := by unfold dig; simp; omega
      simp only [go_sem, simprocAttr, hl, h0, h1, hb, hlt, hc, g1, hd]
  · have hd : digAt s i = false := by unfold digAt; rw [List.getElem?_eq_none (by omega)]
    simp only [go_sem, simprocAttr, hl, h0, h1, hb, hlt, hd]
set_option maxRecDepth 20000 in
set_option maxHeartbeats 4000000 in
theorem name_Bytes (s : List UInt8) (H k) (hs : s.length ≤ 1048576) : callK Tryz.prog 54 [.str s] H k = k (.tuple [.str ((unB s).getD []), .int .i64 (if (unB s).isSome = true then 0 else 12)], H, z0) := by
  refine callK_eq (r := (.tuple [.str ((unB s).getD []), .int .i64 (if (unB s).isSome = true then 0 else 12)], H, z0)) ?_ k
  refine callK_start (n := 95) (rs := [.tmp 2, .tmp 3]) Tryz.func54 rfl rfl rfl ?_
  intro σ hl ha
  have h0 := ha 0 (by simp)
  clear ha
  simp only [Option.getD_some, List.getElem?_cons_zero, List.getElem?_cons_succ] at h0
  have hmk := fun H' => mk_row s.length 0 H' (by omega) hs
  have hmk : ∀ H', evMake Tryz.prog 52 (.int .i64 0) (.int .i64 (s.length : Nat)) H' = _ := hmk
  simp only [go_sem, simprocAttr, hl, h0, hmk]
  refine go_rounds (fun n st => ∃ σ i out T e, n + i = s.length ∧ unB s = (unB (s.drop i)).map (out ++ ·) ∧ out.length ≤ i ∧ st = ⟨σ, H ++ (.cells [.str s] 9 .rw :: .cells (rowB out s.length) 5 .rw :: T), e⟩ ∧ clean H.length e ∧ σ.length = 95 ∧ fr σ 1 = .ptr H.length 0 ∧ fr σ 4 = .slice (H.length + 1) 0 out.length (.ex s.length) ∧ fr σ 5 = .func (.func 79) [] [.ptr H.length 0] ∧ fr σ 6 = .int .i64 (i : Nat)) s.length
    ⟨_, 0, [], [], _, rfl, by simp, Nat.le_refl _, rfl, ⟨rfl, rfl⟩, by simp only [go_sem, simprocAttr, hl], by simp only [go_sem, simprocAttr, hl], by simp only [go_sem, simprocAttr, hl], by simp only [go_sem, simprocAttr, hl], by simp only [go_sem, simprocAttr, hl]⟩ ?_
  rintro n _ ⟨σ, i, out, T, e, hn, hm, ho, rfl, he, hl, h1, h4, h5, h6⟩
  by_cases hlt : i < s.length
  · obtain ⟨c, hc⟩ : ∃ c, s[i]? = some c := ⟨_, List.getElem?_eq_getElem hlt⟩
    have hcl := c.toNat_lt
    rw [drop_at hc, unB_cons] at hm
    have hw := wrap_succ (show i < 9223372036854775807 by omega)
    have happ := fun (X : ABlk) (c : UInt8) kk => row_app (H := H ++ (.cells [.str s] 9 .rw :: .cells (rowB out s.length) 5 .rw :: (T ++ [X]))) (bl := H.length + 1) (out := out) (N := s.length) (c := c) (by rw [hp_new]; rfl) (by omega) kk
    have hfin : ∀ (σ' : List AV) (i' : Nat) (c : UInt8) (T' : Hp) (e' : Ef), i < i' → i' ≤ s.length → unB s = (unB (s.drop i')).map ((out ++ [c]) ++ ·) → clean H.length e' → σ'.length = 95 → fr σ' 1 = .ptr H.length 0 → fr σ' 4 = .slice (H.length + 1) 0 (out.length + 1) (.ex s.length) → fr σ' 5 = .func (.func 79) [] [.ptr H.length 0] → fr σ' 6 = .int .i64 (i' : Nat) →
        ∃ m, m < n ∧ ∃ σ i o2 T e, m + i = s.length ∧ unB s = (unB (s.drop i)).map (o2 ++ ·) ∧ o2.length ≤ i ∧ (⟨σ', H ++ (.cells [.str s] 9 .rw :: .cells (rowB (out ++ [c]) s.length) 5 .rw :: T'), e'⟩ : St) = ⟨σ, H ++ (.cells [.str s] 9 .rw :: .cells (rowB o2 s.length) 5 .rw :: T), e⟩ ∧ clean H.length e ∧ σ.length = 95 ∧ fr σ 1 = .ptr H.length 0 ∧ fr σ 4 = .slice (H.length + 1) 0 o2.length (.ex s.length) ∧ fr σ 5 = .func (.func 79) [] [.ptr H.length 0] ∧ fr σ 6 = .int .i64 (i : Nat) := by
      intro σ' i' c T' e' q1 q2 q3 q4 q5 q6 q7 q8 q9
      exact ⟨n - (i' - i), by omega, σ', i', out ++ [c], T', e', by omega, q3, by simp; omega, rfl, q4, q5, q6, by rw [q7]; simp, q8, q9⟩
    have hdg := fun i' k => name_digit s i' H.length (H ++ (.cells [.str s] 9 .rw :: .cells (rowB out s.length) 5 .rw :: T)) k (by rw [hp_new0]; rfl)
    have hs2 : ∀ (X : ABlk) (c : UInt8), ((H ++ (.cells [.str s] 9 .rw :: .cells (rowB out s.length) 5 .rw :: (T ++ [X]))).set (H.length + 1) (.cells (rowB (out ++ [c]) s.length) 5 .rw)) = H ++ (.cells [.str s] 9 .rw :: .cells (rowB (out ++ [c]) s.length) 5 .rw :: (T ++ [X])) := fun X c => by rw [hp_set]; rfl
    by_cases h92 : c.toNat = 92
    · have g92 : ((c.toNat : Int) != 92) = false := by simp; omega
      have hc92 : ¬ c.toNat ≠ 92 := by omega
      by_cases hend : i + 1 = s.length
      · have hd0 : s.drop (i + 1) = [] := List.drop_of_length_le (by omega)
        rw [hd0] at hm
        have hu : unB s = none := by rw [hm]; unfold unC; rw [if_neg hc92]; rfl
        rw [hu]
        have ge : (((i + 1 : Nat) : Int) == (s.length : Int)) = true := by rw [hend]; exact beq_self_eq_true _
        simp only [go_sem, simprocAttr, hl, h1, h4, h5, h6, hlt, hc, g92, hw, ge, Option.getD_none, Option.isSome_none, he]
      · have ge : (((i + 1 : Nat) : Int) == (s.length : Int)) = false := by rw [beq_eq_false_iff_ne]; omega
        have hlt1 : i + 1 < s.length := by omega
        obtain ⟨d, hd⟩ : ∃ d, s[i + 1]? = some d := ⟨_, List.getElem?_eq_getElem hlt1⟩
        have hdl := d.toNat_lt
        have hw2 : IntKind.i64.wrap ((i : Int) + 2) = ((i + 2 : Nat) : Int) := by rw [wrap_i64 (by omega)]; omega
        have hw3 : IntKind.i64.wrap ((i : Int) + 3) = ((i + 3 : Nat) : Int) := by rw [wrap_i64 (by omega)]; omega
        have hwb : IntKind.i64.wrap (((i + 1 : Nat) : Int) + 1) = ((i + 2 : Nat) : Int) := by rw [wrap_i64 (by omega)]; omega
        have hwc : IntKind.i64.wrap (((i + 3 : Nat) : Int) + 1) = ((i + 4 : Nat) : Int) := by rw [wrap_i64 (by omega)]; omega
        rw [drop_at hd] at hm
        cases hdd : dig d with
        | false =>
          have e1 : digAt s (i + 1) = false := by rw [digAt_s hd, hdd]
          have hu : unB s = (unB (s.drop (i + 2))).map ((out ++ [d]) ++ ·) := by
            rw [hm]; unfold unC; rw [if_neg hc92]
            simp only [hdd, if_true, Option.bind_some, Option.map_map]
            congr 1; funext x; simp
          have hbs := bsliceU d.toNat
          simp only [go_sem, simprocAttr, hl, h1, h4, h5, h6, hlt, hlt1, hc, hd, g92, hw, ge, hdg, e1, hbs, ↓happ, hs2, hwb]
          exact hfin _ (i + 2) d _ _ (by omega) (by omega) hu (by simp only [go_sem, simprocAttr, he]) (by simp only [go_sem, simprocAttr, hl]) (by simp only [go_sem, simprocAttr, hl, h1]) (by simp only [go_sem, simprocAttr, hl]) (by simp only [go_sem, simprocAttr, hl, h5]) (by simp only [go_sem, simprocAttr, hl])
        | true =>
          have e1 : digAt s (i + 1) = true := by rw [digAt_s hd, hdd]
          have bad : (digAt s (i + 2) && digAt s (i + 3)) = false → unB s = none := by
            intro hb
            rw [hm]; unfold unC; rw [if_neg hc92]
            simp only [hdd, Bool.true_eq_false, if_false]
            cases h2 : s.drop (i + 1 + 1) with
            | nil => rfl
            | cons e r =>
              cases r with
              | nil => rfl
              | cons f r =>
                have k2 : s[i + 2]? = some e := by have := congrArg (·[0]?) h2; simpa using this
                have k3 : s[i + 3]? = some f := by have := congrArg (·[1]?) h2; simpa using this
                rw [digAt_s k2, digAt_s k3] at hb
                simp only [hb, if_true]; rfl
          cases e2 : digAt s (i + 2) with
          | false =>
            have hu := bad (by rw [e2]; rfl)
            rw [hu]
            simp only [go_sem, simprocAttr, hl, h1, h4, h5, h6, hlt, hlt1, hc, hd, g92, hw, hw2, ge, hdg, e1, e2, Option.getD_none, Option.isSome_none, he]
          | true =>
            cases e3 : digAt s (i + 3) with
            | false =>
              have hu := bad (by rw [e2, e3]; rfl)
              rw [hu]
              simp only [go_sem, simprocAttr, hl, h1, h4, h5, h6, hlt, hlt1, hc, hd, g92, hw, hw2, hw3, ge, hdg, e1, e2, e3, Option.getD_none, Option.isSome_none, he]
            | true =>
              have hlt2 : i + 2 < s.length := by
                by_cases h : i + 2 < s.length
                · exact h
                · unfold digAt at e2; rw [List.getElem?_eq_none (by omega)] at e2; cases e2
              have hlt3 : i + 3 < s.length := by
                by_cases h : i + 3 < s.length
                · exact h
                · unfold digAt at e3; rw [List.getElem?_eq_none (by omega)] at e3; cases e3
              obtain ⟨x, hx⟩ : ∃ d, s[i + 2]? = some d := ⟨_, List.getElem?_eq_getElem hlt2⟩
              obtain ⟨y, hy⟩ : ∃ d, s[i + 3]? = some d := ⟨_, List.getElem?_eq_getElem hlt3⟩
              have dx : dig x = true := by rw [digAt_s hx] at e2; exact e2
              have dy : dig y = true := by rw [digAt_s hy] at e3; exact e3
              have rng : ∀ c, dig c = true → 48 ≤ c.toNat ∧ c.toNat ≤ 57 := fun c h => by simpa [dig] using h
              have rd := rng d hdd
              have rx := rng x dx
              have ry := rng y dy
              obtain ⟨D, hD⟩ : ∃ D, D = d.toNat - 48 := ⟨_, rfl⟩
              obtain ⟨X, hX⟩ : ∃ D, D = x.toNat - 48 := ⟨_, rfl⟩
              obtain ⟨Y, hY⟩ : ∃ D, D = y.toNat - 48 := ⟨_, rfl⟩
              have a1 : IntKind.u8.wrap ((d.toNat : Int) - 48) = (D : Int) := by rw [wrap_u8 (by omega)]; omega
              have a2 : IntKind.u8.wrap ((x.toNat : Int) - 48) = (X : Int) := by rw [wrap_u8 (by omega)]; omega
              have a3 : IntKind.u8.wrap ((y.toNat : Int) - 48) = (Y : Int) := by rw [wrap_u8 (by omega)]; omega
              have b1 : IntKind.i64.wrap (D : Int) = (D : Int) := wrap_i64 (by omega)
              have b2 : IntKind.i64.wrap (X : Int) = (X : Int) := wrap_i64 (by omega)
              have b3 : IntKind.i64.wrap (Y : Int) = (Y : Int) := wrap_i64 (by omega)
              have c1 : IntKind.i64.wrap ((D : Int) * 100) = ((D * 100 : Nat) : Int) := by rw [wrap_i64 (by omega)]; omega
              have c2 : IntKind.i64.wrap ((X : Int) * 10) = ((X * 10 : Nat) : Int) := by rw [wrap_i64 (by omega)]; omega
              have c3 : IntKind.i64.wrap (((D * 100 : Nat) : Int) + ((X * 10 : Nat) : Int)) = ((D * 100 + X * 10 : Nat) : Int) := by rw [wrap_i64 (by omega)]; omega
              have c4 : IntKind.i64.wrap (((D * 100 + X * 10 : Nat) : Int) + (Y : Int)) = ((D * 100 + X * 10 + Y : Nat) : Int) := by rw [wrap_i64 (by omega)]; omega
              obtain ⟨N, hN⟩ : ∃ N, N = D * 100 + X * 10 + Y := ⟨_, rfl⟩
              rw [← hN] at c4
              have hun : unC c (d :: s.drop (i + 1 + 1)) = if N > 255 then none else some (UInt8.ofNat N, s.drop (i + 4)) := by
                have k2 : s.drop (i + 1 + 1) = x :: y :: s.drop (i + 4) := by rw [drop_at hx, drop_at hy]
                unfold unC
                rw [if_neg hc92]
                simp only [hdd, Bool.true_eq_false, if_false, k2, dx, dy, Bool.and_self]
                rw [← hD, ← hX, ← hY, ← hN]
              rw [hun] at hm
              by_cases hbig : N > 255
              · have gN : decide ((N : Int) > 255) = true := by simp; omega
                rw [if_pos hbig] at hm
                have hu : unB s = none := hm
                rw [hu]
                simp only [go_sem, simprocAttr, hl, h1, h4, h5, h6, hlt, hlt1, hc, hd, g92, hw, hw2, hw3, ge, hdg, e1, e2, e3]
                refine go_drawZ tFollows (by kernel_rfl) ?_
                simp only [go_sem, simprocAttr, hl, h1, h4, h5, h6, hlt1, hlt2, hlt3, hd, hx, hy, hw, hw2, hw3, a1, a2, a3, b1, b2, b3, c1, c2, c3, c4, gN, Option.getD_none, Option.isSome_none, he]
              · have gN : decide ((N : Int) > 255) = false := by simp; omega
                rw [if_neg hbig] at hm
                have hu : unB s = (unB (s.drop (i + 4))).map ((out ++ [UInt8.ofNat N]) ++ ·) := by
                  rw [hm]
                  simp only [Option.bind_some, Option.map_map]
                  congr 1; funext x; simp
                have wN : IntKind.u8.wrap (N : Int) = ((UInt8.ofNat N).toNat : Int) := by rw [UInt8.toNat_ofNat', wrap_u8 (by omega)]; omega
                have hbs := bsliceU (UInt8.ofNat N).toNat
                simp only [go_sem, simprocAttr, hl, h1, h4, h5, h6, hlt, hlt1, hc, hd, g92, hw, hw2, hw3, ge, hdg, e1, e2, e3]
                refine go_drawZ tFollows (by kernel_rfl) ?_
                simp only [go_sem, simprocAttr, hl, h1, h4, h5, h6, hlt1, hlt2, hlt3, hd, hx, hy, hw, hw2, hw3, a1, a2, a3, b1, b2, b3, c1, c2, c3, c4, gN, wN, hbs, ↓happ, hs2, hwc]
                exact hfin _ (i + 4) (UInt8.ofNat N) _ _ (by omega) (by omega) hu (by simp only [go_sem, simprocAttr, he]) (by simp only [go_sem, simprocAttr, hl]) (by simp only [go_sem, simprocAttr, hl, h1]) (by simp only [go_sem, simprocAttr, hl]) (by simp only [go_sem, simprocAttr, hl, h5]) (by simp only [go_sem, simprocAttr, hl])
    · have g92 : ((c.toNat : Int) != 92) = true := by simp; omega
      have hu : unB s = (unB (s.drop (i + 1))).map ((out ++ [c]) ++ ·) := by
        rw [hm]; unfold unC; rw [if_pos h92]
        simp only [Option.bind_some, Option.map_map]
        congr 1; funext x; simp
      have hbs := bsliceU c.toNat
      simp only [go_sem, simprocAttr, hl, h1, h4, h5, h6, hlt, hc, g92, hbs, ↓happ, hs2, hw]
      exact hfin _ (i + 1) c _ _ (by omega) (by omega) hu (by simp only [go_sem, simprocAttr, he]) (by simp only [go_sem, simprocAttr, hl]) (by simp only [go_sem, simprocAttr, hl, h1]) (by simp only [go_sem, simprocAttr, hl]) (by simp only [go_sem, simprocAttr, hl, h5]) (by simp only [go_sem, simprocAttr, hl])
  · have hi : i = s.length := by omega
    subst hi
    rw [List.drop_length, unB_nil] at hm
    have hu : unB s = some out := by rw [hm]; simp
    rw [hu]
    have hcv : evConv Tryz.prog 52 9 (.slice (H.length + 1) 0 out.length (.ex s.length)) (H ++ (.cells [.str s] 9 .rw :: .cells (rowB out s.length) 5 .rw :: T)) = some (.str out, H ++ (.cells [.str s] 9 .rw :: .cells (rowB out s.length) 5 .rw :: T)) := by
      have hv : Rd (H ++ (.cells [.str s] 9 .rw :: .cells (rowB out s.length) 5 .rw :: T)) (.slice (H.length + 1) 0 out.length (.ex s.length)) out := by
        refine .inr ⟨H.length + 1, 0, _, [], u8s (List.replicate (s.length - out.length) 0), 5, .rw, rfl, rfl, ?_, .inl ⟨_, rfl, ho⟩⟩
        rw [hp_new]
        simp [rowB, u8s_app]
      exact hv.v.str
    simp only [go_sem, simprocAttr, hl, h1, h4, h5, h6, hlt, hcv, Option.getD_some, Option.isSome_some, he]
end Go.Proofs.YtgkpgpdkolpfkaaGreatDoor.V
namespace Go.Proofs.YtgkpgpdkolpfkaaGreatDoor.V
open Go
attribute [local irreducible] go goOps goD opK callK callT stepK leaveTo nextK

def Lv (H : Hp) (v : AV) (L : List (List UInt8)) : Prop := (v = .nils ∧ L = []) ∨ ∃ b c e k, v = .slice b 0 L.length c ∧ H[b]? = some (.cells (strs L) e k)
theorem Lv.old {H : Hp} {v : AV} {L : List (List UInt8)} (h : Lv H v L) (l : Hp) : Lv (H ++ l) v L := by
  obtain h | ⟨b, c, e, k, h1, h2⟩ := h
  · exact .inl h
  · exact .inr ⟨b, c, e, k, h1, get_app h2⟩
theorem Lv.len {H : Hp} {v : AV} {L : List (List UInt8)} (h : Lv H v L) (H' : Hp) : evLen Tryz.prog 38 v H' = some (.int .i64 L.length) := by
  obtain ⟨rfl, rfl⟩ | ⟨b, c, e, k, rfl, _⟩ := h
  · simp only [evLen, tsh_38]; rfl
  · simp only [evLen, tsh_38]
theorem GBuf.lv {H T : Hp} {v : AV} {L : List (List UInt8)} (h : GBuf H.length T v 9 1 L.length (strs L)) : Lv (H ++ T) v L := by
  obtain ⟨rfl, h2, h3⟩ | ⟨h1, h2, m, rfl, h3⟩ := h
  · exact .inl ⟨rfl, List.length_eq_zero_iff.1 h3⟩
  · exact .inr ⟨_, _, _, _, rfl, by rw [hp_new]; exact h3⟩
theorem leave_sum {v : Int} {kd : IntKind} {H T : Hp} : leave (List.length H + List.length T) (.int kd v) (H ++ T) z0 = (.int kd v, H ++ T, z0) := by
  rw [← List.length_append]
  exact leave_flat0 rfl ⟨rfl, rfl⟩
theorem b_len (H T : Hp) (j : Nat) (bs : List UInt8) (hb : Bld H.length T j bs) (k) : callK Tryz.prog 78 [.ptr (H.length + j) 0] (H ++ T) k = k (.int .i64 bs.length, H ++ T, z0) := by
  obtain ⟨p, v, hj, hp, hv⟩ := hb
  have hlen := hv.len
  refine callK_eq (r := (.int .i64 bs.length, H ++ T, z0)) ?_ k
  refine callK_start (n := 8) (rs := [.tmp 2]) Tryz.func78 rfl rfl rfl ?_
  intro σ hl ha
  have h0 := ha 0 (by simp)
  clear ha
  simp only [Option.getD_some, List.getElem?_cons_zero, List.getElem?_cons_succ] at h0
  simp only [go_sem, simprocAttr, hl, h0, hj, hlen, leave_sum]
theorem b_lit (H T : Hp) (j : Nat) (bs : List UInt8) (hb : Bld H.length T j bs) (c : UInt8) (n : Int) (hn : n = c.toNat) (hf : bs.length ≤ 1000000) :
    ∃ T' e, Bld H.length T' j (bs ++ [c]) ∧ Keep T j T' ∧ clean H.length e ∧ ∀ k, callK Tryz.prog 16 [.ptr (H.length + j) 0, .int .u8 n] (H ++ T) k = k (.nili, H ++ T', e) := by
  obtain ⟨T', e, h1, h2, h3, h4⟩ := b_wlit H T j bs c n hn hb (by simp only [fits, decide_eq_true_eq]; omega)
  exact ⟨T', e, h1, h2, h3.cln, h4⟩
theorem b_wst (H T : Hp) (j : Nat) (bs : List UInt8) (hb : Bld H.length T j bs) (s : List UInt8) (hs : 0 < s.length) (hf : bs.length + s.length ≤ 1000000000) :
    ∃ T' e, Bld H.length T' j (bs ++ s) ∧ Keep T j T' ∧ clean H.length e ∧ ∀ k, callK Tryz.prog 32 [.ptr (H.length + j) 0, .str s] (H ++ T) k = k (.tuple [.int .i64 s.length, .nili], H ++ T', e) := by
  obtain ⟨T', e, h1, h2, h3, h4⟩ := b_wstr H T j bs s hb hs (by simp only [fits, decide_eq_true_eq]; omega)
  exact ⟨T', e, h1, h2, h3.cln, h4⟩
theorem any_take {L : List (List UInt8)} {i : Nat} {l : List UInt8} (h : L[i]? = some l) (ha : (L.take i).any badL = false) (hl : badL l = false) : (L.take (i + 1)).any badL = false := by
  rw [take_snoc h, List.any_append, ha]; simp [hl]
theorem tot_takes {L : List (List UInt8)} {i : Nat} {l : List UInt8} (h : L[i]? = some l) : tot (L.take (i + 1)) = tot (L.take i) + (1 + l.length) := by
  rw [take_snoc h, tot_snoc]
set_option maxRecDepth 20000 in
set_option maxHeartbeats 2000000 in
theorem name_Of (L : List (List UInt8)) (v : AV) (H k) (hv : Lv H v L) (hL : L.length ≤ 2000000) (hx : ∀ l ∈ L, l.length ≤ 1048576) : callK Tryz.prog 94 [v] H k = k (.tuple [.str (ofS L).1, .int .i64 ((ofS L).2 : Nat)], H, z0) := by
  refine callK_eq (r := (.tuple [.str (ofS L).1, .int .i64 ((ofS L).2 : Nat)], H, z0)) ?_ k
  refine callK_start (n := 42) (rs := [.tmp 2, .tmp 3]) Tryz.func94 rfl rfl rfl ?_
  intro σ hl ha
  have h0 := ha 0 (by simp)
  clear ha
  simp only [Option.getD_some, List.getElem?_cons_zero, List.getElem?_cons_succ] at h0
  have hlen := hv.len
  have hb0 : Bld H.length [.cells [.nilp, .nils] 54 .rw] 0 (nameB (L.take 0)) := ⟨_, _, rfl, .inl rfl, .inl ⟨rfl, rfl⟩⟩
  simp only [go_sem, simprocAttr, hl, h0, hlen]
  refine go_rounds (fun n st => ∃ σ i bs lg T e, n + i = L.length ∧ (L.take i).any badL = false ∧ ((lg = false ∧ bs = nameB (L.take i) ∧ tot (L.take i) + 1 ≤ 255) ∨ (lg = true ∧ 255 < tot (L.take i) + 1)) ∧ bs.length ≤ 255 ∧ st = ⟨σ, H ++ T, e⟩ ∧ Bld H.length T 0 bs ∧ clean H.length e ∧ σ.length = 42 ∧ fr σ 4 = .ptr H.length 0 ∧ fr σ 5 = .bool lg ∧ fr σ 8 = v ∧ fr σ 9 = .int .i64 L.length ∧ fr σ 10 = .int .i64 (i : Nat)) L.length
    ⟨_, 0, _, false, _, _, rfl, rfl, .inl ⟨rfl, rfl, by simp [tot]⟩, by simp [nameB], rfl, hb0, ⟨rfl, rfl⟩, by simp only [go_sem, simprocAttr, hl], by simp only [go_sem, simprocAttr, hl], by simp only [go_sem, simprocAttr, hl], by simp only [go_sem, simprocAttr, hl, h0], by simp only [go_sem, simprocAttr, hl], by simp only [go_sem, simprocAttr, hl]⟩ ?_
  rintro n _ ⟨σ, i, bs, lg, T, e, hi, hany, hlg, hbs, rfl, hb, he, hl, h4, h5, h8, h9, h10⟩
  have bl := fun k => b_len H T 0 bs hb k
  simp only [Nat.add_zero] at bl
  by_cases hlt : i < L.length
  · obtain ⟨l, hli⟩ : ∃ l, L[i]? = some l := ⟨_, List.getElem?_eq_getElem hlt⟩
    have hlm := hx l (List.mem_of_getElem? hli)
    have hw := wrap_succ (show i < 9223372036854775807 by omega)
    have hld := strs_ld hli
    have htk := tot_takes hli
    obtain ⟨rfl, h3'⟩ | ⟨b, c, ee, kd, rfl, hg⟩ := hv
    · rw [h3'] at hlt; simp at hlt
    have hgT := fun T' : Hp => get_app (l := T') hg
    by_cases hz : l = []
    · have hbad : L.any badL = true := List.any_eq_true.2 ⟨l, List.mem_of_getElem? hli, by rw [hz]; rfl⟩
      have ho : ofS L = ([], 10) := if_pos hbad
      rw [ho]
      have g0 : (l == []) = true := by rw [hz]; rfl
      simp only [go_sem, simprocAttr, hl, h4, h5, h8, h9, h10, hlt, hgT, hld, g0, he]
    have g0 : (l == []) = false := by rw [beq_eq_false_iff_ne]; exact hz
    have hlp : 0 < l.length := List.length_pos_iff.2 hz
    by_cases h63 : 63 < l.length
    · have hbad : L.any badL = true := List.any_eq_true.2 ⟨l, List.mem_of_getElem? hli, by unfold badL; simp [h63]⟩
      have ho : ofS L = ([], 10) := if_pos hbad
      rw [ho]
      have g1 : decide ((l.length : Int) > 63) = true := by simp; omega
      simp only [go_sem, simprocAttr, hl, h4, h5, h8, h9, h10, hlt, hgT, hld, g0, g1, he]
    have g1 : decide ((l.length : Int) > 63) = false := by simp; omega
    have hbl : badL l = false := by simp only [badL, Bool.or_eq_false_iff, beq_eq_false_iff_ne, decide_eq_false_iff_not]; omega
    have hany' := any_take hli hany hbl
    rcases hlg with ⟨rfl, hbs', htot⟩ | ⟨rfl, htot⟩
    · have hbl2 : bs.length = tot (L.take i) := by rw [hbs', nameB_len]
      have w1 : IntKind.i64.wrap ((bs.length : Int) + (l.length : Int)) = ((bs.length + l.length : Nat) : Int) := by rw [wrap_i64 (by omega)]; omega
      have w2 : IntKind.i64.wrap (((bs.length + l.length : Nat) : Int) + 2) = ((bs.length + (l.length + 2) : Nat) : Int) := by rw [wrap_i64 (by omega)]; omega
      by_cases hbig : bs.length + l.length + 2 > 255
      · have g2 : decide (((bs.length + (l.length + 2) : Nat) : Int) > 255) = true := by simp; omega
        simp only [go_sem, simprocAttr, hl, h4, h5, h8, h9, h10, hlt, hgT, hld, g0, g1, bl, w1, w2, g2, hw]
        exact ⟨n - 1, by omega, _, i + 1, bs, true, T, _, by omega, hany', .inr ⟨rfl, by omega⟩, hbs, rfl, hb, by simp only [go_sem, simprocAttr, he], by simp only [go_sem, simprocAttr, hl], by simp only [go_sem, simprocAttr, hl, h4], by simp only [go_sem, simprocAttr, hl], by simp only [go_sem, simprocAttr, hl, h8], by simp only [go_sem, simprocAttr, hl, h9], by simp only [go_sem, simprocAttr, hl]⟩
      · have g2 : decide (((bs.length + (l.length + 2) : Nat) : Int) > 255) = false := by simp; omega
        have w3 : IntKind.u8.wrap (l.length : Int) = ((UInt8.ofNat l.length).toNat : Int) := by rw [UInt8.toNat_ofNat', wrap_u8 (by omega)]; omega
        obtain ⟨T1, e1, b1, k1, c1, r1⟩ := b_lit H T 0 bs hb (UInt8.ofNat l.length) _ rfl (by omega)
        obtain ⟨T2, e2, b2, k2, c2, r2⟩ := b_wst H T1 0 _ b1 l hlp (by simp; omega)
        simp only [Nat.add_zero] at r1 r2
        simp only [go_sem, simprocAttr, hl, h4, h5, h8, h9, h10, hlt, hgT, hld, g0, g1, bl, w1, w2, w3, g2, hw, r1, r2]
        exact ⟨n - 1, by omega, _, i + 1, _, false, T2, _, by omega, hany', .inl ⟨rfl, by rw [nameB_snoc hli, ← hbs']; simp, by omega⟩, by simp; omega, rfl, b2, by simp only [go_sem, simprocAttr, he, c1, c2], by simp only [go_sem, simprocAttr, hl], by simp only [go_sem, simprocAttr, hl, h4], by simp only [go_sem, simprocAttr, hl], by simp only [go_sem, simprocAttr, hl, h8], by simp only [go_sem, simprocAttr, hl, h9], by simp only [go_sem, simprocAttr, hl]⟩
    · simp only [go_sem, simprocAttr, hl, h4, h5, h8, h9, h10, hlt, hgT, hld, g0, g1, hw]
      exact ⟨n - 1, by omega, _, i + 1, bs, true, T, _, by omega, hany', .inr ⟨rfl, by omega⟩, hbs, rfl, hb, by simp only [go_sem, simprocAttr, he], by simp only [go_sem, simprocAttr, hl], by simp only [go_sem, simprocAttr, hl, h4], by simp only [go_sem, simprocAttr, hl, h5], by simp only [go_sem, simprocAttr, hl, h8], by simp only [go_sem, simprocAttr, hl, h9], by simp only [go_sem, simprocAttr, hl]⟩
  · have hiL : i = L.length := by omega
    subst hiL
    rw [List.take_length] at hany hlg
    rcases hlg with ⟨rfl, rfl, htot⟩ | ⟨rfl, htot⟩
    · have ho : ofS L = (nameOf L, 0) := by unfold ofS; rw [hany, if_neg (by simp), if_neg (by omega)]
      rw [ho]
      obtain ⟨T1, e1, b1, k1, c1, r1⟩ := b_lit H T 0 _ hb 0 0 rfl (by omega)
      obtain ⟨T2, e2, k2, c2, r2⟩ := b_stringK H T1 0 _ b1 (by simp; omega)
      simp only [Nat.add_zero] at r1 r2
      simp only [go_sem, simprocAttr, hl, h4, h5, h8, h9, h10, hlt, r1, r2]
      exact leave_flat (by simp [flat, flats]) (by simp only [go_sem, simprocAttr, he, c1, c2])
    · have ho : ofS L = ([], 2) := by unfold ofS; rw [hany, if_neg (by simp), if_pos htot]
      rw [ho]
      simp only [go_sem, simprocAttr, hl, h4, h5, h8, h9, h10, hlt, he]
end Go.Proofs.YtgkpgpdkolpfkaaGreatDoor.V
namespace Go.Proofs.YtgkpgpdkolpfkaaGreatDoor.V
open Go
attribute [local irreducible] go goOps goD opK callK callT stepK leaveTo nextK

theorem scan_cons (p c : UInt8) (r : List UInt8) : scan p (c :: r) = if c = p then 0 else if c = 92 then 2 + scan p r.tail else 1 + scan p r := by
  cases r with
  | nil => simp only [scan, List.tail_nil, Nat.add_zero]
  | cons d r => simp only [scan, List.tail_cons]
theorem scan_drop (p : UInt8) {s : List UInt8} {i : Nat} {c : UInt8} (h : s[i]? = some c) : scan p (s.drop i) = if c = p then 0 else if c = 92 then 2 + scan p (s.drop (i + 2)) else 1 + scan p (s.drop (i + 1)) := by
  rw [drop_at h, scan_cons, List.tail_drop]
theorem unB_len : ∀ (n : Nat) (s : List UInt8), s.length ≤ n → ∀ r, unB s = some r → r.length ≤ s.length
  | _, [], _, r, h => by rw [unB_nil] at h; cases h; exact Nat.le_refl _
  | 0, c :: s, hn, r, h => by simp at hn
  | n + 1, c :: s, hn, r, h => by
    rw [unB_cons, Option.bind_eq_some_iff] at h
    obtain ⟨⟨b, t⟩, h1, h2⟩ := h
    rw [Option.map_eq_some_iff] at h2
    obtain ⟨u, h3, rfl⟩ := h2
    have h4 := unC_lt h1
    have := unB_len n t (by simp at hn; omega) u h3
    simp only [List.length_cons]
    omega
theorem lblE_len (x : List UInt8) : (lblE x).1.length ≤ x.length := by
  unfold lblE
  cases h : unB x with
  | none => exact Nat.zero_le _
  | some l => exact unB_len _ x (Nat.le_refl _) l h
set_option maxRecDepth 20000 in
set_option maxHeartbeats 2000000 in
theorem name_piece (s : List UInt8) (L1 : List (List UInt8)) (v : AV) (frm to : Nat) (H T : Hp) (t0 : T[0]? = some (.cells [.str s] 9 .rw)) (t1 : T[1]? = some (.cells [v] 38 .rw)) (t2 : T[2]? = some (.cells [.int .i64 (frm : Nat)] 3 .rw))
    (hB : GBuf H.length T v 9 1 L1.length (strs L1)) (hft : frm ≤ to) (hto : to ≤ s.length) (hs : s.length ≤ 1048576) (hL : L1.length ≤ 1048576) :
    ∃ T' v' e', T'[0]? = some (.cells [.str s] 9 .rw) ∧ T'[1]? = some (.cells [v'] 38 .rw) ∧ T'[2]? = some (.cells [.int .i64 (to + 1 : Nat)] 3 .rw) ∧ GBuf H.length T' v' 9 1 (L1.length + 1) (strs (L1 ++ [(lblE ((s.drop frm).take (to - frm))).1])) ∧ Cl H.length 1 e' ∧
      ∀ k, callK Tryz.prog 93 [.int .i64 (to : Nat), .ptr H.length 0, .ptr (H.length + 2) 0, .ptr (H.length + 1) 0] (H ++ T) k = k (.int .i64 ((lblE ((s.drop frm).take (to - frm))).2 : Nat), H ++ T', e') := by
  obtain ⟨x, hx⟩ : ∃ x, x = (s.drop frm).take (to - frm) := ⟨_, rfl⟩
  have hxl : x.length ≤ 1048576 := by rw [hx, List.length_take, List.length_drop]; omega
  rw [← hx]
  have hby := fun k => name_Bytes x (H ++ T) k hxl
  obtain ⟨l, hl0⟩ : ∃ l, l = (lblE x).1 := ⟨_, rfl⟩
  obtain ⟨v', T2, e2, happ, hlen2, hcl2, hkp, hv3, hfl, hvc, _⟩ := (hB.more [.cells [.str l] 9 .rw]).app2 (P := Tryz.prog) (b := 16) (by decide) zok_38 [.str l] 1 (by decide) rfl rfl (by simp only [fits, decide_eq_true_eq]; omega)
  have k0 : T2[0]? = some (.cells [.str s] 9 .rw) := hkp 0 _ (get_app t0) (by intro c fz st h; injection h with _ _ h; cases h)
  have k1 : T2[1]? = some (.cells [v] 38 .rw) := hkp 1 _ (get_app t1) (by intro c fz st h; injection h with _ _ h; cases h)
  have k2 : T2[2]? = some (.cells [.int .i64 (frm : Nat)] 3 .rw) := hkp 2 _ (get_app t2) (by intro c fz st h; injection h with _ _ h; cases h)
  have l1 := lt_of_get k1
  have l2 := lt_of_get k2
  have hscl : scal v' = true := hv3.scl
  have hst : l = (unB x).getD [] := by rw [hl0]; unfold lblE; cases unB x <;> rfl
  have hcl : Cl H.length 1 (((z0.and e2).and ⟨some (H.length + 1), some (H.length + 1)⟩).and ⟨none, some (H.length + 2)⟩) := .andl (.andr (clean_and ⟨rfl, rfl⟩ hcl2) ⟨_, rfl, by omega, by omega, by simp [low]⟩) (clean_w (by omega))
  obtain ⟨e', hE, hleave⟩ := hcl.leave (m := H.length + T.length) (by have := lt_of_get t1; omega)
  rw [Ef.z0_and] at hleave
  refine ⟨(T2.set 1 (.cells [v'] 38 .rw)).set 2 (.cells [.int .i64 (to + 1 : Nat)] 3 .rw), v', e', by simp [k0], by simp [l1], by simp [l2], ?_, hE, fun k => ?_⟩
  · have := (hv3.set (x := .cells [v'] 38 .rw) k1).set (j := 2) (x := .cells [.int .i64 (to + 1 : Nat)] 3 .rw) (by rw [List.getElem?_set_ne (by decide)]; exact k2)
    rw [← hl0]
    simpa [strs] using this
  refine callK_eq ?_ k
  refine callK_start (n := 34) (rs := [.tmp 5]) Tryz.func93 rfl rfl rfl ?_
  intro σ hl ha
  have h0 := ha 0 (by simp)
  have h1 := ha 1 (by simp)
  have h2 := ha 2 (by simp)
  have h3 := ha 3 (by simp)
  clear ha
  simp only [Option.getD_some, List.getElem?_cons_zero, List.getElem?_cons_succ] at h0 h1 h2 h3
  have hw := wrap_succ (show to < 9223372036854775807 by omega)
  have b1 : (frm : Int) ≤ (to : Int) := by omega
  have b2 : (to : Int) ≤ (s.length : Int) := by omega
  have hbs := bslice_str l
  have hg1 : ∀ y, (T2.set 1 y)[2]? = some (.cells [.int .i64 (frm : Nat)] 3 .rw) := fun y => by rw [List.getElem?_set_ne (by decide)]; exact k2
  cases hu : unB x with
  | none =>
    have hc : (lblE x).2 = 12 := by unfold lblE; rw [hu]
    rw [hu] at hby hst
    simp only [Option.getD_none, Option.isSome_none, Bool.false_eq_true, if_false] at hby hst
    subst hst
    rw [hc]
    simp only [go_sem, simprocAttr, hl, h0, h1, h2, h3, t0, t1, t2, b1, b2, hx.symm, hby, hbs, ↓happ, k0, k1, k2, hvc, hscl, hfl, hg1, hw]
    exact hleave _ _
  | some y =>
    rw [hu] at hby hst
    simp only [Option.getD_some, Option.isSome_some, if_true] at hby hst
    subst hst
    by_cases hz : l = []
    · have hc : (lblE x).2 = 10 := by unfold lblE; rw [hu]; simp only; rw [hz]; rfl
      rw [hc]
      have g0 : (l == []) = true := by rw [hz]; rfl
      simp only [go_sem, simprocAttr, hl, h0, h1, h2, h3, t0, t1, t2, b1, b2, hx.symm, hby, hbs, ↓happ, k0, k1, k2, hvc, hscl, hfl, hg1, hw, g0]
      exact hleave _ _
    · have g0 : (l == []) = false := by rw [beq_eq_false_iff_ne]; exact hz
      have hlp : 0 < l.length := List.length_pos_iff.2 hz
      by_cases h63 : 63 < l.length
      · have hc : (lblE x).2 = 10 := by unfold lblE; rw [hu]; simp only; rw [if_pos]; unfold badL; simp [h63]
        rw [hc]
        have g1 : decide ((l.length : Int) > 63) = true := by simp; omega
        simp only [go_sem, simprocAttr, hl, h0, h1, h2, h3, t0, t1, t2, b1, b2, hx.symm, hby, hbs, ↓happ, k0, k1, k2, hvc, hscl, hfl, hg1, hw, g0, g1]
        exact hleave _ _
      · have hc : (lblE x).2 = 0 := by unfold lblE; rw [hu]; simp only; rw [if_neg]; simp only [badL, Bool.or_eq_true, beq_iff_eq, decide_eq_true_eq]; omega
        rw [hc]
        have g1 : decide ((l.length : Int) > 63) = false := by simp; omega
        simp only [go_sem, simprocAttr, hl, h0, h1, h2, h3, t0, t1, t2, b1, b2, hx.symm, hby, hbs, ↓happ, k0, k1, k2, hvc, hscl, hfl, hg1, hw, g0, g1]
        exact hleave _ _
theorem GBuf.app0 {P : Program} {H T : Hp} {v : AV} {e z b len : Nat} {cs : List AV} (h : GBuf H.length T v e z len cs) (hp : 0 < len) (hz : decide (0 < z) = true) (hk : zok P e z = true) :
    ∃ w, (∀ kk, stepK (appTo P (.slice e z b) v ([], 0) (H ++ T)) kk = kk (v, H ++ T, ⟨none, some w⟩)) ∧ H.length ≤ w := by
  obtain ⟨rfl, h2, h3⟩ | ⟨h1, h2, m, rfl, h3⟩ := h
  · omega
  · refine ⟨H.length + m, fun kk => ?_, by omega⟩
    rw [appTo_op hz hk, hp_new, h3, bindK_some, appO_c]
    have g : decide (0 + (len + 0) * z ≤ cs.length) = true := by simp [h2]
    rw [g, guardK_tt]
    have hw : wr (H ++ T) (H.length + m) (0 + len * z) [] = some (H ++ T, ⟨none, some (H.length + m)⟩) := by
      unfold wr
      rw [hp_new, h3]
      simp only
      have e1 : splice cs (0 + len * z) [] = cs := by unfold splice; simp
      rw [if_pos ⟨by simp [h2], by simp [canWr], rfl⟩, e1, hp_set, set_get h3]
      simp only [flats, if_true]
    rw [hw, bindK_some]
    simp only [Nat.add_zero, Nat.zero_mul, Nat.zero_add, h2]
    exact propext ⟨fun h => h.2, fun h => ⟨⟨trivial, trivial, Nat.le_refl _⟩, h⟩⟩
theorem quiet_g4 {v : AV} {H T l : Hp} {x : ABlk} {e : Ef} : quiet (v, H ++ (T ++ x :: l), e) (H ++ T) = false := by simp [quiet]
theorem mem_totS {l : List UInt8} : ∀ {L : List (List UInt8)}, l ∈ L → l.length ≤ totS L
  | m :: L, h => by
    have e : totS (m :: L) = m.length + totS L := by simp [totS]
    rcases List.mem_cons.1 h with rfl | h
    · omega
    · have := mem_totS h; omega
theorem map_map_ok {α β γ : Type} {x : Except Nat α} {f : α → β} {g : β → γ} : (x.map f).map g = x.map fun a => g (f a) := by cases x <;> rfl
theorem map_err {α β : Type} {e : Nat} {f : α → β} : (Except.error e : Except Nat α).map f = .error e := rfl
theorem map_ok {α β : Type} {a : α} {f : α → β} : (Except.ok a : Except Nat α).map f = .ok (f a) := rfl
set_option maxRecDepth 20000 in
set_option maxHeartbeats 4000000 in
theorem name_Parse (s o : List UInt8) (H k) (hs : s.length ≤ 1048576) (ho : o.length ≤ 1048576) : callK Tryz.prog 73 [.str s, .str o] H k = k (.tuple [.str (nameS s o).1, .int .i64 ((nameS s o).2 : Nat)], H, z0) := by
  refine callK_eq (r := (.tuple [.str (nameS s o).1, .int .i64 ((nameS s o).2 : Nat)], H, z0)) ?_ k
  refine callK_start (n := 62) (rs := [.tmp 4, .tmp 5]) Tryz.func73 rfl rfl rfl ?_
  intro σ hl ha
  have h0 := ha 0 (by simp)
  have h1 := ha 1 (by simp)
  clear ha
  simp only [Option.getD_some, List.getElem?_cons_zero, List.getElem?_cons_succ] at h0 h1
  have hck := fun H' k => name_Check o H' k (by show _ ≤ 9223372036854775807; omega)
  cases ho2 : nm o with
  | none =>
    have hn : nameS s o = ([], 11) := by unfold nameS; rw [ho2]
    rw [hn]
    rw [ho2] at hck
    simp only [Option.isSome_none, Bool.false_eq_true, if_false] at hck
    simp only [go_sem, simprocAttr, hl, h0, h1, hck]
  | some K =>
  rw [ho2] at hck
  simp only [Option.isSome_some, if_true] at hck
  by_cases hd : s = [46]
  · have hn : nameS s o = ([0], 0) := by unfold nameS; rw [ho2]; exact if_pos hd
    rw [hn]
    subst hd
    simp only [go_sem, simprocAttr, hl, h0, h1, hck]
  have hne : (s == [46]) = false := by rw [beq_eq_false_iff_ne]; exact hd
  have hn : nameS s o = match parsS true s with | .error e => ([], e) | .ok (L, b) => ofS (if b = true then L ++ K else L) := by unfold nameS; rw [ho2]; exact if_neg hd
  rw [hn]
  simp only [go_sem, simprocAttr, hl, h0, h1, hck, hne]
  refine go_rounds (fun n st => ∃ σ i frm L1 v T e, n + i = s.length + 1 ∧ frm ≤ i ∧ frm ≤ s.length ∧ parsS true s = (parsS (decide (frm = 0)) (s.drop frm)).map (fun r => (L1 ++ r.1, r.2)) ∧ (L1 = [] → frm = 0) ∧ L1.length ≤ frm ∧ totS L1 ≤ frm ∧ frm + scan 46 (s.drop frm) = i + scan 46 (s.drop i) ∧
      T[0]? = some (.cells [.str s] 9 .rw) ∧ T[1]? = some (.cells [v] 38 .rw) ∧ T[2]? = some (.cells [.int .i64 (frm : Nat)] 3 .rw) ∧ GBuf H.length T v 9 1 L1.length (strs L1) ∧ st = ⟨σ, H ++ T, e⟩ ∧ clean H.length e ∧ σ.length = 62 ∧ fr σ 1 = .str o ∧ fr σ 2 = .ptr H.length 0 ∧ fr σ 6 = .ptr (H.length + 1) 0 ∧ fr σ 7 = .ptr (H.length + 2) 0 ∧ fr σ 8 = .func (.func 93) [] [.ptr H.length 0, .ptr (H.length + 2) 0, .ptr (H.length + 1) 0] ∧ fr σ 9 = .int .i64 (i : Nat)) (s.length + 1)
    ⟨_, 0, 0, [], .nils, [.cells [.str s] 9 .rw, .cells [.nils] 38 .rw, .cells [.int .i64 0] 3 .rw], _, rfl, Nat.le_refl _, Nat.zero_le _, by cases h : parsS true s <;> simp [h, Except.map], fun _ => rfl, Nat.le_refl _, by simp [totS], rfl, rfl, rfl, rfl, .inl ⟨rfl, rfl, rfl⟩, rfl, by simp only [go_sem, simprocAttr], by simp only [go_sem, simprocAttr, hl], by simp only [go_sem, simprocAttr, hl, h1], by simp only [go_sem, simprocAttr, hl], by simp only [go_sem, simprocAttr, hl], by simp only [go_sem, simprocAttr, hl], by simp only [go_sem, simprocAttr, hl], by simp only [go_sem, simprocAttr, hl]⟩ ?_
  rintro n _ ⟨σ, i, frm, L1, v, T, e, hni, hfi, hfs, hp, hLf, hLl, hLt, hsc, t0, t1, t2, hB, rfl, he, hl, h1, h2, h6, h7, h8, h9⟩
  by_cases hlt : i < s.length
  · obtain ⟨c, hc⟩ : ∃ c, s[i]? = some c := ⟨_, List.getElem?_eq_getElem hlt⟩
    have hcl := c.toNat_lt
    rw [scan_drop 46 hc] at hsc
    have hw := wrap_succ (show i < 9223372036854775807 by omega)
    have hw2 : IntKind.i64.wrap (((i + 1 : Nat) : Int) + 1) = ((i + 2 : Nat) : Int) := by rw [wrap_i64 (by omega)]; omega
    by_cases c92 : c.toNat = 92
    · have e1 : c = 92 := UInt8.toNat.inj c92
      have g92 : ((c.toNat : Int) == 92) = true := by simp; omega
      rw [if_neg (by rw [e1]; decide), if_pos e1] at hsc
      simp only [go_sem, simprocAttr, hl, h1, h2, h6, h7, h8, h9, t0, hlt, hc, g92, hw, hw2]
      exact ⟨n - 2, by omega, _, i + 2, frm, L1, v, T, e, by omega, by omega, hfs, hp, hLf, hLl, hLt, by omega, t0, t1, t2, hB, rfl, he, by simp only [go_sem, simprocAttr, hl], by simp only [go_sem, simprocAttr, hl, h1], by simp only [go_sem, simprocAttr, hl, h2], by simp only [go_sem, simprocAttr, hl, h6], by simp only [go_sem, simprocAttr, hl, h7], by simp only [go_sem, simprocAttr, hl, h8], by simp only [go_sem, simprocAttr, hl]⟩
    · have g92 : ((c.toNat : Int) == 92) = false := by simp; omega
      have e92 : c ≠ 92 := u8_ne (n := 92) (by omega) c92
      by_cases c46 : c.toNat = 46
      · have e1 : c = 46 := UInt8.toNat.inj c46
        have g46 : ((c.toNat : Int) == 46) = true := by simp; omega
        rw [if_pos e1] at hsc
        obtain ⟨x, hx⟩ : ∃ x, x = (s.drop frm).take (i - frm) := ⟨_, rfl⟩
        have hk : scan 46 (s.drop frm) = i - frm := by omega
        rw [parsS_eq _ (s.drop frm), hk, if_pos (by rw [List.length_drop]; omega), ← hx, List.drop_drop, show frm + (i - frm + 1) = i + 1 by omega] at hp
        obtain ⟨T', v', e', p0, p1, p2, pB, pc, pr⟩ := name_piece s L1 v frm i H T t0 t1 t2 hB hfi (by omega) hs (by omega)
        have pc := pc.cln
        rw [← hx] at pB pr
        have hxl : x.length = i - frm := by rw [hx, List.length_take, List.length_drop]; omega
        have hll := lblE_len x
        by_cases hc0 : (lblE x).2 = 0
        · rw [if_pos hc0, map_map_ok] at hp
          have pr : ∀ k, callK Tryz.prog 93 [.int .i64 (i : Nat), .ptr H.length 0, .ptr (H.length + 2) 0, .ptr (H.length + 1) 0] (H ++ T) k = k (.int .i64 0, H ++ T', e') := by rw [hc0] at pr; exact pr
          simp only [go_sem, simprocAttr, hl, h1, h2, h6, h7, h8, h9, t0, hlt, hc, g92, g46, hw, pr]
          refine ⟨n - 1, by omega, _, i + 1, i + 1, L1 ++ [(lblE x).1], v', T', _, by omega, Nat.le_refl _, by omega, ?_, by simp, by simp; omega, by rw [totS_app]; simp [totS] at hLt ⊢; omega, rfl, p0, p1, p2, by simpa using pB, rfl, by simp only [go_sem, simprocAttr, he, pc], by simp only [go_sem, simprocAttr, hl], by simp only [go_sem, simprocAttr, hl, h1], by simp only [go_sem, simprocAttr, hl, h2], by simp only [go_sem, simprocAttr, hl, h6], by simp only [go_sem, simprocAttr, hl, h7], by simp only [go_sem, simprocAttr, hl, h8], by simp only [go_sem, simprocAttr, hl]⟩
          rw [hp, show decide (i + 1 = 0) = false by simp]
          congr 1; funext r; simp
        · rw [if_neg hc0, map_err] at hp
          rw [hp]
          have gn : (((lblE x).2 : Int) != 0) = true := by simp; omega
          simp only [go_sem, simprocAttr, hl, h1, h2, h6, h7, h8, h9, t0, hlt, hc, g92, g46, hw, pr, gn]
          exact leave_flat (by simp [flat, flats]) (by simp only [go_sem, simprocAttr, he, pc])
      · have g46 : ((c.toNat : Int) == 46) = false := by simp; omega
        have e46 : c ≠ 46 := u8_ne (n := 46) (by omega) c46
        rw [if_neg e46, if_neg e92] at hsc
        simp only [go_sem, simprocAttr, hl, h1, h2, h6, h7, h8, h9, t0, hlt, hc, g92, g46, hw, hw2]
        exact ⟨n - 1, by omega, _, i + 1, frm, L1, v, T, e, by omega, by omega, hfs, hp, hLf, hLl, hLt, by omega, t0, t1, t2, hB, rfl, he, by simp only [go_sem, simprocAttr, hl], by simp only [go_sem, simprocAttr, hl, h1], by simp only [go_sem, simprocAttr, hl, h2], by simp only [go_sem, simprocAttr, hl, h6], by simp only [go_sem, simprocAttr, hl, h7], by simp only [go_sem, simprocAttr, hl, h8], by simp only [go_sem, simprocAttr, hl]⟩
  · have hdi : s.drop i = [] := List.drop_of_length_le (by omega)
    rw [hdi] at hsc
    have hsc : frm + scan 46 (s.drop frm) = i := hsc
    have hnk : ¬ scan 46 (s.drop frm) < (s.drop frm).length := by rw [List.length_drop]; omega
    rw [parsS_eq _ (s.drop frm), if_neg hnk] at hp
    have hmem : ∀ l ∈ L1, l.length ≤ 1048576 := fun l hl => by have := mem_totS hl; omega
    by_cases hlast : frm < s.length ∨ frm = 0
    · rw [if_pos (by rw [List.length_drop]; rcases hlast with h | h; exact .inl (by omega); exact .inr (by simp [h]))] at hp
      obtain ⟨x, hx⟩ : ∃ x, x = (s.drop frm).take (s.length - frm) := ⟨_, rfl⟩
      have hx' : s.drop frm = x := by rw [hx, List.take_of_length_le (by rw [List.length_drop]; omega)]
      rw [hx'] at hp
      obtain ⟨T', v', e', p0, p1, p2, pB, pc, pr⟩ := name_piece s L1 v frm s.length H T t0 t1 t2 hB hfs (Nat.le_refl _) hs (by omega)
      have pc := pc.cln
      rw [← hx] at pB pr
      have hll := lblE_len x
      have hxl : x.length = s.length - frm := by rw [hx, List.length_take, List.length_drop]; omega
      have gd : frm < s.length ∨ (¬ frm < s.length ∧ ((frm : Int) == 0) = true) := by
        by_cases h : frm < s.length
        · exact .inl h
        · exact .inr ⟨h, by simp; omega⟩
      by_cases hc0 : (lblE x).2 = 0
      · rw [if_pos hc0, map_ok] at hp
        rw [hp]
        have pr : ∀ k, callK Tryz.prog 93 [.int .i64 (s.length : Nat), .ptr H.length 0, .ptr (H.length + 2) 0, .ptr (H.length + 1) 0] (H ++ T) k = k (.int .i64 0, H ++ T', e') := by rw [hc0] at pr; exact pr
        have hKl : labs o = K := by unfold labs; rw [ho2]; rfl
        obtain ⟨⟨bv, bT⟩, hb, hlab⟩ := name_Labels o (H ++ T') (by show _ ≤ 9223372036854775807; omega)
        rw [hKl] at hb
        simp only [List.append_assoc] at hlab
        simp only at hb
        have hKb : ∀ l ∈ K, l.length ≤ 63 := fun l hl => by
          rw [← hKl] at hl
          obtain ⟨i, hi⟩ := List.getElem?_of_mem hl
          exact (labs_pos hi).2
        have hKn : K.length ≤ 255 := by have := len_tot K; have := labs_tot (s := o); rw [hKl] at this; omega
        have hb16 : (L1 ++ [(lblE x).1]).length = L1.length + 1 := by simp
        obtain ⟨L2, hL2⟩ : ∃ L2, L2 = L1 ++ [(lblE x).1] := ⟨_, rfl⟩
        rw [← hL2] at pB hb16
        have hL2m : ∀ l ∈ L2, l.length ≤ 1048576 := fun l hl => by
          rw [hL2] at hl
          rcases List.mem_append.1 hl with h | h
          · exact hmem l h
          · simp only [List.mem_singleton] at h; subst h; omega
        have hof : ∀ (T9 : Hp) (v9 : AV), GBuf H.length T9 v9 9 1 (L2 ++ K).length (strs (L2 ++ K)) → ∀ k, callK Tryz.prog 94 [v9] (H ++ T9) k = k (.tuple [.str (ofS (L2 ++ K)).1, .int .i64 ((ofS (L2 ++ K)).2 : Nat)], H ++ T9, z0) :=
          fun T9 v9 h9 k => name_Of (L2 ++ K) v9 (H ++ T9) k h9.lv (by simp; omega) (fun l hl => by
            rcases List.mem_append.1 hl with h | h
            · exact hL2m l h
            · have := hKb l h; omega)
        have hres : ([(lblE x).1] : List (List UInt8)) = [(lblE x).1] := rfl
        rw [← hL2]
        rcases gd with g1 | ⟨g1, g2⟩
        all_goals
          first | simp only [go_sem, simprocAttr, hl, h1, h2, h6, h7, h8, h9, t0, t2, hlt, pr, g1, g2] | simp only [go_sem, simprocAttr, hl, h1, h2, h6, h7, h8, h9, t0, t2, hlt, pr, g1]
          refine go_drawZ tFollows (by kernel_rfl) ?_
          by_cases hK0 : K = []
          · subst hK0
            obtain rfl : bv = .nils := by
              obtain ⟨h, _⟩ | ⟨h, _⟩ := hb
              · exact h
              · simp at h
            obtain ⟨w, ha0, hw0⟩ := (pB.more bT).app0 (P := Tryz.prog) (b := 16) (by omega) (by decide) zok_38
            rw [List.append_nil] at hof
            have p1' : (T' ++ bT)[1]? = some (.cells [v'] 38 .rw) := get_app p1
            have hv9 := (pB.more bT).set (x := .cells [v'] 38 .rw) p1'
            rw [set_get p1'] at hv9
            have hof := hof (T' ++ bT) v' (by rw [hb16]; exact hv9)
            have hscl : scal v' = true := pB.scl
            have hset : (T' ++ bT).set 1 (.cells [v'] 38 .rw) = T' ++ bT := set_get p1'
            have hnf : flat v' = false := by
              obtain ⟨_, _, h⟩ | ⟨_, _, m, rfl, _⟩ := pB
              · omega
              · rfl
            have hvc : vcells v' = [v'] := by
              obtain ⟨rfl, _, h⟩ | ⟨_, _, m, rfl, _⟩ := pB <;> rfl
            have hcw : clean H.length ⟨none, some w⟩ := clean_w hw0
            rcases bT with _ | ⟨b0, bT⟩
            · simp only [List.append_nil] at hlab ha0 hof hset
              simp only [go_sem, simprocAttr, hl, h1, h6, p1, hlab, ↓ha0, hvc, hscl, hnf, hset, hof, List.append_nil]
              exact ⟨by kernel_rfl, leave_flat (by simp [flat, flats]) (by simp only [go_sem, simprocAttr, he, pc, hcw])⟩
            · simp only [go_sem, simprocAttr, hl, h1, h6, p1, p1', hlab, ↓ha0, hvc, hscl, hnf, hset, hof, quiet_g4, List.append_nil]
              exact ⟨by kernel_rfl, leave_flat (by simp [flat, flats]) (by simp only [go_sem, simprocAttr, he, pc, hcw])⟩
          · obtain ⟨_, _, h⟩ | ⟨hKp, _, m, rfl, hbm⟩ := hb
            · exact absurd (List.length_eq_zero_iff.1 h) hK0
            obtain ⟨v9, T9, e9, happ, hlen9, hcl9, hkp9, hv9, hfl9, hvc9, hq9⟩ := (pB.more bT).app2 (P := Tryz.prog) (b := 16) (by decide) zok_38 (strs K) K.length hKp (by rw [strs_len, Nat.mul_one]) (by simp [strs, scal]) (by simp only [fits, decide_eq_true_eq]; omega)
            have hrd : rdC 0 K.length (.cells (strs K) 9 (.op 0 false)) = some (strs K) := by
              rw [rdC_c, if_pos (by rw [strs_len]; omega), List.drop_zero, List.take_of_length_le (by rw [strs_len]; omega)]
            have hgl : (H ++ T').length = H.length + T'.length := List.length_append
            simp only [hgl] at hlab
            have p19 : T9[1]? = some (.cells [v'] 38 .rw) := hkp9 1 _ (get_app p1) (by intro c fz st h; injection h with _ _ h; cases h)
            have hB9 := hv9.set (x := .cells [v9] 38 .rw) p19
            have hof := hof (T9.set 1 (.cells [v9] 38 .rw)) v9 (by simpa [strs, hb16] using hB9)
            have l19 := lt_of_get p19
            have hg9 : (T9.set 1 (.cells [v9] 38 .rw))[1]? = some (.cells [v9] 38 .rw) := by simp [l19]
            have hscl : scal v9 = true := hv9.scl
            rcases bT with _ | ⟨b0, bT⟩
            · simp at hbm
            · simp only [go_sem, simprocAttr, hl, h1, h6, p1, hlab, hbm, hrd, ↓happ, hvc9, hscl, hfl9, p19, hg9, hof, quiet_g4, hq9]
              exact ⟨by rcases tg_or 3 e9 with h | h <;> rw [h] <;> kernel_rfl, leave_flat (by simp [flat, flats]) (by simp only [go_sem, simprocAttr, he, pc, hcl9])⟩
      · rw [if_neg hc0, map_err] at hp
        rw [hp]
        have gn : (((lblE x).2 : Int) != 0) = true := by simp; omega
        rcases gd with g1 | ⟨g1, g2⟩
        · simp only [go_sem, simprocAttr, hl, h1, h2, h6, h7, h8, h9, t0, t2, hlt, pr, gn, g1]
          exact leave_flat (by simp [flat, flats]) (by simp only [go_sem, simprocAttr, he, pc])
        · simp only [go_sem, simprocAttr, hl, h1, h2, h6, h7, h8, h9, t0, t2, hlt, pr, gn, g1, g2]
          exact leave_flat (by simp [flat, flats]) (by simp only [go_sem, simprocAttr, he, pc])
    · rw [if_neg (by rw [List.length_drop]; rintro (h | h); omega; simp at h; omega), map_ok] at hp
      rw [hp]
      have g1 : ¬ frm < s.length := by omega
      have g2 : ((frm : Int) == 0) = false := by simp; omega
      have hof := fun k => name_Of L1 v (H ++ T) k hB.lv (by omega) hmem
      simp only [go_sem, simprocAttr, hl, h1, h2, h6, h7, h8, h9, t0, t1, t2, hlt, g1, g2, hof, List.append_nil, Bool.false_eq_true, if_false]
      exact leave_flat (by simp [flat, flats]) he
end Go.Proofs.YtgkpgpdkolpfkaaGreatDoor.V
namespace Go.Proofs.YtgkpgpdkolpfkaaGreatDoor.V
open Go
attribute [local irreducible] go goOps goD opK callK callT stepK leaveTo nextK

end Go.Proofs.YtgkpgpdkolpfkaaGreatDoor.V
namespace Go.Proofs.YtgkpgpdkolpfkaaGreatDoor.V
open Go
attribute [local irreducible] go goOps goD opK callK callT stepK leaveTo nextK

def isD (c : UInt8) : Bool := decide (48 ≤ c.toNat ∧ c.toNat ≤ 57)
def valS (s : List UInt8) : Nat := s.foldl (fun v c => 10 * v + (c.toNat - 48)) 0
def numS (s : List UInt8) (most : Nat) : Option Nat :=
  if s = [] ∨ (1 < s.length ∧ s[0]? = some 48) ∨ 12 < s.length then none else if s.all isD = true then (if valS s ≤ most then some (valS s) else none) else none
theorem numS_bad {s : List UInt8} {most : Nat} (h : s = [] ∨ (1 < s.length ∧ s[0]? = some 48) ∨ 12 < s.length) : numS s most = none := if_pos h
end Go.Proofs.YtgkpgpdkolpfkaaGreatDoor.V
namespace Go.Proofs.YtgkpgpdkolpfkaaGreatDoor.V
open Go
attribute [local irreducible] go goOps goD opK callK callT stepK leaveTo nextK

def puE (mx : Nat) : List UInt8 → Nat → Nat × Nat
  | [], v => (v, 0)
  | c :: r, v => if isD c = true then (if mx < 10 * v + (c.toNat - 48) then (mx, 1) else puE mx r (10 * v + (c.toNat - 48))) else (0, 2)
def Bits (b : Int) (mx : Nat) : Prop := (b = 8 ∧ mx = 255) ∨ (b = 16 ∧ mx = 65535) ∨ (b = 32 ∧ mx = 4294967295) ∨ (b = 40 ∧ mx = 1099511627775)
theorem Bits.le {b : Int} {mx : Nat} (h : Bits b mx) : mx ≤ 1099511627775 ∧ 255 ≤ mx := by unfold Bits at h; omega
theorem Bits.z {b : Int} {mx : Nat} (h : Bits b mx) : (b == 0) = false := by
  rw [beq_eq_false_iff_ne]; unfold Bits at h; omega
theorem Bits.n {b : Int} {mx : Nat} (h : Bits b mx) : decide (b < 0) = false := by
  rw [decide_eq_false_iff_not]; unfold Bits at h; omega
theorem Bits.g {b : Int} {mx : Nat} (h : Bits b mx) : decide (b > 64) = false := by
  rw [decide_eq_false_iff_not]; unfold Bits at h; omega
theorem Bits.w {b : Int} {mx : Nat} (h : Bits b mx) : IntKind.u64.wrap b = b := by
  rcases h with ⟨rfl, _⟩ | ⟨rfl, _⟩ | ⟨rfl, _⟩ | ⟨rfl, _⟩ <;> decide
theorem Bits.m {b : Int} {mx : Nat} (h : Bits b mx) : IntKind.u64.wrap (IntKind.u64.wrap (1 * 2 ^ min b.toNat 64) - 1) = (mx : Int) := by
  rcases h with ⟨rfl, rfl⟩ | ⟨rfl, rfl⟩ | ⟨rfl, rfl⟩ | ⟨rfl, rfl⟩ <;> decide
def errP (n : Nat) : AV := if n = 0 then .nili else .iface 155 (.int .i64 (n : Nat))
set_option maxRecDepth 20000 in
theorem str_lower (c : UInt8) (H k) : callK Tryz.prog 106 [.int .u8 c.toNat] H k = k (.int .u8 (c ||| 32).toNat, H, z0) := by
  refine callK_eq (r := (.int .u8 (c ||| 32).toNat, H, z0)) ?_ k
  refine callK_start (n := 5) (rs := [.tmp 2]) Tryz.func106 rfl rfl rfl ?_
  intro σ hl ha
  have h0 := ha 0 (by simp)
  clear ha
  simp only [Option.getD_some, List.getElem?_cons_zero, List.getElem?_cons_succ] at h0
  have hor : evInt .or .u8 (c.toNat : Int) 32 = some (.int .u8 (c ||| 32).toNat) := by
    have hlt := (c ||| 32).toNat_lt
    have : (BitVec.ofInt 8 (c.toNat : Int) ||| BitVec.ofInt 8 32).toNat = (c ||| 32).toNat := by
      rw [BitVec.toNat_or, BitVec.ofInt_natCast, UInt8.toNat_or]
      simp only [BitVec.toNat_ofNat]
      rw [Nat.mod_eq_of_lt (show c.toNat < 2 ^ 8 from c.toNat_lt)]
      rfl
    show some (AV.int .u8 (IntKind.u8.wrap ((BitVec.ofInt 8 (c.toNat : Int) ||| BitVec.ofInt 8 32).toNat : Int))) = _
    rw [this, wrap_u8 (by omega)]
  simp only [go_sem, simprocAttr, hl, h0, hor]

set_option maxRecDepth 20000 in
theorem parse_uint_i (s : List UInt8) (bits : Int) (mx : Nat) (hb : Bits bits mx) (H k) (hz : s ≠ []) (hs : s.length ≤ 1048576) : callK Tryz.prog 88 [.str s, .int .i64 10, .int .i64 bits] H k = k (.tuple [.int .u64 ((puE mx s 0).1 : Nat), errP (puE mx s 0).2], H, z0) := by
  refine callK_eq (r := (.tuple [.int .u64 ((puE mx s 0).1 : Nat), errP (puE mx s 0).2], H, z0)) ?_ k
  refine callK_start (n := 172) (rs := [.tmp 6, .tmp 7]) Tryz.func88 rfl rfl rfl ?_
  intro σ hl ha
  have h0 := ha 0 (by simp)
  have h1 := ha 1 (by simp)
  have h2 := ha 2 (by simp)
  clear ha
  simp only [Option.getD_some, List.getElem?_cons_zero, List.getElem?_cons_succ] at h0 h1 h2
  have e0 : (s == []) = false := by simpa using hz
  have hm := hb.m
  have hbz := hb.z
  have hbn := hb.n
  have hbg := hb.g
  have hbw := hb.w
  have hmx := hb.le
  simp only [go_sem, simprocAttr, hl, h0, h1, h2, e0, hm, hbz, hbn, hbg, hbw]
  refine go_rounds (fun n st => ∃ σ i V e, n + i = s.length ∧ puE mx s 0 = puE mx (s.drop i) V ∧ V ≤ mx ∧ st = ⟨σ, H ++ [.cells (u8s s) 5 (.op 0 true)], e⟩ ∧ clean H.length e ∧ σ.length = 172 ∧ fr σ 0 = .str s ∧ fr σ 1 = .int .i64 10 ∧ fr σ 8 = .bool false ∧ fr σ 10 = .int .u64 1844674407370955162 ∧ fr σ 11 = .int .u64 (mx : Nat) ∧ fr σ 12 = .bool false ∧ fr σ 13 = .int .u64 (V : Nat) ∧ fr σ 99 = .slice H.length 0 s.length (.op 0) ∧ fr σ 100 = .int .i64 s.length ∧ fr σ 101 = .int .i64 (i : Nat)) s.length
    ⟨_, 0, 0, _, rfl, rfl, by omega, rfl, ⟨rfl, rfl⟩, by simp only [go_sem, simprocAttr, hl], by simp only [go_sem, simprocAttr, hl, h0], by simp only [go_sem, simprocAttr, hl, h1], by simp only [go_sem, simprocAttr, hl], by simp only [go_sem, simprocAttr, hl], by simp only [go_sem, simprocAttr, hl, hm], by simp only [go_sem, simprocAttr, hl], by simp only [go_sem, simprocAttr, hl], by simp only [go_sem, simprocAttr, hl], by simp only [go_sem, simprocAttr, hl], by simp only [go_sem, simprocAttr, hl]⟩ ?_
  rintro n _ ⟨σ, i, V, e, hn, hp, hV, rfl, he, hl, h0, h1, h8, h10, h11, h12, h13, h99, h100, h101⟩
  have hg : (H ++ [ABlk.cells (u8s s) 5 (.op 0 true)])[H.length]? = some (.cells (u8s s) 5 (.op 0 true)) := by rw [hp_new0]; rfl
  by_cases hlt : i < s.length
  · obtain ⟨c, hc⟩ : ∃ c, s[i]? = some c := ⟨_, List.getElem?_eq_getElem hlt⟩
    have hcl := c.toNat_lt
    have hw := wrap_succ (show i < 9223372036854775807 by omega)
    have hld := fun (e : TypeId) (k : Kd) => u8s_ld (n := 1) (e := e) (k := k) hc
    have hlo := fun H k => str_lower c H k
    rw [drop_at hc] at hp
    have w10 : IntKind.u8.wrap 10 = 10 := by decide
    have hif : ∀ n : Int, ifaceV Tryz.prog 155 (.int .i64 n) = some (.iface 155 (.int .i64 n)) := by intro n; simp only [ifaceV, tsh_155]
    have w11 : IntKind.u64.wrap 10 = 10 := by decide
    by_cases hd : isD c = true
    · have hd' : 48 ≤ c.toNat ∧ c.toNat ≤ 57 := by simpa [isD] using hd
      rw [puE, if_pos hd] at hp
      have a0 : ((c.toNat : Int) == 95) = false := by simp; omega
      have a1 : decide (48 ≤ (c.toNat : Int)) = true := by simp; omega
      have a2 : decide ((c.toNat : Int) ≤ 57) = true := by simp; omega
      have w1 : IntKind.u8.wrap ((c.toNat : Int) - 48) = ((c.toNat - 48 : Nat) : Int) := by rw [wrap_u8 (by omega)]; omega
      have a3 : decide (((c.toNat - 48 : Nat) : Int) ≥ 10) = false := by simp; omega
      have a4 : decide ((V : Int) ≥ 1844674407370955162) = false := by simp; omega
      have w2 : IntKind.u64.wrap ((V : Int) * 10) = ((10 * V : Nat) : Int) := by rw [wrap_u64 (by omega)]; omega
      have w3 : IntKind.u64.wrap ((c.toNat - 48 : Nat) : Int) = ((c.toNat - 48 : Nat) : Int) := wrap_u64 (by omega)
      have w4 : IntKind.u64.wrap (((10 * V : Nat) : Int) + ((c.toNat - 48 : Nat) : Int)) = ((10 * V + (c.toNat - 48) : Nat) : Int) := by rw [wrap_u64 (by omega)]; omega
      have a5 : (10 * V + (c.toNat - 48) < 10 * V) = False := by apply eq_false; omega
      by_cases ho : mx < 10 * V + (c.toNat - 48)
      · rw [if_pos ho] at hp
        rw [hp]
        have a6 : mx < 10 * V + (c.toNat - 48) := ho
        simp only [go_sem, simprocAttr, hl, h0, h1, h8, h10, h11, h12, h13, h99, h100, h101, hlt, hg, hld, a0, a1, a2, w1, w10, w11, a3, a4, w2, w3, w4, a5, gt_iff_lt, a6, hw, hif]
        exact leave_flat (by simp [flat, flats]) he
      · rw [if_neg ho] at hp
        have a6 : ¬ mx < 10 * V + (c.toNat - 48) := ho
        simp only [go_sem, simprocAttr, hl, h0, h1, h8, h10, h11, h12, h13, h99, h100, h101, hlt, hg, hld, a0, a1, a2, w1, w10, w11, a3, a4, w2, w3, w4, a5, gt_iff_lt, a6, hw, hif]
        exact ⟨n - 1, by omega, _, i + 1, _, _, by omega, hp, by omega, rfl, he, by simp only [go_sem, simprocAttr, hl], by simp only [go_sem, simprocAttr, hl, h0], by simp only [go_sem, simprocAttr, hl, h1], by simp only [go_sem, simprocAttr, hl, h8], by simp only [go_sem, simprocAttr, hl, h10], by simp only [go_sem, simprocAttr, hl, h11], by simp only [go_sem, simprocAttr, hl, h12], by simp only [go_sem, simprocAttr, hl], by simp only [go_sem, simprocAttr, hl, h99], by simp only [go_sem, simprocAttr, hl, h100], by simp only [go_sem, simprocAttr, hl]⟩
    · rw [puE, if_neg hd] at hp
      rw [hp]
      have hd' : c.toNat < 48 ∨ 57 < c.toNat := by
        have : ¬ (48 ≤ c.toNat ∧ c.toNat ≤ 57) := by simpa [isD] using hd
        omega
      have hLl := (c ||| 32).toNat_lt
      have y1 : decide (48 ≤ (c.toNat : Int)) = true ∧ decide ((c.toNat : Int) ≤ 57) = false ∨ decide (48 ≤ (c.toNat : Int)) = false := by
        rcases hd' with h | h
        · exact .inr (by simp; omega)
        · exact .inl ⟨by simp; omega, by simp; omega⟩
      generalize hL : (c ||| 32).toNat = L at *
      have w6 : 97 ≤ L → L ≤ 122 → decide (IntKind.u8.wrap (IntKind.u8.wrap ((L : Int) - 97) + 10) ≥ 10) = true := by
        intro h1 h2
        have e1 : IntKind.u8.wrap ((L : Int) - 97) = ((L - 97 : Nat) : Int) := by rw [wrap_u8 (by omega)]; omega
        rw [e1, wrap_u8 (by omega)]; simp; omega
      by_cases x4 : 97 ≤ L
      · have z4 : decide (97 ≤ (L : Int)) = true := by simp; omega
        by_cases x5 : L ≤ 122
        · have z5 : decide ((L : Int) ≤ 122) = true := by simp; omega
          have w6 := w6 x4 x5
          rcases y1 with ⟨y1, y2⟩ | y1 <;> cases x1 : ((c.toNat : Int) == 95)
          all_goals
            first | simp only [go_sem, simprocAttr, hl, h0, h1, h8, h10, h11, h12, h13, h99, h100, h101, hlt, hg, hld, hlo, hL, x1, y1, y2, z4, z5, w6, w10, hif] | simp only [go_sem, simprocAttr, hl, h0, h1, h8, h10, h11, h12, h13, h99, h100, h101, hlt, hg, hld, hlo, hL, x1, y1, z4, z5, w6, w10, hif]
            exact leave_flat (by simp [flat, flats]) he
        · have z5 : decide ((L : Int) ≤ 122) = false := by simp; omega
          rcases y1 with ⟨y1, y2⟩ | y1 <;> cases x1 : ((c.toNat : Int) == 95)
          all_goals
            first | simp only [go_sem, simprocAttr, hl, h0, h1, h8, h10, h11, h12, h13, h99, h100, h101, hlt, hg, hld, hlo, hL, x1, y1, y2, z4, z5, w10, hif] | simp only [go_sem, simprocAttr, hl, h0, h1, h8, h10, h11, h12, h13, h99, h100, h101, hlt, hg, hld, hlo, hL, x1, y1, z4, z5, w10, hif]
            exact leave_flat (by simp [flat, flats]) he
      · have z4 : decide (97 ≤ (L : Int)) = false := by simp; omega
        rcases y1 with ⟨y1, y2⟩ | y1 <;> cases x1 : ((c.toNat : Int) == 95)
        all_goals
          first | simp only [go_sem, simprocAttr, hl, h0, h1, h8, h10, h11, h12, h13, h99, h100, h101, hlt, hg, hld, hlo, hL, x1, y1, y2, z4, w10, hif] | simp only [go_sem, simprocAttr, hl, h0, h1, h8, h10, h11, h12, h13, h99, h100, h101, hlt, hg, hld, hlo, hL, x1, y1, z4, w10, hif]
          exact leave_flat (by simp [flat, flats]) he
  · have hi : i = s.length := by omega
    subst hi
    rw [List.drop_length] at hp
    rw [hp]
    simp only [go_sem, simprocAttr, hl, h0, h1, h8, h10, h11, h12, h13, h99, h100, h101, hlt]
    exact leave_flat (by simp [flat, flats]) he
end Go.Proofs.YtgkpgpdkolpfkaaGreatDoor.V
namespace Go.Proofs.YtgkpgpdkolpfkaaGreatDoor.V
open Go
attribute [local irreducible] go goOps goD opK callK callT stepK leaveTo nextK

def valF (v : Nat) (s : List UInt8) : Nat := s.foldl (fun v c => 10 * v + (c.toNat - 48)) v
theorem valF_ge : ∀ (s : List UInt8) (v : Nat), v * 10 ^ s.length ≤ valF v s
  | [], v => by simp [valF]
  | c :: r, v => by
    have := valF_ge r (10 * v + (c.toNat - 48))
    refine Nat.le_trans ?_ this
    rw [List.length_cons, Nat.pow_succ, Nat.mul_comm (10 ^ r.length) 10, ← Nat.mul_assoc]
    exact Nat.mul_le_mul_right _ (by omega)
theorem valF_le (s : List UInt8) (v : Nat) : v ≤ valF v s :=
  Nat.le_trans (Nat.le_mul_of_pos_right v (Nat.pow_pos (by decide))) (valF_ge s v)
theorem puE_spec {mx : Nat} : ∀ (s : List UInt8) (v : Nat), (s.all isD = true ∧ valF v s ≤ mx → puE mx s v = (valF v s, 0)) ∧ (¬ (s.all isD = true ∧ valF v s ≤ mx) → v ≤ mx → (puE mx s v).2 = 1 ∨ (puE mx s v).2 = 2)
  | [], v => ⟨fun _ => rfl, fun h hv => absurd ⟨rfl, hv⟩ h⟩
  | c :: r, v => by
    have ih := puE_spec (mx := mx) r (10 * v + (c.toNat - 48))
    have hF : valF v (c :: r) = valF (10 * v + (c.toNat - 48)) r := rfl
    have hle := valF_le r (10 * v + (c.toNat - 48))
    rw [hF]
    by_cases hd : isD c = true
    · rw [puE, if_pos hd]
      by_cases ho : mx < 10 * v + (c.toNat - 48)
      · rw [if_pos ho]
        exact ⟨fun h => by omega, fun _ _ => .inl rfl⟩
      · rw [if_neg ho]
        refine ⟨fun ⟨h1, h2⟩ => ih.1 ⟨by simp only [List.all_cons, hd, Bool.true_and] at h1; exact h1, h2⟩, fun h _ => ih.2 (fun ⟨h1, h2⟩ => h ⟨by simp only [List.all_cons, hd, Bool.true_and]; exact h1, h2⟩) (by omega)⟩
    · rw [puE, if_neg hd]
      refine ⟨fun ⟨h1, _⟩ => ?_, fun _ _ => .inr rfl⟩
      simp only [List.all_cons, Bool.and_eq_true] at h1
      exact absurd h1.1 hd
theorem numS_pu {mx : Nat} (hmx : mx ≤ 4294967295) {s : List UInt8} (hz : s ≠ []) (h0 : ¬ (1 < s.length ∧ s[0]? = some 48)) : numS s mx = if (puE mx s 0).2 = 0 then some (puE mx s 0).1 else none := by
  have sp := puE_spec (mx := mx) s 0
  by_cases hg : s.all isD = true ∧ valF 0 s ≤ mx
  · rw [sp.1 hg, if_pos rfl]
    have hl : ¬ 12 < s.length := by
      intro hl
      obtain ⟨c, r, rfl⟩ := List.exists_cons_of_ne_nil hz
      have h1 := valF_ge r (10 * 0 + (c.toNat - 48))
      have hc : isD c = true := by have := hg.1; simp only [List.all_cons, Bool.and_eq_true] at this; exact this.1
      have hc' : 48 ≤ c.toNat ∧ c.toNat ≤ 57 := by simpa [isD] using hc
      have hne : c.toNat ≠ 48 := fun h => h0 ⟨by omega, by simp; exact UInt8.toNat.inj h⟩
      have hp : 10 ^ 12 ≤ 10 ^ r.length := Nat.pow_le_pow_right (by decide) (by simp only [List.length_cons] at hl; omega)
      have h2 : 1 * 10 ^ r.length ≤ (10 * 0 + (c.toNat - 48)) * 10 ^ r.length := Nat.mul_le_mul_right _ (by omega)
      have h3 : valF (10 * 0 + (c.toNat - 48)) r ≤ mx := hg.2
      omega
    unfold numS
    rw [if_neg (by
      rintro (h | h | h)
      · exact hz h
      · exact h0 h
      · exact hl h), if_pos hg.1]
    exact if_pos hg.2
  · have h1 := sp.2 hg (by omega)
    rw [if_neg (by omega)]
    unfold numS
    split
    · rfl
    · split
      · rename_i ha
        exact if_neg (fun h => hg ⟨ha, h⟩)
      · rfl
theorem numS_plus {mx : Nat} {s : List UInt8} (h : s[0]? = some 43) : numS s mx = none := by
  unfold numS
  split
  · rfl
  · rw [if_neg]
    rw [all_not h (by decide)]; simp

def Te (H : Hp) : Prop := (∃ e k u b, H[5]? = some (.cells [.iface u b] e k)) ∧ (∃ e k u b, H[6]? = some (.cells [.iface u b] e k))
theorem Te.old {H : Hp} (h : Te H) (l : Hp) : Te (H ++ l) := by
  obtain ⟨⟨e, k, u, b, h1⟩, ⟨e', k', u', b', h2⟩⟩ := h
  exact ⟨⟨e, k, u, b, get_app h1⟩, ⟨e', k', u', b', get_app h2⟩⟩
theorem flats_u8s : ∀ s : List UInt8, flats (u8s s) = true
  | [] => rfl
  | c :: s => by
    have := flats_u8s s
    unfold u8s at this ⊢
    rw [List.map_cons]
    simp only [flats, flat, this, Bool.and_self]
set_option maxRecDepth 20000 in
theorem sl_clone (s : List UInt8) (H k) (hs : s.length ≤ 1048576) : callK Tryz.prog 120 [.str s] H k = k (.str s, H, z0) := by
  refine callK_eq (r := (.str s, H, z0)) ?_ k
  refine callK_start (n := 18) (rs := [.tmp 2]) Tryz.func120 rfl rfl rfl ?_
  intro σ hl ha
  have h0 := ha 0 (by simp)
  clear ha
  simp only [Option.getD_some, List.getElem?_cons_zero, List.getElem?_cons_succ] at h0
  by_cases hz : s = []
  · subst hz
    simp only [go_sem, simprocAttr, hl, h0]
  · have hpos : 0 < s.length := List.length_pos_iff.2 hz
    have g0 : ((s.length : Int) == 0) = false := by simp; exact hz
    have hmk : ∀ H', evMake Tryz.prog 52 (.int .i64 s.length) (.int .i64 s.length) H' = some (.slice H'.length 0 s.length (.ex s.length), H' ++ [.cells (List.replicate s.length (.int .u8 0)) 5 .rw]) := by
      intro H'
      have hr : ∀ n, rep [.int .u8 0] n = List.replicate n (AV.int .u8 0) := by
        intro n; induction n with
        | zero => rfl
        | succ n ih => rw [rep, ih]; rfl
      simp only [evMake, tsh_52, tzero_5, Option.bind_some]
      rw [if_pos (by omega)]
      simp [hr]
    have hcp : ∀ x, evCopy Tryz.prog 52 (.slice H.length 0 s.length x) (.str s) (H ++ [.cells (List.replicate s.length (.int .u8 0)) 5 .rw]) = some (.int .i64 s.length, H ++ [.cells (u8s s) 5 .rw], ⟨none, some H.length⟩) := by
      intro x
      have hg : (H ++ [ABlk.cells (List.replicate s.length (.int .u8 0)) 5 .rw])[H.length]? = some (.cells (List.replicate s.length (.int .u8 0)) 5 .rw) := by rw [hp_new0]; rfl
      have hsc : (u8s s).all scal = true := by simp [u8s, scal]
      have hfl : flats (u8s s) = true := flats_u8s s
      have hsp : splice (List.replicate s.length (AV.int .u8 0)) 0 (u8s s) = u8s s := by
        unfold splice
        rw [List.take_zero, List.nil_append, List.drop_eq_nil_of_le (by simp [u8s]), List.append_nil]
      simp only [evCopy, tsh_52, appended, Option.bind_some]
      have ht : List.take (min s.length s.length * 1) (s.map fun b => AV.int .u8 (b.toNat : Int)) = u8s s := by
        rw [List.take_of_length_le (by simp)]; rfl
      simp only [if_true, Option.bind_some, ht]
      unfold wr
      rw [hg]
      simp only
      rw [if_pos ⟨by simp [u8s], rfl, hsc⟩, hsp, hfl]
      simp [hp_set]
    have hst : ∀ H', H'[H.length]? = some (.cells (u8s s) 5 .rw) → evString Tryz.prog 85 (.ptr H.length 0) (.int .i64 s.length) H' = some (.str s, H'.set H.length .dead, ⟨none, some H.length⟩) := by
      intro H' hg
      have c1 : ¬ ((s.length : Int) = 0) := by omega
      have c2 : 0 < (s.length : Int) ∧ (s.length : Int) ≤ 9223372036854775807 := by omega
      have c3 : Tryz.prog.cellsOf 5 = 1 := by kernel_rfl
      have c5 : ((u8s s).drop 0).take (s.length : Int).toNat = u8s s := by
        rw [List.drop_zero, List.take_of_length_le (by rw [u8s_len]; simp)]
      simp only [evString, tsh_85, hg]
      rw [if_neg c1, if_pos c2, if_pos ⟨trivial, tsize_5, c3, by rw [u8s_len]; simp⟩, c5, bytes_u8s]
      simp
    have hst := hst (H ++ [.cells (u8s s) 5 .rw]) (by rw [hp_new0]; rfl)
    simp only [go_sem, simprocAttr, hl, h0, g0, hmk, hcp, hst, hpos]
    omega

set_option maxRecDepth 20000 in
theorem isIface_er : (match Tryz.prog.underlying 56 with | some (.interface _) => true | _ => false) = true := by kernel_rfl
theorem und_se : Tryz.prog.underlying 155 = some (.int .i64) := by kernel_rfl
set_option maxRecDepth 20000 in
theorem cmp_se : (Tryz.prog.info? 155).map (·.comparable) = some true := by kernel_rfl
set_option maxRecDepth 20000 in
theorem eqErr {a b : Int} {c : Bool} : binV Tryz.prog .eql 56 (.iface 155 (.int .i64 a)) (.iface 155 (.int .i64 b)) c = some (.bool (a == b)) := by
  obtain ⟨ms, hu⟩ : ∃ ms, Tryz.prog.underlying 56 = some (.interface ms) := by
    have := isIface_er
    split at this
    · exact ⟨_, ‹_›⟩
    · cases this
  obtain ⟨i, hi, hc⟩ : ∃ i, Tryz.prog.info? 155 = some i ∧ i.comparable = true := by
    have := cmp_se
    rw [Option.map_eq_some_iff] at this
    exact this
  simp [binV, evBin, evEq, hu, hi, hc, und_se]
theorem isC_c {v : Value} : evOp.isConst (.const v) = true := rfl
theorem neNN : binV Tryz.prog .neq 56 .nili .nili true = some (.bool false) := by
  simp only [binV, if_true, tsh_56]
set_option maxRecDepth 20000 in
theorem neNI {c : Bool} {u : TypeId} {v : AV} : binV Tryz.prog .neq 56 (.iface u v) .nili c = some (.bool true) := by
  obtain ⟨ms, hu⟩ : ∃ ms, Tryz.prog.underlying 56 = some (.interface ms) := by
    have := isIface_er
    split at this
    · exact ⟨_, ‹_›⟩
    · cases this
  simp [binV, evBin, evEq, hu]
attribute [go_sem] eqErr isC_c neNN neNI
theorem bd_ne (a b : List UInt8) (u : TypeId) (x : AV) : evBuild Tryz.prog 169 [(0, .str a), (1, .str b), (2, .iface u x)] = some (.agg [.str a, .str b, .iface u x]) := by
  simp only [evBuild, tsh_169, tzero_169, tplaces_169, Option.bind_some]
  rfl
set_option maxRecDepth 20000 in
theorem sc_syntaxError (a s : List UInt8) (H) (ht : Te H) (hs : s.length ≤ 1048576) : ∃ x : ABlk, ∀ l k, callK Tryz.prog 108 [.str a, .str s] (H ++ l) k = k (.ptr (H ++ l).length 0, H ++ (l ++ [x]), z0) := by
  obtain ⟨e0, k0, u, b, hg⟩ := ht.1
  refine ⟨.cells [.str a, .str s, .iface u b] 169 .rw, fun l k => ?_⟩
  refine callK_eq (r := (.ptr (H ++ l).length 0, H ++ (l ++ [.cells [.str a, .str s, .iface u b] 169 .rw]), z0)) ?_ k
  refine callK_start (n := 11) (rs := [.tmp 4]) Tryz.func108 rfl rfl rfl ?_
  intro σ hl ha
  have h0 := ha 0 (by simp)
  have h1 := ha 1 (by simp)
  clear ha
  simp only [Option.getD_some, List.getElem?_cons_zero, List.getElem?_cons_succ] at h0 h1
  have hc := fun k => sl_clone s (H ++ l) k hs
  have hg' : (H ++ l)[5]? = some (.cells [.iface u b] e0 k0) := get_app hg
  have hbd := bd_ne a s u b
  simp only [go_sem, simprocAttr, hl, h0, h1, hc, hg', hbd]
  refine go_drawZ tFollows (by kernel_rfl) ?_
  simp only [go_sem, simprocAttr, hl, h0, h1, hc, hg', hbd]
  kernel_rfl
set_option maxRecDepth 20000 in
theorem sc_rangeError (a s : List UInt8) (H) (ht : Te H) (hs : s.length ≤ 1048576) : ∃ x : ABlk, ∀ l k, callK Tryz.prog 109 [.str a, .str s] (H ++ l) k = k (.ptr (H ++ l).length 0, H ++ (l ++ [x]), z0) := by
  obtain ⟨e0, k0, u, b, hg⟩ := ht.2
  refine ⟨.cells [.str a, .str s, .iface u b] 169 .rw, fun l k => ?_⟩
  refine callK_eq (r := (.ptr (H ++ l).length 0, H ++ (l ++ [.cells [.str a, .str s, .iface u b] 169 .rw]), z0)) ?_ k
  refine callK_start (n := 11) (rs := [.tmp 4]) Tryz.func109 rfl rfl rfl ?_
  intro σ hl ha
  have h0 := ha 0 (by simp)
  have h1 := ha 1 (by simp)
  clear ha
  simp only [Option.getD_some, List.getElem?_cons_zero, List.getElem?_cons_succ] at h0 h1
  have hc := fun k => sl_clone s (H ++ l) k hs
  have hg' : (H ++ l)[6]? = some (.cells [.iface u b] e0 k0) := get_app hg
  have hbd := bd_ne a s u b
  simp only [go_sem, simprocAttr, hl, h0, h1, hc, hg', hbd]
  refine go_drawZ tFollows (by kernel_rfl) ?_
  simp only [go_sem, simprocAttr, hl, h0, h1, hc, hg', hbd]
  kernel_rfl
set_option maxRecDepth 20000 in
theorem sc_toError (bits : Int) (a s : List UInt8) (n : Nat) (hn : n = 1 ∨ n = 2) (H) (ht : Te H) (hs : s.length ≤ 1048576) : ∃ x : ABlk, ∀ k, callK Tryz.prog 89 [.str a, .str s, .int .i64 10, .int .i64 bits, .iface 155 (.int .i64 (n : Nat))] H k = k (.iface 158 (.ptr H.length 0), H ++ [x], z0) := by
  obtain ⟨x1, hx1⟩ := sc_syntaxError a s H ht hs
  obtain ⟨x2, hx2⟩ := sc_rangeError a s H ht hs
  have hx1 := fun k => hx1 [] k
  have hx2 := fun k => hx2 [] k
  simp only [List.append_nil, List.nil_append] at hx1 hx2
  have hif : ∀ n : Int, ifaceV Tryz.prog 155 (.int .i64 n) = some (.iface 155 (.int .i64 n)) := by intro n; simp only [ifaceV, tsh_155]
  have hip : ∀ n : Nat, ifaceV Tryz.prog 158 (.ptr n 0) = some (.iface 158 (.ptr n 0)) := by intro n; simp only [ifaceV, tsh_158]
  refine ⟨if n = 2 then x1 else x2, fun k => ?_⟩
  refine callK_eq (r := (.iface 158 (.ptr H.length 0), H ++ [if n = 2 then x1 else x2], z0)) ?_ k
  refine callK_start (n := 43) (rs := [.tmp 10]) Tryz.func89 rfl rfl rfl ?_
  intro σ hl ha
  have h0 := ha 0 (by simp)
  have h1 := ha 1 (by simp)
  have h2 := ha 2 (by simp)
  have h3 := ha 3 (by simp)
  have h4 := ha 4 (by simp)
  clear ha
  simp only [Option.getD_some, List.getElem?_cons_zero, List.getElem?_cons_succ] at h0 h1 h2 h3 h4
  rcases hn with rfl | rfl
  · simp only [go_sem, simprocAttr, hl, h0, h1, h2, h3, h4, hx1, hx2, hif, hip]
  · simp only [go_sem, simprocAttr, hl, h0, h1, h2, h3, h4, hx1, hx2, hif, hip]
set_option maxRecDepth 20000 in
theorem parse_uint_ok (s : List UInt8) (bits : Int) (mx : Nat) (hb : Bits bits mx) (H k) (hz : s ≠ []) (hs : s.length ≤ 1048576) (he : (puE mx s 0).2 = 0) : callK Tryz.prog 66 [.str s, .int .i64 10, .int .i64 bits] H k = k (.tuple [.int .u64 ((puE mx s 0).1 : Nat), .nili], H, z0) := by
  refine callK_eq (r := (.tuple [.int .u64 ((puE mx s 0).1 : Nat), .nili], H, z0)) ?_ k
  refine callK_start (n := 26) (rs := [.tmp 6, .tmp 7]) Tryz.func66 rfl rfl rfl ?_
  intro σ hl ha
  have h0 := ha 0 (by simp)
  have h1 := ha 1 (by simp)
  have h2 := ha 2 (by simp)
  clear ha
  simp only [Option.getD_some, List.getElem?_cons_zero, List.getElem?_cons_succ] at h0 h1 h2
  have hp := fun k => parse_uint_i s bits mx hb H k hz hs
  rw [he] at hp
  simp only [errP, if_true] at hp
  simp only [go_sem, simprocAttr, hl, h0, h1, h2, hp]
set_option maxRecDepth 20000 in
theorem parse_uint_bad (s : List UInt8) (bits : Int) (mx : Nat) (hb : Bits bits mx) (H) (ht : Te H) (hz : s ≠ []) (hs : s.length ≤ 1048576) (he : (puE mx s 0).2 = 1 ∨ (puE mx s 0).2 = 2) : ∃ x : ABlk, ∀ k, callK Tryz.prog 66 [.str s, .int .i64 10, .int .i64 bits] H k = k (.tuple [.int .u64 ((puE mx s 0).1 : Nat), .iface 158 (.ptr H.length 0)], H ++ [x], z0) := by
  obtain ⟨x, hx⟩ := sc_toError bits [80, 97, 114, 115, 101, 85, 105, 110, 116] s _ he H ht hs
  refine ⟨x, fun k => ?_⟩
  refine callK_eq (r := (.tuple [.int .u64 ((puE mx s 0).1 : Nat), .iface 158 (.ptr H.length 0)], H ++ [x], z0)) ?_ k
  refine callK_start (n := 26) (rs := [.tmp 6, .tmp 7]) Tryz.func66 rfl rfl rfl ?_
  intro σ hl ha
  have h0 := ha 0 (by simp)
  have h1 := ha 1 (by simp)
  have h2 := ha 2 (by simp)
  clear ha
  simp only [Option.getD_some, List.getElem?_cons_zero, List.getElem?_cons_succ] at h0 h1 h2
  have hp := fun k => parse_uint_i s bits mx hb H k hz hs
  have hne : (puE mx s 0).2 ≠ 0 := by omega
  simp only [errP, if_neg hne] at hp
  simp only [go_sem, simprocAttr, hl, h0, h1, h2, hp, hx]

set_option maxRecDepth 20000 in
theorem rdata_number (s : List UInt8) (bits : Int) (mx : Nat) (hb : Bits bits mx) (hmx : mx ≤ 4294967295) (H k) (ht : Te H) (hs : s.length ≤ 1048576) : callK Tryz.prog 44 [.str s, .int .i64 bits] H k = k (.tuple [.int .u32 (((numS s mx).getD 0 : Nat)), .bool (numS s mx).isSome], H, z0) := by
  refine callK_eq (r := (.tuple [.int .u32 (((numS s mx).getD 0 : Nat)), .bool (numS s mx).isSome], H, z0)) ?_ k
  refine callK_start (n := 35) (rs := [.tmp 4, .tmp 5]) Tryz.func44 rfl rfl rfl ?_
  intro σ hl ha
  have h0 := ha 0 (by simp)
  have h1 := ha 1 (by simp)
  clear ha
  simp only [Option.getD_some, List.getElem?_cons_zero, List.getElem?_cons_succ] at h0 h1
  by_cases hz : s = []
  · rw [numS_bad (.inl hz)]
    subst hz
    simp only [go_sem, simprocAttr, hl, h0, h1, Option.getD_none, Option.isSome_none]
  have hpos : 0 < s.length := List.length_pos_iff.2 hz
  obtain ⟨c, hc⟩ : ∃ c, s[0]? = some c := ⟨_, List.getElem?_eq_getElem hpos⟩
  have e0 : (s == []) = false := by simpa using hz
  have hcl := c.toNat_lt
  by_cases hld : 1 < s.length ∧ c.toNat = 48
  · rw [numS_bad (.inr (.inl ⟨hld.1, by rw [hc]; congr 1; exact UInt8.toNat.inj hld.2⟩))]
    have g1 : decide ((s.length : Int) > 1) = true := by simp; omega
    have g2 : ((c.toNat : Int) == 48) = true := by simp; omega
    simp only [go_sem, simprocAttr, hl, h0, h1, hc, hpos, g1, g2, e0, Option.getD_none, Option.isSome_none]
  have hcase : (decide ((s.length : Int) > 1) = true ∧ ((c.toNat : Int) == 48) = false) ∨ decide ((s.length : Int) > 1) = false := by
    by_cases h1 : 1 < s.length
    · exact .inl ⟨by simp; omega, by simp; intro h; exact hld ⟨h1, by omega⟩⟩
    · exact .inr (by simp; omega)
  by_cases hp : c.toNat = 43
  · rw [numS_plus (by rw [hc]; congr 1; exact UInt8.toNat.inj hp)]
    have g3 : ((c.toNat : Int) == 43) = true := by simp; omega
    rcases hcase with ⟨g1, g2⟩ | g1
    · simp only [go_sem, simprocAttr, hl, h0, h1, hc, hpos, g1, g2, g3, e0, Option.getD_none, Option.isSome_none]
    · simp only [go_sem, simprocAttr, hl, h0, h1, hc, hpos, g1, g3, e0, Option.getD_none, Option.isSome_none]
  have g3 : ((c.toNat : Int) == 43) = false := by simp; omega
  have hnb : ¬ (1 < s.length ∧ s[0]? = some 48) := by
    rintro ⟨h1, h2⟩
    rw [hc] at h2
    cases h2
    exact hld ⟨h1, rfl⟩
  rw [numS_pu hmx hz hnb]
  by_cases he : (puE mx s 0).2 = 0
  · have hpu := fun k => parse_uint_ok s bits mx hb H k hz hs he
    rw [if_pos he]
    have hle : (puE mx s 0).1 ≤ mx := by
      by_cases hg : s.all isD = true ∧ valF 0 s ≤ mx
      · rw [(puE_spec (mx := mx) s 0).1 hg]; exact hg.2
      · have := (puE_spec (mx := mx) s 0).2 hg (by omega); omega
    have w0 : IntKind.u32.wrap ((puE mx s 0).1 : Int) = ((puE mx s 0).1 : Int) := wrap_u32 (by omega)
    rcases hcase with ⟨g1, g2⟩ | g1
    · simp only [go_sem, simprocAttr, hl, h0, h1, hc, hpos, g1, g2, g3, e0, hpu, w0, Option.getD_some, Option.isSome_some]
    · simp only [go_sem, simprocAttr, hl, h0, h1, hc, hpos, g1, g3, e0, hpu, w0, Option.getD_some, Option.isSome_some]
  · have hbd : (puE mx s 0).2 = 1 ∨ (puE mx s 0).2 = 2 := by
      by_cases hg : s.all isD = true ∧ valF 0 s ≤ mx
      · exact absurd (by rw [(puE_spec (mx := mx) s 0).1 hg]) he
      · exact (puE_spec (mx := mx) s 0).2 hg (by omega)
    obtain ⟨x, hpu⟩ := parse_uint_bad s bits mx hb H ht hz hs hbd
    rw [if_neg he]
    rcases hcase with ⟨g1, g2⟩ | g1
    · simp only [go_sem, simprocAttr, hl, h0, h1, hc, hpos, g1, g2, g3, e0, hpu, Option.getD_none, Option.isSome_none]
      try exact leave_flat (by simp [flat, flats]) (by simp [clean, low, Ef.and, omin])
    · simp only [go_sem, simprocAttr, hl, h0, h1, hc, hpos, g1, g3, e0, hpu, Option.getD_none, Option.isSome_none]
      try exact leave_flat (by simp [flat, flats]) (by simp [clean, low, Ef.and, omin])
end Go.Proofs.YtgkpgpdkolpfkaaGreatDoor.V
namespace Go.Proofs.YtgkpgpdkolpfkaaGreatDoor.V
open Go
attribute [local irreducible] go goOps goD opK callK callT stepK leaveTo nextK

def splitB (c : UInt8) : List UInt8 → List (List UInt8)
  | [] => [[]]
  | x :: r => if x = c then [] :: splitB c r else match splitB c r with
    | [] => [[x]]
    | h :: t => (x :: h) :: t
theorem splitB_len (c : UInt8) : ∀ s : List UInt8, (splitB c s).length = s.count c + 1
  | [] => rfl
  | x :: r => by
    have ih := splitB_len c r
    unfold splitB
    split
    · rename_i h; subst h; simp [ih]
    · rename_i h
      have e : (x :: r).count c = r.count c := List.count_cons_of_ne h
      rw [e]
      cases hs : splitB c r with
      | nil => rw [hs] at ih; simp at ih
      | cons a b => rw [hs] at ih; simpa using ih
theorem splitB_no (c : UInt8) : ∀ s : List UInt8, c ∉ s → splitB c s = [s]
  | [], _ => rfl
  | x :: r, h => by
    have h1 : x ≠ c := fun e => h (by simp [e])
    have h2 := splitB_no c r (fun e => h (by simp [e]))
    unfold splitB
    rw [if_neg h1, h2]
theorem splitB_at (c : UInt8) : ∀ (x r : List UInt8), c ∉ x → splitB c (x ++ c :: r) = x :: splitB c r
  | [], r, _ => by show splitB c (c :: r) = _; rw [splitB, if_pos rfl]
  | y :: x, r, h => by
    have h1 : y ≠ c := fun e => h (by simp [e])
    have h2 := splitB_at c x r (fun e => h (by simp [e]))
    show splitB c (y :: (x ++ c :: r)) = _
    rw [splitB, if_neg h1, h2]
theorem splitB_join (c : UInt8) : ∀ (x : List UInt8) (r : List (List UInt8)), c ∉ x → (∀ y ∈ r, c ∉ y) → splitB c (x ++ r.flatMap ([c] ++ ·)) = x :: r
  | x, [], h, _ => by rw [List.flatMap_nil, List.append_nil]; exact splitB_no c x h
  | x, y :: r, h, hr => by
    have e : (y :: r).flatMap ([c] ++ ·) = c :: (y ++ r.flatMap ([c] ++ ·)) := rfl
    rw [e, splitB_at c x _ h, splitB_join c y r (hr y (by simp)) (fun z hz => hr z (by simp [hz]))]
theorem idx_or (s : List UInt8) (c : UInt8) : (Lib.indexByte s c = -1 ∧ c ∉ s) ∨ ∃ o : Nat, Lib.indexByte s c = o ∧ o < s.length ∧ s = s.take o ++ c :: s.drop (o + 1) ∧ c ∉ s.take o := by
  have h1 := Lib.indexByte_ge s c
  by_cases h : Lib.indexByte s c = -1
  · refine .inl ⟨h, fun hm => ?_⟩
    obtain ⟨k, hk⟩ := List.getElem?_of_mem hm
    exact Lib.indexByte_none h k hk
  · obtain ⟨o, ho⟩ : ∃ o : Nat, Lib.indexByte s c = o := ⟨(Lib.indexByte s c).toNat, by omega⟩
    obtain ⟨h2, h3⟩ := Lib.indexByte_some ho
    have hlt := (List.getElem?_eq_some_iff.1 h2).1
    refine .inr ⟨o, ho, hlt, ?_, fun hm => ?_⟩
    · rw [← drop_at h2, List.take_append_drop]
    · obtain ⟨k, hk⟩ := List.getElem?_of_mem hm
      rw [List.getElem?_take] at hk
      split at hk
      · rename_i hko; exact h3 k hko hk
      · cases hk
theorem u8_back (c : UInt8) : c.toNat.toUInt8 = c := UInt8.ofNat_toNat
theorem sl_IndexByte (s : List UInt8) (c : UInt8) (H k) : callK Tryz.prog 90 [.str s, .int .u8 c.toNat] H k = k (.int .i64 (Lib.indexByte s c), H, z0) := by
  refine callK_eq (r := (.int .i64 (Lib.indexByte s c), H, z0)) ?_ k
  refine callK_start (n := 8) (rs := [.tmp 4]) Tryz.func90 rfl rfl rfl ?_
  intro σ hl ha
  have h0 := ha 0 (by simp)
  have h1 := ha 1 (by simp)
  clear ha
  simp only [Option.getD_some, List.getElem?_cons_zero, List.getElem?_cons_succ] at h0 h1
  simp only [go_sem, simprocAttr, hl, h0, h1, u8_back]
theorem s_IndexByte (s : List UInt8) (c : UInt8) (H k) : callK Tryz.prog 67 [.str s, .int .u8 c.toNat] H k = k (.int .i64 (Lib.indexByte s c), H, z0) := by
  refine callK_eq (r := (.int .i64 (Lib.indexByte s c), H, z0)) ?_ k
  refine callK_start (n := 8) (rs := [.tmp 4]) Tryz.func67 rfl rfl rfl ?_
  intro σ hl ha
  have h0 := ha 0 (by simp)
  have h1 := ha 1 (by simp)
  clear ha
  simp only [Option.getD_some, List.getElem?_cons_zero, List.getElem?_cons_succ] at h0 h1
  have hi := fun k => sl_IndexByte s c H k
  simp only [go_sem, simprocAttr, hl, h0, h1, hi]
theorem sl_Index1 (s : List UInt8) (c : UInt8) (H k) : callK Tryz.prog 98 [.str s, .str [c]] H k = k (.int .i64 (Lib.indexByte s c), H, z0) := by
  refine callK_eq (r := (.int .i64 (Lib.indexByte s c), H, z0)) ?_ k
  refine callK_start (n := 143) (rs := [.tmp 4]) Tryz.func98 rfl rfl rfl ?_
  intro σ hl ha
  have h0 := ha 0 (by simp)
  have h1 := ha 1 (by simp)
  clear ha
  simp only [Option.getD_some, List.getElem?_cons_zero, List.getElem?_cons_succ] at h0 h1
  by_cases he : s = [c]
  · have e0 : ([c] == s) = true := by rw [he]; exact beq_self_eq_true _
    have hi : Lib.indexByte s c = 0 := by rw [he]; simp [Lib.indexByte]
    rw [hi]
    simp only [go_sem, simprocAttr, hl, h0, h1, e0]
  · have e0 : ([c] == s) = false := by rw [beq_eq_false_iff_ne]; exact fun h => he h.symm
    have hi := fun k => sl_IndexByte s c H k
    simp only [go_sem, simprocAttr, hl, h0, h1, e0, hi]
theorem s_Index1 (s : List UInt8) (c : UInt8) (H k) : callK Tryz.prog 97 [.str s, .str [c]] H k = k (.int .i64 (Lib.indexByte s c), H, z0) := by
  refine callK_eq (r := (.int .i64 (Lib.indexByte s c), H, z0)) ?_ k
  refine callK_start (n := 8) (rs := [.tmp 4]) Tryz.func97 rfl rfl rfl ?_
  intro σ hl ha
  have h0 := ha 0 (by simp)
  have h1 := ha 1 (by simp)
  clear ha
  simp only [Option.getD_some, List.getElem?_cons_zero, List.getElem?_cons_succ] at h0 h1
  have hi := fun k => sl_Index1 s c H k
  simp only [go_sem, simprocAttr, hl, h0, h1, hi]
theorem s_Count1 (s : List UInt8) (c : UInt8) (H k) : callK Tryz.prog 96 [.str s, .str [c]] H k = k (.int .i64 (s.count c : Nat), H, z0) := by
  refine callK_eq (r := (.int .i64 (s.count c : Nat), H, z0)) ?_ k
  refine callK_start (n := 34) (rs := [.tmp 4]) Tryz.func96 rfl rfl rfl ?_
  intro σ hl ha
  have h0 := ha 0 (by simp)
  have h1 := ha 1 (by simp)
  clear ha
  simp only [Option.getD_some, List.getElem?_cons_zero, List.getElem?_cons_succ] at h0 h1
  have hc : Lib.countByte s c = s.count c := rfl
  simp only [go_sem, simprocAttr, hl, h0, h1, u8_back, hc]
theorem mk_strs (n : Nat) (H : Hp) (hn : n ≤ 2000000) : evMake Tryz.prog 38 (.int .i64 (n : Nat)) (.int .i64 (n : Nat)) H = some (.slice H.length 0 n (.ex n), H ++ [.cells (List.replicate n (.str [])) 9 .rw]) := by
  have hr : ∀ n, rep [.str []] n = List.replicate n (AV.str []) := by
    intro n; induction n with
    | zero => rfl
    | succ n ih => rw [rep, ih]; rfl
  simp only [evMake, tsh_38, tzero_9, Option.bind_some]
  rw [if_pos (by omega)]
  simp [hr]
theorem min_l {a b : Nat} (h : a ≤ b) : evMin2 (.int .i64 (a : Nat)) (.int .i64 (b : Nat)) = some (.int .i64 (a : Nat)) := by
  have : ¬ ((b : Int) < (a : Int)) := by omega
  simp [evMin2, this]
set_option maxRecDepth 20000 in
set_option maxHeartbeats 2000000 in
theorem s_genSplit (s : List UInt8) (c : UInt8) (H k) (hs : s.length ≤ 1048576) : callK Tryz.prog 74 [.str s, .str [c], .int .i64 0, .int .i64 (-1)] H k = k (.slice H.length 0 (splitB c s).length (.ex (splitB c s).length), H ++ [.cells (strs (splitB c s)) 9 .rw], z0) := by
  refine callK_eq (r := (.slice H.length 0 (splitB c s).length (.ex (splitB c s).length), H ++ [.cells (strs (splitB c s)) 9 .rw], z0)) ?_ k
  refine callK_start (n := 66) (rs := [.tmp 8]) Tryz.func74 rfl rfl rfl ?_
  intro σ hl ha
  have h0 := ha 0 (by simp)
  have h1 := ha 1 (by simp)
  have h2 := ha 2 (by simp)
  have h3 := ha 3 (by simp)
  clear ha
  simp only [Option.getD_some, List.getElem?_cons_zero, List.getElem?_cons_succ] at h0 h1 h2 h3
  obtain ⟨S, hS⟩ : ∃ S, S = splitB c s := ⟨_, rfl⟩
  obtain ⟨m, hm⟩ : ∃ m, m = s.count c := ⟨_, rfl⟩
  have hSl : S.length = m + 1 := by rw [hS, splitB_len, hm]
  have hml : m ≤ s.length := by rw [hm]; exact List.count_le_length
  rw [← hS, hSl]
  have hcn := fun k => s_Count1 s c H k
  rw [← hm] at hcn
  have hr0 : rowS S (m + 1) 0 = List.replicate (m + 1) (.str []) := by simp [rowS, strs]
  have hmk := fun H' => mk_strs (m + 1) H' (by omega)
  rw [← hr0] at hmk
  have w1 : IntKind.i64.wrap ((m : Int) + 1) = ((m + 1 : Nat) : Int) := wrap_succ (by omega)
  have w2 : IntKind.i64.wrap ((s.length : Int) + 1) = ((s.length + 1 : Nat) : Int) := wrap_succ (by omega)
  have w3 : IntKind.i64.wrap (((m + 1 : Nat) : Int) - 1) = (m : Int) := by rw [wrap_i64 (by omega)]; omega
  have hc0 : ([c] == ([] : List UInt8)) = false := rfl
  have hmn := min_l (a := m + 1) (b := s.length + 1) (by omega)
  simp only [go_sem, simprocAttr, hl, h0, h1, h2, h3, hcn, w1, w2, hmn, hmk, w3, hc0]
  refine go_rounds (fun n st => ∃ σ i r e, n + i = m ∧ S = S.take i ++ splitB c r ∧ i + r.count c = m ∧ r.length ≤ s.length ∧ st = ⟨σ, H ++ [.cells (rowS S (m + 1) i) 9 .rw], e⟩ ∧ clean H.length e ∧ σ.length = 66 ∧ fr σ 0 = .str r ∧ fr σ 1 = .str [c] ∧ fr σ 2 = .int .i64 0 ∧ fr σ 3 = .int .i64 (m : Nat) ∧ fr σ 9 = .slice H.length 0 (m + 1) (.ex (m + 1)) ∧ fr σ 10 = .int .i64 (i : Nat)) m
    ⟨_, 0, s, _, rfl, by rw [List.take_zero, List.nil_append, hS], by omega, Nat.le_refl _, rfl, ⟨rfl, rfl⟩, by simp only [go_sem, simprocAttr, hl], by simp only [go_sem, simprocAttr, hl, h0], by simp only [go_sem, simprocAttr, hl, h1], by simp only [go_sem, simprocAttr, hl, h2], by simp only [go_sem, simprocAttr, hl, w3], by simp only [go_sem, simprocAttr, hl], by simp only [go_sem, simprocAttr, hl]⟩ ?_
  rintro n _ ⟨σ, i, r, e, hn, hSr, hcr, hrl, rfl, he, hl, h0, h1, h2, h3, h9, h10⟩
  have hrow := rowS_len (A := S) (n := m + 1) (j := i) hSl (by omega)
  have hw := wrap_succ (show i < 9223372036854775807 by omega)
  have b1 : (i : Int) < ((m + 1 : Nat) : Int) := by omega
  by_cases hlt : i < m
  · rcases idx_or r c with ⟨_, hno⟩ | ⟨o, ho, hol, hre, hno⟩
    · have := List.count_eq_zero.2 hno; omega
    have hix := fun H' k => s_Index1 r c H' k
    rw [ho] at hix
    have g0 : decide ((o : Int) < 0) = false := by simp
    have w4 : IntKind.i64.wrap ((o : Int) + 0) = (o : Int) := by rw [wrap_i64 (by omega)]; omega
    have w5 : IntKind.i64.wrap ((o : Int) + 1) = ((o + 1 : Nat) : Int) := wrap_succ (by omega)
    have b2 : o ≤ r.length := by omega
    have b3 : o + 1 ≤ r.length := by omega
    have hsp : splitB c r = r.take o :: splitB c (r.drop (o + 1)) := by
      conv => lhs; rw [hre]
      exact splitB_at c _ _ hno
    have hSi : S[i]? = some (r.take o) := by
      have hil : (S.take i).length = i := by rw [List.length_take, hSl]; omega
      rw [hSr, List.getElem?_append_right (by omega), hil, Nat.sub_self, hsp]; rfl
    have hput := rowS_put (n := m + 1) hSi (by omega)
    have e1 : (r.drop (o + 1)).take (r.length - (o + 1)) = r.drop (o + 1) := List.take_of_length_le (by rw [List.length_drop]; omega)
    have hcr' : r.count c = (r.drop (o + 1)).count c + 1 := by
      conv => lhs; rw [hre]
      rw [List.count_append, List.count_cons_self, List.count_eq_zero.2 hno]; omega
    simp only [go_sem, simprocAttr, hl, h0, h1, h2, h3, h9, h10, hlt, hix, g0, w4, w5, b1, b2, b3, hrow, hput, hw, e1]
    exact ⟨by omega, n - 1, by omega, _, i + 1, r.drop (o + 1), _, by omega, by rw [take_snoc hSi, List.append_assoc]; rw [hsp] at hSr; exact hSr, by omega, by rw [List.length_drop]; omega, rfl, by simp only [go_sem, simprocAttr, he], by simp only [go_sem, simprocAttr, hl], by simp only [go_sem, simprocAttr, hl], by simp only [go_sem, simprocAttr, hl, h1], by simp only [go_sem, simprocAttr, hl, h2], by simp only [go_sem, simprocAttr, hl, h3], by simp only [go_sem, simprocAttr, hl, h9], by simp only [go_sem, simprocAttr, hl]⟩
  · have hi : i = m := by omega
    subst hi
    have hno : c ∉ r := List.count_eq_zero.1 (by omega)
    rw [splitB_no c r hno] at hSr
    have hSi : S[i]? = some r := by
      have hil : (S.take i).length = i := by rw [List.length_take, hSl]; omega
      rw [hSr, List.getElem?_append_right (by omega), hil, Nat.sub_self]; rfl
    have hput := rowS_put (n := i + 1) hSi (by omega)
    have hend := rowS_end hSl
    have b4 : ((i + 1 : Nat) : Int) ≤ ((i + 1 : Nat) : Int) := Int.le_refl _
    simp only [go_sem, simprocAttr, hl, h0, h1, h2, h3, h9, h10, hlt, b1, hrow, hput, hw, hend]
    exact leave_keep rfl (by simp only [go_sem, simprocAttr, he])
theorem s_Split (s : List UInt8) (c : UInt8) (H k) (hs : s.length ≤ 1048576) : callK Tryz.prog 50 [.str s, .str [c]] H k = k (.slice H.length 0 (splitB c s).length (.ex (splitB c s).length), H ++ [.cells (strs (splitB c s)) 9 .rw], z0) := by
  refine callK_eq (r := (.slice H.length 0 (splitB c s).length (.ex (splitB c s).length), H ++ [.cells (strs (splitB c s)) 9 .rw], z0)) ?_ k
  refine callK_start (n := 8) (rs := [.tmp 4]) Tryz.func50 rfl rfl rfl ?_
  intro σ hl ha
  have h0 := ha 0 (by simp)
  have h1 := ha 1 (by simp)
  clear ha
  simp only [Option.getD_some, List.getElem?_cons_zero, List.getElem?_cons_succ] at h0 h1
  have hi := fun k => s_genSplit s c H k hs
  simp only [go_sem, simprocAttr, hl, h0, h1, hi]
end Go.Proofs.YtgkpgpdkolpfkaaGreatDoor.V
namespace Go.Proofs.YtgkpgpdkolpfkaaGreatDoor.V
open Go

attribute [local irreducible] go goOps goD opK callK callT stepK leaveTo nextK
end Go.Proofs.YtgkpgpdkolpfkaaGreatDoor.V
namespace Go.Proofs.YtgkpgpdkolpfkaaGreatDoor.V
open Go

def RdF (H : Hp) (v : AV) (bs : List UInt8) : Prop := (v = .nils ∧ bs = []) ∨ ∃ b o pre post e k, v = .slice b o bs.length (.ex bs.length) ∧ pre.length = o ∧ H[b]? = some (.cells (pre ++ (u8s bs ++ post)) e k)
theorem Rd.full {H : Hp} {v : AV} {bs : List UInt8} (h : Rd H v bs) :
    ∃ y, (∀ l kk, slK Tryz.prog 52 v none (some (.int .i64 (bs.length : Nat))) (some (.int .i64 (bs.length : Nat))) (H ++ l) kk = kk (y, H ++ l, z0)) ∧ RdF H y bs := by
  obtain ⟨rfl, rfl⟩ | ⟨b, o, c, pre, post, e, k, rfl, ho, hb, hc⟩ := h
  · refine ⟨.nils, fun l kk => ?_, .inl ⟨rfl, rfl⟩⟩
    simp only [go_sem, simprocAttr]
  · refine ⟨.slice b o bs.length (.ex bs.length), fun l kk => ?_, .inr ⟨b, o, pre, post, e, k, rfl, ho, hb⟩⟩
    have hb' : (H ++ l)[b]? = some (.cells (pre ++ (u8s bs ++ post)) e k) := hp_old hb
    obtain ⟨n, rfl, hn⟩ | ⟨rfl, rfl, fz, st, rfl⟩ := hc
    · simp only [go_sem, simprocAttr, hb']
      simp [hn]
    · simp only [go_sem, simprocAttr, hb']
      have : bs.length ≤ (pre.length + (bs.length + post.length) - o) / 1 := by rw [Nat.div_one]; omega
      simp [this]
      intro _; omega
theorem RdF.rd {H : Hp} {v : AV} {bs : List UInt8} (h : RdF H v bs) : Rd H v bs := by
  obtain h | ⟨b, o, pre, post, e, k, h1, h2, h3⟩ := h
  · exact .inl h
  · exact .inr ⟨b, o, _, pre, post, e, k, h1, h2, h3, .inl ⟨_, rfl, Nat.le_refl _⟩⟩
theorem RdF.app {H : Hp} {v : AV} {bs : List UInt8} (h : RdF H v bs) (xs : List AV) (q : Nat) (hq : 0 < q) (hx : xs.length = q) (hf : fits (bs.length + q) 1 = true) (l : Hp) (kk) :
    stepK (appTo Tryz.prog (.slice 5 1 1) v (xs, q) (H ++ l)) kk = kk (.slice (H ++ l).length 0 (bs.length + q) (.op 0), H ++ (l ++ [.cells (u8s bs ++ xs) 5 (.op 0 false)]), z0) := by
  have zk := zok_52
  obtain ⟨rfl, rfl⟩ | ⟨b, o, pre, post, e, k, rfl, ho, hb⟩ := h
  · rw [appTo_nils (by decide) zk]
    have hd : decide (q = 0) = false := by simp; omega
    have hf : fits q 1 = true := by simpa using hf
    simp only [hd, guardK_ft, hf, true_and, List.append_assoc]
    simp [u8s]
  · have hb' : (H ++ l)[b]? = some (.cells (pre ++ (u8s bs ++ post)) e k) := hp_old hb
    rw [appTo_ex (by decide) zk]
    have hd : decide (bs.length + q ≤ bs.length) = false := by simp; omega
    have hr : V.rd (H ++ l) b o (bs.length * 1) = some (u8s bs) := by
      unfold V.rd
      rw [hb']
      simp only
      rw [if_pos (by rw [List.length_append, List.length_append, u8s_len]; omega)]
      rw [← ho, List.drop_left, Nat.mul_one, List.take_append_of_le_length (by rw [u8s_len]; omega), List.take_of_length_le (by rw [u8s_len]; omega)]
    simp only [hd, guardK_ft, hf, true_and, hr, bindK_some, List.append_assoc]

attribute [local irreducible] go goOps goD opK callK callT stepK leaveTo nextK

end Go.Proofs.YtgkpgpdkolpfkaaGreatDoor.V
namespace Go.Proofs.YtgkpgpdkolpfkaaGreatDoor.V
open Go

abbrev Tab := List (List UInt8 × Nat)
def tget : Tab → List UInt8 → Option Nat
  | [], _ => none
  | (k, p) :: r, s => if k = s then some p else tget r s
theorem low_ominI {n : Nat} {a b : Option Nat} : low n (omin a b) = none ↔ low n a = none ∧ low n b = none := by
  cases a <;> cases b <;> simp [omin, low]
  omega
theorem clean_andI {n : Nat} {a b : Ef} : clean n (a.and b) ↔ clean n a ∧ clean n b := by
  unfold clean Ef.and
  simp only [low_ominI]
  constructor
  · rintro ⟨⟨h1, h2⟩, h3, h4⟩; exact ⟨⟨h1, h3⟩, h2, h4⟩
  · rintro ⟨⟨h1, h3⟩, h2, h4⟩; exact ⟨⟨h1, h2⟩, h3, h4⟩
theorem clean_mk {n : Nat} {a b : Option Nat} : clean n ⟨a, b⟩ ↔ low n a = none ∧ low n b = none := Iff.rfl
theorem low_sI {n x : Nat} : low n (some x) = none ↔ n ≤ x := by simp [low]
theorem clean_z {n : Nat} : clean n z0 ↔ True := by simp [clean, z0, low]
def Es (j : Nat) (e : Ef) : Prop := ∃ x, e.es = some x ∧ x ≤ j
theorem Es.l {j : Nat} {a b : Ef} (h : Es j a) : Es j (a.and b) := by
  obtain ⟨x, h1, h2⟩ := h
  unfold Es Ef.and
  cases hb : b.es with
  | none => exact ⟨x, by simp [h1, omin], h2⟩
  | some y => exact ⟨min x y, by simp [h1, omin], by omega⟩
theorem Es.r {j : Nat} {a b : Ef} (h : Es j b) : Es j (a.and b) := by
  obtain ⟨x, h1, h2⟩ := h
  unfold Es Ef.and
  cases hb : a.es with
  | none => exact ⟨x, by simp [h1, omin], h2⟩
  | some y => exact ⟨min y x, by simp [h1, omin], by omega⟩
theorem Es.leave {j m : Nat} {e : Ef} (h : Es j e) (hj : j < m) (v : AV) (H : Hp) : leave m v H e = (v, H, ⟨low m e.es, low m e.ws⟩) := by
  obtain ⟨x, h1, h2⟩ := h
  unfold V.leave
  rw [if_neg (by rw [h1, low_sm (by omega)]; simp)]
theorem Es.low {j m : Nat} {e : Ef} (h : Es j e) (hj : j < m) : Es j ⟨V.low m e.es, V.low m e.ws⟩ := by
  obtain ⟨x, h1, h2⟩ := h
  exact ⟨x, by show V.low m e.es = _; rw [h1, low_sm (by omega)], h2⟩
theorem clean_sn {n x : Nat} : clean n ⟨none, some x⟩ ↔ n ≤ x := by simp [clean, low]
theorem flats_by : ∀ s : List UInt8, flats (u8s s) = true
  | [] => rfl
  | c :: s => by
    have := flats_by s
    unfold u8s at this ⊢
    rw [List.map_cons]
    simp only [flats, flat, this, Bool.and_self]
end Go.Proofs.YtgkpgpdkolpfkaaGreatDoor.V
namespace Go.Proofs.YtgkpgpdkolpfkaaGreatDoor.V
open Go

def bk : AV → Option Nat
  | .slice b _ _ _ => some b
  | _ => none
def Bf (mb : Nat) (H : Hp) (v : AV) (bs : List UInt8) : Prop := (v = .nils ∧ bs = []) ∨
  ∃ b c post k, mb < b ∧ v = .slice b 0 bs.length c ∧ H[b]? = some (.cells (u8s bs ++ post) 5 k) ∧
    ((∃ n, c = .ex n ∧ bs.length ≤ n ∧ n ≤ bs.length + post.length ∧ (k = .rw ∨ ∃ st, k = .op 0 st)) ∨ (c = .op 0 ∧ post = [] ∧ ∃ st, k = .op 0 st))
theorem Bf.rd {mb : Nat} {H : Hp} {v : AV} {bs : List UInt8} (h : Bf mb H v bs) : Rd H v bs := by
  obtain h | ⟨b, c, post, k, h1, h2, h3, h4⟩ := h
  · exact .inl h
  · obtain ⟨n, rfl, h5, h6, h7⟩ | ⟨rfl, rfl, st, rfl⟩ := h4
    · exact .inr ⟨b, 0, _, [], post, _, k, h2, rfl, h3, .inl ⟨n, rfl, h5⟩⟩
    · exact .inr ⟨b, 0, _, [], [], _, _, h2, rfl, h3, .inr ⟨rfl, rfl, 0, st, rfl⟩⟩
theorem Bf.keep {mb : Nat} {H H' : Hp} {v : AV} {bs : List UInt8} (h : Bf mb H v bs) (hk : ∀ i x, bk v = some i → H[i]? = some x → H'[i]? = some x) : Bf mb H' v bs := by
  obtain h | ⟨b, c, post, k, h1, rfl, h3, h4⟩ := h
  · exact .inl h
  · exact .inr ⟨b, c, post, k, h1, rfl, hk b _ rfl h3, h4⟩
theorem Bf.lt {mb : Nat} {H : Hp} {v : AV} {bs : List UInt8} (h : Bf mb H v bs) {i : Nat} (hi : bk v = some i) : mb < i ∧ i < H.length := by
  obtain ⟨rfl, _⟩ | ⟨b, c, post, k, h1, rfl, h3, h4⟩ := h
  · cases hi
  · cases hi; exact ⟨h1, lt_of_get h3⟩
theorem Bf.scl {mb : Nat} {H : Hp} {v : AV} {bs : List UInt8} (h : Bf mb H v bs) : scal v = true := by
  obtain ⟨rfl, _⟩ | ⟨b, c, post, k, h1, rfl, h3, h4⟩ := h <;> rfl
theorem Bf.mono {mb mb' : Nat} {H : Hp} {v : AV} {bs : List UInt8} (h : Bf mb H v bs) (hm : mb' ≤ mb) : Bf mb' H v bs := by
  obtain h | ⟨b, c, post, k, h1, h2⟩ := h
  · exact .inl h
  · exact .inr ⟨b, c, post, k, by omega, h2⟩
theorem splice_end {bs xs : List UInt8} {post : List AV} (h : xs.length ≤ post.length) : splice (u8s bs ++ post) bs.length (u8s xs) = u8s (bs ++ xs) ++ post.drop xs.length := by
  unfold splice
  rw [List.take_append_of_le_length (by rw [u8s_len]; exact Nat.le_refl _), List.take_of_length_le (by rw [u8s_len]; exact Nat.le_refl _), u8s_app, u8s_len, List.append_assoc, List.append_assoc, List.drop_append, u8s_len,
    List.drop_eq_nil_of_le (by rw [u8s_len]; omega), List.nil_append]
  congr 3; omega
theorem Bf.app {mb : Nat} {H : Hp} {v : AV} {bs : List UInt8} (h : Bf mb H v bs) (hm : mb < H.length) (xs : List UInt8) (hf : fits (bs.length + xs.length) 1 = true) :
    ∃ v' H' e', (∀ kk, stepK (appTo Tryz.prog (.slice 5 1 1) v (u8s xs, xs.length) H) kk = kk (v', H', e')) ∧ Bf mb H' v' (bs ++ xs) ∧ H.length ≤ H'.length ∧
      (∀ i x, bk v ≠ some i → H[i]? = some x → H'[i]? = some x) ∧ clean mb e' ∧ (bk v' = bk v ∨ ∃ j, bk v' = some j ∧ H.length ≤ j) := by
  have zk := zok_52
  obtain ⟨rfl, rfl⟩ | ⟨b, c, post, k, hb, rfl, hg, hc⟩ := h
  · by_cases hx : xs = []
    · subst hx
      refine ⟨.nils, H, z0, fun kk => ?_, .inl ⟨rfl, rfl⟩, Nat.le_refl _, fun i x _ hx => hx, by simp [clean, z0, low], .inl rfl⟩
      rw [appTo_nils (by decide) zk]
      simp [guardK_tt]
    · have hp : 0 < xs.length := List.length_pos_iff.2 hx
      refine ⟨.slice H.length 0 xs.length (.op 0), H ++ [.cells (u8s xs) 5 (.op 0 false)], z0, fun kk => ?_, .inr ⟨H.length, .op 0, [], .op 0 false, hm, by simp, by simp, .inr ⟨rfl, rfl, false, rfl⟩⟩, by simp, fun i x _ hx => get_app hx, by simp [clean, z0, low], .inr ⟨_, rfl, Nat.le_refl _⟩⟩
      rw [appTo_nils (by decide) zk]
      have hd : decide (xs.length = 0) = false := by simp; exact hx
      have hf : fits xs.length 1 = true := by simpa using hf
      simp only [hd, guardK_ft, hf, true_and]
  · have hlt := lt_of_get hg
    have hset : ∀ (y : ABlk) (i : Nat) (x : ABlk), bk (.slice b 0 bs.length c) ≠ some i → H[i]? = some x → (H.set b y)[i]? = some x := by
      intro y i x hi hx
      rw [List.getElem?_set_ne (by intro e; exact hi (by rw [e]; rfl))]; exact hx
    have hnew : ∀ (y : ABlk) (st : Bool), (∀ kk, stepK (appTo Tryz.prog (.slice 5 1 1) (.slice b 0 bs.length c) (u8s xs, xs.length) H) kk = kk (.slice H.length 0 (bs.length + xs.length) (.op 0), H.set b y ++ [.cells (u8s (bs ++ xs)) 5 (.op 0 st)], ⟨none, some b⟩)) →
        ∃ v' H' e', (∀ kk, stepK (appTo Tryz.prog (.slice 5 1 1) (.slice b 0 bs.length c) (u8s xs, xs.length) H) kk = kk (v', H', e')) ∧ Bf mb H' v' (bs ++ xs) ∧ H.length ≤ H'.length ∧
          (∀ i x, bk (.slice b 0 bs.length c) ≠ some i → H[i]? = some x → H'[i]? = some x) ∧ clean mb e' ∧ (bk v' = bk (.slice b 0 bs.length c) ∨ ∃ j, bk v' = some j ∧ H.length ≤ j) := by
      intro y st hy
      refine ⟨_, _, _, hy, .inr ⟨H.length, .op 0, [], .op 0 st, hm, by simp, ?_, .inr ⟨rfl, rfl, st, rfl⟩⟩, by simp, fun i x hi hx => get_app (hset y i x hi hx), by simp [clean, low]; omega, .inr ⟨_, rfl, Nat.le_refl _⟩⟩
      rw [List.getElem?_append_right (by simp)]; simp
    obtain ⟨n, rfl, h5, h6, h7⟩ | ⟨rfl, rfl, st, rfl⟩ := hc
    · have hcan : canWr k bs.length = true := by
        rcases h7 with rfl | ⟨st, rfl⟩
        · rfl
        · simp [canWr]
      by_cases hroom : bs.length + xs.length ≤ n
      · refine ⟨.slice b 0 (bs.length + xs.length) (.ex n), H.set b (.cells (u8s (bs ++ xs) ++ post.drop xs.length) 5 k), ⟨none, some b⟩, fun kk => ?_, .inr ⟨b, .ex n, post.drop xs.length, k, hb, by simp, by rw [List.getElem?_set_self hlt], .inl ⟨n, rfl, by simp; omega, by simp; omega, h7⟩⟩, by simp, hset _, by simp [clean, low]; omega, .inl rfl⟩
        rw [appTo_ex (by decide) zk]
        have hd : decide (bs.length + xs.length ≤ n) = true := by simpa using hroom
        have hw : wr H b (0 + bs.length * 1) (u8s xs) = some (H.set b (.cells (u8s (bs ++ xs) ++ post.drop xs.length) 5 k), ⟨none, some b⟩) := by
          unfold wr
          rw [hg]
          simp only [Nat.zero_add, Nat.mul_one]
          rw [if_pos ⟨by rw [List.length_append, u8s_len, u8s_len]; omega, hcan, u8s_scal⟩, splice_end (by omega), flats_by]
          rfl
        simp only [hd, guardK_tt, hw, bindK_some]
      · refine ⟨.slice H.length 0 (bs.length + xs.length) (.op 0), H ++ [.cells (u8s (bs ++ xs)) 5 (.op 0 false)], z0, fun kk => ?_, .inr ⟨H.length, .op 0, [], .op 0 false, hm, by simp, by simp, .inr ⟨rfl, rfl, false, rfl⟩⟩, by simp, fun i x _ hx => get_app hx, by simp [clean, z0, low], .inr ⟨_, rfl, Nat.le_refl _⟩⟩
        rw [appTo_ex (by decide) zk]
        have hd : decide (bs.length + xs.length ≤ n) = false := by simpa using hroom
        have hr : V.rd H b 0 (bs.length * 1) = some (u8s bs) := by
          unfold V.rd
          rw [hg]
          simp only
          rw [if_pos (by rw [List.length_append, u8s_len]; omega)]
          rw [List.drop_zero, Nat.mul_one, List.take_append_of_le_length (by rw [u8s_len]; omega), List.take_of_length_le (by rw [u8s_len]; omega)]
        simp only [hd, guardK_ft, hf, true_and, hr, bindK_some, u8s_app]
    · simp only [List.append_nil] at hg
      by_cases hx : xs = []
      · subst hx
        refine ⟨.slice b 0 bs.length (.op 0), H, ⟨none, some b⟩, fun kk => ?_, .inr ⟨b, .op 0, [], .op 0 st, hb, by simp, by simpa using hg, .inr ⟨rfl, rfl, st, rfl⟩⟩, Nat.le_refl _, fun i x _ hx => hx, by simp [clean, low]; omega, .inl rfl⟩
        rw [appTo_op (by decide) zk, hg, bindK_some, appO_c]
        have hd : decide (0 + (bs.length + 0) * 1 ≤ (u8s bs).length) = true := by rw [u8s_len]; simp
        have hw : wr H b (0 + bs.length * 1) (u8s []) = some (H, ⟨none, some b⟩) := by
          unfold wr
          rw [hg]
          simp only [Nat.zero_add, Nat.mul_one]
          have hs : splice (u8s bs) bs.length (u8s []) = u8s bs := by have := splice_end (bs := bs) (xs := []) (post := []) (by simp); simpa using this
          rw [if_pos ⟨by rw [u8s_len, u8s_len]; simp, by simp [canWr], u8s_scal⟩, hs, set_get hg]
          rfl
        simp only [List.length_nil, hd, guardK_tt, hw, bindK_some]
        simp [u8s_len]
      · have hp : 0 < xs.length := List.length_pos_iff.2 hx
        refine hnew .dead st fun kk => ?_
        rw [appTo_op (by decide) zk, hg, bindK_some, appO_c]
        have hd : decide (bs.length + xs.length ≤ bs.length) = false := by simp; omega
        have hz : bs.length * 1 = bs.length := Nat.mul_one _
        have hk : ((u8s bs).drop 0).take (bs.length * 1) ++ u8s xs = u8s (bs ++ xs) := by
          rw [List.drop_zero, Nat.mul_one, List.take_of_length_le (by rw [u8s_len]; omega), u8s_app]
        rw [Nat.mul_one] at hk
        simp only [u8s_len, Nat.zero_add, Nat.mul_one, hd, guardK_ft, hk, hf, u8s_scal]
        simp
theorem Bf.full {mb : Nat} {H : Hp} {v : AV} {bs : List UInt8} (h : Bf mb H v bs) :
    ∃ y, (∀ l kk, slK Tryz.prog 52 v none (some (.int .i64 (bs.length : Nat))) (some (.int .i64 (bs.length : Nat))) (H ++ l) kk = kk (y, H ++ l, z0)) ∧ Bf mb H y bs ∧ bk y = bk v ∧ (y = .nils ∨ ∃ b, y = .slice b 0 bs.length (.ex bs.length)) := by
  obtain ⟨rfl, rfl⟩ | ⟨b, c, post, k, hb, rfl, hg, hc⟩ := h
  · refine ⟨.nils, fun l kk => ?_, .inl ⟨rfl, rfl⟩, rfl, .inl rfl⟩
    simp only [go_sem, simprocAttr]
  · refine ⟨.slice b 0 bs.length (.ex bs.length), fun l kk => ?_, .inr ⟨b, .ex bs.length, post, k, hb, rfl, hg, .inl ⟨_, rfl, Nat.le_refl _, by omega, ?_⟩⟩, rfl, .inr ⟨b, rfl⟩⟩
    · have hg' : (H ++ l)[b]? = some (.cells (u8s bs ++ post) 5 k) := hp_old hg
      obtain ⟨n, rfl, h5, h6, h7⟩ | ⟨rfl, rfl, st, rfl⟩ := hc
      · simp only [go_sem, simprocAttr, hg']
        simp [h5]
      · simp only [go_sem, simprocAttr, hg']
        simp
    · obtain ⟨n, rfl, h5, h6, h7⟩ | ⟨rfl, rfl, st, rfl⟩ := hc
      · exact h7
      · exact .inr ⟨st, rfl⟩
end Go.Proofs.YtgkpgpdkolpfkaaGreatDoor.V
namespace Go.Proofs.YtgkpgpdkolpfkaaGreatDoor.V
open Go
attribute [local irreducible] go goOps goD opK callK callT stepK leaveTo nextK

theorem Rd.appd {H : Hp} {v : AV} {bs : List UInt8} (h : Rd H v bs) : appended H 1 v = some (u8s bs, bs.length) := by
  obtain ⟨rfl, rfl⟩ | ⟨b, o, c, pre, post, e, k, rfl, ho, hb, hc⟩ := h
  · rfl
  · have hr : V.rd H b o (bs.length * 1) = some (u8s bs) := by
      unfold V.rd
      rw [hb]
      simp only
      rw [if_pos (by rw [List.length_append, List.length_append, u8s_len]; omega)]
      rw [← ho, List.drop_left, Nat.mul_one, List.take_append_of_le_length (by rw [u8s_len]; omega), List.take_of_length_le (by rw [u8s_len]; omega)]
    simp only [appended, hr, Option.map_some]
theorem Rd.upd {H : Hp} {v : AV} {bs : List UInt8} {mb : Nat} {es : List (AV × AV)} (h : Rd (H.set mb (.map es)) v bs) (es' : List (AV × AV)) (l : Hp) : Rd (H.set mb (.map es') ++ l) v bs := by
  obtain h | ⟨b, o, c, pre, post, e, k, h1, h2, h3, h4⟩ := h
  · exact .inl h
  · refine .inr ⟨b, o, c, pre, post, e, k, h1, h2, get_app ?_, h4⟩
    rw [List.getElem?_set] at h3 ⊢
    split at h3
    · split at h3 <;> cases h3
    · rename_i hne
      rw [if_neg hne]; exact h3

end Go.Proofs.YtgkpgpdkolpfkaaGreatDoor.V
namespace Go.Proofs.YtgkpgpdkolpfkaaGreatDoor.V
open Go

theorem form_ascii {t : Int} : (formS t).all (fun c => decide (c.toNat < 128)) = true := by
  unfold formS
  repeat' split
  all_goals decide
theorem form_lenP {t : Int} : (formS t).length ≤ 7 ∧ 0 < (formS t).length := by
  unfold formS
  repeat' split
  all_goals decide
theorem Bf.cells {mb : Nat} {H : Hp} {v : AV} {bs : List UInt8} (h : Bf mb H v bs) {i : Nat} (hi : bk v = some i) : ∃ post k, H[i]? = some (.cells (u8s bs ++ post) 5 k) := by
  obtain ⟨rfl, _⟩ | ⟨b, c, post, k, h1, rfl, h3, h4⟩ := h
  · cases hi
  · cases hi; exact ⟨_, _, h3⟩
attribute [local irreducible] go goOps goD opK callK callT stepK leaveTo nextK
end Go.Proofs.YtgkpgpdkolpfkaaGreatDoor.V
namespace Go.Proofs.YtgkpgpdkolpfkaaGreatDoor.V
open Go

def Og (n : Nat) (e : TypeId) (H : Hp) (v : AV) (cs : List AV) : Prop := (v = .nils ∧ cs = []) ∨ ∃ b, n ≤ b ∧ v = .slice b 0 cs.length (.op 0) ∧ H[b]? = some (.cells cs e (.op 0 false)) ∧ cs ≠ []
theorem Og.keep {n : Nat} {e : TypeId} {H H' : Hp} {v : AV} {cs : List AV} (h : Og n e H v cs) (hk : ∀ (i : Nat) (x : ABlk), bk v = some i → H[i]? = some x → H'[i]? = some x) : Og n e H' v cs := by
  obtain h | ⟨b, h1, rfl, h3, h4⟩ := h
  · exact .inl h
  · exact .inr ⟨b, h1, rfl, hk b _ rfl h3, h4⟩
theorem Og.cells {n : Nat} {e : TypeId} {H : Hp} {v : AV} {cs : List AV} (h : Og n e H v cs) {i : Nat} (hi : bk v = some i) : n ≤ i ∧ H[i]? = some (.cells cs e (.op 0 false)) := by
  obtain ⟨rfl, _⟩ | ⟨b, h1, rfl, h3, h4⟩ := h
  · cases hi
  · cases hi; exact ⟨h1, h3⟩
theorem Og.scl {n : Nat} {e : TypeId} {H : Hp} {v : AV} {cs : List AV} (h : Og n e H v cs) : scal v = true := by
  obtain ⟨rfl, _⟩ | ⟨b, h1, rfl, h3, h4⟩ := h <;> rfl
theorem Og.vc {n : Nat} {e : TypeId} {H : Hp} {v : AV} {cs : List AV} (h : Og n e H v cs) : vcells v = [v] := by
  obtain ⟨rfl, _⟩ | ⟨b, h1, rfl, h3, h4⟩ := h <;> rfl
theorem Og.appd {n : Nat} {e : TypeId} {H : Hp} {v : AV} {cs : List AV} (h : Og n e H v cs) : appended H 1 v = some (cs, cs.length) := by
  obtain ⟨rfl, rfl⟩ | ⟨b, h1, rfl, h3, h4⟩ := h
  · rfl
  · have hr : V.rd H b 0 (cs.length * 1) = some cs := by
      unfold V.rd
      rw [h3]
      simp
    simp only [appended, hr, Option.map_some]
theorem Og.len {n : Nat} {e t w : Nat} {H : Hp} {v : AV} {cs : List AV} (h : Og n e H v cs) (ht : tsh Tryz.prog t = some (.slice e 1 w)) (H' : Hp) : evLen Tryz.prog t v H' = some (.int .i64 cs.length) := by
  obtain ⟨rfl, rfl⟩ | ⟨b, h1, rfl, h3, h4⟩ := h <;> simp only [evLen, ht] <;> rfl
theorem Og.at {n : Nat} {e t w : Nat} {H : Hp} {v : AV} {cs : List AV} (h : Og n e H v cs) (ht : tsh Tryz.prog t = some (.slice e 1 w)) {i : Nat} {x : AV} (hx : cs[i]? = some x) :
    ∃ b, evIndexAddr Tryz.prog t v (.int .i64 (i : Nat)) = some (.ptr b i) ∧ H[b]? = some (.cells cs e (.op 0 false)) ∧ ∀ (e' : TypeId) (k : Kd), ldC i 1 false (.cells cs e' k) = some x := by
  have hi := (List.getElem?_eq_some_iff.1 hx).1
  obtain ⟨rfl, rfl⟩ | ⟨b, h1, rfl, h3, h4⟩ := h
  · simp at hi
  · refine ⟨b, ?_, h3, fun e' k => by rw [ldC_f]; exact hx⟩
    simp only [evIndexAddr, ht]
    rw [if_pos (by omega)]
    simp
theorem Og.app {n : Nat} {e w : Nat} {H : Hp} {v : AV} {cs : List AV} (h : Og n e H v cs) (hn : n ≤ H.length) (zk : zok Tryz.prog e 1 = true) (xs : List AV) (hsc : xs.all scal = true) (hf : fits (cs.length + xs.length) w = true) :
    ∃ (v' : AV) (H' : Hp) (e' : Ef), (∀ kk, stepK (appTo Tryz.prog (.slice e 1 w) v (xs, xs.length) H) kk = kk (v', H', e')) ∧ Og n e H' v' (cs ++ xs) ∧ H.length ≤ H'.length ∧
      (∀ (i : Nat) (x : ABlk), bk v ≠ some i → H[i]? = some x → H'[i]? = some x) ∧ clean n e' ∧ (bk v' = bk v ∨ ∃ j, bk v' = some j ∧ H.length ≤ j) ∧ (xs ≠ [] → flat v' = false) ∧ (xs = [] → v' = v ∧ H' = H) := by
  obtain ⟨rfl, rfl⟩ | ⟨b, hb, rfl, hg, hne⟩ := h
  · by_cases hx : xs = []
    · subst hx
      refine ⟨.nils, H, z0, fun kk => ?_, .inl ⟨rfl, rfl⟩, Nat.le_refl _, fun i x _ hx => hx, by simp [clean, z0, low], .inl rfl, fun h => absurd rfl h, fun _ => ⟨rfl, rfl⟩⟩
      rw [appTo_nils (by decide) zk]
      simp [guardK_tt]
    · have hp : 0 < xs.length := List.length_pos_iff.2 hx
      refine ⟨.slice H.length 0 xs.length (.op 0), H ++ [.cells xs e (.op 0 false)], z0, fun kk => ?_, .inr ⟨H.length, hn, by simp, by simp, by simpa using hx⟩, by simp, fun i x _ hx => get_app hx, by simp [clean, z0, low], .inr ⟨_, rfl, Nat.le_refl _⟩, fun _ => rfl, fun h => absurd h hx⟩
      rw [appTo_nils (by decide) zk]
      have hd : decide (xs.length = 0) = false := by simp; exact hx
      have hf : fits xs.length w = true := by simpa using hf
      simp only [hd, guardK_ft, hf, true_and]
  · have hlt := lt_of_get hg
    by_cases hx : xs = []
    · subst hx
      refine ⟨.slice b 0 cs.length (.op 0), H, ⟨none, some b⟩, fun kk => ?_, .inr ⟨b, hb, by simp, by simpa using hg, by simpa using hne⟩, Nat.le_refl _, fun i x _ hx => hx, by simp [clean, low]; omega, .inl rfl, fun h => absurd rfl h, fun _ => ⟨rfl, rfl⟩⟩
      rw [appTo_op (by decide) zk, hg, bindK_some, appO_c]
      have hd : decide (0 + (cs.length + 0) * 1 ≤ cs.length) = true := by simp
      have hw : wr H b (0 + cs.length * 1) [] = some (H, ⟨none, some b⟩) := by
        unfold wr
        rw [hg]
        simp only [Nat.zero_add, Nat.mul_one]
        have hs : splice cs cs.length [] = cs := by simp [splice]
        rw [if_pos ⟨by simp, by simp [canWr], by simp⟩, hs, set_get hg]
        rfl
      simp only [List.length_nil, hd, guardK_tt, hw, bindK_some]
      simp
    · have hp : 0 < xs.length := List.length_pos_iff.2 hx
      refine ⟨.slice H.length 0 (cs.length + xs.length) (.op 0), H.set b .dead ++ [.cells (cs ++ xs) e (.op 0 false)], ⟨none, some b⟩, fun kk => ?_, .inr ⟨H.length, hn, by simp, by rw [List.getElem?_append_right (by simp)]; simp, by simp [hne]⟩, by simp,
        fun i x hi hx => get_app (by rw [List.getElem?_set_ne (by rintro rfl; exact hi rfl)]; exact hx), by simp [clean, low]; omega, .inr ⟨_, rfl, Nat.le_refl _⟩, fun _ => rfl, fun h => absurd h hx⟩
      rw [appTo_op (by decide) zk, hg, bindK_some, appO_c]
      have hd : decide (cs.length + xs.length ≤ cs.length) = false := by simp; omega
      have hk : (cs.drop 0).take cs.length ++ xs = cs ++ xs := by simp
      simp only [Nat.zero_add, Nat.mul_one, hd, guardK_ft, hk, hf, hsc]
      simp
attribute [local irreducible] go goOps goD opK callK callT stepK leaveTo nextK

end Go.Proofs.YtgkpgpdkolpfkaaGreatDoor.V
namespace Go.Proofs.YtgkpgpdkolpfkaaGreatDoor.V
open Go
attribute [local irreducible] go goOps goD opK callK callT stepK leaveTo nextK
end Go.Proofs.YtgkpgpdkolpfkaaGreatDoor.V
namespace Go.Proofs.YtgkpgpdkolpfkaaGreatDoor.V
open Go

theorem Og.other {n n' : Nat} {e e' : TypeId} {H : Hp} {v v' : AV} {cs cs' : List AV} (h : Og n e H v cs) (h' : Og n' e' H v' cs') (hne : e ≠ e') {i : Nat} (hi : bk v = some i) : bk v' ≠ some i := by
  intro hh
  have h1 := (h.cells hi).2
  have h2 := (h'.cells hh).2
  rw [h1] at h2
  simp only [Option.some.injEq, ABlk.cells.injEq] at h2
  exact hne h2.2.1
section
variable {H Hc : Hp} {L : List (List UInt8)} {lk : Nat} {nv pv ov : AV} {N P O : List AV}
end
end Go.Proofs.YtgkpgpdkolpfkaaGreatDoor.V
namespace Go.Proofs.YtgkpgpdkolpfkaaGreatDoor.V
open Go
theorem Og.mono {n m : Nat} {e : TypeId} {H : Hp} {v : AV} {cs : List AV} (h : Og n e H v cs) (hm : m ≤ n) : Og m e H v cs := by
  obtain h | ⟨b, h1, h2⟩ := h
  · exact .inl h
  · exact .inr ⟨b, by omega, h2⟩
theorem bslice2b (a b : Int) (H : Hp) : evBuildSlice Tryz.prog 52 2 [(0, .int .u8 a), (1, .int .u8 b)] H = some (.slice H.length 0 2 (.ex 2), H ++ [.cells [.int .u8 a, .int .u8 b] 5 .rw]) := by
  simp only [evBuildSlice, tsh_52, tzero_5, Option.bind_some]
  rfl
attribute [local irreducible] go goOps goD opK callK callT stepK leaveTo nextK
end Go.Proofs.YtgkpgpdkolpfkaaGreatDoor.V
namespace Go.Proofs.YtgkpgpdkolpfkaaGreatDoor.V
open Go
attribute [local irreducible] go goOps goD opK callK callT stepK leaveTo nextK
end Go.Proofs.YtgkpgpdkolpfkaaGreatDoor.V
namespace Go.Proofs.YtgkpgpdkolpfkaaGreatDoor.V
open Go
theorem Og.rd {n : Nat} {H : Hp} {v : AV} {bs : List UInt8} (h : Og n 5 H v (u8s bs)) : Rd H v bs := by
  obtain ⟨rfl, h2⟩ | ⟨b, h1, rfl, h3, h4⟩ := h
  · exact .inl ⟨rfl, by simpa [u8s] using h2⟩
  · exact .inr ⟨b, 0, _, [], [], _, _, by rw [u8s_len], rfl, by simpa using h3, .inr ⟨rfl, rfl, 0, false, rfl⟩⟩
theorem nextZ_t {P : Program} {ops : List Oper} {l : List Oper} {H : Hp} {e : Ef} {K : St → List Nat → Prop} {dst : Option Tmp} {i : Nat} {v : AV} {σ : List AV} {H' : Hp} {e' : Ef} (h : quiet (v, H', e') H = true) : nextZ P ops K l σ H e i dst (v, H', e') = goZ P ops K (i + 1) l ⟨put σ dst v, H', e.and e'⟩ := by
  unfold nextZ
  refine goZ_K ?_
  funext s es
  simp only [h, if_true]
attribute [local irreducible] go goOps goD opK callK callT stepK leaveTo nextK
end Go.Proofs.YtgkpgpdkolpfkaaGreatDoor.V
namespace Go.Proofs.YtgkpgpdkolpfkaaGreatDoor.V
open Go
structure Itm where
  skip : Int
  ty : Int
  d : Dt
def Itm.cells (x : Itm) : List AV := .int .i64 x.skip :: .int .u16 x.ty :: x.d.cells
theorem Itm.len (x : Itm) : x.cells.length = 10 := rfl
theorem leave_abs {H Hc : Hp} {v : AV} {e : Ef} (hv : flat v = true) (he : clean H.length e) (hk : ∀ (i : Nat) (x : ABlk), H[i]? = some x → Hc[i]? = some x) : leave H.length v Hc e = (v, H, z0) := by
  have ht : Hc.take H.length = H := by
    apply List.ext_getElem?
    intro i
    by_cases hi : i < H.length
    · rw [List.getElem?_take_of_lt hi]
      have := List.getElem?_eq_getElem hi
      rw [this]; exact hk i _ this
    · rw [List.getElem?_eq_none (by rw [List.length_take]; omega), List.getElem?_eq_none (by omega)]
  unfold leave
  rw [if_pos ⟨hv, he.1⟩, ht, he.1, he.2]
  rfl
theorem Tk.old' {H H' : Hp} (h : Tk H) (hk : ∀ (i : Nat) (x : ABlk), H[i]? = some x → H'[i]? = some x) : Tk H' := by
  obtain ⟨e, k, h⟩ := h; exact ⟨e, k, hk _ _ h⟩
theorem Tb.old' {H H' : Hp} (h : Tb H) (hk : ∀ (i : Nat) (x : ABlk), H[i]? = some x → H'[i]? = some x) : Tb H' := by
  obtain ⟨e, k, h⟩ := h; exact ⟨e, k, hk _ _ h⟩
theorem Db.old' {H H' : Hp} (h : Db H) (hk : ∀ (i : Nat) (x : ABlk), H[i]? = some x → H'[i]? = some x) : Db H' := by
  obtain ⟨e, k, h⟩ := h; exact ⟨e, k, hk _ _ h⟩
attribute [local irreducible] go goOps goD opK callK callT stepK leaveTo nextK
end Go.Proofs.YtgkpgpdkolpfkaaGreatDoor.V
namespace Go.Proofs.YtgkpgpdkolpfkaaGreatDoor.V
open Go
attribute [local irreducible] go goOps goD opK callK callT stepK leaveTo nextK

theorem Rd.keep {H H' : Hp} {v : AV} {bs : List UInt8} (h : Rd H v bs) (hk : ∀ (i : Nat) (x : ABlk), H[i]? = some x → H'[i]? = some x) : Rd H' v bs := by
  obtain h | ⟨b, o, c, pre, post, e, k, h1, h2, h3, h4⟩ := h
  · exact .inl h
  · exact .inr ⟨b, o, c, pre, post, e, k, h1, h2, hk _ _ h3, h4⟩
theorem Rv.appd {H : Hp} {v : AV} {bs : List UInt8} (h : Rv H v bs) : appended H 1 v = some (u8s bs, bs.length) := by
  obtain h | ⟨b, rfl, hb, rfl⟩ := h
  · exact h.appd
  · have hr : V.rd H b 0 (0 * 1) = some [] := by
      unfold V.rd
      rw [hb]
      rfl
    simp only [appended, hr, Option.map_some]
    rfl

theorem Rv.nm {H : Hp} {v : AV} {bs : List UInt8} (h : Rv H v bs) : evConv Tryz.prog 52 23 v H = some (.str bs, H) := by
  obtain ⟨rfl, rfl⟩ | ⟨b, o, c, rfl, hr⟩ := h.rd
  · exact conv_52_23n
  · rw [conv_52_23, hr, Option.bind_some, bytesOf_u8s]; rfl

theorem or_8 {c d : Nat} (hc : c < 16777216) (hd : d < 256) : evInt .or .u32 (IntKind.u32.wrap ((c : Int) * 2 ^ (min 8 32))) (d : Int) = some (.int .u32 ((256 * c + d : Nat) : Int)) := by
  have w : IntKind.u32.wrap ((c : Int) * 2 ^ (min 8 32)) = ((256 * c : Nat) : Int) := by
    have : (c : Int) * 2 ^ (min 8 32) = ((256 * c : Nat) : Int) := by
      show (c : Int) * 256 = _
      omega
    rw [this]; exact wrap_u32 (by omega)
  have h1 : (BitVec.ofInt 32 ((256 * c : Nat) : Int) ||| BitVec.ofInt 32 (d : Int)).toNat = 256 * c + d := by
    rw [BitVec.toNat_or, BitVec.ofInt_natCast, BitVec.ofInt_natCast, BitVec.toNat_ofNat, BitVec.toNat_ofNat, Nat.mod_eq_of_lt (by omega), Nat.mod_eq_of_lt (by omega)]
    have := Nat.two_pow_add_eq_or_of_lt (b := d) (i := 8) (by omega) c
    simpa using this.symm
  rw [w]
  show some (AV.int .u32 (IntKind.u32.wrap ((BitVec.ofInt 32 ((256 * c : Nat) : Int) ||| BitVec.ofInt 32 (d : Int)).toNat : Int))) = _
  rw [h1, wrap_u32 (by omega)]
set_option maxRecDepth 20000 in
theorem take16 (bs : List UInt8) (a : Nat) (c d : UInt8) (H k) (v : AV) (hv : Rd H v bs) (hn : bs.length ≤ 4611686018427387904) (hc : bs[a]? = some c) (hd : bs[a + 1]? = some d) :
    callK Tryz.prog 122 [v, .int .i64 (a : Nat)] H k = k (.tuple [.int .u16 ((256 * c.toNat + d.toNat : Nat) : Int), .int .i64 ((a + 2 : Nat) : Int), .int .i64 0], H, z0) := by
  refine callK_eq (r := (.tuple [.int .u16 ((256 * c.toNat + d.toNat : Nat) : Int), .int .i64 ((a + 2 : Nat) : Int), .int .i64 0], H, z0)) ?_ k
  refine callK_start (n := 50) (rs := [.tmp 4, .tmp 5, .tmp 6]) Tryz.func122 rfl rfl rfl ?_
  intro σ hl ha
  have h0 := ha 0 (by simp)
  have h1 := ha 1 (by simp)
  clear ha
  simp only [Option.getD_some, List.getElem?_cons_zero, List.getElem?_cons_succ] at h0 h1
  have hs := fun H k => size16 H k
  have hlen := fun H' => hv.v.len H'
  have hlt : a + 1 < bs.length := (List.getElem?_eq_some_iff.1 hd).1
  have g0 : decide ((a : Int) < 0) = false := by simp
  have hbig : ¬ bs.length < a := by omega
  have w1 : IntKind.i64.wrap ((bs.length : Int) - (a : Int)) = ((bs.length - a : Nat) : Int) := by rw [wrap_i64 (by omega)]; omega
  have g2 : decide (((bs.length - a : Nat) : Int) < 2) = false := by simp; omega
  have w2 : IntKind.i64.wrap ((a : Int) + 2) = ((a + 2 : Nat) : Int) := by rw [wrap_i64 (by omega)]; omega
  obtain ⟨y, L, hsl, hy⟩ := hv.sl (lo := a) (hi := a + 2) (by omega) (by omega)
  have hy1 : (bs.drop a).take (a + 2 - a) = [c, d] := by rw [Nat.add_sub_cancel_left, drop_at hc, List.take_succ_cons, drop_at hd]; rfl
  rw [hy1] at hy
  have hylen := fun H' => hy.len H'
  obtain ⟨b, j, row, e, kd, hix, hg, hg0, hld⟩ := hy.at (i := 0) (c := c) rfl
  obtain ⟨b', j', row', e', kd', hix', hg', hg0', hld'⟩ := hy.at (i := 1) (c := d) rfl
  have hix : evIndexAddr Tryz.prog 52 y (.int .i64 0) = some (.ptr b j) := hix
  have hix' : evIndexAddr Tryz.prog 52 y (.int .i64 1) = some (.ptr b' j') := hix'
  have g3 : decide ((0 : Int) < ((([c, d] : List UInt8).length : Nat) : Int)) = true := by simp
  have g4 : decide ((1 : Int) < ((([c, d] : List UInt8).length : Nat) : Int)) = true := by simp
  have g5 : decide ((2 : Int) < ((([c, d] : List UInt8).length : Nat) : Int)) = false := by simp
  have hcl := c.toNat_lt
  have hdl := d.toNat_lt
  have w3 : IntKind.u32.wrap (c.toNat : Int) = (c.toNat : Int) := wrap_u32 (by omega)
  have w4 : IntKind.u32.wrap (d.toNat : Int) = (d.toNat : Int) := wrap_u32 (by omega)
  have w5 : IntKind.u16.wrap ((256 * c.toNat + d.toNat : Nat) : Int) = ((256 * c.toNat + d.toNat : Nat) : Int) := wrap_u16 (by omega)
  have o1 := or_8 (c := 0) (d := c.toNat) (by omega) (by omega)
  have o1 : evInt .or .u32 (IntKind.u32.wrap (0 * 2 ^ (min 8 32))) (c.toNat : Int) = some (.int .u32 (c.toNat : Int)) := by simpa using o1
  have o2 := or_8 (c := c.toNat) (d := d.toNat) (by omega) (by omega)
  simp only [go_sem, simprocAttr, hl, h0, h1, hs, hlen, g0, hbig, w1, g2, w2, hsl, hylen, gt_iff_lt]
  rw [go_loop]
  simp only [go_sem, simprocAttr, hl, g3, hix, hg, hg0, hld, w3, o1]
  rw [go_loop]
  simp only [go_sem, simprocAttr, hl, g4, hix', hg', hg0', hld', w4, o2]
  rw [go_loop]
  simp only [go_sem, simprocAttr, hl, g5, hs, h1, w2, w5]

def ptrP (c d : UInt8) : Nat := (256 * c.toNat + d.toNat) % 16384
def Rn (bs : List UInt8) : Nat → Nat → Nat → List UInt8 → Nat → Prop
  | 0, _, a, n, nx => bs[a]? = some 0 ∧ n = [0] ∧ nx = a + 1
  | m + 1, row, a, n, nx =>
    (∃ c n', bs[a]? = some c ∧ 0 < c.toNat ∧ c.toNat ≤ 63 ∧ a + 1 + c.toNat ≤ bs.length ∧ n = (bs.drop a).take (1 + c.toNat) ++ n' ∧ Rn bs m row (a + 1 + c.toNat) n' nx) ∨
    (∃ c d nx', bs[a]? = some c ∧ 192 ≤ c.toNat ∧ bs[a + 1]? = some d ∧ nx = a + 2 ∧ ptrP c d < row ∧ Rn bs m (ptrP c d) (ptrP c d) n nx')
theorem Rn.pos {bs : List UInt8} : ∀ {m row a : Nat} {n : List UInt8} {nx : Nat}, Rn bs m row a n nx → 0 < n.length ∧ a < nx ∧ nx ≤ bs.length
  | 0, _, a, n, nx, h => by obtain ⟨h1, rfl, rfl⟩ := h; exact ⟨by simp, by omega, (List.getElem?_eq_some_iff.1 h1).1⟩
  | m + 1, row, a, n, nx, h => by
    obtain ⟨c, n', h1, h2, h3, h4, rfl, h5⟩ | ⟨c, d, nx', h1, h2, h3, rfl, h4, h5⟩ := h
    · have := h5.pos; rw [List.length_append]; omega
    · have := h5.pos; exact ⟨this.1, by omega, (List.getElem?_eq_some_iff.1 h3).1⟩
theorem and_far {x : Nat} (hx : x < 65536) : evInt .and .u16 (x : Int) 16383 = some (.int .u16 ((x % 16384 : Nat) : Int)) := by
  have h1 : (BitVec.ofInt 16 (x : Int) &&& BitVec.ofInt 16 16383).toNat = x % 16384 := by
    rw [BitVec.toNat_and, BitVec.ofInt_natCast, show BitVec.ofInt 16 16383 = BitVec.ofNat 16 16383 from rfl, BitVec.toNat_ofNat, BitVec.toNat_ofNat, Nat.mod_eq_of_lt hx, Nat.mod_eq_of_lt (by decide)]
    exact Nat.and_two_pow_sub_one_eq_mod x 14
  show some (AV.int .u16 (IntKind.u16.wrap ((BitVec.ofInt 16 (x : Int) &&& BitVec.ofInt 16 16383).toNat : Int))) = _
  rw [h1, wrap_u16 (by omega)]

set_option maxRecDepth 20000 in
set_option maxHeartbeats 4000000 in
theorem pr_Take (bs : List UInt8) (m0 a0 : Nat) (n0 : List UInt8) (nx : Nat) (H k) (v : AV) (hv : Rd H v bs) (hb : bs.length ≤ 1048576000) (hr : Rn bs m0 a0 a0 n0 nx) (hn : n0.length ≤ 255) :
    callK Tryz.prog 113 [v, .int .i64 (a0 : Nat)] H k = k (.tuple [.str n0, .int .i64 (nx : Nat), .int .i64 0], H, z0) := by
  refine callK_eq (r := (.tuple [.str n0, .int .i64 (nx : Nat), .int .i64 0], H, z0)) ?_ k
  refine callK_start (n := 94) (rs := [.tmp 4, .tmp 5, .tmp 6]) Tryz.func113 rfl rfl rfl ?_
  intro σ hl ha
  have h0 := ha 0 (by simp)
  have h1 := ha 1 (by simp)
  clear ha
  simp only [Option.getD_some, List.getElem?_cons_zero, List.getElem?_cons_succ] at h0 h1
  have hlen := fun H' => hv.v.len H'
  simp only [go_sem, simprocAttr, hl, h0, h1]
  refine go_rounds (fun m st => ∃ σ row a nx0 out ov n' nx' Hc e, Rn bs m row a n' nx' ∧ n0 = out ++ n' ∧ (nx0 = 0 → nx' = nx) ∧ (nx0 ≠ 0 → nx0 = nx) ∧ nx0 ≤ bs.length ∧ row ≤ bs.length ∧ st = ⟨σ, Hc, e⟩ ∧ clean H.length e ∧ Og H.length 5 Hc ov (u8s out) ∧
      H.length ≤ Hc.length ∧ (∀ (i : Nat) (x : ABlk), H[i]? = some x → Hc[i]? = some x) ∧
      σ.length = 94 ∧ fr σ 0 = v ∧ fr σ 1 = .int .i64 (a : Nat) ∧ fr σ 7 = ov ∧ fr σ 8 = .int .i64 (nx0 : Nat) ∧ fr σ 9 = .int .i64 (row : Nat)) m0
    ⟨_, a0, a0, 0, [], .nils, n0, nx, H, z0, hr, rfl, fun _ => rfl, fun h => absurd rfl h, by omega, by have := hr.pos; omega, rfl, by simp [clean, z0, low], .inl ⟨rfl, rfl⟩, Nat.le_refl _, fun i x h => h, by simp only [go_sem, simprocAttr, hl], by simp only [go_sem, simprocAttr, hl, h0], by simp only [go_sem, simprocAttr, hl, h1], by simp only [go_sem, simprocAttr, hl], by simp only [go_sem, simprocAttr, hl], by simp only [go_sem, simprocAttr, hl]⟩ ?_
  clear hl h0 h1
  rintro m _ ⟨σ, row, a, nx0, out, ov, n', nx', Hc, e, hr', hnn, hx1, hx2, hxb, hrb, rfl, hce, hO, hHl, hk, hl, h0, h1, h7, h8, h9⟩
  have hvc : Rd Hc v bs := hv.keep hk
  have hpos := hr'.pos
  have t8 := fun k => take8 bs a Hc k v hvc (by omega) (by omega)
  have hol : out.length + n'.length = n0.length := by rw [hnn, List.length_append]
  have holen := fun H' => hO.len tsh_52 H'
  rw [u8s_len] at holen
  cases m with
  | zero =>
    obtain ⟨hc, rfl, rfl⟩ := hr'
    have ht : tk8 bs a = (0, a + 1, 0) := by unfold tk8; rw [if_neg (by omega), hc]; rfl
    have hlt := (List.getElem?_eq_some_iff.1 hc).1
    obtain ⟨y, L, hsl, hy⟩ := hvc.sl (lo := a) (hi := a + 1) (by omega) (by omega)
    have hy1 : (bs.drop a).take (a + 1 - a) = [0] := by rw [Nat.add_sub_cancel_left, drop_at hc]; rfl
    rw [hy1] at hy
    have hap := hy.appd
    have hO' : Og H.length 5 (Hc ++ L) ov (u8s out) := hO.keep (fun i x _ h => get_app h)
    obtain ⟨v', H', e', q1, q2, q3, q4, q5, q6, q7, _⟩ := hO'.app (w := 1) (by simp; omega) zok_52 (u8s [0]) u8s_scal (by rw [u8s_len]; simp [fits, u8s_len]; simp at hol; omega)
    rw [← u8s_app, hnn.symm] at q2
    have q1 : ∀ kk, stepK (appTo Tryz.prog (.slice 5 1 1) ov (u8s [0], 1) (Hc ++ L)) kk = kk (v', H', e') := q1
    have hstr := (q2.rd).v.nm
    have w1 : IntKind.i64.wrap (((a + 1 : Nat) : Int) + 0) = ((a + 1 : Nat) : Int) := by rw [wrap_i64 (by omega)]; omega
    have w2 : IntKind.i64.wrap ((bs.length : Int) - ((a + 1 : Nat) : Int)) = ((bs.length - (a + 1) : Nat) : Int) := by rw [wrap_i64 (by omega)]; omega
    have g1 : decide (((bs.length - (a + 1) : Nat) : Int) < 0) = false := by simp
    have w0 : IntKind.i64.wrap ((0 : Nat) : Int) = 0 := rfl
    have hkk : ∀ (i : Nat) (x : ABlk), H[i]? = some x → H'[i]? = some x := fun i x hx => q4 i x (by
      intro hbk
      have := (hO.cells hbk).1
      have := lt_of_get hx
      omega) (get_app (hk i x hx))
    have hlv : ∀ (y : AV) (ef : Ef), flat y = true → clean H.length ef → leave H.length y H' ef = (y, H, z0) := fun y ef hy he => leave_abs hy he hkk
    by_cases hz : nx0 = 0
    · subst hz
      have := hx1 rfl
      subst this
      simp only [go_sem, simprocAttr, hl, h0, h1, h7, h8, h9, t8, ht, hlen, w0, w1, w2, g1, gt_iff_lt, hsl, hap, q1, hstr]
      rw [hlv _ _ (by simp [flat, flats]) (by simp only [clean_andI, hce, q5, clean_z, and_true, true_and])]
    · have := hx2 hz
      subst this
      have g2 : ((nx0 : Int) == 0) = false := by rw [beq_eq_false_iff_ne]; omega
      simp only [go_sem, simprocAttr, hl, h0, h1, h7, h8, h9, t8, ht, hlen, w0, w1, w2, g1, g2, gt_iff_lt, hsl, hap, q1, hstr]
      rw [hlv _ _ (by simp [flat, flats]) (by simp only [clean_andI, hce, q5, clean_z, and_true, true_and])]
  | succ m =>
    obtain ⟨c, n2, hc, c1, c2, c3, rfl, hr2⟩ | ⟨c, d, nx2, hc, c1, hd, rfl, hp, hr2⟩ := hr'
    · have hp2 := hr2.pos
      have ht : tk8 bs a = (c.toNat, a + 1, 0) := by unfold tk8; rw [if_neg (by omega), hc]
      obtain ⟨y, L, hsl, hy⟩ := hvc.sl (lo := a) (hi := a + (1 + c.toNat)) (by omega) (by omega)
      rw [show a + (1 + c.toNat) - a = 1 + c.toNat by omega] at hy
      have hyl : ((bs.drop a).take (1 + c.toNat)).length = 1 + c.toNat := by rw [List.length_take, List.length_drop]; omega
      generalize hX : (bs.drop a).take (1 + c.toNat) = X at *
      have hap := hy.appd
      have hO' : Og H.length 5 (Hc ++ L) ov (u8s out) := hO.keep (fun i x _ h => get_app h)
      have hl3 : out.length + (1 + c.toNat) + n2.length = n0.length := by rw [hnn, List.length_append, List.length_append]; omega
      obtain ⟨v', H', e', q1, q2, q3, q4, q5, q6, q7, _⟩ := hO'.app (w := 1) (by simp; omega) zok_52 (u8s X) u8s_scal (by rw [u8s_len, u8s_len]; simp [fits]; omega)
      rw [← u8s_app] at q2
      rw [u8s_len] at q1
      have w1 : IntKind.i64.wrap (((a + 1 : Nat) : Int) + (c.toNat : Int)) = ((a + (1 + c.toNat) : Nat) : Int) := by rw [wrap_i64 (by omega)]; omega
      have w2 : IntKind.i64.wrap ((bs.length : Int) - ((a + 1 : Nat) : Int)) = ((bs.length - (a + 1) : Nat) : Int) := by rw [wrap_i64 (by omega)]; omega
      have w3 : IntKind.i64.wrap (c.toNat : Int) = (c.toNat : Int) := wrap_i64 (by omega)
      have w4 : IntKind.i64.wrap ((out.length : Int) + (c.toNat : Int)) = ((out.length + c.toNat : Nat) : Int) := by rw [wrap_i64 (by omega)]; omega
      have w5 : IntKind.i64.wrap (((out.length + c.toNat : Nat) : Int) + 1) = ((out.length + c.toNat + 1 : Nat) : Int) := by rw [wrap_i64 (by omega)]; omega
      have d1 : decide ((192 : Int) ≤ (c.toNat : Int)) = false := by simp; omega
      have d2 : decide ((63 : Int) < (c.toNat : Int)) = false := by simp; omega
      have d3 : ¬ bs.length - (a + 1) < c.toNat := by omega
      have d4 : decide ((0 : Int) < (c.toNat : Int)) = true := by simp; omega
      have d5 : decide ((255 : Int) ≤ ((out.length + (c.toNat + 1) : Nat) : Int)) = false := by simp; omega
      have gz : ((c.toNat : Int) == 0) = false := by rw [beq_eq_false_iff_ne]; omega
      simp only [go_sem, simprocAttr, hl, h0, h1, h7, h8, h9, t8, ht, hlen, holen, w1, w2, w3, w4, w5, gt_iff_lt, ge_iff_le, hsl, hap, q1, d1, d2, d3, d4, d5, gz]
      have hkk : ∀ (i : Nat) (x : ABlk), H[i]? = some x → H'[i]? = some x := fun i x hx => q4 i x (by
        intro hbk
        have := (hO.cells hbk).1
        have := lt_of_get hx
        omega) (get_app (hk i x hx))
      refine ⟨m, by omega, _, row, a + (1 + c.toNat), nx0, out ++ X, v', n2, nx', H', _, by rw [← Nat.add_assoc]; exact hr2, by rw [hnn, List.append_assoc], hx1, hx2, hxb, hrb, rfl, ?_, q2, ?_, hkk, ?_, ?_, ?_, ?_, ?_, ?_⟩
      · simp only [clean_andI, hce, q5, clean_z, and_true, true_and]
      · simp only [List.length_append] at q3; omega
      · simp only [go_sem, simprocAttr, hl]
      · simp only [go_sem, simprocAttr, hl, h0]
      · simp only [go_sem, simprocAttr, hl]
      · simp only [go_sem, simprocAttr, hl]
      · simp only [go_sem, simprocAttr, hl, h8]
      · simp only [go_sem, simprocAttr, hl, h9]
    · have hp2 := hr2.pos
      have ht : tk8 bs a = (c.toNat, a + 1, 0) := by unfold tk8; rw [if_neg (by omega), hc]
      have t16 := fun k => take16 bs a c d Hc k v hvc (by omega) hc hd
      have hcl := c.toNat_lt
      have hdl := d.toNat_lt
      have haf := and_far (x := 256 * c.toNat + d.toNat) (by omega)
      rw [show (256 * c.toNat + d.toNat) % 16384 = ptrP c d from rfl] at haf
      have w1 : IntKind.i64.wrap ((ptrP c d : Nat) : Int) = ((ptrP c d : Nat) : Int) := wrap_i64 (by omega)
      have d1 : decide ((192 : Int) ≤ (c.toNat : Int)) = true := by simp; omega
      have d2 : ¬ row ≤ ptrP c d := by omega
      by_cases hz : nx0 = 0
      · subst hz
        simp only [go_sem, simprocAttr, hl, h0, h1, h7, h8, h9, t8, ht, hlen, holen, t16, haf, w1, gt_iff_lt, ge_iff_le, d1, d2]
        refine ⟨m, by omega, _, ptrP c d, ptrP c d, a + 2, out, ov, n', nx2, Hc, _, hr2, hnn, fun h => by omega, fun _ => hx1 rfl, by omega, by omega, rfl, ?_, hO, hHl, hk, ?_, ?_, ?_, ?_, ?_, ?_⟩
        · simp only [clean_andI, hce, clean_z, and_true, true_and]
        · simp only [go_sem, simprocAttr, hl]
        · simp only [go_sem, simprocAttr, hl, h0]
        · simp only [go_sem, simprocAttr, hl]
        · simp only [go_sem, simprocAttr, hl, h7]
        · simp only [go_sem, simprocAttr, hl]
        · simp only [go_sem, simprocAttr, hl]
      · have g2 : ((nx0 : Int) == 0) = false := by rw [beq_eq_false_iff_ne]; omega
        simp only [go_sem, simprocAttr, hl, h0, h1, h7, h8, h9, t8, ht, hlen, holen, t16, haf, w1, gt_iff_lt, ge_iff_le, d1, d2, g2]
        refine ⟨m, by omega, _, ptrP c d, ptrP c d, nx0, out, ov, n', nx2, Hc, _, hr2, hnn, fun h => absurd h hz, fun _ => hx2 hz, hxb, by omega, rfl, ?_, hO, hHl, hk, ?_, ?_, ?_, ?_, ?_, ?_⟩
        · simp only [clean_andI, hce, clean_z, and_true, true_and]
        · simp only [go_sem, simprocAttr, hl]
        · simp only [go_sem, simprocAttr, hl, h0]
        · simp only [go_sem, simprocAttr, hl]
        · simp only [go_sem, simprocAttr, hl, h7]
        · simp only [go_sem, simprocAttr, hl, h8]
        · simp only [go_sem, simprocAttr, hl]
end Go.Proofs.YtgkpgpdkolpfkaaGreatDoor.V
namespace Go.Proofs.YtgkpgpdkolpfkaaGreatDoor.V
open Go
attribute [local irreducible] go goOps goD opK callK callT stepK leaveTo nextK

def RdC (v : AV) (a en : Nat) (d : Dt) (k : Nat) : List AV := [v, .int .i64 a, .int .i64 en, .str d.raw, .str d.host, .str d.mail, .int .u32 d.n0, .int .u32 d.n1, .int .u32 d.n2, .int .u32 d.n3, .int .u32 d.n4, .int .i64 k]
section
variable {v : AV} {a en : Nat} {d : Dt} {k : Nat} {e : TypeId} {kd : Kd}
theorem RdC.l0 : ldC 0 1 false (.cells (RdC v a en d k) e kd) = some v := rfl
theorem RdC.l1 : ldC 1 1 false (.cells (RdC v a en d k) e kd) = some (.int .i64 a) := rfl
theorem RdC.l2 : ldC 2 1 false (.cells (RdC v a en d k) e kd) = some (.int .i64 en) := rfl
theorem RdC.l3 : ldC 3 8 true (.cells (RdC v a en d k) e kd) = some (.agg d.cells) := rfl
theorem RdC.len : (RdC v a en d k).length = 12 := rfl
theorem RdC.s1 {x : Nat} : splice (RdC v a en d k) 1 [.int .i64 x] = RdC v x en d k := rfl
theorem RdC.s3 {x : List UInt8} : splice (RdC v a en d k) 3 [.str x] = RdC v a en { d with raw := x } k := rfl
theorem RdC.s4 {x : List UInt8} : splice (RdC v a en d k) 4 [.str x] = RdC v a en { d with host := x } k := rfl
theorem RdC.s5 {x : List UInt8} : splice (RdC v a en d k) 5 [.str x] = RdC v a en { d with mail := x } k := rfl
theorem RdC.s11 {x : Nat} : splice (RdC v a en d k) 11 [.int .i64 x] = RdC v a en d x := rfl
theorem RdC.l11 : ldC 11 1 false (.cells (RdC v a en d k) e kd) = some (.int .i64 k) := rfl
end
theorem low_lt {n x : Nat} (h : x < n) : low n (some x) = some x := by
  show (if n ≤ x then none else some x) = some x
  rw [if_neg (by omega)]
theorem leave_w {H : Hp} {n rb : Nat} {v : AV} (hv : flat v = true) (h : H.length = n) (hr : rb < n) : leave n v H ⟨none, some rb⟩ = (v, H, ⟨none, some rb⟩) := by
  rw [leave_same hv h, low_lt hr]
theorem leave_wn {H l : Hp} {n rb : Nat} {v : AV} (hv : flat v = true) (h : H.length = n) (hr : rb < n) : leave n v (H ++ l) ⟨none, some rb⟩ = (v, H, ⟨none, some rb⟩) := by
  unfold leave
  have hlo : low n none = none := rfl
  simp only [hlo, hv, and_self, if_true]
  rw [List.take_left' h, low_lt hr]
def Dt.setN (d : Dt) : Nat → Int → Dt
  | 0, x => { d with n0 := x }
  | 1, x => { d with n1 := x }
  | 2, x => { d with n2 := x }
  | 3, x => { d with n3 := x }
  | 4, x => { d with n4 := x }
  | _, _ => d
theorem RdC.lN {v : AV} {a en : Nat} {d : Dt} {k : Nat} {e : TypeId} {kd : Kd} {j : Nat} (hj : j < 5) : ldC (6 + j) 1 false (.cells (RdC v a en d k) e kd) = some (.int .u32 (d.n j)) := by
  have : j = 0 ∨ j = 1 ∨ j = 2 ∨ j = 3 ∨ j = 4 := by omega
  rcases this with rfl | rfl | rfl | rfl | rfl <;> rfl
theorem RdC.sN {v : AV} {a en : Nat} {d : Dt} {k : Nat} {j : Nat} {x : Int} (hj : j < 5) : splice (RdC v a en d k) (6 + j) [.int .u32 x] = RdC v a en (d.setN j x) k := by
  have : j = 0 ∨ j = 1 ∨ j = 2 ∨ j = 3 ∨ j = 4 := by omega
  rcases this with rfl | rfl | rfl | rfl | rfl <;> rfl
theorem Dt.n_set {d : Dt} {j : Nat} {x : Int} (hj : j < 5) : (d.setN j x).n j = x := by
  have : j = 0 ∨ j = 1 ∨ j = 2 ∨ j = 3 ∨ j = 4 := by omega
  rcases this with rfl | rfl | rfl | rfl | rfl <;> rfl
theorem Dt.set_set {d : Dt} {j : Nat} {x y : Int} : (d.setN j x).setN j y = d.setN j y := by
  match j with
  | 0 => rfl
  | 1 => rfl
  | 2 => rfl
  | 3 => rfl
  | 4 => rfl
  | j + 5 => rfl
theorem Dt.set_same {d : Dt} {j : Nat} {x : Int} (hj : j < 5) (h : d.n j = x) : d.setN j x = d := by
  have : j = 0 ∨ j = 1 ∨ j = 2 ∨ j = 3 ∨ j = 4 := by omega
  subst h
  rcases this with rfl | rfl | rfl | rfl | rfl <;> rfl
set_option maxRecDepth 20000 in
theorem rd_name (H k) (rb : Nat) (v : AV) (bs : List UInt8) (a en : Nat) (d : Dt) (j : Nat) (m : Nat) (n : List UInt8) (nx : Nat) (hb : H[rb]? = some (.cells (RdC v a en d j) 124 .rw)) (hv : Rd H v bs) (hbl : bs.length ≤ 1048576000) (hr : Rn bs m a a n nx) (hn : n.length ≤ 255) (hen : nx ≤ en) (hel : en ≤ 1048576000) :
    callK Tryz.prog 91 [.ptr rb 0] H k = k (.str n, H.set rb (.cells (RdC v nx en d j) 124 .rw), ⟨none, some rb⟩) := by
  refine callK_eq (r := (.str n, H.set rb (.cells (RdC v nx en d j) 124 .rw), ⟨none, some rb⟩)) ?_ k
  refine callK_start (n := 38) (rs := [.tmp 2]) Tryz.func91 rfl rfl rfl ?_
  intro σ hl ha
  have h0 := ha 0 (by simp)
  clear ha
  simp only [Option.getD_some, List.getElem?_cons_zero, List.getElem?_cons_succ] at h0
  have ht := fun k => pr_Take bs m a n nx H k v hv hbl hr hn
  have d1 : ¬ en < nx := by omega
  simp only [go_sem, simprocAttr, hl, h0]
  refine go_drawZ tFollows (by kernel_rfl) ?_
  have hlt := lt_of_get hb
  have hlv : ∀ (y : ABlk) (x : AV), flat x = true → leave H.length x (H.set rb y) ⟨none, some rb⟩ = (x, H.set rb y, ⟨none, some rb⟩) := fun y x hx => leave_w hx (by simp) hlt
  simp only [go_sem, simprocAttr, hl, h0, hb, RdC.l0, RdC.l1, RdC.l2, RdC.len, RdC.s1, ht, gt_iff_lt, d1, hlv]
theorem rd_host (H k) (rb : Nat) (v : AV) (bs : List UInt8) (a en : Nat) (d : Dt) (j : Nat) (m : Nat) (n : List UInt8) (nx : Nat) (hb : H[rb]? = some (.cells (RdC v a en d j) 124 .rw)) (hv : Rd H v bs) (hbl : bs.length ≤ 1048576000) (hr : Rn bs m a a n nx) (hn : n.length ≤ 255) (hen : nx ≤ en) (hel : en ≤ 1048576000) :
    callK Tryz.prog 68 [.ptr rb 0] H k = k (.tuple [], H.set rb (.cells (RdC v nx en { d with host := n } j) 124 .rw), ⟨none, some rb⟩) := by
  refine callK_eq (r := (.tuple [], H.set rb (.cells (RdC v nx en { d with host := n } j) 124 .rw), ⟨none, some rb⟩)) ?_ k
  refine callK_start (n := 8) (rs := []) Tryz.func68 rfl rfl rfl ?_
  intro σ hl ha
  have h0 := ha 0 (by simp)
  clear ha
  simp only [Option.getD_some, List.getElem?_cons_zero, List.getElem?_cons_succ] at h0
  have ht := fun k => rd_name H k rb v bs a en d j m n nx hb hv hbl hr hn hen hel
  have hlt := lt_of_get hb
  have hg : ∀ y : ABlk, (H.set rb y)[rb]? = some y := fun y => by rw [List.getElem?_set_self hlt]
  have hlv : ∀ (y : ABlk) (x : AV), flat x = true → leave H.length x (H.set rb y) ⟨none, some rb⟩ = (x, H.set rb y, ⟨none, some rb⟩) := fun y x hx => leave_w hx (by simp) hlt
  simp only [go_sem, simprocAttr, hl, h0, ht, hg, RdC.len, RdC.s4, hlv, List.set_set]
theorem rd_mail (H k) (rb : Nat) (v : AV) (bs : List UInt8) (a en : Nat) (d : Dt) (j : Nat) (m : Nat) (n : List UInt8) (nx : Nat) (hb : H[rb]? = some (.cells (RdC v a en d j) 124 .rw)) (hv : Rd H v bs) (hbl : bs.length ≤ 1048576000) (hr : Rn bs m a a n nx) (hn : n.length ≤ 255) (hen : nx ≤ en) (hel : en ≤ 1048576000) :
    callK Tryz.prog 69 [.ptr rb 0] H k = k (.tuple [], H.set rb (.cells (RdC v nx en { d with mail := n } j) 124 .rw), ⟨none, some rb⟩) := by
  refine callK_eq (r := (.tuple [], H.set rb (.cells (RdC v nx en { d with mail := n } j) 124 .rw), ⟨none, some rb⟩)) ?_ k
  refine callK_start (n := 8) (rs := []) Tryz.func69 rfl rfl rfl ?_
  intro σ hl ha
  have h0 := ha 0 (by simp)
  clear ha
  simp only [Option.getD_some, List.getElem?_cons_zero, List.getElem?_cons_succ] at h0
  have ht := fun k => rd_name H k rb v bs a en d j m n nx hb hv hbl hr hn hen hel
  have hlt := lt_of_get hb
  have hg : ∀ y : ABlk, (H.set rb y)[rb]? = some y := fun y => by rw [List.getElem?_set_self hlt]
  have hlv : ∀ (y : ABlk) (x : AV), flat x = true → leave H.length x (H.set rb y) ⟨none, some rb⟩ = (x, H.set rb y, ⟨none, some rb⟩) := fun y x hx => leave_w hx (by simp) hlt
  simp only [go_sem, simprocAttr, hl, h0, ht, hg, RdC.len, RdC.s5, hlv, List.set_set]
theorem quiet_ap {v : AV} {H L : Hp} {x : ABlk} {e : Ef} : quiet (v, H ++ x :: L, e) H = false := by simp [quiet]
theorem rd_rest (H k) (rb : Nat) (v : AV) (bs : List UInt8) (a en : Nat) (d : Dt) (j : Nat) (hb : H[rb]? = some (.cells (RdC v a en d j) 124 .rw)) (hv : Rd H v bs) (hae : a ≤ en) (hen : en ≤ bs.length) :
    callK Tryz.prog 72 [.ptr rb 0] H k = k (.tuple [], H.set rb (.cells (RdC v en en { d with raw := (bs.drop a).take (en - a) } j) 124 .rw), ⟨none, some rb⟩) := by
  refine callK_eq (r := (.tuple [], H.set rb (.cells (RdC v en en { d with raw := (bs.drop a).take (en - a) } j) 124 .rw), ⟨none, some rb⟩)) ?_ k
  refine callK_start (n := 27) (rs := []) Tryz.func72 rfl rfl rfl ?_
  intro σ hl ha
  have h0 := ha 0 (by simp)
  clear ha
  simp only [Option.getD_some, List.getElem?_cons_zero, List.getElem?_cons_succ] at h0
  have hlt := lt_of_get hb
  have hg : ∀ y : ABlk, (H.set rb y)[rb]? = some y := fun y => by rw [List.getElem?_set_self hlt]
  have hlv : ∀ (y : ABlk) (x : AV), flat x = true → leave H.length x (H.set rb y) ⟨none, some rb⟩ = (x, H.set rb y, ⟨none, some rb⟩) := fun y x hx => leave_w hx (by simp) hlt
  obtain ⟨y, L, hsl, hy⟩ := hv.sl hae hen
  have hstr := hy.str
  simp only [go_sem, simprocAttr, hl, h0]
  refine go_drawZ tFollows (by kernel_rfl) ?_
  rcases L with _ | ⟨x, L⟩
  · simp only [List.append_nil] at hsl hstr
    simp only [go_sem, simprocAttr, hl, h0, hb, RdC.l0, RdC.l1, RdC.l2, RdC.len, RdC.s3, RdC.s1, hsl, hstr, hg, hlv, List.set_set]
    kernel_rfl
  · have hg2 : (H ++ x :: L)[rb]? = some (.cells (RdC v a en d j) 124 .rw) := get_app hb
    have hs2 : ∀ (y : ABlk), (H ++ x :: L).set rb y = H.set rb y ++ x :: L := fun y => by rw [List.set_append_left _ _ hlt]
    have hg3 : ∀ y : ABlk, (H.set rb y ++ x :: L)[rb]? = some y := fun y => get_app (hg y)
    have hs3 : ∀ (z y : ABlk), (H.set rb z ++ x :: L).set rb y = H.set rb y ++ x :: L := fun z y => by rw [List.set_append_left _ _ (by simpa using hlt), List.set_set]
    have hlv2 : ∀ (y : ABlk) (z : AV), flat z = true → leave H.length z (H.set rb y ++ x :: L) ⟨none, some rb⟩ = (z, H.set rb y, ⟨none, some rb⟩) := fun y z hz => leave_wn hz (by simp) hlt
    simp only [go_sem, simprocAttr, hl, h0, hb, RdC.l0, RdC.l1, RdC.l2, RdC.len, RdC.s3, RdC.s1, hsl, hstr, quiet_ap, hg2, hs2, hg3, hs3, hlv2]
    exact (by kernel_rfl : effOk _ _ _ = true)
def beN (X : List UInt8) : Nat := X.foldl (fun s b => 256 * s + b.toNat) 0
theorem beN_snoc (X : List UInt8) (c : UInt8) : beN (X ++ [c]) = 256 * beN X + c.toNat := by simp [beN]
theorem beN_lt : ∀ (m : Nat) (X : List UInt8), X.length = m → beN X < 256 ^ m
  | 0, X, h => by
    have : X = [] := List.length_eq_zero_iff.1 h
    subst this; simp [beN]
  | m + 1, X, h => by
    obtain ⟨Y, c, rfl⟩ : ∃ Y c, X = Y ++ [c] := ⟨X.dropLast, X.getLast (by intro h'; subst h'; simp at h), (List.dropLast_concat_getLast _).symm⟩
    have := beN_lt m Y (by simpa using h)
    have := c.toNat_lt
    rw [beN_snoc, Nat.pow_succ]
    omega
theorem RdC.no {H : Hp} {v : AV} {bs : List UInt8} (hv : Rd H v bs) {a en : Nat} {d : Dt} {k q : Nat} {x : Int} : (RdC v a en d k)[q]? ≠ some (.int .u8 x) := by
  have : v ≠ .int .u8 x := by
    obtain ⟨rfl, _⟩ | ⟨b, o, c, pre, post, e, k, rfl, _⟩ := hv <;> simp
  intro h
  match q, h with
  | 0, h => exact this (Option.some.inj h)
  | 1, h => simp [RdC] at h
  | 2, h => simp [RdC] at h
  | 3, h => simp [RdC] at h
  | 4, h => simp [RdC] at h
  | 5, h => simp [RdC] at h
  | 6, h => simp [RdC] at h
  | 7, h => simp [RdC] at h
  | 8, h => simp [RdC] at h
  | 9, h => simp [RdC] at h
  | 10, h => simp [RdC] at h
  | 11, h => simp [RdC] at h
  | q + 12, h => simp [RdC] at h
def Wr (rb : Nat) (e : Ef) : Prop := e = z0 ∨ e = ⟨none, some rb⟩
theorem Wr.and {rb : Nat} {e : Ef} (h : Wr rb e) : e.and ⟨none, some rb⟩ = ⟨none, some rb⟩ := by
  rcases h with rfl | rfl
  · rw [Ef.z0_and]
  · rw [and_ww]
theorem Wr.z {rb : Nat} {e : Ef} (h : Wr rb e) : Wr rb (e.and z0) := by rw [Ef.and_z0]; exact h
theorem Wr.w {rb : Nat} {e : Ef} (h : Wr rb e) : Wr rb (e.and ⟨none, some rb⟩) := .inr h.and
set_option maxRecDepth 20000 in
theorem rd_number (H k) (rb : Nat) (v : AV) (bs : List UInt8) (a en : Nat) (d : Dt) (j n : Nat) (hb : H[rb]? = some (.cells (RdC v a en d j) 124 .rw)) (hv : Rd H v bs) (hbl : bs.length ≤ 1048576000) (hn : n ≤ 4) (hae : a + n ≤ en) (hen : en ≤ bs.length) (hj : j < 5) (hz : d.n j = 0) :
    callK Tryz.prog 92 [.ptr rb 0, .int .i64 (n : Nat)] H k = k (.tuple [], H.set rb (.cells (RdC v (a + n) en (d.setN j (beN ((bs.drop a).take n))) (j + 1)) 124 .rw), ⟨none, some rb⟩) := by
  refine callK_eq (r := (.tuple [], H.set rb (.cells (RdC v (a + n) en (d.setN j (beN ((bs.drop a).take n))) (j + 1)) 124 .rw), ⟨none, some rb⟩)) ?_ k
  refine callK_start (n := 77) (rs := []) Tryz.func92 rfl rfl rfl ?_
  intro σ hl ha
  have h0 := ha 0 (by simp)
  have h1 := ha 1 (by simp)
  clear ha
  simp only [Option.getD_some, List.getElem?_cons_zero, List.getElem?_cons_succ] at h0 h1
  have hlt := lt_of_get hb
  have w1 : IntKind.i64.wrap ((en : Int) - (a : Int)) = ((en - a : Nat) : Int) := by rw [wrap_i64 (by omega)]; omega
  have d1 : ¬ en - a < n := by omega
  have w2 : IntKind.i64.wrap ((a : Int) + (n : Int)) = ((a + n : Nat) : Int) := by rw [wrap_i64 (by omega)]; omega
  obtain ⟨y, L, hsl, hy⟩ := hv.sl (lo := a) (hi := a + n) (by omega) (by omega)
  rw [Nat.add_sub_cancel_left] at hy
  have hyl : ((bs.drop a).take n).length = n := by rw [List.length_take, List.length_drop]; omega
  generalize hX : (bs.drop a).take n = X at *
  have hlen := fun H' => hy.len H'
  simp only [go_sem, simprocAttr, hl, h0, h1]
  refine go_drawZ tFollows (by kernel_rfl) ?_
  simp only [go_sem, simprocAttr, hl, h0, h1, hb, RdC.l1, RdC.l2, w1, gt_iff_lt, d1]
  refine go_drawZ tFollows (by kernel_rfl) ?_
  obtain ⟨H2, hH2⟩ : ∃ H2, H2 = H ++ L := ⟨_, rfl⟩
  rw [← hH2] at hy
  simp only [← hH2] at hsl
  have hg0 : H2[rb]? = some (.cells (RdC v a en d j) 124 .rw) := by rw [hH2]; exact get_app hb
  have hl2 : rb < H2.length := lt_of_get hg0
  have hg : ∀ z : ABlk, (H2.set rb z)[rb]? = some z := fun z => by rw [List.getElem?_set_self hl2]
  have hlv : ∀ (z : ABlk) (x : AV), flat x = true → leave H.length x (H2.set rb z) ⟨none, some rb⟩ = (x, H.set rb z, ⟨none, some rb⟩) := fun z x hx => by
    rw [hH2, List.set_append_left _ _ hlt]
    exact leave_wn hx (by simp) hlt
  have hyb : y = .nils ∨ ∃ b o c, y = .slice b o X.length c := by
    obtain ⟨rfl, _⟩ | ⟨b, o, c, rfl, _⟩ := hy.rd
    · exact .inl rfl
    · exact .inr ⟨b, o, c, rfl⟩
  have hix : ∀ (i : Nat) (c : UInt8) (z : ABlk), X[i]? = some c → ∃ b q row e kd, evIndexAddr Tryz.prog 52 y (.int .i64 (i : Nat)) = some (.ptr b q) ∧ (H2.set rb (.cells (RdC v a en (d.setN j (beN (X.take i))) j) 124 .rw))[b]? = some (.cells row e kd) ∧ ldC q 1 false (.cells row e kd) = some (.int .u8 c.toNat) := by
    intro i c z hc
    obtain ⟨b, q, row, e, kd, q1, _, q3, q4⟩ := hy.at hc
    have hne : b ≠ rb := by
      rintro rfl
      rw [hg0] at q3
      cases q3
      rw [ldC_f] at q4
      exact RdC.no hv q4
    exact ⟨b, q, row, e, kd, q1, by rw [List.getElem?_set_ne (Ne.symm hne)]; exact q3, q4⟩
  have hw4 : ∀ c : UInt8, IntKind.u32.wrap (c.toNat : Int) = (c.toNat : Int) := fun c => by have := c.toNat_lt; exact wrap_u32 (by omega)
  have hj5 : (j : Int) < 5 := by omega
  have wj := wrap_succ (show j < 9223372036854775807 by omega)
  have hgn : ∀ (x : Int) (e : TypeId) (kd : Kd), ldC (6 + j) 1 false (.cells (RdC v a en (d.setN j x) j) e kd) = some (.int .u32 x) := fun x e kd => by rw [RdC.lN hj, Dt.n_set hj]
  have hsn : ∀ (x y : Int), splice (RdC v a en (d.setN j x) j) (6 + j) [.int .u32 y] = RdC v a en (d.setN j y) j := fun x y => by rw [RdC.sN hj, Dt.set_set]
  have h02 : H2 = H2.set rb (.cells (RdC v a en (d.setN j (beN (X.take 0))) j) 124 .rw) := by
    rw [show ((beN (X.take 0) : Nat) : Int) = 0 from rfl, Dt.set_same hj hz, set_get hg0]
  cases hq : quiet (y, H2, z0) H
  all_goals
    simp only [go_sem, simprocAttr, hl, h0, h1, hb, RdC.l0, RdC.l1, RdC.l2, w1, w2, hsl, hq, hlen, nextZ_t]
    try refine ⟨(by kernel_rfl : effOk _ _ _ = true), ?_⟩
    refine go_rounds (fun m st => ∃ σ i e, m + i = n ∧ st = ⟨σ, H2.set rb (.cells (RdC v a en (d.setN j (beN (X.take i))) j) 124 .rw), e⟩ ∧ Wr rb e ∧ σ.length = 77 ∧ fr σ 0 = .ptr rb 0 ∧ fr σ 1 = .int .i64 (n : Nat) ∧ fr σ 32 = y ∧ fr σ 33 = .int .i64 (n : Nat) ∧ fr σ 34 = .int .i64 (i : Nat)) n
      ⟨_, 0, _, by omega, by rw [← h02], .inl rfl, by simp only [go_sem, simprocAttr, hl], by simp only [go_sem, simprocAttr, hl, h0], by simp only [go_sem, simprocAttr, hl, h1], by simp only [go_sem, simprocAttr, hl], by simp only [go_sem, simprocAttr, hl, hyl], by simp only [go_sem, simprocAttr, hl]⟩ ?_
    rintro m _ ⟨σ, i, e, hmi, rfl, hwr, hl, h0, h1, h32, h33, h34⟩
    by_cases hlt2 : i < n
    · obtain ⟨c, hc⟩ : ∃ c, X[i]? = some c := ⟨_, List.getElem?_eq_getElem (by omega)⟩
      obtain ⟨b, q, row, ee, kd, x1, x2, x3⟩ := hix i c .dead hc
      have hsn1 : X.take (i + 1) = X.take i ++ [c] := by rw [List.take_add_one, hc]; rfl
      have hbl2 := beN_lt i (X.take i) (by rw [List.length_take]; omega)
      have hbl3 : beN (X.take i) < 16777216 := by
        have : (256 : Nat) ^ i ≤ 256 ^ 3 := Nat.pow_le_pow_right (by decide) (by omega)
        omega
      have ho := or_8 (c := beN (X.take i)) (d := c.toNat) hbl3 c.toNat_lt
      rw [← beN_snoc, ← hsn1] at ho
      have wi := wrap_succ (show i < 9223372036854775807 by omega)
      simp only [go_sem, simprocAttr, hl, h0, h1, h32, h33, h34, hlt2, x1, x2, x3]
      refine go_drawZ tFollows (by kernel_rfl) ?_
      simp only [go_sem, simprocAttr, hl, h0, h1, h32, h33, h34, hg, RdC.l11, RdC.len, hj5, hgn, hsn, hw4, ho, wi, List.set_set]
      exact ⟨by omega, (by kernel_rfl : effOk _ _ _ = true), m - 1, by omega, _, i + 1, _, by omega, rfl, hwr.w, by simp only [go_sem, simprocAttr, hl], by simp only [go_sem, simprocAttr, hl, h0], by simp only [go_sem, simprocAttr, hl, h1], by simp only [go_sem, simprocAttr, hl, h32], by simp only [go_sem, simprocAttr, hl, h33], by simp only [go_sem, simprocAttr, hl]⟩
    · have hi : i = n := by omega
      subst hi
      have hXi : X.take i = X := List.take_of_length_le (by omega)
      have hwa := hwr.and
      simp only [go_sem, simprocAttr, hl, h0, h1, h32, h33, h34, hg, RdC.l1, RdC.l11, RdC.len, RdC.s1, RdC.s11, w2, wj, hXi, hwa, hlt2, and_ww, hlv, List.set_set]
end Go.Proofs.YtgkpgpdkolpfkaaGreatDoor.V
namespace Go.Proofs.YtgkpgpdkolpfkaaGreatDoor.V
open Go

section
variable {P : Program} {Q : Ex → St → Prop} {k : List It} {σ : List AV} {H : Hp} {e : Ef} {ops : List Oper} {K KP : St → Prop} {l : List Oper} {kk kp : AV × Hp × Ef → Prop}

def isDef : Code → Bool
  | .region _ ⟨[o]⟩ false => match o.op, o.guard with
    | .defer _, none => true
    | _, _ => false
  | _ => false
def cutOk (c : Code) : Bool :=
  match cutD c with
  | some (_, o, _) => (match o.op with | .defer k => (match k.callee with | .value _ => true | _ => false) | _ => false)
  | none => false
theorem cutD_seq {a b : Code} (h : isDef a = false) : cutD (.seq a b) = (cutD b).map fun r => (a :: r.1, r.2) := by
  rw [cutD.eq_def]
  split
  · rename_i heq
    cases heq
    split
    · rename_i h1 h2
      simp only [isDef, h1, h2] at h
      cases h
    · rfl
  · rename_i heq
    cases heq
    rfl
  · rename_i hne
    exact absurd rfl (hne a b)
def goA (P : Program) (rs : List ResultVar) (m : Nat) (kk : AV × Hp × Ef → Prop) (c : Code) (s : St) (_ : Ph (kk, c) := ⟨⟩) : Prop :=
  match cutD c with
  | some (l, o, b) => (match o.op with | .defer d => (match d.callee with | .value fo => go P (endA P rs m fo d.args.toList o.dst b kk) (l.map It.code) s | _ => False) | _ => False)
  | none => False
def nextA (P : Program) (rs : List ResultVar) (m : Nat) (kk : AV × Hp × Ef → Prop) (b : Code) : Ex → St → Prop
  | .normal, s => goA P rs m kk b s
  | .ret, s => endR P rs m kk .ret s
  | _, _ => False
instance {rs : List ResultVar} {m : Nat} {b : Code} : Calm (nextA P rs m kk b) := ⟨fun _ h => h⟩
theorem nextA_n {rs : List ResultVar} {m : Nat} {b : Code} : nextA P rs m kk b .normal ⟨σ, H, e⟩ = goA P rs m kk b ⟨σ, H, e⟩ := rfl
theorem nextA_r {rs : List ResultVar} {m : Nat} {b : Code} : nextA P rs m kk b .ret ⟨σ, H, e⟩ = bindK (evRes P ⟨σ, H, e⟩ rs) fun vs => kk (leave m (pack vs) H e) := endR_r
attribute [go_sem ↓] nextA_n nextA_r
theorem goA_seq {rs : List ResultVar} {m : Nat} {a b : Code} {s : St} (ha : isDef a = false) (hb : cutOk b = true) (h : go P (nextA P rs m kk b) [.code a] s) : goA P rs m kk (.seq a b) s := by
  unfold goA
  rw [cutD_seq ha]
  unfold cutOk at hb
  cases hc : cutD b with
  | none => rw [hc] at hb; cases hb
  | some r =>
    obtain ⟨l, o, b'⟩ := r
    rw [hc] at hb
    simp only [Option.map_some] at hb ⊢
    split at hb
    · rename_i d ho
      split at hb
      · rename_i fo hfo
        obtain ⟨n, ex, s', h1, h2⟩ := h
        refine ⟨n, ex, s', h1, ?_⟩
        have gen : ∀ (Q : Ex → St → Prop) (l : List Code) (ex : Ex) (s : St), ex ≠ .normal → Q ex s → (∀ i, ex ≠ .exit i) → contQ P Q (l.map It.code) ex s := by
          intro Q l
          induction l with
          | nil => intro ex s _ h _; exact h
          | cons c l ih => intro ex s hn h he; cases ex <;> first | exact absurd rfl hn | exact ih _ _ hn h he
        cases ex with
        | normal =>
          have h2 : goA P rs m kk b s' := h2
          unfold goA at h2
          rw [hc] at h2
          simp only [ho, hfo] at h2
          exact h2
        | ret => exact gen _ l .ret s' (by simp) h2 (by simp)
        | exit i => exact h2.elim
        | goto l => exact h2.elim
        | pan => exact h2.elim
      · cases hb
    · cases hb
theorem goA_defer {rs : List ResultVar} {m : Nat} {id : Nat} {dst : Option Tmp} {fo : Operand} {dargs : Array Operand} {ts : Array TypeId} {ty : TypeId} {pos : String} {af : Array Edge} {b : Code} : goA P rs m kk (.seq (.region id ⟨[⟨dst, .defer ⟨.value fo, dargs, ts⟩, ty, pos, af, none⟩]⟩ false) b) ⟨σ, H, e⟩ =
    bindK (evArg P σ fo) fun f => bindK (evArgs P σ dargs.toList) fun az => go P (endD P rs m (f, az) kk) [.code b] ⟨put σ dst undefA, H, e⟩ := rfl
theorem k_insert {t : TypeId} {m x y : Operand} : opK P σ H (.insert t m x y) kk = bindK (evArg P σ m) fun u => bindK (evArg P σ x) fun v => bindK (evArg P σ y) fun w => bindK (evMapSet P t u v w H) fun r => kk (undefA, r.1, r.2) := by
  show stepK _ _ = _
  simp only [evOp]
  rw [stepK_bind]; refine bindK_ext fun c => ?_
  rw [stepK_bind]; refine bindK_ext fun c => ?_
  rw [stepK_bind]; refine bindK_ext fun c => ?_
  exact stepK_map
attribute [go_sem ↓] k_insert
theorem goA_def {rs : List ResultVar} {m : Nat} {id : Nat} {dst : Option Tmp} {fo : Operand} {dargs : Array Operand} {ts : Array TypeId} {ty : TypeId} {pos : String} {af : Array Edge} {b : Code} {fv : AV} {az : List AV} (hf : evArg P σ fo = some fv) (ha : evArgs P σ dargs.toList = some az) (h : go P (endD P rs m (fv, az) kk) [.code b] ⟨put σ dst undefA, H, e⟩) :
    goA P rs m kk (.seq (.region id ⟨[⟨dst, .defer ⟨.value fo, dargs, ts⟩, ty, pos, af, none⟩]⟩ false) b) ⟨σ, H, e⟩ := by
  rw [goA_defer, hf, bindK_some, ha, bindK_some]
  exact h
theorem callK_startD {f : FuncId} {fn : Func} {c : Code} {args : List AV} {rs : List ResultVar} {n : Nat} (hf : P.funcs[f]? = some fn) (hb : fn.body = some c) (hr : fn.results.toList = rs) (hn : args.length + (fn.ntmps - args.length) = n)
    (h : ∀ σ : List AV, σ.length = n → (∀ i : Nat, i < args.length → fr σ i = (args[i]?).getD undefA) → goA P rs H.length kk c ⟨σ, H, z0⟩) : callK P f args H kk := by
  have h1 : ∀ (l0 : List Code) (o : Oper) (b : Code), cutD c = some (l0, o, b) → callK P f args H kk := by
    intro l0 o b hd
    have hex : ∃ fo dargs ts, o.op = .defer ⟨.value fo, dargs, ts⟩ := by
      subst hn
      have h0 := h (args ++ List.replicate (fn.ntmps - args.length) undefA) (by simp) (fun i hi => by unfold fr; rw [List.getElem?_append_left hi])
      unfold goA at h0
      rw [hd] at h0
      simp only at h0
      split at h0
      · rename_i d ho
        split at h0
        · rename_i fo hfo
          obtain ⟨ca, ar, ts⟩ := d
          simp only at hfo
          subst hfo
          exact ⟨fo, ar, ts, ho⟩
        · exact h0.elim
      · exact h0.elim
    obtain ⟨fo, dargs, ts, ho⟩ := hex
    refine callK_defer hf hb hd ho hr hn (fun σ hl ha => ?_)
    have h2 := h σ hl ha
    unfold goA at h2
    rw [hd] at h2
    simp only [ho] at h2
    exact h2
  cases hd : cutD c with
  | none =>
    subst hn
    have h0 := h (args ++ List.replicate (fn.ntmps - args.length) undefA) (by simp) (fun i hi => by unfold fr; rw [List.getElem?_append_left hi])
    unfold goA at h0
    rw [hd] at h0
    exact h0.elim
  | some r => exact h1 r.1 r.2.1 r.2.2 hd
end
attribute [irreducible] goA
end Go.Proofs.YtgkpgpdkolpfkaaGreatDoor.V
namespace Go.Proofs.YtgkpgpdkolpfkaaGreatDoor.V
open Go
attribute [local irreducible] go goOps goD opK callK callT stepK leaveTo nextK

theorem isk_t {n : Tmp} : evOp.isConst (.tmp n) = false := rfl
theorem isk_c {v : Value} : evOp.isConst (.const v) = true := rfl
theorem neAA : binV Tryz.prog .neq 20 .nili .nili true = some (.bool false) := by
  simp only [binV, if_true, tsh_20]
theorem caught0 {p q : AV} {H : Hp} {K : Hp × Ef → Prop} (h : K (H, z0)) : defK Tryz.prog (.func (.func 21) [] [], [p, q]) none H K := by
  refine defK_start (n := 24) Tryz.func21 rfl rfl rfl rfl rfl rfl ?_
  intro σ hl ha
  have h0 := ha 0 (by simp)
  have h1 := ha 1 (by simp)
  clear ha
  simp only [go_sem, simprocAttr, hl, Option.getD_none, isk_t, isk_c, neAA]
  exact h
theorem rd_short (H k) (rb : Nat) (v : AV) (bs : List UInt8) (a en : Nat) (d : Dt) (j : Nat) (hb : H[rb]? = some (.cells (RdC v a en d j) 124 .rw)) (hv : Rd H v bs) (hbl : bs.length ≤ 1048576000) (hae : a + 2 ≤ en) (hen : en ≤ bs.length) (hj : j < 5) (hz : d.n j = 0) :
    callK Tryz.prog 70 [.ptr rb 0] H k = k (.tuple [], H.set rb (.cells (RdC v (a + 2) en (d.setN j (beN ((bs.drop a).take 2))) (j + 1)) 124 .rw), ⟨none, some rb⟩) := by
  refine callK_eq (r := (.tuple [], H.set rb (.cells (RdC v (a + 2) en (d.setN j (beN ((bs.drop a).take 2))) (j + 1)) 124 .rw), ⟨none, some rb⟩)) ?_ k
  refine callK_start (n := 4) (rs := []) Tryz.func70 rfl rfl rfl ?_
  intro σ hl ha
  have h0 := ha 0 (by simp)
  clear ha
  simp only [Option.getD_some, List.getElem?_cons_zero, List.getElem?_cons_succ] at h0
  have hlt := lt_of_get hb
  have hlv : ∀ (y : ABlk) (x : AV), flat x = true → leave H.length x (H.set rb y) ⟨none, some rb⟩ = (x, H.set rb y, ⟨none, some rb⟩) := fun y x hx => leave_w hx (by simp) hlt
  have hn := fun k => rd_number H k rb v bs a en d j 2 hb hv hbl (by omega) hae hen hj hz
  have hn : ∀ k, callK Tryz.prog 92 [.ptr rb 0, .int .i64 2] H k = _ := hn
  simp only [go_sem, simprocAttr, hl, h0, hn, hlv]
theorem rd_long (H k) (rb : Nat) (v : AV) (bs : List UInt8) (a en : Nat) (d : Dt) (j : Nat) (hb : H[rb]? = some (.cells (RdC v a en d j) 124 .rw)) (hv : Rd H v bs) (hbl : bs.length ≤ 1048576000) (hae : a + 4 ≤ en) (hen : en ≤ bs.length) (hj : j < 5) (hz : d.n j = 0) :
    callK Tryz.prog 71 [.ptr rb 0] H k = k (.tuple [], H.set rb (.cells (RdC v (a + 4) en (d.setN j (beN ((bs.drop a).take 4))) (j + 1)) 124 .rw), ⟨none, some rb⟩) := by
  refine callK_eq (r := (.tuple [], H.set rb (.cells (RdC v (a + 4) en (d.setN j (beN ((bs.drop a).take 4))) (j + 1)) 124 .rw), ⟨none, some rb⟩)) ?_ k
  refine callK_start (n := 4) (rs := []) Tryz.func71 rfl rfl rfl ?_
  intro σ hl ha
  have h0 := ha 0 (by simp)
  clear ha
  simp only [Option.getD_some, List.getElem?_cons_zero, List.getElem?_cons_succ] at h0
  have hlt := lt_of_get hb
  have hlv : ∀ (y : ABlk) (x : AV), flat x = true → leave H.length x (H.set rb y) ⟨none, some rb⟩ = (x, H.set rb y, ⟨none, some rb⟩) := fun y x hx => leave_w hx (by simp) hlt
  have hn := fun k => rd_number H k rb v bs a en d j 4 hb hv hbl (by omega) hae hen hj hz
  have hn : ∀ k, callK Tryz.prog 92 [.ptr rb 0, .int .i64 4] H k = _ := hn
  simp only [go_sem, simprocAttr, hl, h0, hn, hlv]

def Rds (bs : List UInt8) (en : Nat) (d : Dt) : List UInt8 → Nat → Nat → Prop
  | [], _, a => a = en
  | c :: r, k, a =>
    if c.toNat = 104 ∨ c.toNat = 112 then ∃ m nx, Rn bs m a a d.host nx ∧ d.host.length ≤ 255 ∧ nx ≤ en ∧ Rds bs en d r k nx
    else if c.toNat = 109 then ∃ m nx, Rn bs m a a d.mail nx ∧ d.mail.length ≤ 255 ∧ nx ≤ en ∧ Rds bs en d r k nx
    else if c.toNat = 115 then a + 2 ≤ en ∧ k < 5 ∧ (beN ((bs.drop a).take 2) : Int) = d.n k ∧ Rds bs en d r (k + 1) (a + 2)
    else if c.toNat = 108 then a + 4 ≤ en ∧ k < 5 ∧ (beN ((bs.drop a).take 4) : Int) = d.n k ∧ Rds bs en d r (k + 1) (a + 4)
    else a ≤ en ∧ (bs.drop a).take (en - a) = d.raw ∧ Rds bs en d r k en
def gotF (d : Dt) : List UInt8 → Nat → Dt → Dt
  | [], _, x => x
  | c :: r, k, x =>
    if c.toNat = 104 ∨ c.toNat = 112 then gotF d r k { x with host := d.host }
    else if c.toNat = 109 then gotF d r k { x with mail := d.mail }
    else if c.toNat = 115 ∨ c.toNat = 108 then gotF d r (k + 1) (x.setN k (d.n k))
    else gotF d r k { x with raw := d.raw }
def doE (rb : Nat) : List (AV × AV) := [(.int .i32 104, .func (.func 68) [.ptr rb 0] []), (.int .i32 112, .func (.func 68) [.ptr rb 0] []), (.int .i32 109, .func (.func 69) [.ptr rb 0] []), (.int .i32 115, .func (.func 70) [.ptr rb 0] []), (.int .i32 108, .func (.func 71) [.ptr rb 0] [])]
set_option maxRecDepth 20000 in
set_option maxHeartbeats 4000000 in
theorem rdata_Take (H k) (v : AV) (bs : List UInt8) (a n : Nat) (t : Int) (d : Dt) (hk : Tk H) (hv : Rd H v bs) (hbl : bs.length ≤ 1048576000) (han : a + n ≤ bs.length) (hd : d.wf) (hck : chk t d = 0) (hr : Rds bs (a + n) d (formS t) 0 a) (hgot : gotF d (formS t) 0 Dt.zero = d) :
    callK Tryz.prog 47 [v, .int .i64 (a : Nat), .int .i64 (n : Nat), .int .u16 t] H k = k (.tuple [.agg d.cells, .int .i64 0], H, z0) := by
  refine callK_eq (r := (.tuple [.agg d.cells, .int .i64 0], H, z0)) ?_ k
  have hfl := form_lenP (t := t)
  have hfa := form_ascii (t := t)
  have hckf := fun l k => rdata_Check t d (H ++ l) k (hk.old l) hd
  rw [hck] at hckf
  have hfm := fun l k => rdata_form t (H ++ l) k (hk.old l)
  refine callK_startD (n := 96) (rs := [.cell 8 27, .cell 9 28]) Tryz.func47 rfl rfl rfl ?_
  intro σ hl ha
  have h0 := ha 0 (by simp)
  have h1 := ha 1 (by simp)
  have h2 := ha 2 (by simp)
  have h3 := ha 3 (by simp)
  clear ha
  simp only [Option.getD_some, List.getElem?_cons_zero, List.getElem?_cons_succ] at h0 h1 h2 h3
  generalize formS t = F at *
  have hlen := fun H' => hv.v.len H'
  have d1 : decide ((a : Int) < 0) = false := by simp
  have d2 : decide ((n : Int) < 0) = false := by simp
  have d3 : ¬ bs.length < a := by omega
  have w1 : IntKind.i64.wrap ((bs.length : Int) - (a : Int)) = ((bs.length - a : Nat) : Int) := by rw [wrap_i64 (by omega)]; omega
  have d4 : ¬ bs.length - a < n := by omega
  have w2 : IntKind.i64.wrap ((a : Int) + (n : Int)) = ((a + n : Nat) : Int) := by rw [wrap_i64 (by omega)]; omega
  refine goA_seq (by kernel_rfl) (by kernel_rfl) ?_
  simp only [go_sem, simprocAttr, hl]
  refine goA_seq (by kernel_rfl) (by kernel_rfl) ?_
  simp only [go_sem, simprocAttr, hl, h0, h1, h2, hlen, d1, d2, d3, d4, w1, w2, gt_iff_lt]
  refine goA_def (fv := .func (.func 21) [] []) (az := [.ptr H.length 0, .ptr (H.length + 1) 0]) (by simp only [go_sem]) (by simp only [go_sem, simprocAttr, hl]) ?_
  generalize hσ : List.set _ 35 _ = σ1
  have s0 : fr σ1 0 = v := by rw [← hσ]; simp only [go_sem, simprocAttr, hl, h0]
  have s1 : fr σ1 1 = .int .i64 (a : Nat) := by rw [← hσ]; simp only [go_sem, simprocAttr, hl, h1]
  have s2 : fr σ1 2 = .int .i64 (n : Nat) := by rw [← hσ]; simp only [go_sem, simprocAttr, hl, h2]
  have s3 : fr σ1 3 = .int .u16 t := by rw [← hσ]; simp only [go_sem, simprocAttr, hl, h3]
  have s8 : fr σ1 8 = .ptr H.length 0 := by rw [← hσ]; simp only [go_sem, simprocAttr, hl]
  have s9 : fr σ1 9 = .ptr (H.length + 1) 0 := by rw [← hσ]; simp only [go_sem, simprocAttr, hl]
  have sl : σ1.length = 96 := by rw [← hσ]; simp only [go_sem, simprocAttr, hl]
  clear hσ hl h0 h1 h2 h3
  have hbd : evBuild Tryz.prog 124 [(0, v), (1, .int .i64 (a : Nat)), (2, .int .i64 ((a + n : Nat) : Int))] = some (.agg (RdC v a (a + n) Dt.zero 0)) := by
    have hvc : vcells v = [v] := by obtain ⟨rfl, _⟩ | ⟨b, o, c, pre, post, e, k, rfl, _⟩ := hv <;> rfl
    simp only [evBuild, tsh_124, tzero_124, tplaces_124, Option.bind_some, fillA, hvc, List.getElem?_cons_zero, List.getElem?_cons_succ]
    rfl
  have hsh : mapSh Tryz.prog 73 = some (.int .i32, 1) := by simp only [mapSh, tsh_73, tsh_21]
  have hms : ∀ (x y : ABlk) (z : ABlk) (es : List (AV × AV)) (c : Int) (g : FuncId), findK (.int .i32) (.int .i32 c) es 0 = some none → evMapSet Tryz.prog 73 (.map (H.length + 3)) (.int .i32 c) (.func (.func g) [.ptr (H.length + 2) 0] []) (H ++ [x, y, z, .map es]) = some (H ++ [x, y, z, .map (es ++ [(.int .i32 c, .func (.func g) [.ptr (H.length + 2) 0] [])])], ⟨some (H.length + 3), some (H.length + 3)⟩) := by
    intro x y z es c g hf
    have hg : (H ++ [x, y, z, .map es])[H.length + 3]? = some (.map es) := by rw [List.getElem?_append_right (by omega)]; simp
    simp only [evMapSet, hsh, Option.bind_some, hg, hf, Option.map_some]
    rw [List.set_append_right _ _ (by omega)]
    simp [flat, flats]
  have f1 : findK (.int .i32) (.int .i32 104) [] 0 = some none := rfl
  have f2 : ∀ x, findK (.int .i32) (.int .i32 112) [(.int .i32 104, x)] 0 = some none := fun _ => rfl
  have f3 : ∀ x y, findK (.int .i32) (.int .i32 109) [(.int .i32 104, x), (.int .i32 112, y)] 0 = some none := fun _ _ => rfl
  have f4 : ∀ x y z, findK (.int .i32) (.int .i32 115) [(.int .i32 104, x), (.int .i32 112, y), (.int .i32 109, z)] 0 = some none := fun _ _ _ => rfl
  have f5 : ∀ x y z w, findK (.int .i32) (.int .i32 108) [(.int .i32 104, x), (.int .i32 112, y), (.int .i32 109, z), (.int .i32 115, w)] 0 = some none := fun _ _ _ _ => rfl
  have hvcR : vcells (.agg (RdC v a (a + n) Dt.zero 0)) = RdC v a (a + n) Dt.zero 0 := rfl
  simp only [go_sem, simprocAttr, sl, s0, s1, s2, s3, s8, s9, w2, hbd, hvcR, hms, f1, f2, f3, f4, f5, hfm]
  have hit : ∀ i c, F[i]? = some c → strIter F i = (.tuple [.bool true, .int .i64 (i : Nat), .int .i32 c.toNat], i + 1) := fun i c h => by rw [strIter_a hfa, itN_s h]
  have hie : strIter F F.length = (.tuple [.bool false], F.length) := by rw [strIter_a hfa]; unfold itN; rw [List.getElem?_eq_none (Nat.le_refl _)]
  refine go_rounds (fun m st => ∃ σ i a' k' x e, m + i = F.length ∧ Rds bs (a + n) d (F.drop i) k' a' ∧ gotF d (F.drop i) k' x = d ∧ (∀ j, k' ≤ j → j < 5 → x.n j = 0) ∧ a' ≤ a + n ∧
      st = ⟨σ, H ++ [.cells Dt.zero.cells 27 .rw, .cells [.int .i64 0] 28 .rw, .cells (RdC v a' (a + n) x k') 124 .rw, .map (doE (H.length + 2)), .iter F i], e⟩ ∧ clean H.length e ∧
      σ.length = 96 ∧ fr σ 3 = .int .u16 t ∧ fr σ 8 = .ptr H.length 0 ∧ fr σ 9 = .ptr (H.length + 1) 0 ∧ fr σ 10 = .ptr (H.length + 2) 0 ∧ fr σ 11 = .map (H.length + 3) ∧ fr σ 58 = .ptr (H.length + 4) 0) F.length
    ⟨_, 0, a, 0, Dt.zero, _, rfl, hr, hgot, fun j _ _ => by unfold Dt.n; split <;> rfl, by omega, rfl, by simp [clean_andI, clean_mk, low_sI], by simp only [go_sem, simprocAttr, sl], by simp only [go_sem, simprocAttr, sl, s3], by simp only [go_sem, simprocAttr, sl, s8], by simp only [go_sem, simprocAttr, sl, s9], by simp only [go_sem, simprocAttr, sl], by simp only [go_sem, simprocAttr, sl], by simp only [go_sem, simprocAttr, sl]⟩ ?_
  clear s0 s1 s2 s3 s8 s9 sl hr hgot
  rintro m _ ⟨σ, i, a', k', x, e, hmi, hr, hgot, hxz, hae, rfl, hce, hl, h3, h8, h9, h10, h11, h58⟩
  by_cases hlt : i < F.length
  · obtain ⟨c, hc⟩ : ∃ c, F[i]? = some c := ⟨_, List.getElem?_eq_getElem hlt⟩
    have hs := hit i c hc
    rw [drop_at hc] at hr hgot
    obtain ⟨Hx, hHx⟩ : ∃ Hx, Hx = H ++ [.cells Dt.zero.cells 27 .rw, .cells [.int .i64 0] 28 .rw, .cells (RdC v a' (a + n) x k') 124 .rw, .map (doE (H.length + 2)), .iter F (i + 1)] := ⟨_, rfl⟩
    have hbx : Hx[H.length + 2]? = some (.cells (RdC v a' (a + n) x k') 124 .rw) := by rw [hHx, List.getElem?_append_right (by omega)]; simp
    have hmx : Hx[H.length + 3]? = some (.map (doE (H.length + 2))) := by rw [hHx, List.getElem?_append_right (by omega)]; simp
    have hvx : Rd Hx v bs := by rw [hHx]; exact hv.old _
    have hsx : ∀ y, Hx.set (H.length + 2) y = H ++ [.cells Dt.zero.cells 27 .rw, .cells [.int .i64 0] 28 .rw, y, .map (doE (H.length + 2)), .iter F (i + 1)] := fun y => by rw [hHx, List.set_append_right _ _ (by omega)]; simp
    have hlk : ∀ r, findK (.int .i32) (.int .i32 c.toNat) (doE (H.length + 2)) 0 = some (some r) → evLookup Tryz.prog 73 (.map (H.length + 3)) (.int .i32 c.toNat) true Hx = some (.tuple [r.2, .bool true]) := fun r hr => by
      simp only [evLookup, hsh, hmx, Option.bind_some, hr, if_true]
    have hlkn : findK (.int .i32) (.int .i32 c.toNat) (doE (H.length + 2)) 0 = some none → evLookup Tryz.prog 73 (.map (H.length + 3)) (.int .i32 c.toNat) true Hx = some (.tuple [.nilf, .bool false]) := fun hr => by
      have hz : tzeroV Tryz.prog 1 = some .nilf := by kernel_rfl
      simp only [evLookup, hsh, hmx, Option.bind_some, hr, hz, Option.map_some, if_true]
    -- the round's end, whichever letter
    have fin : ∀ (σ' : List AV) (a2 k2 : Nat) (x2 : Dt) (e' : Ef), Rds bs (a + n) d (F.drop (i + 1)) k2 a2 → gotF d (F.drop (i + 1)) k2 x2 = d → (∀ j, k2 ≤ j → j < 5 → x2.n j = 0) → a2 ≤ a + n → clean H.length e' → σ'.length = 96 → fr σ' 3 = .int .u16 t → fr σ' 8 = .ptr H.length 0 → fr σ' 9 = .ptr (H.length + 1) 0 → fr σ' 10 = .ptr (H.length + 2) 0 → fr σ' 11 = .map (H.length + 3) → fr σ' 58 = .ptr (H.length + 4) 0 →
        ∃ m', m' < m ∧ (fun (m : Nat) (st : St) => ∃ σ i a' k' x e, m + i = F.length ∧ Rds bs (a + n) d (F.drop i) k' a' ∧ gotF d (F.drop i) k' x = d ∧ (∀ j, k' ≤ j → j < 5 → x.n j = 0) ∧ a' ≤ a + n ∧
      st = ⟨σ, H ++ [.cells Dt.zero.cells 27 .rw, .cells [.int .i64 0] 28 .rw, .cells (RdC v a' (a + n) x k') 124 .rw, .map (doE (H.length + 2)), .iter F i], e⟩ ∧ clean H.length e ∧
      σ.length = 96 ∧ fr σ 3 = .int .u16 t ∧ fr σ 8 = .ptr H.length 0 ∧ fr σ 9 = .ptr (H.length + 1) 0 ∧ fr σ 10 = .ptr (H.length + 2) 0 ∧ fr σ 11 = .map (H.length + 3) ∧ fr σ 58 = .ptr (H.length + 4) 0) m' ⟨σ', Hx.set (H.length + 2) (.cells (RdC v a2 (a + n) x2 k2) 124 .rw), e'⟩ := by
      intro σ' a2 k2 x2 e' q1 q2 q3 q4 q5 q6 q7 q8 q9 q10 q11 q12
      exact ⟨m - 1, by omega, σ', i + 1, a2, k2, x2, e', by omega, q1, q2, q3, q4, by rw [hsx], q5, q6, q7, q8, q9, q10, q11, q12⟩
    have nset : ∀ (y : Int) (k2 : Nat), k2 < 5 → (∀ j, k2 ≤ j → j < 5 → x.n j = 0) → ∀ j, k2 + 1 ≤ j → j < 5 → (x.setN k2 y).n j = 0 := by
      intro y k2 hk2 hz j hj hj5
      have h0 := hz j (by omega) hj5
      have : k2 = 0 ∨ k2 = 1 ∨ k2 = 2 ∨ k2 = 3 ∨ k2 = 4 := by omega
      rcases this with rfl | rfl | rfl | rfl | rfl <;> (match j, hj, h0 with
        | 0, hj, h0 => first | exact h0 | omega
        | 1, hj, h0 => first | exact h0 | omega
        | 2, hj, h0 => first | exact h0 | omega
        | 3, hj, h0 => first | exact h0 | omega
        | 4, hj, h0 => first | exact h0 | omega
        | j + 5, _, h0 => omega)
    have hset : (H ++ [.cells Dt.zero.cells 27 .rw, .cells [.int .i64 0] 28 .rw, .cells (RdC v a' (a + n) x k') 124 .rw, .map (doE (H.length + 2)), .iter F (i + 1)]) = Hx := hHx.symm
    have hrl : ∀ y, (Hx.set (H.length + 2) y)[H.length + 2]? = some y := fun y => by rw [List.getElem?_set_self (lt_of_get hbx)]
    simp only [Rds] at hr
    simp only [gotF] at hgot
    by_cases c1 : c.toNat = 104 ∨ c.toNat = 112
    · rw [if_pos c1] at hr hgot
      obtain ⟨q, nx, r1, r2, r3, r4⟩ := hr
      have hf : evLookup Tryz.prog 73 (.map (H.length + 3)) (.int .i32 c.toNat) true Hx = some (.tuple [.func (.func 68) [.ptr (H.length + 2) 0] [], .bool true]) := by
        rcases c1 with c1 | c1
        · exact hlk (0, _) (by rw [c1]; rfl)
        · exact hlk (1, _) (by rw [c1]; rfl)
      have hh := fun k => rd_host Hx k (H.length + 2) v bs a' (a + n) x k' q d.host nx hbx hvx hbl r1 r2 r3 (by omega)
      simp only [go_sem, simprocAttr, hl, h3, h8, h9, h10, h11, h58, hs, hset, hf, hh]
      exact fin _ nx k' { x with host := d.host } _ r4 hgot (fun j hj hj5 => hxz j hj hj5) r3 (by simp only [clean_andI, clean_sn, clean_z, hce, and_true, true_and]; omega) (by simp only [go_sem, simprocAttr, hl]) (by simp only [go_sem, simprocAttr, hl, h3]) (by simp only [go_sem, simprocAttr, hl, h8]) (by simp only [go_sem, simprocAttr, hl, h9]) (by simp only [go_sem, simprocAttr, hl, h10]) (by simp only [go_sem, simprocAttr, hl, h11]) (by simp only [go_sem, simprocAttr, hl, h58])
    · rw [if_neg c1] at hr hgot
      have c1a : c.toNat ≠ 104 := fun h => c1 (.inl h)
      have c1b : c.toNat ≠ 112 := fun h => c1 (.inr h)
      by_cases c2 : c.toNat = 109
      · rw [if_pos c2] at hr hgot
        obtain ⟨q, nx, r1, r2, r3, r4⟩ := hr
        have hf := hlk (2, _) (by rw [c2]; rfl)
        have hh := fun k => rd_mail Hx k (H.length + 2) v bs a' (a + n) x k' q d.mail nx hbx hvx hbl r1 r2 r3 (by omega)
        simp only [go_sem, simprocAttr, hl, h3, h8, h9, h10, h11, h58, hs, hset, hf, hh]
        exact fin _ nx k' { x with mail := d.mail } _ r4 hgot (fun j hj hj5 => hxz j hj hj5) r3 (by simp only [clean_andI, clean_sn, clean_z, hce, and_true, true_and]; omega) (by simp only [go_sem, simprocAttr, hl]) (by simp only [go_sem, simprocAttr, hl, h3]) (by simp only [go_sem, simprocAttr, hl, h8]) (by simp only [go_sem, simprocAttr, hl, h9]) (by simp only [go_sem, simprocAttr, hl, h10]) (by simp only [go_sem, simprocAttr, hl, h11]) (by simp only [go_sem, simprocAttr, hl, h58])
      · rw [if_neg c2] at hr hgot
        by_cases c3 : c.toNat = 115
        · rw [if_pos c3] at hr
          rw [if_pos (.inl c3)] at hgot
          obtain ⟨r1, r2, r3, r4⟩ := hr
          have hf := hlk (3, _) (by rw [c3]; rfl)
          have hh := fun k => rd_short Hx k (H.length + 2) v bs a' (a + n) x k' hbx hvx hbl r1 (by omega) r2 (hxz k' (Nat.le_refl _) r2)
          rw [r3] at hh
          simp only [go_sem, simprocAttr, hl, h3, h8, h9, h10, h11, h58, hs, hset, hf, hh]
          exact fin _ (a' + 2) (k' + 1) (x.setN k' (d.n k')) _ r4 hgot (nset _ _ r2 hxz) r1 (by simp only [clean_andI, clean_sn, clean_z, hce, and_true, true_and]; omega) (by simp only [go_sem, simprocAttr, hl]) (by simp only [go_sem, simprocAttr, hl, h3]) (by simp only [go_sem, simprocAttr, hl, h8]) (by simp only [go_sem, simprocAttr, hl, h9]) (by simp only [go_sem, simprocAttr, hl, h10]) (by simp only [go_sem, simprocAttr, hl, h11]) (by simp only [go_sem, simprocAttr, hl, h58])
        · rw [if_neg c3] at hr
          by_cases c4 : c.toNat = 108
          · rw [if_pos c4] at hr
            rw [if_pos (.inr c4)] at hgot
            obtain ⟨r1, r2, r3, r4⟩ := hr
            have hf := hlk (4, _) (by rw [c4]; rfl)
            have hh := fun k => rd_long Hx k (H.length + 2) v bs a' (a + n) x k' hbx hvx hbl r1 (by omega) r2 (hxz k' (Nat.le_refl _) r2)
            rw [r3] at hh
            simp only [go_sem, simprocAttr, hl, h3, h8, h9, h10, h11, h58, hs, hset, hf, hh]
            exact fin _ (a' + 4) (k' + 1) (x.setN k' (d.n k')) _ r4 hgot (nset _ _ r2 hxz) r1 (by simp only [clean_andI, clean_sn, clean_z, hce, and_true, true_and]; omega) (by simp only [go_sem, simprocAttr, hl]) (by simp only [go_sem, simprocAttr, hl, h3]) (by simp only [go_sem, simprocAttr, hl, h8]) (by simp only [go_sem, simprocAttr, hl, h9]) (by simp only [go_sem, simprocAttr, hl, h10]) (by simp only [go_sem, simprocAttr, hl, h11]) (by simp only [go_sem, simprocAttr, hl, h58])
          · rw [if_neg c4] at hr
            rw [if_neg (by omega)] at hgot
            obtain ⟨r1, r3, r4⟩ := hr
            have hno : findK (.int .i32) (.int .i32 c.toNat) (doE (H.length + 2)) 0 = some none := by
              have b : ∀ z : Nat, c.toNat ≠ z → ((c.toNat : Int) == (z : Nat)) = false := fun z h => by rw [beq_eq_false_iff_ne]; omega
              have b1 := b 104 c1a
              have b2 := b 112 c1b
              have b3 := b 109 c2
              have b4 := b 115 c3
              have b5 := b 108 c4
              have b1 : ((c.toNat : Int) == 104) = false := b1
              have b2 : ((c.toNat : Int) == 112) = false := b2
              have b3 : ((c.toNat : Int) == 109) = false := b3
              have b4 : ((c.toNat : Int) == 115) = false := b4
              have b5 : ((c.toNat : Int) == 108) = false := b5
              simp only [doE, findK, sameKey, if_true, b1, b2, b3, b4, b5]
            have hf := hlkn hno
            have hh := fun k => rd_rest Hx k (H.length + 2) v bs a' (a + n) x k' hbx hvx r1 (by omega)
            rw [r3] at hh
            simp only [go_sem, simprocAttr, hl, h3, h8, h9, h10, h11, h58, hs, hset, hf, hh]
            exact fin _ (a + n) k' { x with raw := d.raw } _ r4 hgot (fun j hj hj5 => hxz j hj hj5) (by omega) (by simp only [clean_andI, clean_sn, clean_z, hce, and_true, true_and]; omega) (by simp only [go_sem, simprocAttr, hl]) (by simp only [go_sem, simprocAttr, hl, h3]) (by simp only [go_sem, simprocAttr, hl, h8]) (by simp only [go_sem, simprocAttr, hl, h9]) (by simp only [go_sem, simprocAttr, hl, h10]) (by simp only [go_sem, simprocAttr, hl, h11]) (by simp only [go_sem, simprocAttr, hl, h58])
  · have hi : i = F.length := by omega
    subst hi
    rw [List.drop_length] at hr hgot
    have hr : a' = a + n := hr
    have hgot : x = d := hgot
    subst hr hgot
    simp only [go_sem, simprocAttr, hl, h3, h8, h9, h10, h11, h58, hie]
    refine go_drawZ tFollows (by kernel_rfl) ?_
    have q1 : x.cells.length = 8 := rfl
    have q2 : Dt.zero.cells.length = 8 := rfl
    have q3 : x.cells.all scal = true := rfl
    have q4 : flats x.cells = true := by simp [Dt.cells, flats, flat]
    have q5 : splice Dt.zero.cells 0 x.cells = x.cells := rfl
    simp only [go_sem, simprocAttr, hl, h3, h8, h9, h10, h11, h58, RdC.l1, RdC.l2, RdC.l3, hckf, q1, q2, q3, q4, q5]
    refine caught0 ?_
    simp only [go_sem, simprocAttr, hl, h8, h9, Dt.l8]
    exact leave_flat (by simp [flat, flats, q4]) (by simp only [clean_andI, clean_sn, hce, true_and]; omega)
end Go.Proofs.YtgkpgpdkolpfkaaGreatDoor.V
namespace Go.Proofs.YtgkpgpdkolpfkaaGreatDoor.V
open Go

theorem geta {α : Type} {l xs : List α} {i : Nat} {x : α} (h : l[i]? = some x) : (l ++ xs)[i]? = some x := by
  rw [List.getElem?_append_left (List.getElem?_eq_some_iff.1 h).1]; exact h
theorem Rn.app {bs : List UInt8} (xs : List UInt8) : ∀ {m row a : Nat} {n : List UInt8} {nx : Nat}, Rn bs m row a n nx → Rn (bs ++ xs) m row a n nx
  | 0, _, a, n, nx, h => by
    obtain ⟨h1, h2, h3⟩ := h
    exact ⟨geta h1, h2, h3⟩
  | m + 1, row, a, n, nx, h => by
    obtain ⟨c, n', h1, h2, h3, h4, h5, h6⟩ | ⟨c, d, nx', h1, h2, h3, h4, h5, h6⟩ := h
    · refine .inl ⟨c, n', geta h1, h2, h3, by rw [List.length_append]; omega, ?_, h6.app xs⟩
      rw [h5, List.drop_append_of_le_length (by omega), List.take_append_of_le_length (by rw [List.length_drop]; omega)]
    · exact .inr ⟨c, d, nx', geta h1, h2, geta h3, h4, h5, h6.app xs⟩
def GoodT (out : List UInt8) (tab : Tab) : Prop := ∀ n p, tget tab n = some p → p < out.length ∧ p ≤ 16383 ∧ ∃ m nx, Rn out m p p n nx
theorem GoodT.app {out : List UInt8} {tab : Tab} (h : GoodT out tab) (xs : List UInt8) : GoodT (out ++ xs) tab := fun n p hp => by
  obtain ⟨h1, h2, m, nx, h3⟩ := h n p hp
  exact ⟨by rw [List.length_append]; omega, h2, m, nx, h3.app xs⟩
theorem got_good {t : Int} {d : Dt} (hg : goodB t d = true) : gotF d (formS t) 0 Dt.zero = d := by
  obtain ⟨raw, host, mail, n0, n1, n2, n3, n4⟩ := d
  simp only [goodB, headB, Bool.and_eq_true] at hg
  obtain ⟨⟨h1, h2, h3, h4, h5⟩, m0, m1, m2, m3, m4⟩ := hg
  rcases kinds_cases t with rfl | rfl | rfl | rfl | rfl | rfl | rfl | rfl | rfl | h
  all_goals simp_all [gotF, formS, Dt.setN, Dt.n, Dt.zero, hostT, mailT, numB, numT, bitT, rawT]
end Go.Proofs.YtgkpgpdkolpfkaaGreatDoor.V
