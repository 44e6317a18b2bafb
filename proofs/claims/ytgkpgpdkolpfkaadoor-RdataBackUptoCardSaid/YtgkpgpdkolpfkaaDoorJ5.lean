/- Joined by mkclaim.py: WWake WFlat WRdBase WPutA WPutB WPutC WPutE WPutD WPutF WRefA WRefB WRefC WRefD WRefE WRefF WLawP WRdItems WTakeA WTakeB VDef WTakeC WTakeP WBackA. No conditions. -/
import Derived.Test.YtgkpgpdkolpfkaaDoorJ4
import Derived.Test.YtgkpgpdkolpfkaaDoorJ3
import Derived.Test.YtgkpgpdkolpfkaaDoorRows
import Derived.Test.YtgkpgpdkolpfkaaDoorCards
import Derived.Test.YtgkpgpdkolpfkaaDoorTie
import Derived.WalkKit
import Derived.ProofKit
import Derived.OpenShut
import Derived.ShutString
import Derived.ChangeOld
import Derived.Below
import Derived.SizedLaws
import Derived.LaidMore
import Derived.Lay
import Derived.MakeChecks
import Derived.SevenTiedAt
import Derived.Deep.DeepHandedRow
import Derived.Test.YtgkpgpdkolpfkaaDoorJ2
namespace Go.Proofs.YtgkpgpdkolpfkaaDoor.V
open Go
set_option linter.unusedSimpArgs false
set_option linter.unusedVariables false
attribute [local irreducible] go goOps goD opK callK callT stepK leaveTo nextK

abbrev wkMap : ABlk := .map [(.str [1, 97, 0], .int .i64 2)]
theorem wk_row' (H T : Hp) (q : Nat) (hT1 : T[1]? = some (.map [])) (hT2 : T[2]? = some (.cells [.map (H.length + 1)] 59 .rw)) (hq : T[q]? = some (.cells (u8s [0, 10]) 5 (.op 0 false))) :
    ∃ m L e, clean H.length e ∧ (T.set 1 wkMap ++ L)[m]? = some (.cells (u8s [0, 10, 1, 97, 0]) 5 .rw) ∧
      ∀ k, callK Tryd.prog 64 [.ptr (H.length + 2) 0, .slice (H.length + q) 0 2 (.op 0), .str [1, 97, 0], .bool false] (H ++ T) k = k (.tuple [.slice (H.length + m) 0 5 (.ex 5), .int .i64 0], H ++ (T.set 1 wkMap ++ L), e) := by
  obtain ⟨⟨m, L, e⟩, ⟨h1, h2⟩, h3⟩ := callK_exP (fun b : Nat × Hp × Ef => clean H.length b.2.2 ∧ (T.set 1 wkMap ++ b.2.1)[b.1]? = some (.cells (u8s [0, 10, 1, 97, 0]) 5 .rw)) (fun b => (.tuple [.slice (H.length + b.1) 0 5 (.ex 5), .int .i64 0], H ++ (T.set 1 wkMap ++ b.2.1), b.2.2))
    (callK_mono (wk_row H T q hT1 hT2 hq) (fun r ⟨m, L, e, h1, h2, h3⟩ => ⟨⟨m, L, e⟩, ⟨h2, h3⟩, h1⟩))
  exact ⟨m, L, e, h1, h2, h3⟩
set_option maxRecDepth 20000 in
theorem wk_tput (H T : Hp) (q : Nat) (hT1 : T[1]? = some (.map [])) (hT2 : T[2]? = some (.cells [.map (H.length + 1)] 59 .rw)) (hq : T[q]? = some (.cells (u8s [0, 10]) 5 (.op 0 false))) :
    ∃ m L e, clean H.length e ∧ (T.set 1 wkMap ++ L)[m]? = some (.cells (u8s [0, 10, 1, 97, 0]) 5 .rw) ∧
      ∀ k, callK Tryd.prog 24 [.ptr (H.length + 2) 0, .slice (H.length + q) 0 2 (.op 0), .str [1, 97, 0]] (H ++ T) k = k (.tuple [.slice (H.length + m) 0 5 (.ex 5), .int .i64 0], H ++ (T.set 1 wkMap ++ L), e) := by
  obtain ⟨m, L, e, h1, h2, h3⟩ := wk_row' H T q hT1 hT2 hq
  obtain ⟨e', h4, h5⟩ := leave_nf (n := H.length + T.length) (m := H.length) (v := .tuple [.slice (H.length + m) 0 5 (.ex 5), .int .i64 0]) (by simp [flat, flats]) h1
  refine ⟨m, L, e', h5, h2, fun k => callK_eq ?_ k⟩
  refine callK_start (n := 14) (rs := [.tmp 6, .tmp 7]) Tryd.func24 rfl rfl rfl ?_
  intro σ hl ha
  have g0 := ha 0 (by simp)
  have g1 := ha 1 (by simp)
  have g2 := ha 2 (by simp)
  clear ha
  simp only [Option.getD_some, List.getElem?_cons_zero, List.getElem?_cons_succ] at g0 g1 g2
  simp only [go_sem, simprocAttr, hl, g0, g1, g2, h3]
  exact h4 _

def dW : Dt := ⟨[], [1, 97, 0], [], 10, 0, 0, 0, 0⟩
theorem dW_wf : dW.wf := ⟨by decide, by decide, by decide, ⟨by decide, by decide⟩, ⟨by decide, by decide⟩, ⟨by decide, by decide⟩, ⟨by decide, by decide⟩, ⟨by decide, by decide⟩⟩
set_option maxRecDepth 20000 in
set_option maxHeartbeats 1000000 in
theorem wk_Put (H) (hk : Tk H) : callK Tryd.prog 10 [.nils, .ptr (H.length + 2) 0, .int .u16 15, .agg dW.cells] (H ++ [.cells dW.cells 37 .rw, .map [], .cells [.map (H.length + 1)] 59 .rw]) (fun r => ∃ m T e, r = (.tuple [.slice (H.length + m) 0 5 (.ex 5), .int .i64 0], H ++ T, e) ∧ clean H.length e ∧ T[m]? = some (.cells (u8s [0, 10, 1, 97, 0]) 5 .rw) ∧ T[0]? = some (.cells dW.cells 37 .rw) ∧ 3 < T.length) := by
  refine callK_start (n := 88) (rs := [.tmp 8, .tmp 9]) Tryd.func10 rfl rfl rfl ?_
  intro σ hl ha
  have h0 := ha 0 (by simp)
  have h1 := ha 1 (by simp)
  have h2 := ha 2 (by simp)
  have h3 := ha 3 (by simp)
  clear ha
  simp only [Option.getD_some, List.getElem?_cons_zero, List.getElem?_cons_succ] at h0 h1 h2 h3
  have hck := fun l k => rdata_Check 15 dW (H ++ l) k (hk.old l) dW_wf
  have hc0 : chk 15 dW = 0 := by decide
  rw [hc0] at hck
  have hfm := fun l k => rdata_form 15 (H ++ l) k (hk.old l)
  rw [show formS 15 = [115, 104] from rfl] at hfm
  have i0 : strIter [115, 104] 0 = (.tuple [.bool true, .int .i64 0, .int .i32 115], 1) := by rw [strIter_a (by decide)]; rfl
  have i1 : strIter [115, 104] 1 = (.tuple [.bool true, .int .i64 1, .int .i32 104], 2) := by rw [strIter_a (by decide)]; rfl
  have i2 : strIter [115, 104] 2 = (.tuple [.bool false], 2) := by rw [strIter_a (by decide)]; rfl
  have hln : ∀ H', evLen Tryd.prog 31 .nils H' = some (.int .i64 0) := by intro H'; simp only [evLen, tsh_31]
  simp only [go_sem, simprocAttr, hl, h0, h1, h2, h3, hck, hfm, i0, i1, i2, hln, Dt.l8, Dt.vc, Dt.len]
  have hput := fun H k => wk_put16 H k
  have hld : ∀ (e : TypeId) (k : Kd), ldC 3 1 false (.cells dW.cells e k) = some (.int .u32 10) := fun e k => rfl
  have hl1 : ∀ (e : TypeId) (k : Kd), ldC 1 1 false (.cells dW.cells e k) = some (.str [1, 97, 0]) := fun e k => rfl
  have w1 : IntKind.u16.wrap 10 = 10 := by decide
  obtain ⟨m, L, e, q1, q2, htp⟩ := wk_tput H [.cells dW.cells 37 .rw, .map [], .cells [.map (H.length + 1)] 59 .rw, .cells dW.cells 37 .rw, .iter [115, 104] 2, .cells [.int .u8 0] 5 .rw, .dead, .cells [.int .u8 10] 5 .rw, .cells [.int .u8 0, .int .u8 10] 5 (.op 0 false)] 8 rfl rfl rfl
  rw [go_loop]
  simp only [go_sem, simprocAttr, hl, h0, h1, h2, h3, hck, hfm, i0, i1, i2, hln, Dt.l8, Dt.vc, Dt.len, hl1, hld, w1, hput, htp]
  rw [go_loop]
  simp only [go_sem, simprocAttr, hl, h0, h1, h2, h3, hck, hfm, i0, i1, i2, hln, Dt.l8, Dt.vc, Dt.len, hl1, hld, w1, hput, htp]
  rw [go_loop]
  simp only [go_sem, simprocAttr, hl, h0, h1, h2, h3, hck, hfm, i0, i1, i2, hln, Dt.l8, Dt.vc, Dt.len, hl1, hld, w1, hput, htp]
  obtain ⟨e', h4, h5⟩ := leave_nf (n := H.length + 3) (m := H.length) (v := .tuple [.slice (H.length + m) 0 5 (.ex 5), .int .i64 0]) (by simp [flat, flats]) (e := Ef.and (Ef.and ⟨none, some (H.length + 4)⟩ e) ⟨none, some (H.length + 4)⟩) (clean_and (clean_and (by simp [clean, low]) q1) (by simp [clean, low]))
  exact ⟨m, _, e', h4 _, h5, q2, rfl, by simp⟩

set_option maxRecDepth 20000 in
set_option maxHeartbeats 1000000 in
theorem wk (H k) (hk : Tk H) (ht : Tb H) (hdb : Db H) : callK Tryd.prog 8 [] H k = k (.bool true, H, z0) := by
  refine callK_eq (r := (.bool true, H, z0)) ?_ k
  refine callK_start (n := 44) (rs := [.tmp 0]) Tryd.func8 rfl rfl rfl ?_
  intro σ hl ha
  clear ha
  obtain ⟨⟨m, T, e⟩, ⟨q1, q2, q3, q4⟩, hput⟩ := callK_exP (fun b : Nat × Hp × Ef => clean H.length b.2.2 ∧ b.2.1[b.1]? = some (.cells (u8s [0, 10, 1, 97, 0]) 5 .rw) ∧ b.2.1[0]? = some (.cells dW.cells 37 .rw) ∧ 3 < b.2.1.length) (fun b => (.tuple [.slice (H.length + b.1) 0 5 (.ex 5), .int .i64 0], H ++ b.2.1, b.2.2))
    (callK_mono (wk_Put H hk) (fun r ⟨m, T, e, h1, h2, h3⟩ => ⟨⟨m, T, e⟩, ⟨h2, h3⟩, h1⟩))
  simp only at q1 q2 q3 q4 hput
  have hq1 : ∀ (v : AV) (e : Ef) (A B C : ABlk), quiet (v, H ++ [A, B, C], e) (H ++ [A]) = false := by intro v e A B C; simp [quiet]
  have hq2 : ∀ (v : AV) (e : Ef) (A B C : ABlk), quiet (v, H ++ T, e) (H ++ [A, B, C]) = false := by intro v e A B C; simp [quiet]; omega
  have hbd5 : evBuild Tryd.prog 35 [(0, .int .u32 10)] = some (.agg [.int .u32 10, .int .u32 0, .int .u32 0, .int .u32 0, .int .u32 0]) := by kernel_rfl
  have hbdd : evBuild Tryd.prog 37 [(1, .str [1, 97, 0]), (3, .agg [.int .u32 10, .int .u32 0, .int .u32 0, .int .u32 0, .int .u32 0])] = some (.agg dW.cells) := by kernel_rfl
  have hnew := fun H k => press_New H k
  have hsh := fun l k => rdata_ShowK 15 dW (H ++ l) k (hk.old l) (ht.old l) (hdb.old l) dW_wf
  have hd10 : decP 10 = [49, 48] := by rw [decP_big (by decide), show 10 / 10 = 1 from rfl, decP_small (by decide)]; decide
  have htx : txtN [1, 97, 0] = [97, 46] := by decide
  have hts : tellS 15 dW = [49, 48, 32, 97, 46] := by
    rw [tellS, if_pos (by decide)]
    simp [showS, formS, showL, elemS, isN, joinS, Dt.n, dW, hd10, htx]
  have hc0 : chk 15 dW = 0 := by decide
  have hck := fun l k => rdata_Check 15 dW (H ++ l) k (hk.old l) dW_wf
  have hck1 := fun l k => rdata_Check 1 dW (H ++ l) k (hk.old l) dW_wf
  have hc1 : chk 1 dW = 40 := by decide
  rw [hts, hc0] at hsh
  rw [hc0] at hck
  rw [hc1] at hck1
  have hsp : splice [AV.str [], AV.str [], AV.str [], AV.int .u32 0, AV.int .u32 0, AV.int .u32 0, AV.int .u32 0, AV.int .u32 0] 0 dW.cells = dW.cells := rfl
  have hsc := Dt.scl dW
  have hg0 : ∀ l : Hp, (T ++ l)[0]? = some (.cells dW.cells 37 .rw) := fun l => get_app q3
  have hstr : evConv Tryd.prog 31 9 (.slice (H.length + m) 0 5 (.ex 5)) (H ++ T) = some (.str [0, 10, 1, 97, 0], H ++ T) := by
    have hr : Rd (H ++ T) (.slice (H.length + m) 0 5 (.ex 5)) [0, 10, 1, 97, 0] := .inr ⟨_, _, _, [], [], 5, .rw, rfl, rfl, by rw [hp_new, q2]; simp, .inl ⟨5, rfl, by decide⟩⟩
    exact hr.v.str
  have e1 : (([0, 10, 1, 97, 0] : List UInt8) == [0, 10, 1, 97, 0]) = true := by decide
  have e2 : (([49, 48, 32, 97, 46] : List UInt8) == [49, 48, 32, 97, 46]) = true := by decide
  simp only [go_sem, simprocAttr, hl, hbd5, hbdd, hnew, Dt.l8, Dt.vc, Dt.len, hsp, hsc]
  refine go_drawZ tFollows (by kernel_rfl) ?_
  simp only [go_sem, simprocAttr, hl, hnew, Dt.l8, Dt.vc, Dt.len, hput, q3, hg0, hsh, hck, hck1, hq1, hq2, hstr, e1, e2]
  refine ⟨by rcases tg_or 2 e with h | h <;> rw [h] <;> kernel_rfl, ?_⟩
  rw [Dt.flat dW, if_pos rfl]
  exact leave_flat rfl (clean_and (by simp [clean, low]) q1)
end Go.Proofs.YtgkpgpdkolpfkaaDoor.V
namespace Go.Proofs.YtgkpgpdkolpfkaaDoor.V
open Go Go.RowKit
set_option linter.unusedSimpArgs false
set_option linter.unusedVariables false

mutual
/-- Plain data's cells. -/
def flatC {H : Type} : DataW H → List AV
  | .lit (.int k n) => [.int k n]
  | .lit (.string s) => [.str s]
  | .lit (.bool b) => [.bool b]
  | .agg ps => flatCs ps
  | _ => [.nili]
def flatCs {H : Type} : List (DataW H) → List AV
  | [] => []
  | d :: r => flatC d ++ flatCs r
end
def fieldsT (P : Program) (f : TypeId → Bool) : List Field → Nat → Nat → Bool
  | [], o, z => o == z
  | x :: r, o, z => x.offset == o && (f x.type && fieldsT P f r (o + P.cellsOf x.type) z)
/-- A type of plain data. -/
def plainT (P : Program) : Nat → TypeId → Bool
  | 0, _ => false
  | d + 1, t => match P.underlying t with
    | some (.int _) => true
    | some .string => true
    | some .bool => true
    | some (.array n e) => plainT P d e && P.cellsOf t == n * P.cellsOf e
    | some (.struct fs) => fieldsT P (plainT P d) fs.toList 0 (P.cellsOf t)
    | _ => false

section
variable {H : Type} {enc : TypeId × Value → H} {P : Program} {W : World} {base : Nat} {sp : Nat → Bool} {held : Bool}

theorem concs_app {μ : Mu} : ∀ {a b : List AV} {x y : List Value}, concs μ a = some x → concs μ b = some y → concs μ (a ++ b) = some (x ++ y)
  | [], b, x, y, h, h' => by cases h; simpa using h'
  | v :: a, b, x, y, h, h' => by
    simp only [concs, Option.bind_eq_some_iff, Option.map_eq_some_iff] at h
    obtain ⟨c, hc, xs, hx, rfl⟩ := h
    have := concs_app hx h'
    simp only [List.cons_append, concs, hc, this, Option.bind_some, Option.map_some]
theorem pieces {μ : Mu} {c : Nat} : ∀ (xs : List (DataW H × List MemPlace)) (cs : List Value), cs.length = xs.length * c →
    (∀ i x, xs[i]? = some x → concs μ (flatC x.1) = some ((cs.drop (i * c)).take c)) → concs μ (flatCs (xs.map (·.1))) = some cs
  | [], cs, hl, _ => by
    have : cs = [] := List.length_eq_zero_iff.1 (by simpa using hl)
    subst this; rfl
  | x :: xs, cs, hl, h => by
    have h0 := h 0 x rfl
    simp only [Nat.zero_mul, List.drop_zero] at h0
    have ih := pieces (μ := μ) (c := c) xs (cs.drop c) (by rw [List.length_drop, hl, List.length_cons, Nat.add_mul]; omega) (fun i y hy => by
      have := h (i + 1) y (by simpa using hy)
      rw [List.drop_drop, show c + i * c = (i + 1) * c by rw [Nat.add_mul]; omega]
      exact this)
    have := concs_app h0 ih
    rw [List.take_append_drop] at this
    simpa [flatCs] using this
theorem fields {μ : Mu} {z : Nat} {f : TypeId → Bool} {cs : List Value} {g : TypeId → List Value → Option (DataW H × List MemPlace)}
    (hf : ∀ t l x, f t = true → g t l = some x → concs μ (flatC x.1) = some l) : ∀ (fs : List Field) (xs : List (DataW H × List MemPlace)) (o : Nat), fieldsT P f fs o z = true → o ≤ z → xs.length = fs.length → cs.length = z →
    (∀ (i : Nat) (x : Field), fs[i]? = some x → g x.type ((cs.drop x.offset).take (P.cellsOf x.type)) = xs[i]?) → concs μ (flatCs (xs.map (·.1))) = some (cs.drop o)
  | [], [], o, h, hoz, _, hz, _ => by
    simp only [fieldsT, beq_iff_eq] at h
    rw [List.drop_eq_nil_of_le (by omega)]; rfl
  | [], _ :: _, _, _, _, hl, _, _ => by simp at hl
  | _ :: _, [], _, _, _, hl, _, _ => by simp at hl
  | x :: fs, y :: xs, o, h, hoz, hl, hz, hx => by
    simp only [fieldsT, Bool.and_eq_true, beq_iff_eq] at h
    obtain ⟨rfl, h1, h2⟩ := h
    have h0 := hf _ _ _ h1 (hx 0 x rfl)
    have hle : x.offset + P.cellsOf x.type ≤ z := by
      have : ∀ (fs : List Field) (o : Nat), fieldsT P f fs o z = true → o ≤ z := by
        intro fs
        induction fs with
        | nil => intro o h; simp only [fieldsT, beq_iff_eq] at h; omega
        | cons a r ih =>
          intro o h
          simp only [fieldsT, Bool.and_eq_true, beq_iff_eq] at h
          have := ih _ h.2.2
          omega
      exact this _ _ h2
    have ih := fields hf fs xs (x.offset + P.cellsOf x.type) h2 hle (by simpa using hl) hz (fun i w hw => by simpa using hx (i + 1) w (by simpa using hw))
    have := concs_app h0 ih
    have e : (cs.drop x.offset).take (P.cellsOf x.type) ++ cs.drop (x.offset + P.cellsOf x.type) = cs.drop x.offset := by
      rw [← List.drop_drop, List.take_append_drop]
    rw [e] at this
    simpa [flatCs] using this
theorem trod_flat {μ : Mu} : ∀ (m fuel : Nat) (t : TypeId) (cs : List Value) (x : DataW H × List MemPlace), plainT P m t = true → DataW.trod enc P W base sp held fuel t cs = some x → concs μ (flatC x.1) = some cs
  | 0, _, _, _, _, h, _ => by cases h
  | m + 1, fuel, t, cs, x, h, hx => by
    unfold plainT at h
    split at h
    · rename_i k ht
      obtain ⟨n, rfl, rfl, _⟩ := DataW.trod_int ht hx
      simp [flatC, concs, conc]
    · rename_i ht
      obtain ⟨s, rfl, rfl, _⟩ := DataW.trod_string ht hx
      simp [flatC, concs, conc]
    · rename_i ht
      obtain ⟨b, rfl, rfl⟩ := DataW.trod_bool ht hx
      simp [flatC, concs, conc]
    · rename_i n e ht
      simp only [Bool.and_eq_true, beq_iff_eq] at h
      obtain ⟨xs, q, rfl, rfl, hcl, hxl, hel⟩ := DataW.trod_array ht hx
      refine pieces (c := P.cellsOf e) xs cs (by rw [hcl, hxl, h.2]) (fun i y hy => ?_)
      have hi : i < n := by rw [← hxl]; exact (List.getElem?_eq_some_iff.1 hy).1
      have := hel i hi
      rw [hy] at this
      exact trod_flat m q e _ y h.1 this
    · rename_i fs ht
      obtain ⟨xs, q, rfl, rfl, hcl, hxl, hel⟩ := DataW.trod_struct ht hx
      have := fields (P := P) (μ := μ) (g := fun t l => DataW.trod enc P W base sp held q t l) (cs := cs) (fun t l x h1 h2 => trod_flat m q t l x h1 h2) fs.toList xs 0 h (Nat.zero_le _) (by simpa using hxl) hcl (fun i f hf => hel i f (by simpa using hf))
      simpa [flatC] using this
    · cases h
end
end Go.Proofs.YtgkpgpdkolpfkaaDoor.V
namespace Go.Proofs.YtgkpgpdkolpfkaaDoor.V
open Go Go.ChangeShapes Go.WideShapes Go.ChangeAt Go.RowKit
set_option linter.unusedSimpArgs false
set_option linter.unusedVariables false
open Go.ChangeMaps (open_string shut_string)
theorem gsize : Tryd.prog.globals.size = 7 := by kernel_rfl
theorem own : ownKnob Tryd.prog.godebug = none := by kernel_rfl
theorem laidOut : laidOutB Tryd.prog = true := by kernel_rfl
theorem gKinds : Tryd.prog.globalNamed "hearsay/rdata.kinds" = some 0 := by kernel_rfl
theorem gPow : Tryd.prog.globalNamed "internal/strconv.uint64pow10" = some 1 := by kernel_rfl
theorem gDe64 : Tryd.prog.globalNamed "math/bits.deBruijn64tab" = some 6 := by kernel_rfl
theorem lastRow : ((((begin Tryd.prog (fun _ _ => 0) default).world.heap)[7 - 1]?).bind Obj.row?).isSome = true := by kernel_rfl
theorem ptKinds : ((Tryd.prog.globals[0]?).map (·.type)).all (plainT Tryd.prog 8) = true := by kernel_rfl
theorem ptPow : ((Tryd.prog.globals[1]?).map (·.type)).all (plainT Tryd.prog 8) = true := by kernel_rfl
theorem ptDe64 : ((Tryd.prog.globals[6]?).map (·.type)).all (plainT Tryd.prog 8) = true := by kernel_rfl
theorem pt_of {o : Option TypeId} {t : TypeId} {f : TypeId → Bool} (h : o.all f = true) (ht : o = some t) : f t = true := by subst ht; simpa using h

set_option maxRecDepth 100000 in
/-- What the listed variables give. -/
theorem of_laid {W : World} (hsh : W.ShapedOpen Tryd.prog) (h : laidMetH Tryd.prog Rows.rdataChecksUptoRow.laid W) : ∃ Bs : List ABlk, Bs.length = 7 ∧ (∀ x ∈ Bs, apart x = false) ∧ HRel Tryd.prog (start W) (mu0 7) Bs W ∧ Tk Bs ∧ Tb Bs ∧ Db Bs := by
  have hsz := shaped_size gsize hsh lastRow
  have h : laidMet Tryd.prog Rows.rdataChecksUptoRow.laid W := h
  obtain ⟨ps, ⟨_, _, _, _, _, _, _, _, _, _, ⟨g6, t6, c6, f6, p6, q6, hg6, ht6, hv6, hd6, ⟨g1, t1, c1, f1, p1, q1, hg1, ht1, hv1, hd1, ⟨g0, t0, c0, f0, p0, q0, hg0, ht0, hv0, hd0, _, _⟩, _⟩, _⟩, _⟩, _, _⟩ := h
  obtain rfl := Option.some.inj (gDe64.symm.trans hg6)
  obtain rfl := Option.some.inj (gPow.symm.trans hg1)
  obtain rfl := Option.some.inj (gKinds.symm.trans hg0)
  obtain ⟨e6, fr6, hb6⟩ := var_block gDe64 hv6
  obtain ⟨e1, fr1, hb1⟩ := var_block gPow hv1
  obtain ⟨e0, fr0, hb0⟩ := var_block gKinds hv0
  have k6 := trod_flat (μ := mu0 7) 8 _ _ _ _ (pt_of ptDe64 ht6) hd6
  have k1 := trod_flat (μ := mu0 7) 8 _ _ _ _ (pt_of ptPow ht1) hd1
  have k0 := trod_flat (μ := mu0 7) 8 _ _ _ _ (pt_of ptKinds ht0) hd0
  refine ⟨[.cells kindsC e0 .ro, .cells pow10c e1 .ro, .ghost, .ghost, .ghost, .ghost, .cells deB64c e6 .ro], rfl, ?_, start_glob gsize hsz rfl ?_ ?_, ⟨e0, .ro, rfl⟩, ⟨e1, .ro, rfl⟩, ⟨e6, .ro, rfl⟩⟩
  · intro x hx
    simp only [List.mem_cons, List.not_mem_nil, or_false] at hx
    rcases hx with rfl | rfl | rfl | rfl | rfl | rfl | rfl <;> rfl
  · intro x hx
    simp only [List.mem_cons, List.not_mem_nil, or_false] at hx
    rcases hx with rfl | rfl | rfl | rfl | rfl | rfl | rfl <;> rfl
  · intro i x hx
    match i with
    | 0 => cases hx; exact laid_block hb0 k0
    | 1 => cases hx; exact laid_block hb1 k1
    | 2 => cases hx; trivial
    | 3 => cases hx; trivial
    | 4 => cases hx; trivial
    | 5 => cases hx; trivial
    | 6 => cases hx; exact laid_block hb6 k6
    | i + 7 => simp at hx

theorem cells37 : Tryd.prog.cellsOf 37 = 8 := by kernel_rfl
theorem cellsN : Tryd.prog.cellsOf 35 = 5 := by kernel_rfl
theorem cells9 : Tryd.prog.cellsOf 9 = 1 := by kernel_rfl
theorem cellsNm : Tryd.prog.cellsOf 33 = 1 := by kernel_rfl
theorem cells34 : Tryd.prog.cellsOf 34 = 1 := by kernel_rfl
theorem u32_of {n : Int} (h : (Lit.int .u32 n).wf = true) : is32 n := by
  simp [Lit.wf, IntKind.min, IntKind.max, IntKind.bits, IntKind.signed] at h
  exact ⟨by omega, by omega⟩
section
variable {H : Type} {enc : TypeId × Value → H} {W : World}
end
end Go.Proofs.YtgkpgpdkolpfkaaDoor.V
namespace Go.Proofs.YtgkpgpdkolpfkaaDoor.V
open Go
set_option linter.unusedSimpArgs false
set_option linter.unusedVariables false

/-! ### plainly -/
def lb (l : List UInt8) : List UInt8 := UInt8.ofNat l.length :: l
/-- A name's bytes. -/
def glue (L : List (List UInt8)) : List UInt8 := L.flatMap lb ++ [0]
theorem glue_nil : glue [] = [0] := rfl
theorem glue_cons (l : List UInt8) (L : List (List UInt8)) : glue (l :: L) = lb l ++ glue L := by simp [glue]
theorem lb_len (l : List UInt8) : (lb l).length = 1 + l.length := by simp [lb]; omega
theorem glue_len_cons (l : List UInt8) (L : List (List UInt8)) : (glue (l :: L)).length = 1 + l.length + (glue L).length := by rw [glue_cons, List.length_append, lb_len]
theorem glue_pos (L : List (List UInt8)) : 0 < (glue L).length := by simp [glue]
theorem lab_glue : ∀ (n : Nat) (s : List UInt8) (L : List (List UInt8)), s.length ≤ n → lab s = some L → s = glue L ∧ ∀ l ∈ L, 0 < l.length ∧ l.length ≤ 63
  | 0, s, L, hn, h => by
    obtain rfl : s = [] := List.eq_nil_of_length_eq_zero (by omega)
    cases h
  | n + 1, [], L, hn, h => by cases h
  | n + 1, k :: t, L, hn, h => by
    rw [lab_cons] at h
    split at h
    · rename_i hk
      split at h
      · rename_i ht
        cases h
        obtain rfl : t = [] := List.eq_nil_of_length_eq_zero ht
        refine ⟨?_, by simp⟩
        rw [glue_nil]; congr 1; exact UInt8.toNat.inj hk
      · cases h
    · rename_i hk
      split at h
      · cases h
      · rename_i hb
        simp only [Option.map_eq_some_iff] at h
        obtain ⟨L', h', rfl⟩ := h
        have hlen : (t.drop k.toNat).length ≤ n := by
          simp only [List.length_cons] at hn
          rw [List.length_drop]; omega
        obtain ⟨i1, i2⟩ := lab_glue n _ _ hlen h'
        have htk : (t.take k.toNat).length = k.toNat := by rw [List.length_take]; omega
        refine ⟨?_, fun l hl => ?_⟩
        · rw [glue_cons, ← i1, lb, htk]
          rw [List.cons_append, List.take_append_drop]
          congr 1
          exact (UInt8.toNat.inj (by rw [UInt8.toNat_ofNat_of_lt' (by have := k.toNat_lt; simpa using this)])).symm
        · rcases List.mem_cons.1 hl with rfl | hl
          · rw [htk]; omega
          · exact i2 l hl
theorem nm_glue {s : List UInt8} {L : List (List UInt8)} (h : nm s = some L) : s = glue L ∧ (∀ l ∈ L, 0 < l.length ∧ l.length ≤ 63) ∧ s.length ≤ 255 := by
  unfold nm at h
  split at h
  · cases h
  · obtain ⟨h1, h2⟩ := lab_glue s.length s L (Nat.le_refl _) h
    exact ⟨h1, h2, by omega⟩
theorem nm_tail {l : List UInt8} {L : List (List UInt8)} (h : nm (glue (l :: L)) = some (l :: L)) : nm (glue L) = some L := by
  obtain ⟨_, h2, h3⟩ := nm_glue h
  obtain ⟨h4, h5⟩ := h2 l (by simp)
  have hlen := glue_len_cons l L
  unfold nm at h ⊢
  split at h
  · cases h
  · rw [if_neg (by omega)]
    rw [glue_cons, lb, List.cons_append, lab_cons] at h
    have hk : (UInt8.ofNat l.length).toNat = l.length := ofNat_le (m := 63) h5 (by decide)
    rw [hk] at h
    rw [if_neg (by omega), if_neg (by rw [List.length_append]; omega)] at h
    simp only [Option.map_eq_some_iff] at h
    obtain ⟨L', h', he⟩ := h
    rw [List.drop_left] at h'
    rw [List.take_left] at he
    injection he with _ he
    rw [he] at h'; exact h'

attribute [local irreducible] go goOps goD opK callK callT stepK leaveTo nextK
set_option maxRecDepth 20000 in
theorem name_Parent (l : List UInt8) (L : List (List UInt8)) (hL : nm (glue (l :: L)) = some (l :: L)) (H k) : callK Tryd.prog 101 [.str (glue (l :: L))] H k = k (.tuple [.str (glue L), .bool true], H, z0) := by
  obtain ⟨_, hl0, hs⟩ := nm_glue hL
  obtain ⟨hl1, hl2⟩ := hl0 l (by simp)
  have hlen := glue_len_cons l L
  have hgp := glue_pos L
  obtain ⟨⟨bv, bT⟩, hb, hst⟩ := name_starts (glue (l :: L)) H (by unfold maxI; omega)
  have hB := hb _ hL
  rw [hL] at hst
  simp only [Option.isSome_some] at hst
  refine callK_eq (r := (.tuple [.str (glue L), .bool true], H, z0)) ?_ k
  refine callK_start (n := 24) (rs := [.tmp 2, .tmp 3]) Tryd.func101 rfl rfl rfl ?_
  intro σ hl ha
  have h0 := ha 0 (by simp)
  clear ha
  simp only [Option.getD_some, List.getElem?_cons_zero, List.getElem?_cons_succ] at h0
  obtain ⟨rfl, _, h3⟩ | ⟨h1, h2, m, hbv, h3⟩ := hB
  · cases h3
  simp only at hbv hst
  subst hbv
  have hc : (glue (l :: L))[0]? = some (UInt8.ofNat l.length) := by rw [glue_cons, lb]; rfl
  have hn : (UInt8.ofNat l.length).toNat = l.length := ofNat_le (m := 63) hl2 (by decide)
  have hpos : 0 < (glue (l :: L)).length := glue_pos _
  have w0 : IntKind.i64.wrap (l.length : Int) = (l.length : Int) := wrap_i64 (by omega)
  have w1 : IntKind.i64.wrap (1 + (l.length : Int)) = ((1 + l.length : Nat) : Int) := by rw [wrap_i64 (by omega)]; omega
  have hle : 1 + l.length ≤ (glue (l :: L)).length := by omega
  have hdr : ((glue (l :: L)).drop (1 + l.length)).take ((glue (l :: L)).length - (1 + l.length)) = glue L := by
    rw [List.take_of_length_le (by rw [List.length_drop]; exact Nat.le_refl _), glue_cons]
    rw [show 1 + l.length = (lb l).length from (lb_len l).symm, List.drop_left]
  have hz : (((L.length + 1 : Nat) : Int) == 0) = false := by simp; omega
  simp only [go_sem, simprocAttr, hl, h0, hst, hz, hc, hn, hpos, w0, w1, hle, hdr]
  try exact leave_flat (by simp [flat, flats]) (by simp [clean, low, Ef.and, omin])
end Go.Proofs.YtgkpgpdkolpfkaaDoor.V
namespace Go.Proofs.YtgkpgpdkolpfkaaDoor.V
open Go
set_option linter.unusedSimpArgs false
set_option linter.unusedVariables false

/-- A number's byte. -/
def byt (v k : Nat) : UInt8 := UInt8.ofNat (v / 2 ^ k)
def be16 (v : Nat) : List UInt8 := [byt v 8, byt v 0]
def be32 (v : Nat) : List UInt8 := [byt v 24, byt v 16, byt v 8, byt v 0]
theorem u8_nat (x : Nat) : IntKind.u8.wrap (x : Int) = ((UInt8.ofNat x).toNat : Int) := by
  rw [UInt8.toNat_ofNat']
  unfold IntKind.wrap; simp [IntKind.bits, IntKind.signed]
theorem byt_w (v k : Nat) : IntKind.u8.wrap ((v : Int).fdiv (2 ^ k)) = ((byt v k).toNat : Int) := by
  have h2 : ((2 : Int) ^ k) = ((2 ^ k : Nat) : Int) := by simp
  have : (v : Int).fdiv (2 ^ k) = ((v / 2 ^ k : Nat) : Int) := by
    rw [h2, Int.fdiv_eq_ediv_of_nonneg _ (Int.natCast_nonneg _)]
    exact (Int.natCast_ediv _ _).symm
  rw [this, u8_nat]; rfl
/-- A slice of known size that reads as bytes. -/
def RdF (H : Hp) (v : AV) (bs : List UInt8) : Prop := (v = .nils ∧ bs = []) ∨ ∃ b o pre post e k, v = .slice b o bs.length (.ex bs.length) ∧ pre.length = o ∧ H[b]? = some (.cells (pre ++ (u8s bs ++ post)) e k)
theorem Rd.full {H : Hp} {v : AV} {bs : List UInt8} (h : Rd H v bs) :
    ∃ y, (∀ l kk, slK Tryd.prog 31 v none (some (.int .i64 (bs.length : Nat))) (some (.int .i64 (bs.length : Nat))) (H ++ l) kk = kk (y, H ++ l, z0)) ∧ RdF H y bs := by
  obtain ⟨rfl, rfl⟩ | ⟨b, o, c, pre, post, e, k, rfl, ho, hb, hc⟩ := h
  · refine ⟨.nils, fun l kk => ?_, .inl ⟨rfl, rfl⟩⟩
    simp only [go_sem, simprocAttr]
  · refine ⟨.slice b o bs.length (.ex bs.length), fun l kk => ?_, .inr ⟨b, o, pre, post, e, k, rfl, ho, hb⟩⟩
    have hb' : (H ++ l)[b]? = some (.cells (pre ++ (u8s bs ++ post)) e k) := hp_old hb
    obtain ⟨n, rfl, hn⟩ | ⟨rfl, rfl, fz, st, rfl⟩ := hc
    · simp only [go_sem, simprocAttr, hb']
      simp [hn]
    · simp only [go_sem, simprocAttr, hb']
      have : bs.length ≤ (pre.length + (bs.length + post.length) - o) / 1 := by rw [Nat.div_one]; omega
      simp [this]
      intro _; omega
theorem RdF.rd {H : Hp} {v : AV} {bs : List UInt8} (h : RdF H v bs) : Rd H v bs := by
  obtain h | ⟨b, o, pre, post, e, k, h1, h2, h3⟩ := h
  · exact .inl h
  · exact .inr ⟨b, o, _, pre, post, e, k, h1, h2, h3, .inl ⟨_, rfl, Nat.le_refl _⟩⟩
theorem RdF.app {H : Hp} {v : AV} {bs : List UInt8} (h : RdF H v bs) (xs : List AV) (q : Nat) (hq : 0 < q) (hx : xs.length = q) (hf : fits (bs.length + q) 1 = true) (l : Hp) (kk) :
    stepK (appTo Tryd.prog (.slice 5 1 1) v (xs, q) (H ++ l)) kk = kk (.slice (H ++ l).length 0 (bs.length + q) (.op 0), H ++ (l ++ [.cells (u8s bs ++ xs) 5 (.op 0 false)]), z0) := by
  have zk := zok_31
  obtain ⟨rfl, rfl⟩ | ⟨b, o, pre, post, e, k, rfl, ho, hb⟩ := h
  · rw [appTo_nils (by decide) zk]
    have hd : decide (q = 0) = false := by simp; omega
    have hf : fits q 1 = true := by simpa using hf
    simp only [hd, guardK_ft, hf, true_and, List.append_assoc]
    simp [u8s]
  · have hb' : (H ++ l)[b]? = some (.cells (pre ++ (u8s bs ++ post)) e k) := hp_old hb
    rw [appTo_ex (by decide) zk]
    have hd : decide (bs.length + q ≤ bs.length) = false := by simp; omega
    have hr : V.rd (H ++ l) b o (bs.length * 1) = some (u8s bs) := by
      unfold V.rd
      rw [hb']
      simp only
      rw [if_pos (by rw [List.length_append, List.length_append, u8s_len]; omega)]
      rw [← ho, List.drop_left, Nat.mul_one, List.take_append_of_le_length (by rw [u8s_len]; omega), List.take_of_length_le (by rw [u8s_len]; omega)]
    simp only [hd, guardK_ft, hf, true_and, hr, bindK_some, List.append_assoc]

attribute [local irreducible] go goOps goD opK callK callT stepK leaveTo nextK

set_option maxRecDepth 20000 in
set_option maxHeartbeats 1000000 in
theorem oct_put16 (v : AV) (bs : List UInt8) (x : Nat) (H k) (hv : Rd H v bs) (hb : bs.length ≤ 1099511627776) (hx : x < 65536) : callK Tryd.prog 26 [v, .int .u16 (x : Nat)] H k = k (.slice (H.length + 3) 0 (bs.length + 2) (.op 0), H ++ [.cells [.int .u8 (byt x 8).toNat] 5 .rw, .dead, .cells [.int .u8 (byt x 0).toNat] 5 .rw, .cells (u8s (bs ++ be16 x)) 5 (.op 0 false)], z0) := by
  obtain ⟨y, hy, hF⟩ := hv.full
  have hy := hy []
  simp only [List.append_nil] at hy
  refine callK_eq (r := (.slice (H.length + 3) 0 (bs.length + 2) (.op 0), H ++ [.cells [.int .u8 (byt x 8).toNat] 5 .rw, .dead, .cells [.int .u8 (byt x 0).toNat] 5 .rw, .cells (u8s (bs ++ be16 x)) 5 (.op 0 false)], z0)) ?_ k
  refine callK_start (n := 28) (rs := [.tmp 4]) Tryd.func26 rfl rfl rfl ?_
  intro σ hl ha
  have h0 := ha 0 (by simp)
  have h1 := ha 1 (by simp)
  clear ha
  simp only [Option.getD_some, List.getElem?_cons_zero, List.getElem?_cons_succ] at h0 h1
  have hs := fun H k => size16 H k
  have hln := fun H' => hv.v.len H'
  have hap := fun (z : UInt8) (l : Hp) kk => hF.app [.int .u8 (z.toNat : Int)] 1 (by decide) rfl (by simp only [fits, decide_eq_true_eq]; omega) l kk
  have f1 : fits (bs.length + 1 + 1) 1 = true := by simp only [fits, decide_eq_true_eq]; omega
  have f2 : fits (bs.length + 1 + 1 + 1) 1 = true := by simp only [fits, decide_eq_true_eq]; omega
  have f3 : fits (bs.length + 1 + 1 + 1 + 1) 1 = true := by simp only [fits, decide_eq_true_eq]; omega
  have k1 : ∀ a : AV, List.take (bs.length + 1) (u8s bs ++ [a]) = u8s bs ++ [a] := by intro a; rw [List.take_of_length_le]; simp [u8s]
  have k2 : ∀ a b : AV, List.take (bs.length + 2) (u8s bs ++ [a, b]) = u8s bs ++ [a, b] := by intro a b; rw [List.take_of_length_le]; simp [u8s]
  have k3 : ∀ a b c : AV, List.take (bs.length + 3) (u8s bs ++ [a, b, c]) = u8s bs ++ [a, b, c] := by intro a b c; rw [List.take_of_length_le]; simp [u8s]
  have wm : IntKind.i64.wrap (-1) = -1 := by decide
  have wg : decide ((-1 : Int) ≥ 0) = false := by decide
  have w1 : IntKind.u32.wrap (x : Int) = (x : Int) := wrap_u32 (by omega)
  have b0 : IntKind.u8.wrap ((x : Int).fdiv (2 ^ min 0 32)) = ((byt x 0).toNat : Int) := byt_w x 0
  have b1 : IntKind.u8.wrap ((x : Int).fdiv (2 ^ min 8 32)) = ((byt x 8).toNat : Int) := byt_w x 8
  have b2 : IntKind.u8.wrap ((x : Int).fdiv (2 ^ min 16 32)) = ((byt x 16).toNat : Int) := byt_w x 16
  have b3 : IntKind.u8.wrap ((x : Int).fdiv (2 ^ min 24 32)) = ((byt x 24).toNat : Int) := byt_w x 24
  have hd : ∀ n : Nat, decide (n + 1 ≤ n) = false := by intro n; simp
  have hd2 : ∀ n : Nat, decide (n + 1 + 1 ≤ n + 1) = false := by intro n; simp
  simp only [go_sem, simprocAttr, hl, h0, h1, hs, hln, hy]
  rw [go_loop]
  simp only [go_sem, simprocAttr, hl, h0, h1, hs, hln, w1, b0, b1, b2, b3, bslice1, hap, f1, f2, f3, wm, wg, hd, hd2, k1, k2, k3]
  rw [go_loop]
  simp only [go_sem, simprocAttr, hl, h0, h1, hs, hln, w1, b0, b1, b2, b3, bslice1, hap, f1, f2, f3, wm, wg, hd, hd2, k1, k2, k3]
  rw [go_loop]
  simp only [go_sem, simprocAttr, hl, h0, h1, hs, hln, w1, b0, b1, b2, b3, bslice1, hap, f1, f2, f3, wm, wg, hd, hd2, k1, k2, k3]
  simp [be16, u8s, List.take_of_length_le]

set_option maxRecDepth 20000 in
theorem size32 (H k) : callK Tryd.prog 66 [] H k = k (.int .i64 4, H, z0) := by
  refine callK_eq (r := (.int .i64 4, H, z0)) ?_ k
  refine callK_start (n := 18) (rs := [.tmp 0]) Tryd.func66 rfl rfl rfl ?_
  intro σ hl ha
  clear ha
  have w2 : IntKind.u32.wrap 0 = 0 := by decide
  have w3 : IntKind.u32.wrap (-1) = 4294967295 := by decide
  have g1 : decide ((4294967295 : Int).fdiv (2 ^ min 7 32) > 1) = true := by decide
  have g2 : decide ((4294967295 : Int).fdiv (2 ^ min 15 32) > 1) = true := by decide
  simp only [go_sem, simprocAttr, hl, w2, w3]
  rw [go_loop]
  simp only [go_sem, simprocAttr, hl, w2, w3, g1]
  rw [go_loop]
  simp only [go_sem, simprocAttr, hl, w2, w3, g2]
  rw [go_loop]
  have g3 : decide ((4294967295 : Int).fdiv (2 ^ min 31 32) > 1) = false := by decide
  simp only [go_sem, simprocAttr, hl, w2, w3, g3]

set_option maxRecDepth 20000 in
set_option maxHeartbeats 1000000 in
theorem oct_put32 (v : AV) (bs : List UInt8) (x : Nat) (H k) (hv : Rd H v bs) (hb : bs.length ≤ 1099511627776) (hx : x < 4294967296) : callK Tryd.prog 27 [v, .int .u32 (x : Nat)] H k = k (.slice (H.length + 7) 0 (bs.length + 4) (.op 0), H ++ [.cells [.int .u8 (byt x 24).toNat] 5 .rw, .dead, .cells [.int .u8 (byt x 16).toNat] 5 .rw, .dead, .cells [.int .u8 (byt x 8).toNat] 5 .rw, .dead, .cells [.int .u8 (byt x 0).toNat] 5 .rw, .cells (u8s (bs ++ be32 x)) 5 (.op 0 false)], z0) := by
  obtain ⟨y, hy, hF⟩ := hv.full
  have hy := hy []
  simp only [List.append_nil] at hy
  refine callK_eq (r := (.slice (H.length + 7) 0 (bs.length + 4) (.op 0), H ++ [.cells [.int .u8 (byt x 24).toNat] 5 .rw, .dead, .cells [.int .u8 (byt x 16).toNat] 5 .rw, .dead, .cells [.int .u8 (byt x 8).toNat] 5 .rw, .dead, .cells [.int .u8 (byt x 0).toNat] 5 .rw, .cells (u8s (bs ++ be32 x)) 5 (.op 0 false)], z0)) ?_ k
  refine callK_start (n := 27) (rs := [.tmp 4]) Tryd.func27 rfl rfl rfl ?_
  intro σ hl ha
  have h0 := ha 0 (by simp)
  have h1 := ha 1 (by simp)
  clear ha
  simp only [Option.getD_some, List.getElem?_cons_zero, List.getElem?_cons_succ] at h0 h1
  have hs := fun H k => size32 H k
  have hln := fun H' => hv.v.len H'
  have hap := fun (z : UInt8) (l : Hp) kk => hF.app [.int .u8 (z.toNat : Int)] 1 (by decide) rfl (by simp only [fits, decide_eq_true_eq]; omega) l kk
  have f1 : fits (bs.length + 1 + 1) 1 = true := by simp only [fits, decide_eq_true_eq]; omega
  have f2 : fits (bs.length + 1 + 1 + 1) 1 = true := by simp only [fits, decide_eq_true_eq]; omega
  have f3 : fits (bs.length + 1 + 1 + 1 + 1) 1 = true := by simp only [fits, decide_eq_true_eq]; omega
  have k1 : ∀ a : AV, List.take (bs.length + 1) (u8s bs ++ [a]) = u8s bs ++ [a] := by intro a; rw [List.take_of_length_le]; simp [u8s]
  have k2 : ∀ a b : AV, List.take (bs.length + 2) (u8s bs ++ [a, b]) = u8s bs ++ [a, b] := by intro a b; rw [List.take_of_length_le]; simp [u8s]
  have k3 : ∀ a b c : AV, List.take (bs.length + 3) (u8s bs ++ [a, b, c]) = u8s bs ++ [a, b, c] := by intro a b c; rw [List.take_of_length_le]; simp [u8s]
  have wm : IntKind.i64.wrap (-1) = -1 := by decide
  have wg : decide ((-1 : Int) ≥ 0) = false := by decide
  have w1 : IntKind.u32.wrap (x : Int) = (x : Int) := wrap_u32 (by omega)
  have b0 : IntKind.u8.wrap ((x : Int).fdiv (2 ^ min 0 32)) = ((byt x 0).toNat : Int) := byt_w x 0
  have b1 : IntKind.u8.wrap ((x : Int).fdiv (2 ^ min 8 32)) = ((byt x 8).toNat : Int) := byt_w x 8
  have b2 : IntKind.u8.wrap ((x : Int).fdiv (2 ^ min 16 32)) = ((byt x 16).toNat : Int) := byt_w x 16
  have b3 : IntKind.u8.wrap ((x : Int).fdiv (2 ^ min 24 32)) = ((byt x 24).toNat : Int) := byt_w x 24
  have hd : ∀ n : Nat, decide (n + 1 ≤ n) = false := by intro n; simp
  have hd2 : ∀ n : Nat, decide (n + 1 + 1 ≤ n + 1) = false := by intro n; simp
  simp only [go_sem, simprocAttr, hl, h0, h1, hs, hln, hy]
  rw [go_loop]
  simp only [go_sem, simprocAttr, hl, h0, h1, hs, hln, w1, b0, b1, b2, b3, bslice1, hap, f1, f2, f3, wm, wg, hd, hd2, k1, k2, k3]
  rw [go_loop]
  simp only [go_sem, simprocAttr, hl, h0, h1, hs, hln, w1, b0, b1, b2, b3, bslice1, hap, f1, f2, f3, wm, wg, hd, hd2, k1, k2, k3]
  rw [go_loop]
  simp only [go_sem, simprocAttr, hl, h0, h1, hs, hln, w1, b0, b1, b2, b3, bslice1, hap, f1, f2, f3, wm, wg, hd, hd2, k1, k2, k3]
  rw [go_loop]
  simp only [go_sem, simprocAttr, hl, h0, h1, hs, hln, w1, b0, b1, b2, b3, bslice1, hap, f1, f2, f3, wm, wg, hd, hd2, k1, k2, k3]
  rw [go_loop]
  simp only [go_sem, simprocAttr, hl, h0, h1, hs, hln, w1, b0, b1, b2, b3, bslice1, hap, f1, f2, f3, wm, wg, hd, hd2, k1, k2, k3]
  simp [be32, u8s, List.take_of_length_le]
end Go.Proofs.YtgkpgpdkolpfkaaDoor.V
namespace Go.Proofs.YtgkpgpdkolpfkaaDoor.V
open Go
set_option linter.unusedSimpArgs false
set_option linter.unusedVariables false

abbrev Tab := List (List UInt8 × Nat)
def tget : Tab → List UInt8 → Option Nat
  | [], _ => none
  | (k, p) :: r, s => if k = s then some p else tget r s
def tabE (t : Tab) : List (AV × AV) := t.map fun x => (.str x.1, .int .i64 (x.2 : Nat))
theorem tabE_app (a b : Tab) : tabE (a ++ b) = tabE a ++ tabE b := by simp [tabE]
theorem findK_none (s : List UInt8) : ∀ (t : Tab) (i : Nat), tget t s = none → findK .str (.str s) (tabE t) i = some none
  | [], _, _ => rfl
  | (k, p) :: r, i, h => by
    unfold tget at h
    split at h
    · cases h
    · rename_i hk
      have hb : (s == k) = false := by rw [beq_eq_false_iff_ne]; exact fun e => hk e.symm
      show (match sameKey .str (.str s) (.str k) with | some true => _ | some false => findK .str (.str s) (tabE r) (i + 1) | none => _) = _
      simp only [sameKey, hb]
      exact findK_none s r (i + 1) h
theorem findK_some (s : List UInt8) (p : Nat) : ∀ (t : Tab) (i : Nat), tget t s = some p → ∃ j, findK .str (.str s) (tabE t) i = some (some (j, .int .i64 (p : Nat)))
  | [], _, h => by cases h
  | (k, q) :: r, i, h => by
    unfold tget at h
    split at h
    · rename_i hk
      subst hk
      cases h
      refine ⟨i, ?_⟩
      show (match sameKey .str (.str k) (.str k) with | some true => _ | some false => findK .str (.str k) (tabE r) (i + 1) | none => _) = _
      simp only [sameKey, beq_self_eq_true]
    · rename_i hk
      have hb : (s == k) = false := by rw [beq_eq_false_iff_ne]; exact fun e => hk e.symm
      obtain ⟨j, hj⟩ := findK_some s p r (i + 1) h
      refine ⟨j, ?_⟩
      show (match sameKey .str (.str s) (.str k) with | some true => _ | some false => findK .str (.str s) (tabE r) (i + 1) | none => _) = _
      simp only [sameKey, hb]
      exact hj
/-- What a name's row comes to: the bytes, and what the table remembers then. -/
def putN (plain : Bool) : List (List UInt8) → Tab → List UInt8 → List UInt8 × Tab
  | [], tab, out => (out ++ [0], tab)
  | l :: L, tab, out =>
    match tget tab (glue (l :: L)) with
    | some p => if plain = true then putN plain L tab (out ++ lb l) else (out ++ be16 (49152 + p), tab)
    | none => putN plain L (if out.length ≤ 16383 then tab ++ [(glue (l :: L), out.length)] else tab) (out ++ lb l)
/-- Places that a pointer can lead to. -/
def near (t : Tab) : Prop := ∀ x ∈ t, x.2 ≤ 16383
theorem near_get : ∀ {t : Tab} {s : List UInt8} {p : Nat}, near t → tget t s = some p → p ≤ 16383
  | [], _, _, _, h => by cases h
  | (k, q) :: r, s, p, hn, h => by
    unfold tget at h
    split at h
    · cases h; exact hn (k, q) (by simp)
    · exact near_get (fun x hx => hn x (by simp [hx])) h
theorem near_app {t : Tab} {k : List UInt8} {p : Nat} (h : near t) (hp : p ≤ 16383) : near (t ++ [(k, p)]) := by
  intro x hx
  rcases List.mem_append.1 hx with hx | hx
  · exact h x hx
  · simp only [List.mem_singleton] at hx; rw [hx]; exact hp
theorem putN_near (plain : Bool) : ∀ (L : List (List UInt8)) (tab : Tab) (out : List UInt8), near tab → near (putN plain L tab out).2
  | [], _, _, h => h
  | l :: L, tab, out, h => by
    unfold putN
    split
    · split
      · exact putN_near plain L _ _ h
      · exact h
    · refine putN_near plain L _ _ ?_
      split
      · rename_i ho; exact near_app h ho
      · exact h
theorem putN_len (plain : Bool) : ∀ (L : List (List UInt8)) (tab : Tab) (out : List UInt8), (putN plain L tab out).1.length ≤ out.length + (glue L).length + 1
  | [], _, _ => by simp [putN, glue]
  | l :: L, tab, out => by
    have hg := glue_len_cons l L
    have hp := glue_pos L
    unfold putN
    split
    · split
      · have := putN_len plain L tab (out ++ lb l)
        rw [List.length_append, lb_len] at this; omega
      · simp only [be16, List.length_append, List.length_cons, List.length_nil]; omega
    · have := putN_len plain L (if out.length ≤ 16383 then tab ++ [(glue (l :: L), out.length)] else tab) (out ++ lb l)
      rw [List.length_append, lb_len] at this; omega

/-! ### marks of what is written -/
theorem low_ominI {n : Nat} {a b : Option Nat} : low n (omin a b) = none ↔ low n a = none ∧ low n b = none := by
  cases a <;> cases b <;> simp [omin, low]
  omega
theorem clean_andI {n : Nat} {a b : Ef} : clean n (a.and b) ↔ clean n a ∧ clean n b := by
  unfold clean Ef.and
  simp only [low_ominI]
  constructor
  · rintro ⟨⟨h1, h2⟩, h3, h4⟩; exact ⟨⟨h1, h3⟩, h2, h4⟩
  · rintro ⟨⟨h1, h3⟩, h2, h4⟩; exact ⟨⟨h1, h2⟩, h3, h4⟩
theorem clean_mk {n : Nat} {a b : Option Nat} : clean n ⟨a, b⟩ ↔ low n a = none ∧ low n b = none := Iff.rfl
theorem low_nI {n : Nat} : low n none = none ↔ True := by simp [low]
theorem low_sI {n x : Nat} : low n (some x) = none ↔ n ≤ x := by simp [low]
theorem clean_z {n : Nat} : clean n z0 ↔ True := by simp [clean, z0, low]
theorem clean_leave {n m : Nat} {e : Ef} (h : clean n e) : clean n ⟨low m e.es, low m e.ws⟩ := ⟨low_low h.1, low_low h.2⟩
/-- Something with an address was stored as low as that. -/
def Es (j : Nat) (e : Ef) : Prop := ∃ x, e.es = some x ∧ x ≤ j
theorem Es.l {j : Nat} {a b : Ef} (h : Es j a) : Es j (a.and b) := by
  obtain ⟨x, h1, h2⟩ := h
  unfold Es Ef.and
  cases hb : b.es with
  | none => exact ⟨x, by simp [h1, omin], h2⟩
  | some y => exact ⟨min x y, by simp [h1, omin], by omega⟩
theorem Es.r {j : Nat} {a b : Ef} (h : Es j b) : Es j (a.and b) := by
  obtain ⟨x, h1, h2⟩ := h
  unfold Es Ef.and
  cases hb : a.es with
  | none => exact ⟨x, by simp [h1, omin], h2⟩
  | some y => exact ⟨min y x, by simp [h1, omin], by omega⟩
theorem Es.leave {j m : Nat} {e : Ef} (h : Es j e) (hj : j < m) (v : AV) (H : Hp) : leave m v H e = (v, H, ⟨low m e.es, low m e.ws⟩) := by
  obtain ⟨x, h1, h2⟩ := h
  unfold V.leave
  rw [if_neg (by rw [h1, low_sm (by omega)]; simp)]
theorem Es.low {j m : Nat} {e : Ef} (h : Es j e) (hj : j < m) : Es j ⟨V.low m e.es, V.low m e.ws⟩ := by
  obtain ⟨x, h1, h2⟩ := h
  exact ⟨x, by show V.low m e.es = _; rw [h1, low_sm (by omega)], h2⟩
theorem EsI {j : Nat} {a b : Ef} : Es j (a.and b) ↔ Es j a ∨ Es j b := by
  constructor
  · rintro ⟨x, h1, h2⟩
    unfold Ef.and at h1
    simp only at h1
    cases ha : a.es with
    | none => rw [ha] at h1; exact .inr ⟨x, by simpa [omin] using h1, h2⟩
    | some y =>
      rw [ha] at h1
      cases hb : b.es with
      | none => rw [hb] at h1; simp [omin] at h1; exact .inl ⟨y, ha, by omega⟩
      | some z =>
        rw [hb] at h1; simp [omin] at h1
        by_cases hz : y ≤ j
        · exact .inl ⟨y, ha, hz⟩
        · exact .inr ⟨z, hb, by omega⟩
  · rintro (h | h)
    · exact h.l
    · exact h.r
theorem EsS {j x : Nat} {w : Option Nat} : Es j ⟨some x, w⟩ ↔ x ≤ j := ⟨fun ⟨y, h1, h2⟩ => by cases h1; exact h2, fun h => ⟨x, rfl, h⟩⟩
theorem EsN {j : Nat} {w : Option Nat} : Es j ⟨none, w⟩ ↔ False := by
  constructor
  · rintro ⟨y, h1, _⟩; cases h1
  · exact False.elim
theorem leave_es {n : Nat} {v : AV} {H : Hp} {e : Ef} (h : Es (n + 7) e) : leave (n + 8) v H e = (v, H, ⟨low (n + 8) e.es, low (n + 8) e.ws⟩) := h.leave (by omega) v H
theorem EsL8 {n : Nat} {e : Ef} {w : Option Nat} : Es (n + 7) ⟨low (n + 8) e.es, w⟩ ↔ Es (n + 7) e := by
  constructor
  · rintro ⟨x, h1, h2⟩
    simp only at h1
    cases he : e.es with
    | none => rw [he] at h1; cases h1
    | some y =>
      rw [he] at h1
      simp only [low] at h1
      split at h1
      · cases h1
      · cases h1; exact ⟨x, he, h2⟩
  · rintro ⟨x, h1, h2⟩
    exact ⟨x, by show low _ _ = _; rw [h1, low_sm (by omega)], h2⟩
theorem clean_lv {n m : Nat} {e : Ef} (h : n ≤ m) : clean n ⟨low m e.es, low m e.ws⟩ ↔ clean n e := by
  have hh : ∀ x : Option Nat, low n (low m x) = none ↔ low n x = none := by
    intro x
    cases x with
    | none => simp [low]
    | some y =>
      by_cases hm : m ≤ y
      · simp [low, hm]; omega
      · simp [low, hm]
  unfold clean
  simp only [hh]
theorem clean_sn {n x : Nat} : clean n ⟨none, some x⟩ ↔ n ≤ x := by simp [clean, low]
theorem clean_ss {n x y : Nat} : clean n ⟨some y, some x⟩ ↔ n ≤ y ∧ n ≤ x := by simp [clean, low]
theorem gen_loop8 {P : Program} {f : FuncId} {args : List AV} {H : Hp} {a b c d e x y : ABlk} {σ : List AV} {ps : List Tmp} {A B : Code} {k : AV × Hp × Ef → Prop} (h : ∀ A' B', A' = A → B' = B → callK P f args (H ++ [a, b, c, d, e, x, y, .loop σ ps A' B' .ready]) k) : callK P f args (H ++ [a, b, c, d, e, x, y, .loop σ ps A B .ready]) k := h A B rfl rfl
theorem leave_len {m : Nat} {v : AV} {H : Hp} {e : Ef} (h : H.length = m) : leave m v H e = (v, H, ⟨low m e.es, low m e.ws⟩) := by
  unfold leave
  split
  · rw [List.take_of_length_le (by omega)]
  · rfl
theorem leave_nfl {m : Nat} {v : AV} {H : Hp} {e : Ef} (h : flat v = false) : leave m v H e = (v, H, ⟨low m e.es, low m e.ws⟩) := by
  unfold leave
  rw [if_neg (by rw [h]; simp)]
theorem flats_by : ∀ s : List UInt8, flats (u8s s) = true
  | [] => rfl
  | c :: s => by
    have := flats_by s
    unfold u8s at this ⊢
    rw [List.map_cons]
    simp only [flats, flat, this, Bool.and_self]
end Go.Proofs.YtgkpgpdkolpfkaaDoor.V
namespace Go.Proofs.YtgkpgpdkolpfkaaDoor.V
open Go
set_option linter.unusedSimpArgs false
set_option linter.unusedVariables false

/-- A slice's block. -/
def bk : AV → Option Nat
  | .slice b _ _ _ => some b
  | _ => none
/-- A row of bytes that may be written, behind a place. -/
def Bf (mb : Nat) (H : Hp) (v : AV) (bs : List UInt8) : Prop := (v = .nils ∧ bs = []) ∨
  ∃ b c post k, mb < b ∧ v = .slice b 0 bs.length c ∧ H[b]? = some (.cells (u8s bs ++ post) 5 k) ∧
    ((∃ n, c = .ex n ∧ bs.length ≤ n ∧ n ≤ bs.length + post.length ∧ (k = .rw ∨ ∃ st, k = .op 0 st)) ∨ (c = .op 0 ∧ post = [] ∧ ∃ st, k = .op 0 st))
theorem Bf.rd {mb : Nat} {H : Hp} {v : AV} {bs : List UInt8} (h : Bf mb H v bs) : Rd H v bs := by
  obtain h | ⟨b, c, post, k, h1, h2, h3, h4⟩ := h
  · exact .inl h
  · obtain ⟨n, rfl, h5, h6, h7⟩ | ⟨rfl, rfl, st, rfl⟩ := h4
    · exact .inr ⟨b, 0, _, [], post, _, k, h2, rfl, h3, .inl ⟨n, rfl, h5⟩⟩
    · exact .inr ⟨b, 0, _, [], [], _, _, h2, rfl, h3, .inr ⟨rfl, rfl, 0, st, rfl⟩⟩
theorem Bf.keep {mb : Nat} {H H' : Hp} {v : AV} {bs : List UInt8} (h : Bf mb H v bs) (hk : ∀ i x, bk v = some i → H[i]? = some x → H'[i]? = some x) : Bf mb H' v bs := by
  obtain h | ⟨b, c, post, k, h1, rfl, h3, h4⟩ := h
  · exact .inl h
  · exact .inr ⟨b, c, post, k, h1, rfl, hk b _ rfl h3, h4⟩
theorem Bf.lt {mb : Nat} {H : Hp} {v : AV} {bs : List UInt8} (h : Bf mb H v bs) {i : Nat} (hi : bk v = some i) : mb < i ∧ i < H.length := by
  obtain ⟨rfl, _⟩ | ⟨b, c, post, k, h1, rfl, h3, h4⟩ := h
  · cases hi
  · cases hi; exact ⟨h1, lt_of_get h3⟩
theorem Bf.scl {mb : Nat} {H : Hp} {v : AV} {bs : List UInt8} (h : Bf mb H v bs) : scal v = true := by
  obtain ⟨rfl, _⟩ | ⟨b, c, post, k, h1, rfl, h3, h4⟩ := h <;> rfl
theorem Bf.mono {mb mb' : Nat} {H : Hp} {v : AV} {bs : List UInt8} (h : Bf mb H v bs) (hm : mb' ≤ mb) : Bf mb' H v bs := by
  obtain h | ⟨b, c, post, k, h1, h2⟩ := h
  · exact .inl h
  · exact .inr ⟨b, c, post, k, by omega, h2⟩
theorem splice_end {bs xs : List UInt8} {post : List AV} (h : xs.length ≤ post.length) : splice (u8s bs ++ post) bs.length (u8s xs) = u8s (bs ++ xs) ++ post.drop xs.length := by
  unfold splice
  rw [List.take_append_of_le_length (by rw [u8s_len]; exact Nat.le_refl _), List.take_of_length_le (by rw [u8s_len]; exact Nat.le_refl _), u8s_app, u8s_len, List.append_assoc, List.append_assoc, List.drop_append, u8s_len,
    List.drop_eq_nil_of_le (by rw [u8s_len]; omega), List.nil_append]
  congr 3; omega
/-- Bytes appended. -/
theorem Bf.app {mb : Nat} {H : Hp} {v : AV} {bs : List UInt8} (h : Bf mb H v bs) (hm : mb < H.length) (xs : List UInt8) (hf : fits (bs.length + xs.length) 1 = true) :
    ∃ v' H' e', (∀ kk, stepK (appTo Tryd.prog (.slice 5 1 1) v (u8s xs, xs.length) H) kk = kk (v', H', e')) ∧ Bf mb H' v' (bs ++ xs) ∧ H.length ≤ H'.length ∧
      (∀ i x, bk v ≠ some i → H[i]? = some x → H'[i]? = some x) ∧ clean mb e' ∧ (bk v' = bk v ∨ ∃ j, bk v' = some j ∧ H.length ≤ j) := by
  have zk := zok_31
  obtain ⟨rfl, rfl⟩ | ⟨b, c, post, k, hb, rfl, hg, hc⟩ := h
  · by_cases hx : xs = []
    · subst hx
      refine ⟨.nils, H, z0, fun kk => ?_, .inl ⟨rfl, rfl⟩, Nat.le_refl _, fun i x _ hx => hx, by simp [clean, z0, low], .inl rfl⟩
      rw [appTo_nils (by decide) zk]
      simp [guardK_tt]
    · have hp : 0 < xs.length := List.length_pos_iff.2 hx
      refine ⟨.slice H.length 0 xs.length (.op 0), H ++ [.cells (u8s xs) 5 (.op 0 false)], z0, fun kk => ?_, .inr ⟨H.length, .op 0, [], .op 0 false, hm, by simp, by simp, .inr ⟨rfl, rfl, false, rfl⟩⟩, by simp, fun i x _ hx => get_app hx, by simp [clean, z0, low], .inr ⟨_, rfl, Nat.le_refl _⟩⟩
      rw [appTo_nils (by decide) zk]
      have hd : decide (xs.length = 0) = false := by simp; exact hx
      have hf : fits xs.length 1 = true := by simpa using hf
      simp only [hd, guardK_ft, hf, true_and]
  · have hlt := lt_of_get hg
    have hset : ∀ (y : ABlk) (i : Nat) (x : ABlk), bk (.slice b 0 bs.length c) ≠ some i → H[i]? = some x → (H.set b y)[i]? = some x := by
      intro y i x hi hx
      rw [List.getElem?_set_ne (by intro e; exact hi (by rw [e]; rfl))]; exact hx
    have hnew : ∀ (y : ABlk) (st : Bool), (∀ kk, stepK (appTo Tryd.prog (.slice 5 1 1) (.slice b 0 bs.length c) (u8s xs, xs.length) H) kk = kk (.slice H.length 0 (bs.length + xs.length) (.op 0), H.set b y ++ [.cells (u8s (bs ++ xs)) 5 (.op 0 st)], ⟨none, some b⟩)) →
        ∃ v' H' e', (∀ kk, stepK (appTo Tryd.prog (.slice 5 1 1) (.slice b 0 bs.length c) (u8s xs, xs.length) H) kk = kk (v', H', e')) ∧ Bf mb H' v' (bs ++ xs) ∧ H.length ≤ H'.length ∧
          (∀ i x, bk (.slice b 0 bs.length c) ≠ some i → H[i]? = some x → H'[i]? = some x) ∧ clean mb e' ∧ (bk v' = bk (.slice b 0 bs.length c) ∨ ∃ j, bk v' = some j ∧ H.length ≤ j) := by
      intro y st hy
      refine ⟨_, _, _, hy, .inr ⟨H.length, .op 0, [], .op 0 st, hm, by simp, ?_, .inr ⟨rfl, rfl, st, rfl⟩⟩, by simp, fun i x hi hx => get_app (hset y i x hi hx), by simp [clean, low]; omega, .inr ⟨_, rfl, Nat.le_refl _⟩⟩
      rw [List.getElem?_append_right (by simp)]; simp
    obtain ⟨n, rfl, h5, h6, h7⟩ | ⟨rfl, rfl, st, rfl⟩ := hc
    · have hcan : canWr k bs.length = true := by
        rcases h7 with rfl | ⟨st, rfl⟩
        · rfl
        · simp [canWr]
      by_cases hroom : bs.length + xs.length ≤ n
      · refine ⟨.slice b 0 (bs.length + xs.length) (.ex n), H.set b (.cells (u8s (bs ++ xs) ++ post.drop xs.length) 5 k), ⟨none, some b⟩, fun kk => ?_, .inr ⟨b, .ex n, post.drop xs.length, k, hb, by simp, by rw [List.getElem?_set_self hlt], .inl ⟨n, rfl, by simp; omega, by simp; omega, h7⟩⟩, by simp, hset _, by simp [clean, low]; omega, .inl rfl⟩
        rw [appTo_ex (by decide) zk]
        have hd : decide (bs.length + xs.length ≤ n) = true := by simpa using hroom
        have hw : wr H b (0 + bs.length * 1) (u8s xs) = some (H.set b (.cells (u8s (bs ++ xs) ++ post.drop xs.length) 5 k), ⟨none, some b⟩) := by
          unfold wr
          rw [hg]
          simp only [Nat.zero_add, Nat.mul_one]
          rw [if_pos ⟨by rw [List.length_append, u8s_len, u8s_len]; omega, hcan, u8s_scal⟩, splice_end (by omega), flats_by]
          rfl
        simp only [hd, guardK_tt, hw, bindK_some]
      · refine ⟨.slice H.length 0 (bs.length + xs.length) (.op 0), H ++ [.cells (u8s (bs ++ xs)) 5 (.op 0 false)], z0, fun kk => ?_, .inr ⟨H.length, .op 0, [], .op 0 false, hm, by simp, by simp, .inr ⟨rfl, rfl, false, rfl⟩⟩, by simp, fun i x _ hx => get_app hx, by simp [clean, z0, low], .inr ⟨_, rfl, Nat.le_refl _⟩⟩
        rw [appTo_ex (by decide) zk]
        have hd : decide (bs.length + xs.length ≤ n) = false := by simpa using hroom
        have hr : V.rd H b 0 (bs.length * 1) = some (u8s bs) := by
          unfold V.rd
          rw [hg]
          simp only
          rw [if_pos (by rw [List.length_append, u8s_len]; omega)]
          rw [List.drop_zero, Nat.mul_one, List.take_append_of_le_length (by rw [u8s_len]; omega), List.take_of_length_le (by rw [u8s_len]; omega)]
        simp only [hd, guardK_ft, hf, true_and, hr, bindK_some, u8s_app]
    · simp only [List.append_nil] at hg
      by_cases hx : xs = []
      · subst hx
        refine ⟨.slice b 0 bs.length (.op 0), H, ⟨none, some b⟩, fun kk => ?_, .inr ⟨b, .op 0, [], .op 0 st, hb, by simp, by simpa using hg, .inr ⟨rfl, rfl, st, rfl⟩⟩, Nat.le_refl _, fun i x _ hx => hx, by simp [clean, low]; omega, .inl rfl⟩
        rw [appTo_op (by decide) zk, hg, bindK_some, appO_c]
        have hd : decide (0 + (bs.length + 0) * 1 ≤ (u8s bs).length) = true := by rw [u8s_len]; simp
        have hw : wr H b (0 + bs.length * 1) (u8s []) = some (H, ⟨none, some b⟩) := by
          unfold wr
          rw [hg]
          simp only [Nat.zero_add, Nat.mul_one]
          have hs : splice (u8s bs) bs.length (u8s []) = u8s bs := by have := splice_end (bs := bs) (xs := []) (post := []) (by simp); simpa using this
          rw [if_pos ⟨by rw [u8s_len, u8s_len]; simp, by simp [canWr], u8s_scal⟩, hs, set_get hg]
          rfl
        simp only [List.length_nil, hd, guardK_tt, hw, bindK_some]
        simp [u8s_len]
      · have hp : 0 < xs.length := List.length_pos_iff.2 hx
        refine hnew .dead st fun kk => ?_
        rw [appTo_op (by decide) zk, hg, bindK_some, appO_c]
        have hd : decide (bs.length + xs.length ≤ bs.length) = false := by simp; omega
        have hz : bs.length * 1 = bs.length := Nat.mul_one _
        have hk : ((u8s bs).drop 0).take (bs.length * 1) ++ u8s xs = u8s (bs ++ xs) := by
          rw [List.drop_zero, Nat.mul_one, List.take_of_length_le (by rw [u8s_len]; omega), u8s_app]
        rw [Nat.mul_one] at hk
        simp only [u8s_len, Nat.zero_add, Nat.mul_one, hd, guardK_ft, hk, hf, u8s_scal]
        simp
/-- b[:n:n]. -/
theorem Bf.full {mb : Nat} {H : Hp} {v : AV} {bs : List UInt8} (h : Bf mb H v bs) :
    ∃ y, (∀ l kk, slK Tryd.prog 31 v none (some (.int .i64 (bs.length : Nat))) (some (.int .i64 (bs.length : Nat))) (H ++ l) kk = kk (y, H ++ l, z0)) ∧ Bf mb H y bs ∧ bk y = bk v ∧ (y = .nils ∨ ∃ b, y = .slice b 0 bs.length (.ex bs.length)) := by
  obtain ⟨rfl, rfl⟩ | ⟨b, c, post, k, hb, rfl, hg, hc⟩ := h
  · refine ⟨.nils, fun l kk => ?_, .inl ⟨rfl, rfl⟩, rfl, .inl rfl⟩
    simp only [go_sem, simprocAttr]
  · refine ⟨.slice b 0 bs.length (.ex bs.length), fun l kk => ?_, .inr ⟨b, .ex bs.length, post, k, hb, rfl, hg, .inl ⟨_, rfl, Nat.le_refl _, by omega, ?_⟩⟩, rfl, .inr ⟨b, rfl⟩⟩
    · have hg' : (H ++ l)[b]? = some (.cells (u8s bs ++ post) 5 k) := hp_old hg
      obtain ⟨n, rfl, h5, h6, h7⟩ | ⟨rfl, rfl, st, rfl⟩ := hc
      · simp only [go_sem, simprocAttr, hg']
        simp [h5]
      · simp only [go_sem, simprocAttr, hg']
        simp
    · obtain ⟨n, rfl, h5, h6, h7⟩ | ⟨rfl, rfl, st, rfl⟩ := hc
      · exact h7
      · exact .inr ⟨st, rfl⟩
end Go.Proofs.YtgkpgpdkolpfkaaDoor.V
namespace Go.Proofs.YtgkpgpdkolpfkaaDoor.V
open Go
set_option linter.unusedSimpArgs false
set_option linter.unusedVariables false
attribute [local irreducible] go goOps goD opK callK callT stepK leaveTo nextK

set_option maxRecDepth 20000 in
theorem pr_fronts (s : List UInt8) (H k) : callK Tryd.prog 84 [.str s] H k = k (.func (.func 100) [] [.ptr H.length 0], H ++ [.cells [.str s] 33 .rw], z0) := by
  refine callK_eq (r := (.func (.func 100) [] [.ptr H.length 0], H ++ [.cells [.str s] 33 .rw], z0)) ?_ k
  refine callK_start (n := 4) (rs := [.tmp 2]) Tryd.func84 rfl rfl rfl ?_
  intro σ hl ha
  have h0 := ha 0 (by simp)
  clear ha
  simp only [Option.getD_some, List.getElem?_cons_zero, List.getElem?_cons_succ] at h0
  simp only [go_sem, simprocAttr, hl, h0]
/-- Bytes, and noughts behind. -/
def pad (C : Nat) (bs : List UInt8) : List AV := u8s bs ++ List.replicate (C - bs.length) (.int .u8 0)
theorem pad_len {C : Nat} {bs : List UInt8} (h : bs.length ≤ C) : (pad C bs).length = C := by
  unfold pad; rw [List.length_append, u8s_len, List.length_replicate]; omega
theorem pad_nil (C : Nat) : List.replicate C (AV.int .u8 0) = pad C [] := by simp [pad, u8s]
theorem pad_sp {C : Nat} {bs xs : List UInt8} (h : bs.length + xs.length ≤ C) : splice (pad C bs) bs.length (u8s xs) = pad C (bs ++ xs) := by
  unfold splice pad
  rw [List.take_append_of_le_length (by rw [u8s_len]; exact Nat.le_refl _), List.take_of_length_le (by rw [u8s_len]; exact Nat.le_refl _), u8s_app, List.append_assoc, List.append_assoc, List.drop_append, u8s_len, u8s_len,
    List.drop_eq_nil_of_le (by rw [u8s_len]; omega), List.nil_append, List.drop_replicate]
  congr 3
  rw [List.length_append]; omega
theorem rep_u8 : ∀ n, rep [.int .u8 0] n = List.replicate n (AV.int .u8 0)
  | 0 => rfl
  | n + 1 => by rw [rep, rep_u8 n]; rfl
theorem Rd.appd {H : Hp} {v : AV} {bs : List UInt8} (h : Rd H v bs) : appended H 1 v = some (u8s bs, bs.length) := by
  obtain ⟨rfl, rfl⟩ | ⟨b, o, c, pre, post, e, k, rfl, ho, hb, hc⟩ := h
  · rfl
  · have hr : V.rd H b o (bs.length * 1) = some (u8s bs) := by
      unfold V.rd
      rw [hb]
      simp only
      rw [if_pos (by rw [List.length_append, List.length_append, u8s_len]; omega)]
      rw [← ho, List.drop_left, Nat.mul_one, List.take_append_of_le_length (by rw [u8s_len]; omega), List.take_of_length_le (by rw [u8s_len]; omega)]
    simp only [appended, hr, Option.map_some]
/-- What reads as bytes does so when a map has changed, and where more has been laid. -/
theorem Rd.upd {H : Hp} {v : AV} {bs : List UInt8} {mb : Nat} {es : List (AV × AV)} (h : Rd (H.set mb (.map es)) v bs) (es' : List (AV × AV)) (l : Hp) : Rd (H.set mb (.map es') ++ l) v bs := by
  obtain h | ⟨b, o, c, pre, post, e, k, h1, h2, h3, h4⟩ := h
  · exact .inl h
  · refine .inr ⟨b, o, c, pre, post, e, k, h1, h2, get_app ?_, h4⟩
    rw [List.getElem?_set] at h3 ⊢
    split at h3
    · split at h3 <;> cases h3
    · rename_i hne
      rw [if_neg hne]; exact h3

theorem or_near {p : Nat} (h : p ≤ 16383) : evInt .or .i64 49152 (p : Int) = some (.int .i64 ((49152 + p : Nat) : Int)) := by
  have h1 : (BitVec.ofInt 64 49152 ||| BitVec.ofInt 64 (p : Int)).toNat = 49152 + p := by
    rw [BitVec.toNat_or, BitVec.ofInt_natCast, show BitVec.ofInt 64 49152 = BitVec.ofNat 64 49152 from rfl, BitVec.toNat_ofNat, BitVec.toNat_ofNat, Nat.mod_eq_of_lt (by decide), Nat.mod_eq_of_lt (by omega)]
    have := Nat.two_pow_add_eq_or_of_lt (b := p) (i := 14) (by omega) 3
    simpa using this.symm
  show some (AV.int .i64 (IntKind.i64.wrap ((BitVec.ofInt 64 49152 ||| BitVec.ofInt 64 (p : Int)).toNat : Int))) = _
  rw [h1, wrap_i64 (by omega)]
set_option maxRecDepth 20000 in
set_option maxHeartbeats 4000000 in
theorem pr_row (H : Hp) (mb tb : Nat) (tab : Tab) (bv : AV) (bs : List UInt8) (L : List (List UInt8)) (plain : Bool) (hmb : mb < H.length) (htb : H[tb]? = some (.cells [.map mb] 59 .rw)) (hne : mb ≠ tb)
    (hv : Rd (H.set mb (.map (tabE tab))) bv bs) (hL : nm (glue L) = some L) (hb : bs.length ≤ 1048576000) (hn : near tab) :
    callK Tryd.prog 64 [.ptr tb 0, bv, .str (glue L), .bool plain] (H.set mb (.map (tabE tab))) (fun r => ∃ v T e, r = (.tuple [v, .int .i64 0], H.set mb (.map (tabE (putN plain L tab bs).2)) ++ T, e) ∧ clean mb e ∧ flat v = false ∧ Bf mb (H.set mb (.map (tabE (putN plain L tab bs).2)) ++ T) v (putN plain L tab bs).1 ∧ ∃ j, bk v = some j ∧ H.length ≤ j) := by
  refine callK_start (n := 76) (rs := [.cell 8 31, .cell 9 40]) Tryd.func64 rfl rfl rfl ?_
  intro σ hl ha
  have h0 := ha 0 (by simp)
  have h1 := ha 1 (by simp)
  have h2 := ha 2 (by simp)
  have h3 := ha 3 (by simp)
  clear ha
  simp only [Option.getD_some, List.getElem?_cons_zero, List.getElem?_cons_succ] at h0 h1 h2 h3
  obtain ⟨_, hlab, hlen⟩ := nm_glue hL
  have hck := fun H k => name_Check (glue L) H k (by unfold maxI; omega)
  rw [hL] at hck
  simp only [Option.isSome_some, if_true] at hck
  have hfr := fun H k => pr_fronts (glue L) H k
  have hg0 : ∀ (M : List (AV × AV)) (l : Hp), (H.set mb (.map M) ++ l)[H.length]? = l[0]? := fun M l => by rw [List.getElem?_append_right (by simp)]; simp
  have hg : ∀ (M : List (AV × AV)) (l : Hp) (k : Nat), (H.set mb (.map M) ++ l)[H.length + k]? = l[k]? := fun M l k => by rw [List.getElem?_append_right (by simp)]; simp
  have hs0 : ∀ (M : List (AV × AV)) (l : Hp) (y : ABlk), (H.set mb (.map M) ++ l).set H.length y = H.set mb (.map M) ++ l.set 0 y := fun M l y => by rw [List.set_append_right _ _ (by simp)]; simp
  have hs : ∀ (M : List (AV × AV)) (l : Hp) (k : Nat) (y : ABlk), (H.set mb (.map M) ++ l).set (H.length + k) y = H.set mb (.map M) ++ l.set k y := fun M l k y => by rw [List.set_append_right _ _ (by simp)]; simp
  have hgm : ∀ (M : List (AV × AV)) (l : Hp), (H.set mb (.map M) ++ l)[mb]? = some (.map M) := fun M l => get_app (by rw [List.getElem?_set_self hmb])
  have hgt : ∀ (M : List (AV × AV)) (l : Hp), (H.set mb (.map M) ++ l)[tb]? = some (.cells [.map mb] 59 .rw) := fun M l => get_app (by rw [List.getElem?_set_ne hne]; exact htb)
  have hsm : ∀ (M M' : List (AV × AV)) (l : Hp), (H.set mb (.map M) ++ l).set mb (.map M') = H.set mb (.map M') ++ l := fun M M' l => by rw [List.set_append_left _ _ (by simp; exact hmb), List.set_set]
  have hvl := fun H' => hv.v.len H'
  have hap := fun M l => (hv.upd M l).appd
  have wC : IntKind.i64.wrap ((bs.length : Int) + ((glue L).length : Int)) = ((bs.length + (glue L).length : Nat) : Int) := by rw [wrap_i64 (by omega)]; omega
  generalize hC : bs.length + (glue L).length = C at *
  have hmk : ∀ H', evMake Tryd.prog 31 (.int .i64 0) (.int .i64 (C : Nat)) H' = some (.slice H'.length 0 0 (.ex C), H' ++ [.cells (pad C []) 5 .rw]) := by
    intro H'
    simp only [evMake, tsh_31, tzero_5, Option.bind_some]
    rw [if_pos (by omega)]
    simp [rep_u8, pad_nil]
  have p0 : (pad C []).length = C := pad_len (by simp)
  have p1 : splice (pad C []) 0 (u8s bs) = pad C bs := by have := pad_sp (C := C) (bs := []) (xs := bs) (by simp; omega); simpa using this
  have c1 : decide (bs.length ≤ C) = true := by simp; omega
  have c2 : bs.length ≤ C := by omega
  have fl := flats_by bs
  have sc := u8s_scal (s := bs)
  have ul := u8s_len (s := bs)
  simp only [go_sem, simprocAttr, hl, h0, h1, h2, h3, hck, hfr, hmk, hg0, hg, hs0, hs, hgm, hgt, hsm, hvl, hap, wC, p0, p1, c1, c2, fl, sc, ul]
  refine gen_loop8 fun A B hA hB => ?_
  refine callK_start (n := 15) (rs := []) Tryd.func100 rfl rfl rfl ?_
  intro τ tl ta
  have t0 := ta 0 (by simp)
  have t1 := ta 1 (by simp)
  clear ta
  simp only [Option.getD_some, List.getElem?_cons_zero, List.getElem?_cons_succ] at t0 t1
  simp only [go_sem, simprocAttr]
  refine go_rounds (fun m st => ∃ τ L' tab' out σ1 e, m = L'.length ∧ nm (glue L') = some L' ∧ putN plain L tab bs = putN plain L' tab' out ∧ out.length + (glue L').length = C ∧ near tab' ∧ bs.length ≤ out.length ∧
      st = ⟨τ, H.set mb (.map (tabE tab')) ++ [.cells [.ptr tb 0] 24 .rw, .cells [.bool plain] 4 .rw, .cells [.nils] 31 .rw, .cells [.int .i64 0] 40 .rw, .cells (pad C out) 5 .rw, .cells [.slice (H.length + 4) 0 out.length (.ex C)] 31 .rw, .cells [.str (glue L')] 33 .rw, .loop σ1 [31] A B .ready], e⟩ ∧
      clean mb e ∧ τ.length = 15 ∧ fr τ 0 = .yld (H.length + 7) ∧ fr τ 1 = .ptr (H.length + 6) 0 ∧ σ1.length = 76 ∧ fr σ1 4 = .ptr H.length 0 ∧ fr σ1 7 = .ptr (H.length + 1) 0 ∧ fr σ1 8 = .ptr (H.length + 2) 0 ∧ fr σ1 9 = .ptr (H.length + 3) 0 ∧ fr σ1 10 = .ptr (H.length + 5) 0) L.length
    ⟨_, L, tab, bs, _, _, rfl, hL, rfl, hC, hn, Nat.le_refl _, rfl, by simp [clean, z0, low], tl, t0, t1, by simp only [go_sem, simprocAttr, hl], by simp only [go_sem, simprocAttr, hl], by simp only [go_sem, simprocAttr, hl], by simp only [go_sem, simprocAttr, hl], by simp only [go_sem, simprocAttr, hl], by simp only [go_sem, simprocAttr, hl]⟩ ?_
  clear tl t0 t1 h0 h1 h2 h3
  have hlv8 : ∀ (M : List (AV × AV)) (a b c d f x y z : ABlk) (v : AV) (ef : Ef), leave (H.length + 8) v (H.set mb (.map M) ++ [a, b, c, d, f, x, y, z]) ef = (v, H.set mb (.map M) ++ [a, b, c, d, f, x, y, z], ⟨low (H.length + 8) ef.es, low (H.length + 8) ef.ws⟩) := fun M a b c d f x y z v ef => leave_len (by simp)
  have hl76 := hl
  clear hl
  rintro m _ ⟨τ, L', tab', out, σ1, e, rfl, hL', hpn, hol, hn', hbo, rfl, hce, tl, t0, t1, hl, h4, h7, h8, h9, h10⟩
  have hpad : (pad C out).length = C := pad_len (by have := glue_pos L'; omega)
  cases L' with
  | nil =>
    have d1 : decide (out.length + 1 ≤ C) = true := by rw [← hol, glue_nil]; simp
    have d2 : out.length + 1 ≤ C := by rw [← hol, glue_nil]; simp
    have p2 : splice (pad C out) out.length [.int .u8 0] = pad C (out ++ [0]) := pad_sp (xs := [0]) (by simpa using d2)
    simp only [go_sem, simprocAttr, tl, t0, t1, hl76, hl, h4, h7, h8, h9, h10, hg0, hg, hs0, hs, hgm, hgt, hsm, glue_nil, hlv8, bslice1, hpad, d1, d2, p2]
    have hp : putN plain L tab bs = (out ++ [0], tab') := by rw [hpn]; rfl
    rw [leave_nfl (by simp [flat, flats]), hp]
    refine ⟨_, _, _, rfl, clean_leave ?_, rfl, .inr ⟨H.length + 4, .ex C, List.replicate (C - (out ++ [0]).length) (.int .u8 0), .rw, by omega, by simp, by rw [hg]; rfl, .inl ⟨C, rfl, by simpa using d2, by simp; omega, .inl rfl⟩⟩, _, rfl, by omega⟩
    have hce' := clean_leave (m := H.length + 8) hce
    simp only [clean_mk] at hce'
    simp only [clean_andI, clean_mk, low_nI, low_sI, hce', and_true, true_and]
    omega
  | cons l L' =>
    have hnz : (glue (l :: L') == [0]) = false := by rw [beq_eq_false_iff_ne]; intro h; have := congrArg List.length h; rw [glue_len_cons] at this; have := glue_pos L'; simp at *; omega
    simp only [go_sem, simprocAttr, tl, t0, t1, hl, h4, h7, h8, h9, h10, hg0, hg, hs0, hs, hgm, hgt, hsm, hnz]
    refine callK_yI ?_
    subst hA hB
    simp only [go_sem, simprocAttr, tl, t0, t1, hl, h4, h7, h8, h9, h10, hg0, hg, hs0, hs, hgm, hgt, hsm]
    refine ⟨rfl, ?_⟩
    have hsh : mapSh Tryd.prog 57 = some (.str, 3) := by simp only [mapSh, tsh_57, tsh_33]
    have htz : tzeroV Tryd.prog 3 = some (.int .i64 0) := by kernel_rfl
    obtain ⟨_, hlab', hlen'⟩ := nm_glue hL'
    obtain ⟨hl1, hl2⟩ := hlab' l (by simp)
    have hL2 := nm_tail hL'
    have hgl := glue_len_cons l L'
    have hgp := glue_pos L'
    have hc0 : (glue (l :: L'))[0]? = some (UInt8.ofNat l.length) := by rw [glue_cons, lb]; rfl
    have hcn : (UInt8.ofNat l.length).toNat = l.length := ofNat_le (m := 63) hl2 (by decide)
    have hcp : 0 < (glue (l :: L')).length := glue_pos _
    have w0 : IntKind.i64.wrap (l.length : Int) = (l.length : Int) := wrap_i64 (by omega)
    have w1 : IntKind.i64.wrap (1 + (l.length : Int)) = ((1 + l.length : Nat) : Int) := by rw [wrap_i64 (by omega)]; omega
    have htk : (glue (l :: L')).take (1 + l.length) = lb l := by rw [glue_cons, show 1 + l.length = (lb l).length from (lb_len l).symm, List.take_left]
    have hkl : (lb l).length = 1 + l.length := lb_len l
    have hle : 1 + l.length ≤ (glue (l :: L')).length := by omega
    have d3 : decide (out.length + (1 + l.length) ≤ C) = true := by simp; omega
    have c3 : out.length + (1 + l.length) ≤ C := by omega
    have fl := flats_by (lb l)
    have sc := u8s_scal (s := lb l)
    have ul : (u8s (lb l)).length = 1 + l.length := by rw [u8s_len, lb_len]
    have p3 : splice (pad C out) out.length (u8s (lb l)) = pad C (out ++ lb l) := pad_sp (by rw [lb_len]; omega)
    have hpa := fun H k => name_Parent l L' hL' H k
    cases htg : tget tab' (glue (l :: L')) with
    | some p =>
      obtain ⟨j, hj⟩ := findK_some _ p tab' 0 htg
      have hlk : ∀ (l' : Hp), evLookup Tryd.prog 57 (.map mb) (.str (glue (l :: L'))) true (H.set mb (.map (tabE tab')) ++ l') = some (.tuple [.int .i64 (p : Nat), .bool true]) := by
        intro l'
        simp only [evLookup, hsh, hgm, Option.bind_some, hj, if_true]
      cases plain with
      | true =>
        simp only [go_sem, simprocAttr, tl, t0, t1, hl76, hl, h4, h7, h8, h9, h10, hg0, hg, hs0, hs, hgm, hgt, hsm, hlk]
        refine go_drawZ tFollows (by kernel_rfl) ?_
        simp only [go_sem, simprocAttr, tl, t0, t1, hl76, hl, h4, h7, h8, h9, h10, hg0, hg, hs0, hs, hgm, hgt, hsm, hlk, hsh, htz, hc0, hcn, hcp, w0, w1, htk, hkl, d3, c3, hpad, fl, sc, ul, p3, u8s_fold, hpa, leave_es, EsI, EsS, EsN, EsL8, hle]
        refine ⟨(by kernel_rfl : effOk _ _ _ = true), ?_⟩
        try simp only [go_sem, simprocAttr, tl, t0, t1, hl76, hl, h4, h7, h8, h9, h10, hg0, hg, hs0, hs, hgm, hgt, hsm, hlk, hsh, htz, hc0, hcn, hcp, w0, w1, htk, hkl, d3, c3, hpad, fl, sc, ul, p3, u8s_fold, hpa, leave_es, EsI, EsS, EsN, EsL8, hle]
        have hol2 : (out ++ lb l).length = out.length + (1 + l.length) := by rw [List.length_append, lb_len]
        refine ⟨L'.length, by omega, _, L', tab', out ++ lb l, _, _, rfl, hL2, by rw [hpn, putN, htg]; rfl, by omega, hn', by omega, by rw [hol2], ?_, by simp only [go_sem, simprocAttr, tl], by simp only [go_sem, simprocAttr, tl, t0], by simp only [go_sem, simprocAttr, tl, t1], hl, h4, h7, h8, h9, h10⟩
        have hmn : mb ≤ H.length + 8 := by omega
        simp only [clean_andI, clean_lv hmn, clean_sn, clean_ss, clean_z, hce, and_true, true_and]
        omega
      | false =>
        simp only [go_sem, simprocAttr, tl, t0, t1, hl76, hl, h4, h7, h8, h9, h10, hg0, hg, hs0, hs, hgm, hgt, hsm, hlk]
        have hp := near_get hn' htg
        have hor := or_near hp
        have wu : IntKind.u16.wrap ((49152 + p : Nat) : Int) = ((49152 + p : Nat) : Int) := wrap_u16 (by omega)
        have hpt : ∀ (a b c d f g y : ABlk) k, callK Tryd.prog 26 [.slice (H.length + 4) 0 out.length (.ex C), .int .u16 ((49152 + p : Nat) : Int)] (H.set mb (.map (tabE tab')) ++ [a, b, c, d, .cells (pad C out) 5 .rw, f, g, y]) k = k (.slice (H.length + 11) 0 (out.length + 2) (.op 0), H.set mb (.map (tabE tab')) ++ [a, b, c, d, .cells (pad C out) 5 .rw, f, g, y, .cells [.int .u8 (byt (49152 + p) 8).toNat] 5 .rw, .dead, .cells [.int .u8 (byt (49152 + p) 0).toNat] 5 .rw, .cells (u8s (out ++ be16 (49152 + p))) 5 (.op 0 false)], z0) := by
          intro a b c d f g y k
          have hR : Rd (H.set mb (.map (tabE tab')) ++ [a, b, c, d, .cells (pad C out) 5 .rw, f, g, y]) (.slice (H.length + 4) 0 out.length (.ex C)) out :=
            .inr ⟨H.length + 4, 0, .ex C, [], List.replicate (C - out.length) (.int .u8 0), 5, .rw, rfl, rfl, by rw [hg]; rfl, .inl ⟨C, rfl, by omega⟩⟩
          rw [oct_put16 _ out (49152 + p) _ k hR (by omega) (by omega)]
          simp
        simp only [go_sem, simprocAttr, tl, t0, t1, hl76, hl, h4, h7, h8, h9, h10, hg0, hg, hs0, hs, hgm, hgt, hsm, hlk, hsh, htz, hpad, leave_es, EsI, EsS, EsN, EsL8, hor, wu, hpt]
        have hpp : putN false L tab bs = (out ++ be16 (49152 + p), tab') := by rw [hpn, putN, htg]; rfl
        rw [leave_nfl (by simp [flat, flats]), hpp]
        have hmn : mb ≤ H.length + 8 := by omega
        refine ⟨_, _, _, rfl, clean_leave ?_, rfl, .inr ⟨H.length + 11, .op 0, [], .op 0 false, by omega, by simp [be16], by rw [hg]; simp, .inr ⟨rfl, rfl, false, rfl⟩⟩, _, rfl, by omega⟩
        simp only [clean_andI, clean_lv hmn, clean_sn, clean_ss, clean_z, hce, and_true, true_and]
        omega
    | none =>
      have hj := findK_none _ tab' 0 htg
      have hlk : ∀ (l' : Hp), evLookup Tryd.prog 57 (.map mb) (.str (glue (l :: L'))) true (H.set mb (.map (tabE tab')) ++ l') = some (.tuple [.int .i64 0, .bool false]) := by
        intro l'
        simp only [evLookup, hsh, hgm, Option.bind_some, hj, htz, Option.map_some, if_true]
      have hms : ∀ (l' : Hp) (n : Nat), evMapSet Tryd.prog 57 (.map mb) (.str (glue (l :: L'))) (.int .i64 (n : Nat)) (H.set mb (.map (tabE tab')) ++ l') = some (H.set mb (.map (tabE (tab' ++ [(glue (l :: L'), n)]))) ++ l', ⟨none, some mb⟩) := by
        intro l' n
        simp only [evMapSet, hsh, hgm, Option.bind_some, hj, Option.map_some, hsm, tabE_app]
        rfl
      by_cases hfar : out.length ≤ 16383
      · have g1 : decide ((out.length : Int) ≤ 16383) = true := by simp; omega
        simp only [go_sem, simprocAttr, tl, t0, t1, hl76, hl, h4, h7, h8, h9, h10, hg0, hg, hs0, hs, hgm, hgt, hsm, hlk, hms, g1, hsh, htz, hc0, hcn, hcp, w0, w1, htk, hkl, d3, c3, hpad, fl, sc, ul, p3, u8s_fold, hpa, leave_es, EsI, EsS, EsN, EsL8, hle]
        refine go_drawZ tFollows (by kernel_rfl) ?_
        simp only [go_sem, simprocAttr, tl, t0, t1, hl76, hl, h4, h7, h8, h9, h10, hg0, hg, hs0, hs, hgm, hgt, hsm, hlk, hms, g1, hsh, htz, hc0, hcn, hcp, w0, w1, htk, hkl, d3, c3, hpad, fl, sc, ul, p3, u8s_fold, hpa, leave_es, EsI, EsS, EsN, EsL8, hle]
        refine ⟨(by kernel_rfl : effOk _ _ _ = true), ?_⟩
        try simp only [go_sem, simprocAttr, tl, t0, t1, hl76, hl, h4, h7, h8, h9, h10, hg0, hg, hs0, hs, hgm, hgt, hsm, hlk, hms, g1, hsh, htz, hc0, hcn, hcp, w0, w1, htk, hkl, d3, c3, hpad, fl, sc, ul, p3, u8s_fold, hpa, leave_es, EsI, EsS, EsN, EsL8, hle]
        refine go_drawZ tFollows (by kernel_rfl) ?_
        simp only [go_sem, simprocAttr, tl, t0, t1, hl76, hl, h4, h7, h8, h9, h10, hg0, hg, hs0, hs, hgm, hgt, hsm, hlk, hms, g1, hsh, htz, hc0, hcn, hcp, w0, w1, htk, hkl, d3, c3, hpad, fl, sc, ul, p3, u8s_fold, hpa, leave_es, EsI, EsS, EsN, EsL8, hle]
        refine ⟨(by kernel_rfl : effOk _ _ _ = true), ?_⟩
        try simp only [go_sem, simprocAttr, tl, t0, t1, hl76, hl, h4, h7, h8, h9, h10, hg0, hg, hs0, hs, hgm, hgt, hsm, hlk, hms, g1, hsh, htz, hc0, hcn, hcp, w0, w1, htk, hkl, d3, c3, hpad, fl, sc, ul, p3, u8s_fold, hpa, leave_es, EsI, EsS, EsN, EsL8, hle]
        have hol2 : (out ++ lb l).length = out.length + (1 + l.length) := by rw [List.length_append, lb_len]
        refine ⟨L'.length, by omega, _, L', tab' ++ [(glue (l :: L'), out.length)], out ++ lb l, _, _, rfl, hL2, by rw [hpn, putN, htg]; simp only; rw [if_pos hfar], by omega, near_app hn' hfar, by omega, by rw [hol2], ?_, by simp only [go_sem, simprocAttr, tl], by simp only [go_sem, simprocAttr, tl, t0], by simp only [go_sem, simprocAttr, tl, t1], hl, h4, h7, h8, h9, h10⟩
        have hmn : mb ≤ H.length + 8 := by omega
        simp only [clean_andI, clean_lv hmn, clean_sn, clean_ss, clean_z, hce, and_true, true_and]
        omega
      · have g1 : decide ((out.length : Int) ≤ 16383) = false := by simp; omega
        simp only [go_sem, simprocAttr, tl, t0, t1, hl76, hl, h4, h7, h8, h9, h10, hg0, hg, hs0, hs, hgm, hgt, hsm, hlk, hms, g1, hsh, htz, hc0, hcn, hcp, w0, w1, htk, hkl, d3, c3, hpad, fl, sc, ul, p3, u8s_fold, hpa, leave_es, EsI, EsS, EsN, EsL8, hle]
        refine go_drawZ tFollows (by kernel_rfl) ?_
        simp only [go_sem, simprocAttr, tl, t0, t1, hl76, hl, h4, h7, h8, h9, h10, hg0, hg, hs0, hs, hgm, hgt, hsm, hlk, hms, g1, hsh, htz, hc0, hcn, hcp, w0, w1, htk, hkl, d3, c3, hpad, fl, sc, ul, p3, u8s_fold, hpa, leave_es, EsI, EsS, EsN, EsL8, hle]
        refine ⟨(by kernel_rfl : effOk _ _ _ = true), ?_⟩
        try simp only [go_sem, simprocAttr, tl, t0, t1, hl76, hl, h4, h7, h8, h9, h10, hg0, hg, hs0, hs, hgm, hgt, hsm, hlk, hms, g1, hsh, htz, hc0, hcn, hcp, w0, w1, htk, hkl, d3, c3, hpad, fl, sc, ul, p3, u8s_fold, hpa, leave_es, EsI, EsS, EsN, EsL8, hle]
        have hol2 : (out ++ lb l).length = out.length + (1 + l.length) := by rw [List.length_append, lb_len]
        refine ⟨L'.length, by omega, _, L', tab', out ++ lb l, _, _, rfl, hL2, by rw [hpn, putN, htg]; simp only; rw [if_neg hfar], by omega, hn', by omega, by rw [hol2], ?_, by simp only [go_sem, simprocAttr, tl], by simp only [go_sem, simprocAttr, tl, t0], by simp only [go_sem, simprocAttr, tl, t1], hl, h4, h7, h8, h9, h10⟩
        have hmn : mb ≤ H.length + 8 := by omega
        simp only [clean_andI, clean_lv hmn, clean_sn, clean_ss, clean_z, hce, and_true, true_and]
        omega
set_option maxRecDepth 20000 in
theorem pr_Put (H : Hp) (mb tb : Nat) (tab : Tab) (bv : AV) (bs : List UInt8) (L : List (List UInt8)) (hmb : mb < H.length) (htb : H[tb]? = some (.cells [.map mb] 59 .rw)) (hne : mb ≠ tb)
    (hv : Rd (H.set mb (.map (tabE tab))) bv bs) (hL : nm (glue L) = some L) (hb : bs.length ≤ 1048576000) (hn : near tab) :
    ∃ v T e, (∀ k, callK Tryd.prog 24 [.ptr tb 0, bv, .str (glue L)] (H.set mb (.map (tabE tab))) k = k (.tuple [v, .int .i64 0], H.set mb (.map (tabE (putN false L tab bs).2)) ++ T, e)) ∧ clean mb e ∧ flat v = false ∧ Bf mb (H.set mb (.map (tabE (putN false L tab bs).2)) ++ T) v (putN false L tab bs).1 ∧ ∃ j, bk v = some j ∧ H.length ≤ j := by
  obtain ⟨⟨v, T, e⟩, ⟨hce, hvf, hR⟩, hrow⟩ := callK_exP (α := AV × Hp × Ef) (fun b => clean mb b.2.2 ∧ flat b.1 = false ∧ Bf mb (H.set mb (.map (tabE (putN false L tab bs).2)) ++ b.2.1) b.1 (putN false L tab bs).1 ∧ ∃ j, bk b.1 = some j ∧ H.length ≤ j) (fun b => (.tuple [b.1, .int .i64 0], H.set mb (.map (tabE (putN false L tab bs).2)) ++ b.2.1, b.2.2))
    (callK_mono (pr_row H mb tb tab bv bs L false hmb htb hne hv hL hb hn) (fun r ⟨v, T, e, h1, h2, h3, h4⟩ => ⟨(v, T, e), ⟨h2, h3, h4⟩, h1⟩))
  simp only at hce hR hrow hvf
  refine ⟨v, T, ⟨low H.length e.es, low H.length e.ws⟩, fun k => ?_, clean_leave hce, hvf, hR⟩
  refine callK_eq ?_ k
  refine callK_start (n := 14) (rs := [.tmp 6, .tmp 7]) Tryd.func24 rfl rfl rfl ?_
  intro σ hl ha
  have h0 := ha 0 (by simp)
  have h1 := ha 1 (by simp)
  have h2 := ha 2 (by simp)
  clear ha
  simp only [Option.getD_some, List.getElem?_cons_zero, List.getElem?_cons_succ] at h0 h1 h2
  simp only [go_sem, simprocAttr, hl, h0, h1, h2, hrow]
  exact leave_nfl (by simp [flat, flats, hvf])
set_option maxRecDepth 20000 in
theorem pr_Plain (H : Hp) (mb tb : Nat) (tab : Tab) (bv : AV) (bs : List UInt8) (L : List (List UInt8)) (hmb : mb < H.length) (htb : H[tb]? = some (.cells [.map mb] 59 .rw)) (hne : mb ≠ tb)
    (hv : Rd (H.set mb (.map (tabE tab))) bv bs) (hL : nm (glue L) = some L) (hb : bs.length ≤ 1048576000) (hn : near tab) :
    ∃ v T e, (∀ k, callK Tryd.prog 25 [.ptr tb 0, bv, .str (glue L)] (H.set mb (.map (tabE tab))) k = k (.tuple [v, .int .i64 0], H.set mb (.map (tabE (putN true L tab bs).2)) ++ T, e)) ∧ clean mb e ∧ flat v = false ∧ Bf mb (H.set mb (.map (tabE (putN true L tab bs).2)) ++ T) v (putN true L tab bs).1 ∧ ∃ j, bk v = some j ∧ H.length ≤ j := by
  obtain ⟨⟨v, T, e⟩, ⟨hce, hvf, hR⟩, hrow⟩ := callK_exP (α := AV × Hp × Ef) (fun b => clean mb b.2.2 ∧ flat b.1 = false ∧ Bf mb (H.set mb (.map (tabE (putN true L tab bs).2)) ++ b.2.1) b.1 (putN true L tab bs).1 ∧ ∃ j, bk b.1 = some j ∧ H.length ≤ j) (fun b => (.tuple [b.1, .int .i64 0], H.set mb (.map (tabE (putN true L tab bs).2)) ++ b.2.1, b.2.2))
    (callK_mono (pr_row H mb tb tab bv bs L true hmb htb hne hv hL hb hn) (fun r ⟨v, T, e, h1, h2, h3, h4⟩ => ⟨(v, T, e), ⟨h2, h3, h4⟩, h1⟩))
  simp only at hce hR hrow hvf
  refine ⟨v, T, ⟨low H.length e.es, low H.length e.ws⟩, fun k => ?_, clean_leave hce, hvf, hR⟩
  refine callK_eq ?_ k
  refine callK_start (n := 14) (rs := [.tmp 6, .tmp 7]) Tryd.func25 rfl rfl rfl ?_
  intro σ hl ha
  have h0 := ha 0 (by simp)
  have h1 := ha 1 (by simp)
  have h2 := ha 2 (by simp)
  clear ha
  simp only [Option.getD_some, List.getElem?_cons_zero, List.getElem?_cons_succ] at h0 h1 h2
  simp only [go_sem, simprocAttr, hl, h0, h1, h2, hrow]
  exact leave_nfl (by simp [flat, flats, hvf])
/-- The same, of any memory that has the table. -/
theorem pr_PutA (H : Hp) (mb tb : Nat) (tab : Tab) (bv : AV) (bs s : List UInt8) (L : List (List UInt8)) (hm : H[mb]? = some (.map (tabE tab))) (htb : H[tb]? = some (.cells [.map mb] 59 .rw))
    (hv : Rd H bv bs) (hL : nm s = some L) (hb : bs.length ≤ 1048576000) (hn : near tab) :
    ∃ v H' e, (∀ k, callK Tryd.prog 24 [.ptr tb 0, bv, .str s] H k = k (.tuple [v, .int .i64 0], H', e)) ∧ clean mb e ∧ flat v = false ∧ Bf mb H' v (putN false L tab bs).1 ∧ (∃ j, bk v = some j ∧ H.length ≤ j) ∧
      H.length ≤ H'.length ∧ H'[mb]? = some (.map (tabE (putN false L tab bs).2)) ∧ (∀ i x, i ≠ mb → H[i]? = some x → H'[i]? = some x) := by
  obtain ⟨rfl, _⟩ := nm_glue hL
  have hlt := lt_of_get hm
  have hne : mb ≠ tb := by rintro rfl; rw [hm] at htb; cases htb
  have hs := set_get hm
  obtain ⟨v, T, e, h1, h2, h3, h4, h5⟩ := pr_Put H mb tb tab bv bs L hlt htb hne (by rw [hs]; exact hv) hL hb hn
  rw [hs] at h1
  refine ⟨v, _, e, h1, h2, h3, h4, h5, by simp, get_app (by rw [List.getElem?_set_self hlt]), fun i x hi hx => get_app (by rw [List.getElem?_set_ne (Ne.symm hi)]; exact hx)⟩
/-- The same, of any memory that has the table. -/
theorem pr_PlainA (H : Hp) (mb tb : Nat) (tab : Tab) (bv : AV) (bs s : List UInt8) (L : List (List UInt8)) (hm : H[mb]? = some (.map (tabE tab))) (htb : H[tb]? = some (.cells [.map mb] 59 .rw))
    (hv : Rd H bv bs) (hL : nm s = some L) (hb : bs.length ≤ 1048576000) (hn : near tab) :
    ∃ v H' e, (∀ k, callK Tryd.prog 25 [.ptr tb 0, bv, .str s] H k = k (.tuple [v, .int .i64 0], H', e)) ∧ clean mb e ∧ flat v = false ∧ Bf mb H' v (putN true L tab bs).1 ∧ (∃ j, bk v = some j ∧ H.length ≤ j) ∧
      H.length ≤ H'.length ∧ H'[mb]? = some (.map (tabE (putN true L tab bs).2)) ∧ (∀ i x, i ≠ mb → H[i]? = some x → H'[i]? = some x) := by
  obtain ⟨rfl, _⟩ := nm_glue hL
  have hlt := lt_of_get hm
  have hne : mb ≠ tb := by rintro rfl; rw [hm] at htb; cases htb
  have hs := set_get hm
  obtain ⟨v, T, e, h1, h2, h3, h4, h5⟩ := pr_Plain H mb tb tab bv bs L hlt htb hne (by rw [hs]; exact hv) hL hb hn
  rw [hs] at h1
  refine ⟨v, _, e, h1, h2, h3, h4, h5, by simp, get_app (by rw [List.getElem?_set_self hlt]), fun i x hi hx => get_app (by rw [List.getElem?_set_ne (Ne.symm hi)]; exact hx)⟩
end Go.Proofs.YtgkpgpdkolpfkaaDoor.V
namespace Go.Proofs.YtgkpgpdkolpfkaaDoor.V
open Go
set_option linter.unusedSimpArgs false
set_option linter.unusedVariables false

/-! ### plainly -/
/-- Data's bytes, letter by letter of their form. -/
def putF (d : Dt) : List UInt8 → Nat → Tab → List UInt8 → List UInt8 × Tab
  | [], _, tab, out => (out, tab)
  | c :: r, k, tab, out =>
    if c.toNat = 104 then putF d r k (putN false (labs d.host) tab out).2 (putN false (labs d.host) tab out).1
    else if c.toNat = 112 then putF d r k (putN true (labs d.host) tab out).2 (putN true (labs d.host) tab out).1
    else if c.toNat = 109 then putF d r k (putN false (labs d.mail) tab out).2 (putN false (labs d.mail) tab out).1
    else if c.toNat = 115 then putF d r (k + 1) tab (out ++ be16 (d.n k).toNat)
    else if c.toNat = 108 then putF d r (k + 1) tab (out ++ be32 (d.n k).toNat)
    else putF d r k tab (out ++ d.raw)
/-- What the letters ask of data. -/
def okF (d : Dt) : List UInt8 → Nat → Prop
  | [], _ => True
  | c :: r, k => ((c.toNat = 104 ∧ (nm d.host).isSome = true ∧ okF d r k) ∨ (c.toNat = 112 ∧ (nm d.host).isSome = true ∧ okF d r k) ∨ (c.toNat = 109 ∧ (nm d.mail).isSome = true ∧ okF d r k)) ∨
    (c.toNat = 115 ∧ k < 5 ∧ d.n k ≤ 65535 ∧ okF d r (k + 1)) ∨ (c.toNat = 108 ∧ k < 5 ∧ okF d r (k + 1))
/-- Types whose data are no mere bytes. -/
def madeT (t : Int) : Prop := t = 2 ∨ t = 5 ∨ t = 6 ∨ t = 12 ∨ t = 15 ∨ t = 33
theorem okF_good {t : Int} {d : Dt} (ht : madeT t) (hg : goodB t d = true) : okF d (formS t) 0 := by
  simp only [goodB, headB, Bool.and_eq_true] at hg
  obtain ⟨⟨h1, h2, h3, h4, h5⟩, n0, n1, n2, n3, n4⟩ := hg
  rcases ht with rfl | rfl | rfl | rfl | rfl | rfl
  · have hh : (nm d.host).isSome = true := by have := eq_of_beq h2; rw [← this]; rfl
    exact .inl (.inl ⟨rfl, hh, trivial⟩)
  · have hh : (nm d.host).isSome = true := by have := eq_of_beq h2; rw [← this]; rfl
    exact .inl (.inl ⟨rfl, hh, trivial⟩)
  · have hh : (nm d.host).isSome = true := by have := eq_of_beq h2; rw [← this]; rfl
    have hm : (nm d.mail).isSome = true := by have := eq_of_beq h4; rw [← this]; rfl
    exact .inl (.inl ⟨rfl, hh, .inl (.inr (.inr ⟨rfl, hm, .inr (.inr ⟨rfl, by decide, .inr (.inr ⟨rfl, by decide, .inr (.inr ⟨rfl, by decide, .inr (.inr ⟨rfl, by decide, .inr (.inr ⟨rfl, by decide, trivial⟩)⟩)⟩)⟩)⟩)⟩))⟩)
  · have hh : (nm d.host).isSome = true := by have := eq_of_beq h2; rw [← this]; rfl
    exact .inl (.inl ⟨rfl, hh, trivial⟩)
  · have hh : (nm d.host).isSome = true := by have := eq_of_beq h2; rw [← this]; rfl
    have k0 : d.n 0 ≤ 65535 := by simpa [numB, numT, bitT] using n0
    exact .inr (.inl ⟨rfl, by decide, k0, .inl (.inl ⟨rfl, hh, trivial⟩)⟩)
  · have hh : (nm d.host).isSome = true := by have := eq_of_beq h2; rw [← this]; rfl
    have k0 : d.n 0 ≤ 65535 := by simpa [numB, numT, bitT] using n0
    have k1 : d.n 1 ≤ 65535 := by simpa [numB, numT, bitT] using n1
    have k2 : d.n 2 ≤ 65535 := by simpa [numB, numT, bitT] using n2
    exact .inr (.inl ⟨rfl, by decide, k0, .inr (.inl ⟨rfl, by decide, k1, .inr (.inl ⟨rfl, by decide, k2, .inl (.inr (.inl ⟨rfl, hh, trivial⟩))⟩)⟩)⟩)
theorem form_ascii {t : Int} : (formS t).all (fun c => decide (c.toNat < 128)) = true := by
  unfold formS
  repeat' split
  all_goals decide
theorem form_lenP {t : Int} : (formS t).length ≤ 7 ∧ 0 < (formS t).length := by
  unfold formS
  repeat' split
  all_goals decide
theorem labs_is {s : List UInt8} (h : (nm s).isSome = true) : nm s = some (labs s) := by
  obtain ⟨L, hL⟩ := Option.isSome_iff_exists.1 h
  unfold labs; rw [hL]; rfl
theorem glue_labs {s : List UInt8} (h : (nm s).isSome = true) : (glue (labs s)).length ≤ 255 := by
  obtain ⟨h1, _, h3⟩ := nm_glue (labs_is h)
  rw [← h1]; exact h3
theorem putN_lenA {plain : Bool} {s : List UInt8} (h : (nm s).isSome = true) (tab : Tab) (out : List UInt8) : (putN plain (labs s) tab out).1.length ≤ out.length + 1000 := by
  have := putN_len plain (labs s) tab out
  have := glue_labs h
  omega
theorem n_wf {d : Dt} (hd : d.wf) {k : Nat} (hk : k < 5) : is32 (d.n k) := by
  obtain ⟨_, _, _, h0, h1, h2, h3, h4⟩ := hd
  have : k = 0 ∨ k = 1 ∨ k = 2 ∨ k = 3 ∨ k = 4 := by omega
  rcases this with rfl | rfl | rfl | rfl | rfl <;> assumption
theorem cells_n {d : Dt} {k : Nat} (hk : k < 5) (e : TypeId) (kd : Kd) : ldC (3 + k) 1 false (.cells d.cells e kd) = some (.int .u32 (d.n k)) := by
  have : k = 0 ∨ k = 1 ∨ k = 2 ∨ k = 3 ∨ k = 4 := by omega
  rcases this with rfl | rfl | rfl | rfl | rfl <;> rfl
theorem Bf.cells {mb : Nat} {H : Hp} {v : AV} {bs : List UInt8} (h : Bf mb H v bs) {i : Nat} (hi : bk v = some i) : ∃ post k, H[i]? = some (.cells (u8s bs ++ post) 5 k) := by
  obtain ⟨rfl, _⟩ | ⟨b, c, post, k, h1, rfl, h3, h4⟩ := h
  · cases hi
  · cases hi; exact ⟨_, _, h3⟩
theorem oct16A {mb : Nat} {H : Hp} {v : AV} {bs : List UInt8} (x : Nat) (hv : Rd H v bs) (hm : mb < H.length) (hb : bs.length ≤ 1048576000) (hx : x < 65536) :
    ∃ (v' : AV) (H' : Hp), (∀ k, callK Tryd.prog 26 [v, .int .u16 (x : Nat)] H k = k (v', H', z0)) ∧ flat v' = false ∧ Bf mb H' v' (bs ++ be16 x) ∧ (∃ j, bk v' = some j ∧ H.length ≤ j) ∧ H.length ≤ H'.length ∧ ∀ (i : Nat) (y : ABlk), H[i]? = some y → H'[i]? = some y :=
  ⟨_, _, fun k => oct_put16 v bs x H k hv (by omega) hx, rfl, .inr ⟨H.length + 3, .op 0, [], .op 0 false, by omega, by simp [be16], by rw [List.getElem?_append_right (by omega)]; simp, .inr ⟨rfl, rfl, false, rfl⟩⟩, ⟨_, rfl, by omega⟩, by simp, fun i y hy => get_app hy⟩
theorem oct32A {mb : Nat} {H : Hp} {v : AV} {bs : List UInt8} (x : Nat) (hv : Rd H v bs) (hm : mb < H.length) (hb : bs.length ≤ 1048576000) (hx : x < 4294967296) :
    ∃ (v' : AV) (H' : Hp), (∀ k, callK Tryd.prog 27 [v, .int .u32 (x : Nat)] H k = k (v', H', z0)) ∧ flat v' = false ∧ Bf mb H' v' (bs ++ be32 x) ∧ (∃ j, bk v' = some j ∧ H.length ≤ j) ∧ H.length ≤ H'.length ∧ ∀ (i : Nat) (y : ABlk), H[i]? = some y → H'[i]? = some y :=
  ⟨_, _, fun k => oct_put32 v bs x H k hv (by omega) hx, rfl, .inr ⟨H.length + 7, .op 0, [], .op 0 false, by omega, by simp [be32], by rw [List.getElem?_append_right (by omega)]; simp, .inr ⟨rfl, rfl, false, rfl⟩⟩, ⟨_, rfl, by omega⟩, by simp, fun i y hy => get_app hy⟩

attribute [local irreducible] go goOps goD opK callK callT stepK leaveTo nextK
/-- Named types: letter by letter. -/
theorem rdata_PutM (t : Int) (d : Dt) (H : Hp) (mb tb : Nat) (tab : Tab) (bv : AV) (bs : List UInt8) (ht : madeT t) (hk : Tk H) (hd : d.wf) (hgd : goodB t d = true) (hm : H[mb]? = some (.map (tabE tab))) (htb : H[tb]? = some (.cells [.map mb] 59 .rw))
    (hv : Bf mb H bv bs) (hb : bs.length ≤ 104857600) (hn : near tab) :
    callK Tryd.prog 10 [bv, .ptr tb 0, .int .u16 t, .agg d.cells] H (fun r => ∃ v H' e, r = (.tuple [v, .int .i64 0], H', e) ∧ clean mb e ∧ Bf mb H' v (putF d (formS t) 0 tab bs).1 ∧ (∃ j, bk v = some j ∧ H.length ≤ j) ∧
      H.length ≤ H'.length ∧ H'[mb]? = some (.map (tabE (putF d (formS t) 0 tab bs).2)) ∧ near (putF d (formS t) 0 tab bs).2 ∧ (putF d (formS t) 0 tab bs).1.length ≤ bs.length + 7000 ∧ (∀ i x, i ≠ mb → H[i]? = some x → H'[i]? = some x)) := by
  have hok := okF_good ht hgd
  have hfl := form_lenP (t := t)
  have hfa := form_ascii (t := t)
  have hck : chk t d = 0 := if_pos hgd
  have hck := fun l k => rdata_Check t d (H ++ l) k (hk.old l) hd
  rw [show chk t d = 0 from if_pos hgd] at hck
  have hfm := fun l k => rdata_form t (H ++ l) k (hk.old l)
  obtain ⟨y, hy, hyB, hyb, hye⟩ := hv.full
  have hln := fun H' => hv.rd.v.len H'
  refine callK_start (n := 88) (rs := [.tmp 8, .tmp 9]) Tryd.func10 rfl rfl rfl ?_
  intro σ hl ha
  have h0 := ha 0 (by simp)
  have h1 := ha 1 (by simp)
  have h2 := ha 2 (by simp)
  have h3 := ha 3 (by simp)
  clear ha
  simp only [Option.getD_some, List.getElem?_cons_zero, List.getElem?_cons_succ] at h0 h1 h2 h3
  generalize formS t = F at *
  have hit : ∀ i c, F[i]? = some c → strIter F i = (.tuple [.bool true, .int .i64 (i : Nat), .int .i32 c.toNat], i + 1) := fun i c h => by rw [strIter_a hfa, itN_s h]
  have hie : strIter F F.length = (.tuple [.bool false], F.length) := by rw [strIter_a hfa]; unfold itN; rw [List.getElem?_eq_none (Nat.le_refl _)]
  simp only [go_sem, simprocAttr, hl, h0, h1, h2, h3, hck, hfm, hy, hln, Dt.vc, Dt.l8]
  have hyk : Bf mb (H ++ [.cells d.cells 37 .rw, .iter F 0]) y bs := hyB.keep (fun i x _ hx => get_app hx)
  refine go_rounds (fun m st => ∃ σ i tab' out v k Hc e, m + i = F.length ∧ putF d F 0 tab bs = putF d (F.drop i) k tab' out ∧ okF d (F.drop i) k ∧ near tab' ∧ out.length ≤ bs.length + i * 1000 ∧ st = ⟨σ, Hc, e⟩ ∧ clean mb e ∧ Bf mb Hc v out ∧ (i = 0 ∨ (flat v = false ∧ ∃ j, bk v = some j ∧ H.length ≤ j)) ∧
      H.length + 2 ≤ Hc.length ∧ Hc[mb]? = some (.map (tabE tab')) ∧ (∀ (j : Nat) (x : ABlk), j ≠ mb → H[j]? = some x → Hc[j]? = some x) ∧ Hc[H.length]? = some (.cells d.cells 37 .rw) ∧ Hc[H.length + 1]? = some (.iter F i) ∧
      σ.length = 88 ∧ fr σ 0 = v ∧ fr σ 1 = .ptr tb 0 ∧ fr σ 7 = .ptr H.length 0 ∧ fr σ 10 = .int .i64 (k : Nat) ∧ fr σ 27 = .ptr (H.length + 1) 0) F.length
    ⟨_, 0, tab, bs, y, 0, _, _, rfl, rfl, hok, hn, by omega, rfl, by simp [clean, z0, low], hyk, .inl rfl, by simp, get_app hm, fun j x _ hx => get_app hx, by simp, by simp, by simp only [go_sem, simprocAttr, hl], by simp only [go_sem, simprocAttr, hl], by simp only [go_sem, simprocAttr, hl, h1], by simp only [go_sem, simprocAttr, hl], by simp only [go_sem, simprocAttr, hl], by simp only [go_sem, simprocAttr, hl]⟩ ?_
  clear h0 h1 h2 h3 hl
  rintro m _ ⟨σ, i, tab', out, v, k, Hc, e, hmi, hpf, hok', hn', hol, rfl, hce, hB, hfv, hHl, hcm, hkeep, hbx, hitr, hl, h0, h1, h7, h10, h27⟩
  have hmlt := lt_of_get hm
  have htbc : Hc[tb]? = some (.cells [.map mb] 59 .rw) := hkeep tb _ (by rintro rfl; rw [hm] at htb; cases htb) htb
  by_cases hlt : i < F.length
  · obtain ⟨c, hc⟩ : ∃ c, F[i]? = some c := ⟨_, List.getElem?_eq_getElem hlt⟩
    have hs := hit i c hc
    rw [drop_at hc] at hpf hok'
    obtain ⟨H2, hH2⟩ : ∃ H2, H2 = Hc.set (H.length + 1) (.iter F (i + 1)) := ⟨_, rfl⟩
    have hset : Hc.set (H.length + 1) (.iter F (i + 1)) = H2 := hH2.symm
    have h2g : ∀ (j : Nat) (x : ABlk), j ≠ H.length + 1 → Hc[j]? = some x → H2[j]? = some x := fun j x hj hx => by rw [hH2, List.getElem?_set_ne (Ne.symm hj)]; exact hx
    have h2l : H2.length = Hc.length := by rw [hH2]; simp
    have h2i : H2[H.length + 1]? = some (.iter F (i + 1)) := by rw [hH2, List.getElem?_set_self (by omega)]
    have h2x := h2g _ _ (by omega) hbx
    have h2m := h2g _ _ (by omega) hcm
    have h2t := h2g _ _ (by have := lt_of_get htb; omega) htbc
    have hB2 : Bf mb H2 v out := hB.keep (fun j x hj hx => h2g j x (by
      rintro rfl
      obtain ⟨post, kd, hcc⟩ := hB.cells hj
      rw [hitr] at hcc; cases hcc) hx)
    have h2k : ∀ (j : Nat) (x : ABlk), j ≠ mb → H[j]? = some x → H2[j]? = some x := fun j x hj hx => h2g j x (by have := lt_of_get hx; omega) (hkeep j x hj hx)
    -- the round's end, whichever letter
    have fin : ∀ (σ' : List AV) (tab'' : Tab) (out' : List UInt8) (v' : AV) (k' : Nat) (H3 : Hp) (e3 e' : Ef), putF d F 0 tab bs = putF d (F.drop (i + 1)) k' tab'' out' → okF d (F.drop (i + 1)) k' → near tab'' → out'.length ≤ out.length + 1000 → clean mb e' → Bf mb H3 v' out' → flat v' = false → (∃ j, bk v' = some j ∧ H2.length ≤ j) →
        H2.length ≤ H3.length → H3[mb]? = some (.map (tabE tab'')) → (∀ (j : Nat) (x : ABlk), j ≠ mb → H2[j]? = some x → H3[j]? = some x) → σ'.length = 88 → fr σ' 0 = v' → fr σ' 1 = .ptr tb 0 → fr σ' 7 = .ptr H.length 0 → fr σ' 10 = .int .i64 (k' : Nat) → fr σ' 27 = .ptr (H.length + 1) 0 →
        ∃ m', m' < m ∧ (fun (m : Nat) (st : St) => ∃ σ i tab' out v k Hc e, m + i = F.length ∧ putF d F 0 tab bs = putF d (F.drop i) k tab' out ∧ okF d (F.drop i) k ∧ near tab' ∧ out.length ≤ bs.length + i * 1000 ∧ st = ⟨σ, Hc, e⟩ ∧ clean mb e ∧ Bf mb Hc v out ∧ (i = 0 ∨ (flat v = false ∧ ∃ j, bk v = some j ∧ H.length ≤ j)) ∧
      H.length + 2 ≤ Hc.length ∧ Hc[mb]? = some (.map (tabE tab')) ∧ (∀ (j : Nat) (x : ABlk), j ≠ mb → H[j]? = some x → Hc[j]? = some x) ∧ Hc[H.length]? = some (.cells d.cells 37 .rw) ∧ Hc[H.length + 1]? = some (.iter F i) ∧
      σ.length = 88 ∧ fr σ 0 = v ∧ fr σ 1 = .ptr tb 0 ∧ fr σ 7 = .ptr H.length 0 ∧ fr σ 10 = .int .i64 (k : Nat) ∧ fr σ 27 = .ptr (H.length + 1) 0) m' ⟨σ', H3, e'⟩ := by
      intro σ' tab'' out' v' k' H3 e3 e' q1 q2 q3 q4 q5 q6 q7 q8 q9 q10 q11 q12 q13 q14 q15 q16 q17
      obtain ⟨j, qj, qj'⟩ := q8
      exact ⟨m - 1, by omega, σ', i + 1, tab'', out', v', k', H3, e', by omega, q1, q2, q3, by omega, rfl, q5, q6, .inr ⟨q7, j, qj, by omega⟩, by omega, q10, fun j x hj hx => q11 j x hj (h2k j x hj hx), q11 _ _ (by omega) h2x, q11 _ _ (by omega) h2i, q12, q13, q14, q15, q16, q17⟩
    have hB2r := hB2.rd
    have hob : out.length ≤ 1048576000 := by omega
    rcases hok' with (⟨hcn, hh, hok'⟩ | ⟨hcn, hh, hok'⟩ | ⟨hcn, hh, hok'⟩) | ⟨hcn, hk5, hk6, hok'⟩ | ⟨hcn, hk5, hok'⟩
    · obtain ⟨v', H3, e3, hp, q1, q2, q3, q4, q5, q6, q7⟩ := pr_PutA H2 mb tb tab' v out d.host _ h2m h2t hB2r (labs_is hh) hob hn'
      have hpf' : putF d F 0 tab bs = putF d (F.drop (i + 1)) k (putN false (labs d.host) tab' out).2 (putN false (labs d.host) tab' out).1 := by rw [hpf, putF]; simp only [hcn]; rfl
      simp only [go_sem, simprocAttr, hl, h0, h1, h7, h10, h27, hitr, hs, hset, h2x, Dt.l1, Dt.l2, hcn, hp]
      exact fin _ _ _ v' k H3 e3 _ hpf' hok' (putN_near _ _ _ _ hn') (putN_lenA hh _ _) (by simp only [clean_andI, clean_sn, hce, q1, and_true, true_and]; omega) q3 q2 q4 q5 q6 q7 (by simp only [go_sem, simprocAttr, hl]) (by simp only [go_sem, simprocAttr, hl]) (by simp only [go_sem, simprocAttr, hl, h1]) (by simp only [go_sem, simprocAttr, hl, h7]) (by simp only [go_sem, simprocAttr, hl, h10]) (by simp only [go_sem, simprocAttr, hl, h27])
    · obtain ⟨v', H3, e3, hp, q1, q2, q3, q4, q5, q6, q7⟩ := pr_PlainA H2 mb tb tab' v out d.host _ h2m h2t hB2r (labs_is hh) hob hn'
      have hpf' : putF d F 0 tab bs = putF d (F.drop (i + 1)) k (putN true (labs d.host) tab' out).2 (putN true (labs d.host) tab' out).1 := by rw [hpf, putF]; simp only [hcn]; rfl
      simp only [go_sem, simprocAttr, hl, h0, h1, h7, h10, h27, hitr, hs, hset, h2x, Dt.l1, Dt.l2, hcn, hp]
      exact fin _ _ _ v' k H3 e3 _ hpf' hok' (putN_near _ _ _ _ hn') (putN_lenA hh _ _) (by simp only [clean_andI, clean_sn, hce, q1, and_true, true_and]; omega) q3 q2 q4 q5 q6 q7 (by simp only [go_sem, simprocAttr, hl]) (by simp only [go_sem, simprocAttr, hl]) (by simp only [go_sem, simprocAttr, hl, h1]) (by simp only [go_sem, simprocAttr, hl, h7]) (by simp only [go_sem, simprocAttr, hl, h10]) (by simp only [go_sem, simprocAttr, hl, h27])
    · obtain ⟨v', H3, e3, hp, q1, q2, q3, q4, q5, q6, q7⟩ := pr_PutA H2 mb tb tab' v out d.mail _ h2m h2t hB2r (labs_is hh) hob hn'
      have hpf' : putF d F 0 tab bs = putF d (F.drop (i + 1)) k (putN false (labs d.mail) tab' out).2 (putN false (labs d.mail) tab' out).1 := by rw [hpf, putF]; simp only [hcn]; rfl
      simp only [go_sem, simprocAttr, hl, h0, h1, h7, h10, h27, hitr, hs, hset, h2x, Dt.l1, Dt.l2, hcn, hp]
      exact fin _ _ _ v' k H3 e3 _ hpf' hok' (putN_near _ _ _ _ hn') (putN_lenA hh _ _) (by simp only [clean_andI, clean_sn, hce, q1, and_true, true_and]; omega) q3 q2 q4 q5 q6 q7 (by simp only [go_sem, simprocAttr, hl]) (by simp only [go_sem, simprocAttr, hl]) (by simp only [go_sem, simprocAttr, hl, h1]) (by simp only [go_sem, simprocAttr, hl, h7]) (by simp only [go_sem, simprocAttr, hl, h10]) (by simp only [go_sem, simprocAttr, hl, h27])
    · obtain ⟨hn0, hn1⟩ := n_wf hd hk5
      have hnx : d.n k = (((d.n k).toNat : Nat) : Int) := by omega
      obtain ⟨v', H3, hp, q2, q3, q4, q5, q6⟩ := oct16A (mb := mb) (d.n k).toNat hB2r (by omega) hob (by omega)
      have hpf' : putF d F 0 tab bs = putF d (F.drop (i + 1)) (k + 1) tab' (out ++ be16 (d.n k).toNat) := by rw [hpf, putF]; simp only [hcn]; rfl
      have hat := fun e kd => cells_n (d := d) hk5 e kd
      rw [hnx] at hat
      have wx : IntKind.u16.wrap (((d.n k).toNat : Nat) : Int) = (((d.n k).toNat : Nat) : Int) := wrap_u16 (by omega)
      have hw := wrap_succ (show k < 9223372036854775807 by omega)
      have hk5' : (k : Int) < 5 := by omega
      simp only [go_sem, simprocAttr, hl, h0, h1, h7, h10, h27, hitr, hs, hset, h2x, hcn, hp, hat, wx, hw, hk5']
      exact fin _ _ _ v' (k + 1) H3 z0 _ hpf' hok' hn' (by rw [List.length_append]; simp [be16]) (by simp only [clean_andI, clean_sn, hce, and_true, true_and]; omega) q3 q2 q4 q5 (q6 _ _ h2m) (fun j x _ hx => q6 j x hx) (by simp only [go_sem, simprocAttr, hl]) (by simp only [go_sem, simprocAttr, hl]) (by simp only [go_sem, simprocAttr, hl, h1]) (by simp only [go_sem, simprocAttr, hl, h7]) (by simp only [go_sem, simprocAttr, hl, h10, hw]) (by simp only [go_sem, simprocAttr, hl, h27])
    · obtain ⟨hn0, hn1⟩ := n_wf hd hk5
      have hnx : d.n k = (((d.n k).toNat : Nat) : Int) := by omega
      obtain ⟨v', H3, hp, q2, q3, q4, q5, q6⟩ := oct32A (mb := mb) (d.n k).toNat hB2r (by omega) hob (by omega)
      have hpf' : putF d F 0 tab bs = putF d (F.drop (i + 1)) (k + 1) tab' (out ++ be32 (d.n k).toNat) := by rw [hpf, putF]; simp only [hcn]; rfl
      have hat := fun e kd => cells_n (d := d) hk5 e kd
      rw [hnx] at hat
      have hw := wrap_succ (show k < 9223372036854775807 by omega)
      have hk5' : (k : Int) < 5 := by omega
      simp only [go_sem, simprocAttr, hl, h0, h1, h7, h10, h27, hitr, hs, hset, h2x, hcn, hp, hat, hw, hk5']
      exact fin _ _ _ v' (k + 1) H3 z0 _ hpf' hok' hn' (by rw [List.length_append]; simp [be32]) (by simp only [clean_andI, clean_sn, hce, and_true, true_and]; omega) q3 q2 q4 q5 (q6 _ _ h2m) (fun j x _ hx => q6 j x hx) (by simp only [go_sem, simprocAttr, hl]) (by simp only [go_sem, simprocAttr, hl]) (by simp only [go_sem, simprocAttr, hl, h1]) (by simp only [go_sem, simprocAttr, hl, h7]) (by simp only [go_sem, simprocAttr, hl, h10, hw]) (by simp only [go_sem, simprocAttr, hl, h27])
  · have hi : i = F.length := by omega
    subst hi
    rw [List.drop_length] at hpf
    have hpf' : putF d F 0 tab bs = (out, tab') := hpf
    have hset : Hc.set (H.length + 1) (.iter F F.length) = Hc := set_get hitr
    obtain h | ⟨hvf, hvj⟩ := hfv
    · omega
    rw [hpf']
    simp only [go_sem, simprocAttr, hl, h0, h1, h7, h10, h27, hitr, hie, hset]
    rw [leave_nfl (by simp [flat, flats, hvf])]
    refine ⟨v, Hc, _, rfl, clean_leave ?_, hB, hvj, by omega, hcm, hn', by omega, hkeep⟩
    simp only [clean_andI, clean_sn, hce, and_true, true_and]; omega
/-- Types of mere bytes. -/
theorem form_bytes {t : Int} (ht : ¬ madeT t) : ∃ c : UInt8, formS t = [c] ∧ c.toNat ≠ 104 ∧ c.toNat ≠ 112 ∧ c.toNat ≠ 109 ∧ c.toNat ≠ 115 ∧ c.toNat ≠ 108 := by
  unfold madeT at ht
  rcases kinds_cases t with rfl | rfl | rfl | rfl | rfl | rfl | rfl | rfl | rfl | h
  · exact ⟨97, rfl, by decide, by decide, by decide, by decide, by decide⟩
  · omega
  · omega
  · omega
  · omega
  · omega
  · exact ⟨120, rfl, by decide, by decide, by decide, by decide, by decide⟩
  · exact ⟨113, rfl, by decide, by decide, by decide, by decide, by decide⟩
  · omega
  · refine ⟨114, ?_, by decide, by decide, by decide, by decide, by decide⟩
    obtain ⟨h1, h2, h3, h4, h5, h6, h7, h8, h9⟩ := h
    unfold formS
    rw [if_neg h1, if_neg h2, if_neg h3, if_neg h4, if_neg h5, if_neg h6, if_neg h7, if_neg h8, if_neg h9]
/-- Bytes appended to what is full: all stays as it was. -/
theorem Bf.appF {mb : Nat} {H : Hp} {y : AV} {bs : List UInt8} (h : Bf mb H y bs) (hm : mb < H.length) (hy : y = .nils ∨ ∃ b, y = .slice b 0 bs.length (.ex bs.length)) (xs : List UInt8) (hf : fits (bs.length + xs.length) 1 = true) :
    ∃ v' T e', (∀ kk, stepK (appTo Tryd.prog (.slice 5 1 1) y (u8s xs, xs.length) H) kk = kk (v', H ++ T, e')) ∧ Bf mb (H ++ T) v' (bs ++ xs) ∧ clean mb e' ∧ e'.es = none ∧ ((v' = y ∧ T = [] ∧ xs = []) ∨ (flat v' = false ∧ ∃ j, bk v' = some j ∧ H.length ≤ j)) := by
  by_cases hx : xs = []
  · subst hx
    obtain rfl | ⟨b, rfl⟩ := hy
    · obtain ⟨_, rfl⟩ | ⟨b, c, post, k, _, hh, _⟩ := h
      · refine ⟨.nils, [], z0, fun kk => ?_, .inl ⟨rfl, rfl⟩, by simp [clean, z0, low], rfl, .inl ⟨rfl, rfl, rfl⟩⟩
        rw [appTo_nils (by decide) zok_31]
        simp [guardK_tt]
      · cases hh
    · have hB := h
      obtain ⟨hh, _⟩ | ⟨b', c, post, k, hb, hh, hg, hc⟩ := h
      · cases hh
      cases hh
      obtain ⟨n, hn, h5, h6, h7⟩ | ⟨hn, _⟩ := hc
      · cases hn
        refine ⟨.slice b 0 bs.length (.ex bs.length), [], ⟨none, some b⟩, fun kk => ?_, by simpa using hB, by simp [clean, low]; omega, rfl, .inl ⟨rfl, rfl, rfl⟩⟩
        rw [appTo_ex (by decide) zok_31]
        have hd : decide (bs.length + 0 ≤ bs.length) = true := by simp
        have hcan : canWr k bs.length = true := by
          rcases h7 with rfl | ⟨st, rfl⟩
          · rfl
          · simp [canWr]
        have hw : wr H b (0 + bs.length * 1) (u8s []) = some (H, ⟨none, some b⟩) := by
          unfold wr
          rw [hg]
          simp only [Nat.zero_add, Nat.mul_one]
          have hs : splice (u8s bs ++ post) bs.length (u8s []) = u8s bs ++ post := by have := splice_end (bs := bs) (xs := []) (post := post) (by simp); simpa using this
          rw [if_pos ⟨by rw [List.length_append, u8s_len, u8s_len]; simp, hcan, u8s_scal⟩, hs, set_get hg]
          rfl
        simp only [List.length_nil, hd, guardK_tt, hw, bindK_some]
        simp
      · cases hn
  · have hp : 0 < xs.length := List.length_pos_iff.2 hx
    have hF : RdF H y bs := by
      obtain ⟨rfl, rfl⟩ | ⟨b', c, post, k, hb, rfl, hg, hc⟩ := h
      · exact .inl ⟨rfl, rfl⟩
      · obtain hy | ⟨b, hy⟩ := hy
        · cases hy
        · cases hy
          exact .inr ⟨b', 0, [], post, _, k, rfl, rfl, hg⟩
    refine ⟨.slice H.length 0 (bs.length + xs.length) (.op 0), [.cells (u8s (bs ++ xs)) 5 (.op 0 false)], z0, fun kk => ?_, .inr ⟨H.length, .op 0, [], .op 0 false, hm, by simp, by simp, .inr ⟨rfl, rfl, false, rfl⟩⟩, by simp [clean, z0, low], rfl, .inr ⟨rfl, _, rfl, Nat.le_refl _⟩⟩
    have := hF.app (u8s xs) xs.length hp (u8s_len) hf [] kk
    simpa [u8s_app] using this
theorem rdata_PutR (t : Int) (d : Dt) (H : Hp) (mb tb : Nat) (tab : Tab) (bv : AV) (bs : List UInt8) (ht : ¬ madeT t) (hk : Tk H) (hd : d.wf) (hgd : goodB t d = true) (hm : mb < H.length)
    (hv : Bf mb H bv bs) (hb : bs.length ≤ 104857600) :
    callK Tryd.prog 10 [bv, .ptr tb 0, .int .u16 t, .agg d.cells] H (fun r => ∃ v T e, r = (.tuple [v, .int .i64 0], H ++ T, e) ∧ clean mb e ∧ Bf mb (H ++ T) v (bs ++ d.raw) ∧ (bk v = bk bv ∨ ∃ j, bk v = some j ∧ H.length ≤ j)) := by
  obtain ⟨c, hF, n1, n2, n3, n4, n5⟩ := form_bytes ht
  have hfa := form_ascii (t := t)
  have hck := fun l k => rdata_Check t d (H ++ l) k (hk.old l) hd
  rw [show chk t d = 0 from if_pos hgd] at hck
  have hfm := fun l k => rdata_form t (H ++ l) k (hk.old l)
  rw [hF] at hfm hfa
  obtain ⟨y, hy, hyB, hyb, hye⟩ := hv.full
  have hln := fun H' => hv.rd.v.len H'
  refine callK_start (n := 88) (rs := [.tmp 8, .tmp 9]) Tryd.func10 rfl rfl rfl ?_
  intro σ hl ha
  have h0 := ha 0 (by simp)
  have h1 := ha 1 (by simp)
  have h2 := ha 2 (by simp)
  have h3 := ha 3 (by simp)
  clear ha
  simp only [Option.getD_some, List.getElem?_cons_zero, List.getElem?_cons_succ] at h0 h1 h2 h3
  have i0 : strIter [c] 0 = (.tuple [.bool true, .int .i64 0, .int .i32 c.toNat], 1) := by rw [strIter_a hfa]; rfl
  have i1 : strIter [c] 1 = (.tuple [.bool false], 1) := by rw [strIter_a hfa]; rfl
  have e1 : ((c.toNat : Int) == 104) = false := by simp; omega
  have e2 : ((c.toNat : Int) == 112) = false := by simp; omega
  have e3 : ((c.toNat : Int) == 109) = false := by simp; omega
  have e4 : ((c.toNat : Int) == 115) = false := by simp; omega
  have e5 : ((c.toNat : Int) == 108) = false := by simp; omega
  have hraw := hd.raw
  obtain ⟨v', T, e', hap, hB', hce, hes, hcase⟩ := (hyB.keep (H' := H ++ [.cells d.cells 37 .rw, .iter [c] 1]) (fun i x _ hx => get_app hx)).appF (by simp; omega) hye d.raw (by simp only [fits, decide_eq_true_eq]; omega)
  have hap' : ∀ kk, stepK (appTo Tryd.prog (.slice 5 1 1) y (List.map (fun b => AV.int .u8 (b.toNat : Int)) d.raw, d.raw.length) (H ++ [.cells d.cells 37 .rw, .iter [c] 1])) kk = kk (v', (H ++ [.cells d.cells 37 .rw, .iter [c] 1]) ++ T, e') := hap
  simp only [List.append_assoc, List.cons_append, List.nil_append] at hap' hB' 
  simp only [go_sem, simprocAttr, hl, h0, h1, h2, h3, hck, hfm, hy, hln, Dt.vc, Dt.l8]
  rw [go_loop]
  simp only [go_sem, simprocAttr, hl, h0, h1, h2, h3, i0, i1, e1, e2, e3, e4, e5, Dt.l0, hap']
  rw [go_loop]
  simp only [go_sem, simprocAttr, hl, h0, h1, h2, h3, i0, i1, e1, e2, e3, e4, e5, Dt.l0, hap']
  have hcl : clean mb ((Ef.and ⟨none, some (H.length + 1)⟩ e').and ⟨none, some (H.length + 1)⟩) := by
    simp only [clean_andI, clean_sn, hce, and_true, true_and]; omega
  rcases hcase with ⟨rfl, rfl, hr⟩ | ⟨hvf, j, hj, hjl⟩
  · rcases hye with rfl | ⟨b, rfl⟩
    · have hes' : ((Ef.and ⟨none, some (H.length + 1)⟩ e').and ⟨none, some (H.length + 1)⟩).es = none := by simp [Ef.and, hes, omin]
      refine ⟨.nils, [], ⟨low H.length ((Ef.and ⟨none, some (H.length + 1)⟩ e').and ⟨none, some (H.length + 1)⟩).es, low H.length ((Ef.and ⟨none, some (H.length + 1)⟩ e').and ⟨none, some (H.length + 1)⟩).ws⟩, ?_, clean_leave hcl, ?_, .inl hyb⟩
      · unfold leave
        rw [if_pos ⟨by simp [flat, flats], by rw [hes']; rfl⟩, List.take_left, List.append_nil]
      · rw [hr, List.append_nil, List.append_nil]; exact hyB
    · refine ⟨_, _, _, leave_nfl (by simp [flat, flats]), clean_leave hcl, hB', .inl hyb⟩
  · refine ⟨_, _, _, leave_nfl (by simp [flat, flats, hvf]), clean_leave hcl, hB', .inr ⟨j, hj, ?_⟩⟩
    simp at hjl; omega
/-- What is refused. -/
theorem rdata_PutN (t : Int) (d : Dt) (H : Hp) (tb : Nat) (bv : AV) (k) (hk : Tk H) (hd : d.wf) (hgd : goodB t d = false) :
    callK Tryd.prog 10 [bv, .ptr tb 0, .int .u16 t, .agg d.cells] H k = k (.tuple [.nils, .int .i64 40], H, z0) := by
  have hck := fun l k => rdata_Check t d (H ++ l) k (hk.old l) hd
  rw [show chk t d = 40 from if_neg (by rw [hgd]; simp)] at hck
  refine callK_eq (r := (.tuple [.nils, .int .i64 40], H, z0)) ?_ k
  refine callK_start (n := 88) (rs := [.tmp 8, .tmp 9]) Tryd.func10 rfl rfl rfl ?_
  intro σ hl ha
  have h0 := ha 0 (by simp)
  have h1 := ha 1 (by simp)
  have h2 := ha 2 (by simp)
  have h3 := ha 3 (by simp)
  clear ha
  simp only [Option.getD_some, List.getElem?_cons_zero, List.getElem?_cons_succ] at h0 h1 h2 h3
  simp only [go_sem, simprocAttr, hl, h0, h1, h2, h3, hck, Dt.vc, Dt.l8]
end Go.Proofs.YtgkpgpdkolpfkaaDoor.V
namespace Go.Proofs.YtgkpgpdkolpfkaaDoor.V
open Go
set_option linter.unusedSimpArgs false
set_option linter.unusedVariables false

/-- A row that append made, at or behind a place. -/
def Og (n : Nat) (e : TypeId) (H : Hp) (v : AV) (cs : List AV) : Prop := (v = .nils ∧ cs = []) ∨ ∃ b, n ≤ b ∧ v = .slice b 0 cs.length (.op 0) ∧ H[b]? = some (.cells cs e (.op 0 false)) ∧ cs ≠ []
theorem Og.keep {n : Nat} {e : TypeId} {H H' : Hp} {v : AV} {cs : List AV} (h : Og n e H v cs) (hk : ∀ (i : Nat) (x : ABlk), bk v = some i → H[i]? = some x → H'[i]? = some x) : Og n e H' v cs := by
  obtain h | ⟨b, h1, rfl, h3, h4⟩ := h
  · exact .inl h
  · exact .inr ⟨b, h1, rfl, hk b _ rfl h3, h4⟩
theorem Og.cells {n : Nat} {e : TypeId} {H : Hp} {v : AV} {cs : List AV} (h : Og n e H v cs) {i : Nat} (hi : bk v = some i) : n ≤ i ∧ H[i]? = some (.cells cs e (.op 0 false)) := by
  obtain ⟨rfl, _⟩ | ⟨b, h1, rfl, h3, h4⟩ := h
  · cases hi
  · cases hi; exact ⟨h1, h3⟩
theorem Og.scl {n : Nat} {e : TypeId} {H : Hp} {v : AV} {cs : List AV} (h : Og n e H v cs) : scal v = true := by
  obtain ⟨rfl, _⟩ | ⟨b, h1, rfl, h3, h4⟩ := h <;> rfl
theorem Og.vc {n : Nat} {e : TypeId} {H : Hp} {v : AV} {cs : List AV} (h : Og n e H v cs) : vcells v = [v] := by
  obtain ⟨rfl, _⟩ | ⟨b, h1, rfl, h3, h4⟩ := h <;> rfl
theorem Og.appd {n : Nat} {e : TypeId} {H : Hp} {v : AV} {cs : List AV} (h : Og n e H v cs) : appended H 1 v = some (cs, cs.length) := by
  obtain ⟨rfl, rfl⟩ | ⟨b, h1, rfl, h3, h4⟩ := h
  · rfl
  · have hr : V.rd H b 0 (cs.length * 1) = some cs := by
      unfold V.rd
      rw [h3]
      simp
    simp only [appended, hr, Option.map_some]
theorem Og.len {n : Nat} {e t w : Nat} {H : Hp} {v : AV} {cs : List AV} (h : Og n e H v cs) (ht : tsh Tryd.prog t = some (.slice e 1 w)) (H' : Hp) : evLen Tryd.prog t v H' = some (.int .i64 cs.length) := by
  obtain ⟨rfl, rfl⟩ | ⟨b, h1, rfl, h3, h4⟩ := h <;> simp only [evLen, ht] <;> rfl
theorem Og.at {n : Nat} {e t w : Nat} {H : Hp} {v : AV} {cs : List AV} (h : Og n e H v cs) (ht : tsh Tryd.prog t = some (.slice e 1 w)) {i : Nat} {x : AV} (hx : cs[i]? = some x) :
    ∃ b, evIndexAddr Tryd.prog t v (.int .i64 (i : Nat)) = some (.ptr b i) ∧ H[b]? = some (.cells cs e (.op 0 false)) ∧ ∀ (e' : TypeId) (k : Kd), ldC i 1 false (.cells cs e' k) = some x := by
  have hi := (List.getElem?_eq_some_iff.1 hx).1
  obtain ⟨rfl, rfl⟩ | ⟨b, h1, rfl, h3, h4⟩ := h
  · simp at hi
  · refine ⟨b, ?_, h3, fun e' k => by rw [ldC_f]; exact hx⟩
    simp only [evIndexAddr, ht]
    rw [if_pos (by omega)]
    simp
/-- Elements appended. -/
theorem Og.app {n : Nat} {e w : Nat} {H : Hp} {v : AV} {cs : List AV} (h : Og n e H v cs) (hn : n ≤ H.length) (zk : zok Tryd.prog e 1 = true) (xs : List AV) (hsc : xs.all scal = true) (hf : fits (cs.length + xs.length) w = true) :
    ∃ (v' : AV) (H' : Hp) (e' : Ef), (∀ kk, stepK (appTo Tryd.prog (.slice e 1 w) v (xs, xs.length) H) kk = kk (v', H', e')) ∧ Og n e H' v' (cs ++ xs) ∧ H.length ≤ H'.length ∧
      (∀ (i : Nat) (x : ABlk), bk v ≠ some i → H[i]? = some x → H'[i]? = some x) ∧ clean n e' ∧ (bk v' = bk v ∨ ∃ j, bk v' = some j ∧ H.length ≤ j) ∧ (xs ≠ [] → flat v' = false) ∧ (xs = [] → v' = v ∧ H' = H) := by
  obtain ⟨rfl, rfl⟩ | ⟨b, hb, rfl, hg, hne⟩ := h
  · by_cases hx : xs = []
    · subst hx
      refine ⟨.nils, H, z0, fun kk => ?_, .inl ⟨rfl, rfl⟩, Nat.le_refl _, fun i x _ hx => hx, by simp [clean, z0, low], .inl rfl, fun h => absurd rfl h, fun _ => ⟨rfl, rfl⟩⟩
      rw [appTo_nils (by decide) zk]
      simp [guardK_tt]
    · have hp : 0 < xs.length := List.length_pos_iff.2 hx
      refine ⟨.slice H.length 0 xs.length (.op 0), H ++ [.cells xs e (.op 0 false)], z0, fun kk => ?_, .inr ⟨H.length, hn, by simp, by simp, by simpa using hx⟩, by simp, fun i x _ hx => get_app hx, by simp [clean, z0, low], .inr ⟨_, rfl, Nat.le_refl _⟩, fun _ => rfl, fun h => absurd h hx⟩
      rw [appTo_nils (by decide) zk]
      have hd : decide (xs.length = 0) = false := by simp; exact hx
      have hf : fits xs.length w = true := by simpa using hf
      simp only [hd, guardK_ft, hf, true_and]
  · have hlt := lt_of_get hg
    by_cases hx : xs = []
    · subst hx
      refine ⟨.slice b 0 cs.length (.op 0), H, ⟨none, some b⟩, fun kk => ?_, .inr ⟨b, hb, by simp, by simpa using hg, by simpa using hne⟩, Nat.le_refl _, fun i x _ hx => hx, by simp [clean, low]; omega, .inl rfl, fun h => absurd rfl h, fun _ => ⟨rfl, rfl⟩⟩
      rw [appTo_op (by decide) zk, hg, bindK_some, appO_c]
      have hd : decide (0 + (cs.length + 0) * 1 ≤ cs.length) = true := by simp
      have hw : wr H b (0 + cs.length * 1) [] = some (H, ⟨none, some b⟩) := by
        unfold wr
        rw [hg]
        simp only [Nat.zero_add, Nat.mul_one]
        have hs : splice cs cs.length [] = cs := by simp [splice]
        rw [if_pos ⟨by simp, by simp [canWr], by simp⟩, hs, set_get hg]
        rfl
      simp only [List.length_nil, hd, guardK_tt, hw, bindK_some]
      simp
    · have hp : 0 < xs.length := List.length_pos_iff.2 hx
      refine ⟨.slice H.length 0 (cs.length + xs.length) (.op 0), H.set b .dead ++ [.cells (cs ++ xs) e (.op 0 false)], ⟨none, some b⟩, fun kk => ?_, .inr ⟨H.length, hn, by simp, by rw [List.getElem?_append_right (by simp)]; simp, by simp [hne]⟩, by simp,
        fun i x hi hx => get_app (by rw [List.getElem?_set_ne (by rintro rfl; exact hi rfl)]; exact hx), by simp [clean, low]; omega, .inr ⟨_, rfl, Nat.le_refl _⟩, fun _ => rfl, fun h => absurd h hx⟩
      rw [appTo_op (by decide) zk, hg, bindK_some, appO_c]
      have hd : decide (cs.length + xs.length ≤ cs.length) = false := by simp; omega
      have hk : (cs.drop 0).take cs.length ++ xs = cs ++ xs := by simp
      simp only [Nat.zero_add, Nat.mul_one, hd, guardK_ft, hk, hf, hsc]
      simp
attribute [local irreducible] go goOps goD opK callK callT stepK leaveTo nextK

/-! ### the document's table -/
def namC (t : Tab) : List AV := t.map fun x => .str x.1
def plcC (t : Tab) : List AV := t.map fun x => .int .i64 (x.2 : Nat)
/-- The document's table, as it lies. -/
def RT (H : Hp) (rb : Nat) (t : Tab) : Prop := ∃ nv pv, H[rb]? = some (.cells [nv, pv] 30 .rw) ∧ Og (rb + 1) 33 H nv (namC t) ∧ Og (rb + 1) 3 H pv (plcC t)
/-- What find comes to. -/
def fnd (t : Tab) (s : List UInt8) : Int := match tget t s with
  | some p => (p : Int)
  | none => -1
end Go.Proofs.YtgkpgpdkolpfkaaDoor.V
namespace Go.Proofs.YtgkpgpdkolpfkaaDoor.V
open Go
set_option linter.unusedSimpArgs false
set_option linter.unusedVariables false
/-- What the document's table leaves alone: all that is no row of names or of places. -/
def frz : ABlk → Bool
  | .cells _ e (.op _ _) => e == 5
  | _ => true
theorem clean_mono {n m : Nat} {e : Ef} (h : clean m e) (hn : n ≤ m) : clean n e := by
  have hh : ∀ x : Option Nat, low m x = none → low n x = none := by
    intro x hx
    cases x with
    | none => rfl
    | some y => rw [low_sI] at hx ⊢; omega
  exact ⟨hh _ h.1, hh _ h.2⟩
attribute [local irreducible] go goOps goD opK callK callT stepK leaveTo nextK
/-- A name's letters up to its end. -/
def gl0 (L : List (List UInt8)) : List UInt8 := L.flatMap lb
end Go.Proofs.YtgkpgpdkolpfkaaDoor.V
namespace Go.Proofs.YtgkpgpdkolpfkaaDoor.V
open Go
set_option linter.unusedSimpArgs false
set_option linter.unusedVariables false

/-! ### plainly -/
/-- What the document's put comes to: the bytes, and what is to be remembered. -/
def refN (plain : Bool) (tab : Tab) : List (List UInt8) → Tab → List UInt8 → List UInt8 × Tab
  | [], new, out => (out ++ [0], new)
  | l :: L, new, out =>
    match tget tab (glue (l :: L)) with
    | some p => if plain = true then refN plain tab L new (out ++ lb l) else (out ++ be16 (49152 + p), new)
    | none => refN plain tab L (if out.length ≤ 16383 then new ++ [(glue (l :: L), out.length)] else new) (out ++ lb l)
/-! ### what lies where -/
theorem Og.other {n n' : Nat} {e e' : TypeId} {H : Hp} {v v' : AV} {cs cs' : List AV} (h : Og n e H v cs) (h' : Og n' e' H v' cs') (hne : e ≠ e') {i : Nat} (hi : bk v = some i) : bk v' ≠ some i := by
  intro hh
  have h1 := (h.cells hi).2
  have h2 := (h'.cells hh).2
  rw [h1] at h2
  simp only [Option.some.injEq, ABlk.cells.injEq] at h2
  exact hne h2.2.1
theorem RT.old {H H' : Hp} {rb : Nat} {t : Tab} (h : RT H rb t) (hk : ∀ (i : Nat) (x : ABlk), H[i]? = some x → H'[i]? = some x) : RT H' rb t := by
  obtain ⟨nv, pv, h1, h2, h3⟩ := h
  exact ⟨nv, pv, hk _ _ h1, h2.keep (fun i x _ hx => hk i x hx), h3.keep (fun i x _ hx => hk i x hx)⟩
/-- The rows that the document's put makes. -/
structure Rw (H : Hp) (L : List (List UInt8)) (lk : Nat) (Hc : Hp) (nv pv ov : AV) (N P O : List AV) : Prop where
  le : H.length ≤ Hc.length
  N : Og H.length 33 Hc nv N
  P : Og H.length 3 Hc pv P
  O : Og H.length 5 Hc ov O
  lab : L ≠ [] → Hc[lk]? = some (.cells (strs L) 9 (.op 0 false))
  old : ∀ (i : Nat) (x : ABlk), H[i]? = some x → Hc[i]? = some x
section
variable {H Hc : Hp} {L : List (List UInt8)} {lk : Nat} {nv pv ov : AV} {N P O : List AV}
theorem Rw.more (h : Rw H L lk Hc nv pv ov N P O) (l : Hp) : Rw H L lk (Hc ++ l) nv pv ov N P O where
  le := by have := h.le; simp; omega
  N := h.N.keep (fun i x _ hx => get_app hx)
  P := h.P.keep (fun i x _ hx => get_app hx)
  O := h.O.keep (fun i x _ hx => get_app hx)
  lab := fun hL => get_app (h.lab hL)
  old := fun i x hx => get_app (h.old i x hx)
theorem Rw.appO (h : Rw H L lk Hc nv pv ov N P O) (xs : List AV) (hsc : xs.all scal = true) (hf : fits (O.length + xs.length) 1 = true) :
    ∃ (v' : AV) (H' : Hp) (e' : Ef), (∀ kk, stepK (appTo Tryd.prog (.slice 5 1 1) ov (xs, xs.length) Hc) kk = kk (v', H', e')) ∧ Rw H L lk H' nv pv v' N P (O ++ xs) ∧ clean H.length e' ∧ (xs ≠ [] → flat v' = false) := by
  obtain ⟨v', H', e', h1, h2, h3, h4, h5, _, h7, _⟩ := h.O.app (w := 1) h.le zok_31 xs hsc hf
  refine ⟨v', H', e', h1, ⟨by have := h.le; omega, h.N.keep (fun i x hi hx => h4 i x (h.N.other h.O (by decide) hi) hx), h.P.keep (fun i x hi hx => h4 i x (h.P.other h.O (by decide) hi) hx), h2, fun hL => h4 _ _ (fun hh => ?_) (h.lab hL), fun i x hx => h4 i x (fun hh => ?_) (h.old i x hx)⟩, h5, h7⟩
  · have := (h.O.cells hh).2
    rw [h.lab hL] at this
    simp only [Option.some.injEq, ABlk.cells.injEq] at this
    exact absurd this.2.1 (by decide)
  · have := (h.O.cells hh).1
    have := lt_of_get hx
    omega
end
end Go.Proofs.YtgkpgpdkolpfkaaDoor.V
namespace Go.Proofs.YtgkpgpdkolpfkaaDoor.V
open Go
set_option linter.unusedSimpArgs false
set_option linter.unusedVariables false
theorem Og.mono {n m : Nat} {e : TypeId} {H : Hp} {v : AV} {cs : List AV} (h : Og n e H v cs) (hm : m ≤ n) : Og m e H v cs := by
  obtain h | ⟨b, h1, h2⟩ := h
  · exact .inl h
  · exact .inr ⟨b, by omega, h2⟩
theorem bsliceI (n : Int) (H : Hp) : evBuildSlice Tryd.prog 28 1 [(0, .int .i64 n)] H = some (.slice H.length 0 1 (.ex 1), H ++ [.cells [.int .i64 n] 3 .rw]) := by
  simp only [evBuildSlice, tsh_28, tzero_3, Option.bind_some]
  rfl
theorem RT.app {H H' : Hp} {rb n : Nat} {t : Tab} {ov : AV} {O : List AV} (h : RT H rb t) (hO : Og n 5 H ov O) (hn : rb < n) (hk : ∀ (i : Nat) (x : ABlk), bk ov ≠ some i → H[i]? = some x → H'[i]? = some x) : RT H' rb t := by
  obtain ⟨nv, pv, h1, h2, h3⟩ := h
  refine ⟨nv, pv, hk _ _ (fun hh => ?_) h1, h2.keep (fun i x hi hx => hk i x (h2.other hO (by decide) hi) hx), h3.keep (fun i x hi hx => hk i x (h3.other hO (by decide) hi) hx)⟩
  have := (hO.cells hh).1
  omega
attribute [local irreducible] go goOps goD opK callK callT stepK leaveTo nextK
end Go.Proofs.YtgkpgpdkolpfkaaDoor.V
namespace Go.Proofs.YtgkpgpdkolpfkaaDoor.V
open Go
set_option linter.unusedSimpArgs false
set_option linter.unusedVariables false
/-- The last bytes of a number. -/
def beR : Nat → Nat → List UInt8
  | 0, _ => []
  | m + 1, v => byt v (8 * m) :: beR m v
attribute [local irreducible] go goOps goD opK callK callT stepK leaveTo nextK
end Go.Proofs.YtgkpgpdkolpfkaaDoor.V
namespace Go.Proofs.YtgkpgpdkolpfkaaDoor.V
open Go
set_option linter.unusedSimpArgs false
set_option linter.unusedVariables false
theorem Og.rd {n : Nat} {H : Hp} {v : AV} {bs : List UInt8} (h : Og n 5 H v (u8s bs)) : Rd H v bs := by
  obtain ⟨rfl, h2⟩ | ⟨b, h1, rfl, h3, h4⟩ := h
  · exact .inl ⟨rfl, by simpa [u8s] using h2⟩
  · exact .inr ⟨b, 0, _, [], [], _, _, by rw [u8s_len], rfl, by simpa using h3, .inr ⟨rfl, rfl, 0, false, rfl⟩⟩
theorem und_Rp : Tryd.prog.underlying 26 = some (.pointer 30) := by kernel_rfl
theorem eqRp {b o : Nat} {c : Bool} : binV Tryd.prog .eql 26 (.ptr b o) .nilp c = some (.bool false) := by simp [binV, evBin, evEq, und_Rp]
attribute [go_sem] eqRp
theorem nextZ_t {P : Program} {ops : List Oper} {l : List Oper} {H : Hp} {e : Ef} {K : St → List Nat → Prop} {dst : Option Tmp} {i : Nat} {v : AV} {σ : List AV} {H' : Hp} {e' : Ef} (h : quiet (v, H', e') H = true) : nextZ P ops K l σ H e i dst (v, H', e') = goZ P ops K (i + 1) l ⟨put σ dst v, H', e.and e'⟩ := by
  unfold nextZ
  refine goZ_K ?_
  funext s es
  simp only [h, if_true]
attribute [local irreducible] go goOps goD opK callK callT stepK leaveTo nextK
end Go.Proofs.YtgkpgpdkolpfkaaDoor.V
namespace Go.Proofs.YtgkpgpdkolpfkaaDoor.V
open Go
set_option linter.unusedSimpArgs false
set_option linter.unusedVariables false
/-- Data of a type behind so many bytes. -/
structure Itm where
  skip : Int
  ty : Int
  d : Dt
def Itm.cells (x : Itm) : List AV := .int .i64 x.skip :: .int .u16 x.ty :: x.d.cells
def itsC (R : List Itm) : List AV := R.flatMap Itm.cells
theorem Itm.len (x : Itm) : x.cells.length = 10 := rfl
theorem itsC_len : ∀ R : List Itm, (itsC R).length = R.length * 10
  | [] => rfl
  | x :: R => by
    have := itsC_len R
    unfold itsC at this ⊢
    rw [List.flatMap_cons, List.length_append, Itm.len, this, List.length_cons]; omega
theorem itsC_at : ∀ {R : List Itm} {i : Nat} {x : Itm}, R[i]? = some x → (itsC R).drop (i * 10) = x.cells ++ itsC (R.drop (i + 1))
  | y :: R, 0, x, h => by
    simp only [List.getElem?_cons_zero, Option.some.injEq] at h
    subst h
    simp [itsC]
  | y :: R, i + 1, x, h => by
    have h' : R[i]? = some x := by simpa using h
    have ih := itsC_at h'
    rw [show (i + 1) * 10 = 10 + i * 10 by omega, ← List.drop_drop]
    have : (itsC (y :: R)).drop 10 = itsC R := by
      unfold itsC
      rw [List.flatMap_cons, show (10 : Nat) = y.cells.length from rfl, List.drop_left]
    rw [this, ih]; rfl
theorem its_ld {R : List Itm} {i : Nat} {x : Itm} (h : R[i]? = some x) (e : TypeId) (k : Kd) :
    ldC (i * 10) 1 false (.cells (itsC R) e k) = some (.int .i64 x.skip) ∧ ldC (i * 10 + 1) 1 false (.cells (itsC R) e k) = some (.int .u16 x.ty) ∧ ldC (i * 10 + 2) 8 true (.cells (itsC R) e k) = some (.agg x.d.cells) := by
  have hd := itsC_at h
  have hat : ∀ j, (itsC R)[i * 10 + j]? = (x.cells ++ itsC (R.drop (i + 1)))[j]? := fun j => by rw [← hd, List.getElem?_drop]
  refine ⟨?_, ?_, ?_⟩
  · rw [ldC_f]; have := hat 0; rw [Nat.add_zero] at this; rw [this]; rfl
  · rw [ldC_f, hat 1]; rfl
  · have hl : i < R.length := (List.getElem?_eq_some_iff.1 h).1
    have hlen := itsC_len R
    have e1 : ((itsC R).drop (i * 10 + 2)).take 8 = x.d.cells := by
      rw [← List.drop_drop, hd]; rfl
    rw [ldC_t, if_pos (by rw [hlen]; omega), e1]
theorem RT.bf {H H' : Hp} {rb mb : Nat} {t : Tab} {v : AV} {A : List UInt8} (h : RT H rb t) (hO : Bf mb H v A) (hk : ∀ (i : Nat) (x : ABlk), bk v ≠ some i → H[i]? = some x → H'[i]? = some x) : RT H' rb t := by
  have hne : ∀ i, bk v = some i → ∀ cs e k, H[i]? = some (.cells cs e k) → e = 5 := by
    intro i hi cs e k hh
    obtain ⟨post, kd, hc⟩ := hO.cells hi
    rw [hh] at hc; cases hc; rfl
  obtain ⟨nv, pv, h1, h2, h3⟩ := h
  refine ⟨nv, pv, hk _ _ (fun hh => absurd (hne _ hh _ _ _ h1) (by decide)) h1, h2.keep (fun i x hi hx => hk i x (fun hh => absurd (hne _ hh _ _ _ (h2.cells hi).2) (by decide)) hx), h3.keep (fun i x hi hx => hk i x (fun hh => absurd (hne _ hh _ _ _ (h3.cells hi).2) (by decide)) hx)⟩
theorem RT.km {H H' : Hp} {rb mb : Nat} {t : Tab} {es : List (AV × AV)} (h : RT H rb t) (hm : H[mb]? = some (.map es)) (hk : ∀ (i : Nat) (x : ABlk), i ≠ mb → H[i]? = some x → H'[i]? = some x) : RT H' rb t := by
  have hne : ∀ i cs e k, H[i]? = some (.cells cs e k) → i ≠ mb := by
    rintro i cs e k hh rfl; rw [hm] at hh; cases hh
  obtain ⟨nv, pv, h1, h2, h3⟩ := h
  exact ⟨nv, pv, hk _ _ (hne _ _ _ _ h1) h1, h2.keep (fun i x hi hx => hk i x (hne _ _ _ _ (h2.cells hi).2) hx), h3.keep (fun i x hi hx => hk i x (hne _ _ _ _ (h3.cells hi).2) hx)⟩
theorem Og.bf {n mb : Nat} {H : Hp} {v : AV} {bs : List UInt8} (h : Og n 5 H v (u8s bs)) (hm : mb < n) : Bf mb H v bs := by
  obtain ⟨rfl, h2⟩ | ⟨b, h1, rfl, h3, h4⟩ := h
  · exact .inl ⟨rfl, by simpa [u8s] using h2⟩
  · exact .inr ⟨b, .op 0, [], .op 0 false, by omega, by rw [u8s_len], by simpa using h3, .inr ⟨rfl, rfl, false, rfl⟩⟩
theorem leave_abs {H Hc : Hp} {v : AV} {e : Ef} (hv : flat v = true) (he : clean H.length e) (hk : ∀ (i : Nat) (x : ABlk), H[i]? = some x → Hc[i]? = some x) : leave H.length v Hc e = (v, H, z0) := by
  have ht : Hc.take H.length = H := by
    apply List.ext_getElem?
    intro i
    by_cases hi : i < H.length
    · rw [List.getElem?_take_of_lt hi]
      have := List.getElem?_eq_getElem hi
      rw [this]; exact hk i _ this
    · rw [List.getElem?_eq_none (by rw [List.length_take]; omega), List.getElem?_eq_none (by omega)]
  unfold leave
  rw [if_pos ⟨hv, he.1⟩, ht, he.1, he.2]
  rfl
theorem Tk.old' {H H' : Hp} (h : Tk H) (hk : ∀ (i : Nat) (x : ABlk), H[i]? = some x → H'[i]? = some x) : Tk H' := by
  obtain ⟨e, k, h⟩ := h; exact ⟨e, k, hk _ _ h⟩
theorem Tb.old' {H H' : Hp} (h : Tb H) (hk : ∀ (i : Nat) (x : ABlk), H[i]? = some x → H'[i]? = some x) : Tb H' := by
  obtain ⟨e, k, h⟩ := h; exact ⟨e, k, hk _ _ h⟩
theorem Db.old' {H H' : Hp} (h : Db H) (hk : ∀ (i : Nat) (x : ABlk), H[i]? = some x → H'[i]? = some x) : Db H' := by
  obtain ⟨e, k, h⟩ := h; exact ⟨e, k, hk _ _ h⟩
/-- What the law's loop holds. -/
structure Lw (H : Hp) (Hc : Hp) (av bv : AV) (A : List UInt8) (tab : Tab) : Prop where
  m : Hc[H.length]? = some (.map (tabE tab))
  t : Hc[H.length + 1]? = some (.cells [.map H.length] 59 .rw)
  r : RT Hc (H.length + 2) tab
  a : Bf H.length Hc av A
  b : Bf H.length Hc bv A
  d : ∀ i, bk av = some i → bk bv ≠ some i
  old : ∀ (i : Nat) (x : ABlk), H[i]? = some x → Hc[i]? = some x
  n : near tab

theorem putF_bytes {t : Int} (hm : ¬ madeT t) (d : Dt) (tab : Tab) (bs : List UInt8) : putF d (formS t) 0 tab bs = (bs ++ d.raw, tab) := by
  obtain ⟨c, hF, m1, m2, m3, m4, m5⟩ := form_bytes hm
  rw [hF, putF]; simp only [m1, m2, m3, m4, m5, if_false]; rfl
/-- The program's Put, of whatever may be. -/
theorem rdata_PutG (t : Int) (d : Dt) (H : Hp) (mb tb : Nat) (tab : Tab) (bv : AV) (bs : List UInt8) (hk : Tk H) (hd : d.wf) (hgd : goodB t d = true) (hm : H[mb]? = some (.map (tabE tab))) (htb : H[tb]? = some (.cells [.map mb] 59 .rw))
    (hv : Bf mb H bv bs) (hb : bs.length ≤ 90000000) (hn : near tab) :
    ∃ (v : AV) (H' : Hp) (e : Ef), (∀ k, callK Tryd.prog 10 [bv, .ptr tb 0, .int .u16 t, .agg d.cells] H k = k (.tuple [v, .int .i64 0], H', e)) ∧ clean mb e ∧ Bf mb H' v (putF d (formS t) 0 tab bs).1 ∧ (bk v = bk bv ∨ ∃ j, bk v = some j ∧ H.length ≤ j) ∧
      H.length ≤ H'.length ∧ H'[mb]? = some (.map (tabE (putF d (formS t) 0 tab bs).2)) ∧ near (putF d (formS t) 0 tab bs).2 ∧ (putF d (formS t) 0 tab bs).1.length ≤ bs.length + 1100000 ∧ (∀ (i : Nat) (x : ABlk), i ≠ mb → H[i]? = some x → H'[i]? = some x) := by
  by_cases hmd : madeT t
  · obtain ⟨⟨v, H', e⟩, ⟨h1, h2, h3, h4, h5, h6, h7, h8⟩, hk⟩ := callK_exP (α := AV × Hp × Ef) (fun b => clean mb b.2.2 ∧ Bf mb b.2.1 b.1 (putF d (formS t) 0 tab bs).1 ∧ (∃ j, bk b.1 = some j ∧ H.length ≤ j) ∧ H.length ≤ b.2.1.length ∧ b.2.1[mb]? = some (.map (tabE (putF d (formS t) 0 tab bs).2)) ∧ near (putF d (formS t) 0 tab bs).2 ∧ (putF d (formS t) 0 tab bs).1.length ≤ bs.length + 7000 ∧ (∀ (i : Nat) (x : ABlk), i ≠ mb → H[i]? = some x → b.2.1[i]? = some x)) (fun b => (.tuple [b.1, .int .i64 0], b.2.1, b.2.2))
      (callK_mono (rdata_PutM t d H mb tb tab bv bs hmd hk hd hgd hm htb hv (by omega) hn) (fun r ⟨v, H', e, q1, q2, q3, q4, q5, q6, q7, q8, q9⟩ => ⟨(v, H', e), ⟨q2, q3, q4, q5, q6, q7, q8, q9⟩, q1⟩))
    exact ⟨v, H', e, hk, h1, h2, .inr h3, h4, h5, h6, by omega, h8⟩
  · obtain ⟨⟨v, T, e⟩, ⟨h1, h2, h3⟩, hk⟩ := callK_exP (α := AV × Hp × Ef) (fun b => clean mb b.2.2 ∧ Bf mb (H ++ b.2.1) b.1 (bs ++ d.raw) ∧ (bk b.1 = bk bv ∨ ∃ j, bk b.1 = some j ∧ H.length ≤ j)) (fun b => (.tuple [b.1, .int .i64 0], H ++ b.2.1, b.2.2))
      (callK_mono (rdata_PutR t d H mb tb tab bv bs hmd hk hd hgd (lt_of_get hm) hv (by omega)) (fun r ⟨v, T, e, q1, q2, q3, q4⟩ => ⟨(v, T, e), ⟨q2, q3, q4⟩, q1⟩))
    rw [putF_bytes hmd]
    have := hd.raw
    exact ⟨v, H ++ T, e, hk, h1, h2, h3, by simp, get_app hm, hn, by rw [List.length_append]; omega, fun i x _ hx => get_app hx⟩
theorem Lw.more {H Hc : Hp} {av bv : AV} {A : List UInt8} {tab : Tab} (h : Lw H Hc av bv A tab) (l : Hp) : Lw H (Hc ++ l) av bv A tab where
  m := get_app h.m
  t := get_app h.t
  r := h.r.old (fun i x hx => get_app hx)
  a := h.a.keep (fun i x _ hx => get_app hx)
  b := h.b.keep (fun i x _ hx => get_app hx)
  d := h.d
  old := fun i x hx => get_app (h.old i x hx)
  n := h.n
attribute [local irreducible] go goOps goD opK callK callT stepK leaveTo nextK
end Go.Proofs.YtgkpgpdkolpfkaaDoor.V
namespace Go.Proofs.YtgkpgpdkolpfkaaDoor.V
open Go Go.ChangeShapes Go.WideShapes Go.ChangeAt Go.RowKit
set_option linter.unusedSimpArgs false
set_option linter.unusedVariables false
open Go.ChangeMaps (open_string shut_string)
theorem cells39 : Tryd.prog.cellsOf 39 = 10 := by kernel_rfl
theorem cells3 : Tryd.prog.cellsOf 3 = 1 := by kernel_rfl
theorem cells32 : Tryd.prog.cellsOf 32 = 1 := by kernel_rfl
section
variable {H : Type} {enc : TypeId × Value → H} {W : World} {base : Nat} {sp : Nat → Bool} {held : Bool}
set_option maxRecDepth 100000 in
/-- Data's cells, read. -/
theorem data_cells {n : Nat} {cs : List Value} {d : DataW H × List MemPlace} (h : DataW.trod enc Tryd.prog W base sp held n 37 cs = some d) :
    ∃ x : Dt, (∀ μ, concs μ x.cells = some cs) ∧ (is32 x.n0 ∧ is32 x.n1 ∧ is32 x.n2 ∧ is32 x.n3 ∧ is32 x.n4) ∧ x.raw.length + x.host.length + x.mail.length ≤ Rows.uptoBulk d.1 := by
  obtain ⟨xs, n', rfl, hx, hcl, hxl, hf⟩ := DataW.trod_struct Tryd.underlying37 h
  rw [cells37] at hcl
  match cs, hcl with
  | [c0, c1, c2, c3, c4, c5, c6, c7], _ =>
    have f0 : DataW.trod enc Tryd.prog W base sp held n' 9 (([c0, c1, c2, c3, c4, c5, c6, c7].drop 0).take (Tryd.prog.cellsOf 9)) = xs[0]? := hf 0 _ rfl
    have f1 : DataW.trod enc Tryd.prog W base sp held n' 33 (([c0, c1, c2, c3, c4, c5, c6, c7].drop 1).take (Tryd.prog.cellsOf 33)) = xs[1]? := hf 1 _ rfl
    have f2 : DataW.trod enc Tryd.prog W base sp held n' 33 (([c0, c1, c2, c3, c4, c5, c6, c7].drop 2).take (Tryd.prog.cellsOf 33)) = xs[2]? := hf 2 _ rfl
    have f3 : DataW.trod enc Tryd.prog W base sp held n' 35 (([c0, c1, c2, c3, c4, c5, c6, c7].drop 3).take (Tryd.prog.cellsOf 35)) = xs[3]? := hf 3 _ rfl
    have hx4 : xs.length = 4 := hxl
    simp only [cells9, cellsNm, cellsN, List.drop_zero, List.drop_succ_cons, List.take_succ_cons, List.take_zero] at f0 f1 f2 f3
    match xs, hx4 with
    | [x0, x1, x2, x3], _ =>
      simp only [List.getElem?_cons_zero, List.getElem?_cons_succ] at f0 f1 f2 f3
      obtain ⟨s0, e0, z0, _⟩ := DataW.trod_string Tryd.underlying9 f0
      obtain ⟨s1, e1, z1, _⟩ := DataW.trod_string Tryd.underlying33 f1
      obtain ⟨s2, e2, z2, _⟩ := DataW.trod_string Tryd.underlying33 f2
      obtain ⟨ys, m, rfl, z3, _, hyl, hel⟩ := DataW.trod_array Tryd.underlying35 f3
      have i0 := hel 0 (by decide)
      have i1 := hel 1 (by decide)
      have i2 := hel 2 (by decide)
      have i3 := hel 3 (by decide)
      have i4 := hel 4 (by decide)
      simp only [cells34, Nat.mul_one, List.drop_zero, List.drop_succ_cons, List.take_succ_cons, List.take_zero] at i0 i1 i2 i3 i4
      match ys, hyl with
      | [y0, y1, y2, y3, y4], _ =>
        simp only [List.getElem?_cons_zero, List.getElem?_cons_succ] at i0 i1 i2 i3 i4
        obtain ⟨n0, a0, _, w0⟩ := DataW.trod_int Tryd.underlying34 i0
        obtain ⟨n1, a1, _, w1⟩ := DataW.trod_int Tryd.underlying34 i1
        obtain ⟨n2, a2, _, w2⟩ := DataW.trod_int Tryd.underlying34 i2
        obtain ⟨n3, a3, _, w3⟩ := DataW.trod_int Tryd.underlying34 i3
        obtain ⟨n4, a4, _, w4⟩ := DataW.trod_int Tryd.underlying34 i4
        cases e0; cases e1; cases e2; cases a0; cases a1; cases a2; cases a3; cases a4
        cases z0; cases z1; cases z2
        simp only [List.map_cons, List.map_nil] at hx
        subst hx
        refine ⟨⟨s0.data.toList, s1.data.toList, s2.data.toList, n0, n1, n2, n3, n4⟩, fun μ => ?_, ⟨u32_of w0, u32_of w1, u32_of w2, u32_of w3, u32_of w4⟩, ?_⟩
        · simp [Dt.cells, conc, concs]
        · simp only [Rows.uptoBulk, Rows.uptoBulkAll]; omega
set_option maxRecDepth 100000 in
theorem item_cells {n : Nat} {cs : List Value} {d : DataW H × List MemPlace} (h : DataW.trod enc Tryd.prog W base sp held n 39 cs = some d) :
    ∃ x : Itm, (∀ μ, concs μ x.cells = some cs) ∧ (is32 x.d.n0 ∧ is32 x.d.n1 ∧ is32 x.d.n2 ∧ is32 x.d.n3 ∧ is32 x.d.n4) ∧ x.d.raw.length + x.d.host.length + x.d.mail.length + 1 ≤ Rows.uptoBulk d.1 := by
  obtain ⟨xs, n', rfl, hx, hcl, hxl, hf⟩ := DataW.trod_struct Tryd.underlying39 h
  rw [cells39] at hcl
  match cs, hcl with
  | [b0, b1, c0, c1, c2, c3, c4, c5, c6, c7], _ =>
    have f0 : DataW.trod enc Tryd.prog W base sp held n' 3 (([b0, b1, c0, c1, c2, c3, c4, c5, c6, c7].drop 0).take (Tryd.prog.cellsOf 3)) = xs[0]? := hf 0 _ rfl
    have f1 : DataW.trod enc Tryd.prog W base sp held n' 32 (([b0, b1, c0, c1, c2, c3, c4, c5, c6, c7].drop 1).take (Tryd.prog.cellsOf 32)) = xs[1]? := hf 1 _ rfl
    have f2 : DataW.trod enc Tryd.prog W base sp held n' 37 (([b0, b1, c0, c1, c2, c3, c4, c5, c6, c7].drop 2).take (Tryd.prog.cellsOf 37)) = xs[2]? := hf 2 _ rfl
    have hx3 : xs.length = 3 := hxl
    simp only [cells3, cells32, cells37, List.drop_zero, List.drop_succ_cons, List.take_succ_cons, List.take_zero] at f0 f1 f2
    match xs, hx3 with
    | [x0, x1, x2], _ =>
      simp only [List.getElem?_cons_zero, List.getElem?_cons_succ] at f0 f1 f2
      obtain ⟨k0, a0, z0, _⟩ := DataW.trod_int Tryd.underlying3 f0
      obtain ⟨k1, a1, z1, _⟩ := DataW.trod_int Tryd.underlying32 f1
      obtain ⟨x, hc, hn, hb⟩ := data_cells f2
      cases a0; cases a1
      cases z0; cases z1
      simp only [List.map_cons, List.map_nil] at hx
      subst hx
      refine ⟨⟨k0, k1, x⟩, fun μ => ?_, hn, ?_⟩
      · have := hc μ
        simp only [Itm.cells, concs, conc, Option.bind_some, this, Option.map_some]
      · simp only [Rows.uptoBulk, Rows.uptoBulkAll]; omega
/-- Items, read. -/
theorem items_ok {a : Addr} {n : Nat} : ∀ (len : Nat) (es : List (DataW H × List MemPlace)), es.length = len → (∀ i, i < len → (W.cells? base (a.add (i * 10)) 10).bind (DataW.trod enc Tryd.prog W base sp held n 39) = es[i]?) →
    ∃ R : List Itm, R.length = len ∧ (∃ vs, (∀ μ, concs μ (itsC R) = some vs) ∧ vs.length = len * 10 ∧ ∀ (j : Nat) (v : Value), vs[j]? = some v → W.cell? (a.add j) = some v) ∧
      (∀ x ∈ R, is32 x.d.n0 ∧ is32 x.d.n1 ∧ is32 x.d.n2 ∧ is32 x.d.n3 ∧ is32 x.d.n4) ∧ (∀ x ∈ R, x.d.raw.length + x.d.host.length + x.d.mail.length ≤ Rows.uptoBulkAll (es.map (·.1))) ∧ len ≤ Rows.uptoBulkAll (es.map (·.1))
  | 0, es, he, _ => by
    obtain rfl : es = [] := List.eq_nil_of_length_eq_zero he
    exact ⟨[], rfl, ⟨[], fun μ => rfl, by simp, by simp⟩, by simp, by simp, by simp⟩
  | len + 1, es, he, h => by
    have hne : es ≠ [] := by rintro rfl; simp at he
    obtain ⟨es', e, rfl⟩ : ∃ es' e, es = es' ++ [e] := ⟨es.dropLast, es.getLast hne, (List.dropLast_concat_getLast hne).symm⟩
    have hl' : es'.length = len := by simpa using he
    obtain ⟨R, hl, ⟨vs, hv, hvl, hc⟩, h1, h2, h3⟩ := items_ok len es' hl' (fun i hi => by rw [h i (by omega), List.getElem?_append_left (by omega)])
    have hlast := h len (by omega)
    rw [List.getElem?_append_right (by omega), hl', Nat.sub_self, List.getElem?_cons_zero, Option.bind_eq_some_iff] at hlast
    obtain ⟨cs, hcs, ht⟩ := hlast
    obtain ⟨x, hxc, hxn, hxb⟩ := item_cells ht
    obtain ⟨_, hcl, hcc⟩ := World.cells?_some hcs
    have hall : Rows.uptoBulkAll ((es' ++ [e]).map (·.1)) = Rows.uptoBulkAll (es'.map (·.1)) + Rows.uptoBulk e.1 := by
      rw [List.map_append]
      generalize es'.map (·.1) = l
      induction l with
      | nil => simp [Rows.uptoBulkAll]
      | cons y l ih => simp only [List.cons_append, Rows.uptoBulkAll, ih]; omega
    refine ⟨R ++ [x], by simp [hl], ⟨vs ++ cs, fun μ => ?_, by rw [List.length_append, hvl, hcl]; omega, fun j v hj => ?_⟩, fun y hy => ?_, fun y hy => ?_, by rw [hall]; omega⟩
    · have : itsC (R ++ [x]) = itsC R ++ x.cells := by simp [itsC]
      rw [this]
      exact concs_append_some (hv μ) (hxc μ)
    · by_cases hlt : j < vs.length
      · rw [List.getElem?_append_left hlt] at hj
        exact hc j v hj
      · rw [List.getElem?_append_right (by omega)] at hj
        have hjl := (List.getElem?_eq_some_iff.1 hj).1
        have := hcc (j - vs.length) (by omega)
        rw [hj] at this
        rw [← this]
        congr 1
        unfold Addr.add
        by_cases hl0 : len * 10 = 0
        · have : vs.length = 0 := by omega
          simp [hl0, this]
        · by_cases hj0 : j - vs.length = 0
          · have : j = len * 10 := by omega
            rw [if_pos hj0, if_neg hl0, if_neg (by omega), this]
          · have h3 : ¬ j = 0 := by omega
            simp only [hl0, hj0, h3, if_false]
            congr 1; omega
    · rcases List.mem_append.1 hy with hy | hy
      · exact h1 y hy
      · rw [List.mem_singleton] at hy; subst hy; exact hxn
    · rw [hall]
      rcases List.mem_append.1 hy with hy | hy
      · have := h2 y hy; omega
      · rw [List.mem_singleton] at hy; subst hy; omega
theorem cells5 : Tryd.prog.cellsOf 5 = 1 := by kernel_rfl
theorem u8_of {n : Int} (h : (Lit.int .u8 n).wf = true) : ∃ c : UInt8, n = (c.toNat : Int) := by
  simp [Lit.wf, IntKind.min, IntKind.max, IntKind.bits, IntKind.signed] at h
  exact ⟨UInt8.ofNat n.toNat, by rw [UInt8.toNat_ofNat']; omega⟩
/-- Bytes, read. -/
theorem bytes_ok {a : Addr} {n : Nat} : ∀ (len : Nat) (es : List (DataW H × List MemPlace)), es.length = len → (∀ i, i < len → (W.cells? base (a.add (i * 1)) 1).bind (DataW.trod enc Tryd.prog W base sp held n 5) = es[i]?) →
    ∃ Z : List UInt8, Z.length = len ∧ (∃ vs, (∀ μ, concs μ (u8s Z) = some vs) ∧ vs.length = len ∧ ∀ (j : Nat) (v : Value), vs[j]? = some v → W.cell? (a.add j) = some v) ∧ len ≤ Rows.uptoBulkAll (es.map (·.1))
  | 0, es, he, _ => by
    obtain rfl : es = [] := List.eq_nil_of_length_eq_zero he
    exact ⟨[], rfl, ⟨[], fun μ => rfl, by simp, by simp⟩, by simp⟩
  | len + 1, es, he, h => by
    have hne : es ≠ [] := by rintro rfl; simp at he
    obtain ⟨es', e, rfl⟩ : ∃ es' e, es = es' ++ [e] := ⟨es.dropLast, es.getLast hne, (List.dropLast_concat_getLast hne).symm⟩
    have hl' : es'.length = len := by simpa using he
    obtain ⟨Z, hl, ⟨vs, hv, hvl, hc⟩, h3⟩ := bytes_ok len es' hl' (fun i hi => by rw [h i (by omega), List.getElem?_append_left (by omega)])
    have hlast := h len (by omega)
    rw [List.getElem?_append_right (by omega), hl', Nat.sub_self, List.getElem?_cons_zero, Option.bind_eq_some_iff] at hlast
    obtain ⟨cs, hcs, ht⟩ := hlast
    obtain ⟨_, hcl, hcc⟩ := World.cells?_some hcs
    have hall : Rows.uptoBulkAll ((es' ++ [e]).map (·.1)) = Rows.uptoBulkAll (es'.map (·.1)) + Rows.uptoBulk e.1 := by
      rw [List.map_append]
      generalize es'.map (·.1) = l
      induction l with
      | nil => simp [Rows.uptoBulkAll]
      | cons y l ih => simp only [List.cons_append, Rows.uptoBulkAll, ih]; omega
    match cs, hcl with
    | [c0], _ =>
      obtain ⟨k0, a0, z0, w0⟩ := DataW.trod_int Tryd.underlying5 ht
      obtain ⟨c, rfl⟩ := u8_of w0
      cases a0
      subst z0
      refine ⟨Z ++ [c], by simp [hl], ⟨vs ++ [.int .u8 (c.toNat : Int)], fun μ => ?_, by simp [hvl], fun j v hj => ?_⟩, by rw [hall]; simp only [Rows.uptoBulk]; omega⟩
      · rw [u8s_app]
        exact concs_append_some (hv μ) rfl
      · by_cases hlt : j < vs.length
        · rw [List.getElem?_append_left hlt] at hj
          exact hc j v hj
        · rw [List.getElem?_append_right (by omega)] at hj
          have hjl := (List.getElem?_eq_some_iff.1 hj).1
          have hj1 : j - vs.length = 0 := by simp at hjl; omega
          have := hcc 0 (by decide)
          rw [hj1] at hj
          rw [hj] at this
          rw [← this]
          congr 1
          have hjl2 : j = len * 1 := by omega
          rw [hjl2]
          unfold Addr.add
          simp
end
end Go.Proofs.YtgkpgpdkolpfkaaDoor.V
namespace Go.Proofs.YtgkpgpdkolpfkaaDoor.V
open Go
set_option linter.unusedSimpArgs false
set_option linter.unusedVariables false
attribute [local irreducible] go goOps goD opK callK callT stepK leaveTo nextK

theorem Rd.keep {H H' : Hp} {v : AV} {bs : List UInt8} (h : Rd H v bs) (hk : ∀ (i : Nat) (x : ABlk), H[i]? = some x → H'[i]? = some x) : Rd H' v bs := by
  obtain h | ⟨b, o, c, pre, post, e, k, h1, h2, h3, h4⟩ := h
  · exact .inl h
  · exact .inr ⟨b, o, c, pre, post, e, k, h1, h2, hk _ _ h3, h4⟩
theorem Rv.appd {H : Hp} {v : AV} {bs : List UInt8} (h : Rv H v bs) : appended H 1 v = some (u8s bs, bs.length) := by
  obtain h | ⟨b, rfl, hb, rfl⟩ := h
  · exact h.appd
  · have hr : V.rd H b 0 (0 * 1) = some [] := by
      unfold V.rd
      rw [hb]
      rfl
    simp only [appended, hr, Option.map_some]
    rfl

theorem Rv.nm {H : Hp} {v : AV} {bs : List UInt8} (h : Rv H v bs) : evConv Tryd.prog 31 33 v H = some (.str bs, H) := by
  obtain ⟨rfl, rfl⟩ | ⟨b, o, c, rfl, hr⟩ := h.rd
  · exact conv_31_33n
  · rw [conv_31_33, hr, Option.bind_some, bytesOf_u8s]; rfl

theorem or_8 {c d : Nat} (hc : c < 16777216) (hd : d < 256) : evInt .or .u32 (IntKind.u32.wrap ((c : Int) * 2 ^ (min 8 32))) (d : Int) = some (.int .u32 ((256 * c + d : Nat) : Int)) := by
  have w : IntKind.u32.wrap ((c : Int) * 2 ^ (min 8 32)) = ((256 * c : Nat) : Int) := by
    have : (c : Int) * 2 ^ (min 8 32) = ((256 * c : Nat) : Int) := by
      show (c : Int) * 256 = _
      omega
    rw [this]; exact wrap_u32 (by omega)
  have h1 : (BitVec.ofInt 32 ((256 * c : Nat) : Int) ||| BitVec.ofInt 32 (d : Int)).toNat = 256 * c + d := by
    rw [BitVec.toNat_or, BitVec.ofInt_natCast, BitVec.ofInt_natCast, BitVec.toNat_ofNat, BitVec.toNat_ofNat, Nat.mod_eq_of_lt (by omega), Nat.mod_eq_of_lt (by omega)]
    have := Nat.two_pow_add_eq_or_of_lt (b := d) (i := 8) (by omega) c
    simpa using this.symm
  rw [w]
  show some (AV.int .u32 (IntKind.u32.wrap ((BitVec.ofInt 32 ((256 * c : Nat) : Int) ||| BitVec.ofInt 32 (d : Int)).toNat : Int))) = _
  rw [h1, wrap_u32 (by omega)]
set_option maxRecDepth 20000 in
theorem take16 (bs : List UInt8) (a : Nat) (c d : UInt8) (H k) (v : AV) (hv : Rd H v bs) (hn : bs.length ≤ 4611686018427387904) (hc : bs[a]? = some c) (hd : bs[a + 1]? = some d) :
    callK Tryd.prog 109 [v, .int .i64 (a : Nat)] H k = k (.tuple [.int .u16 ((256 * c.toNat + d.toNat : Nat) : Int), .int .i64 ((a + 2 : Nat) : Int), .int .i64 0], H, z0) := by
  refine callK_eq (r := (.tuple [.int .u16 ((256 * c.toNat + d.toNat : Nat) : Int), .int .i64 ((a + 2 : Nat) : Int), .int .i64 0], H, z0)) ?_ k
  refine callK_start (n := 50) (rs := [.tmp 4, .tmp 5, .tmp 6]) Tryd.func109 rfl rfl rfl ?_
  intro σ hl ha
  have h0 := ha 0 (by simp)
  have h1 := ha 1 (by simp)
  clear ha
  simp only [Option.getD_some, List.getElem?_cons_zero, List.getElem?_cons_succ] at h0 h1
  have hs := fun H k => size16 H k
  have hlen := fun H' => hv.v.len H'
  have hlt : a + 1 < bs.length := (List.getElem?_eq_some_iff.1 hd).1
  have g0 : decide ((a : Int) < 0) = false := by simp
  have hbig : ¬ bs.length < a := by omega
  have w1 : IntKind.i64.wrap ((bs.length : Int) - (a : Int)) = ((bs.length - a : Nat) : Int) := by rw [wrap_i64 (by omega)]; omega
  have g2 : decide (((bs.length - a : Nat) : Int) < 2) = false := by simp; omega
  have w2 : IntKind.i64.wrap ((a : Int) + 2) = ((a + 2 : Nat) : Int) := by rw [wrap_i64 (by omega)]; omega
  obtain ⟨y, L, hsl, hy⟩ := hv.sl (lo := a) (hi := a + 2) (by omega) (by omega)
  have hy1 : (bs.drop a).take (a + 2 - a) = [c, d] := by rw [Nat.add_sub_cancel_left, drop_at hc, List.take_succ_cons, drop_at hd]; rfl
  rw [hy1] at hy
  have hylen := fun H' => hy.len H'
  obtain ⟨b, j, row, e, kd, hix, hg, hg0, hld⟩ := hy.at (i := 0) (c := c) rfl
  obtain ⟨b', j', row', e', kd', hix', hg', hg0', hld'⟩ := hy.at (i := 1) (c := d) rfl
  have hix : evIndexAddr Tryd.prog 31 y (.int .i64 0) = some (.ptr b j) := hix
  have hix' : evIndexAddr Tryd.prog 31 y (.int .i64 1) = some (.ptr b' j') := hix'
  have g3 : decide ((0 : Int) < ((([c, d] : List UInt8).length : Nat) : Int)) = true := by simp
  have g4 : decide ((1 : Int) < ((([c, d] : List UInt8).length : Nat) : Int)) = true := by simp
  have g5 : decide ((2 : Int) < ((([c, d] : List UInt8).length : Nat) : Int)) = false := by simp
  have hcl := c.toNat_lt
  have hdl := d.toNat_lt
  have w3 : IntKind.u32.wrap (c.toNat : Int) = (c.toNat : Int) := wrap_u32 (by omega)
  have w4 : IntKind.u32.wrap (d.toNat : Int) = (d.toNat : Int) := wrap_u32 (by omega)
  have w5 : IntKind.u16.wrap ((256 * c.toNat + d.toNat : Nat) : Int) = ((256 * c.toNat + d.toNat : Nat) : Int) := wrap_u16 (by omega)
  have o1 := or_8 (c := 0) (d := c.toNat) (by omega) (by omega)
  have o1 : evInt .or .u32 (IntKind.u32.wrap (0 * 2 ^ (min 8 32))) (c.toNat : Int) = some (.int .u32 (c.toNat : Int)) := by simpa using o1
  have o2 := or_8 (c := c.toNat) (d := d.toNat) (by omega) (by omega)
  simp only [go_sem, simprocAttr, hl, h0, h1, hs, hlen, g0, hbig, w1, g2, w2, hsl, hylen, gt_iff_lt]
  rw [go_loop]
  simp only [go_sem, simprocAttr, hl, g3, hix, hg, hg0, hld, w3, o1]
  rw [go_loop]
  simp only [go_sem, simprocAttr, hl, g4, hix', hg', hg0', hld', w4, o2]
  rw [go_loop]
  simp only [go_sem, simprocAttr, hl, g5, hs, h1, w2, w5]

/-- Where a pointer leads. -/
def ptrP (c d : UInt8) : Nat := (256 * c.toNat + d.toNat) % 16384
/-- A name lies at a place, read in so many steps; the next place. -/
def Rn (bs : List UInt8) : Nat → Nat → Nat → List UInt8 → Nat → Prop
  | 0, _, a, n, nx => bs[a]? = some 0 ∧ n = [0] ∧ nx = a + 1
  | m + 1, row, a, n, nx =>
    (∃ c n', bs[a]? = some c ∧ 0 < c.toNat ∧ c.toNat ≤ 63 ∧ a + 1 + c.toNat ≤ bs.length ∧ n = (bs.drop a).take (1 + c.toNat) ++ n' ∧ Rn bs m row (a + 1 + c.toNat) n' nx) ∨
    (∃ c d nx', bs[a]? = some c ∧ 192 ≤ c.toNat ∧ bs[a + 1]? = some d ∧ nx = a + 2 ∧ ptrP c d < row ∧ Rn bs m (ptrP c d) (ptrP c d) n nx')
theorem Rn.pos {bs : List UInt8} : ∀ {m row a : Nat} {n : List UInt8} {nx : Nat}, Rn bs m row a n nx → 0 < n.length ∧ a < nx ∧ nx ≤ bs.length
  | 0, _, a, n, nx, h => by obtain ⟨h1, rfl, rfl⟩ := h; exact ⟨by simp, by omega, (List.getElem?_eq_some_iff.1 h1).1⟩
  | m + 1, row, a, n, nx, h => by
    obtain ⟨c, n', h1, h2, h3, h4, rfl, h5⟩ | ⟨c, d, nx', h1, h2, h3, rfl, h4, h5⟩ := h
    · have := h5.pos; rw [List.length_append]; omega
    · have := h5.pos; exact ⟨this.1, by omega, (List.getElem?_eq_some_iff.1 h3).1⟩
theorem and_far {x : Nat} (hx : x < 65536) : evInt .and .u16 (x : Int) 16383 = some (.int .u16 ((x % 16384 : Nat) : Int)) := by
  have h1 : (BitVec.ofInt 16 (x : Int) &&& BitVec.ofInt 16 16383).toNat = x % 16384 := by
    rw [BitVec.toNat_and, BitVec.ofInt_natCast, show BitVec.ofInt 16 16383 = BitVec.ofNat 16 16383 from rfl, BitVec.toNat_ofNat, BitVec.toNat_ofNat, Nat.mod_eq_of_lt hx, Nat.mod_eq_of_lt (by decide)]
    exact Nat.and_two_pow_sub_one_eq_mod x 14
  show some (AV.int .u16 (IntKind.u16.wrap ((BitVec.ofInt 16 (x : Int) &&& BitVec.ofInt 16 16383).toNat : Int))) = _
  rw [h1, wrap_u16 (by omega)]

set_option maxRecDepth 20000 in
set_option maxHeartbeats 4000000 in
theorem pr_Take (bs : List UInt8) (m0 a0 : Nat) (n0 : List UInt8) (nx : Nat) (H k) (v : AV) (hv : Rd H v bs) (hb : bs.length ≤ 1048576000) (hr : Rn bs m0 a0 a0 n0 nx) (hn : n0.length ≤ 255) :
    callK Tryd.prog 96 [v, .int .i64 (a0 : Nat)] H k = k (.tuple [.str n0, .int .i64 (nx : Nat), .int .i64 0], H, z0) := by
  refine callK_eq (r := (.tuple [.str n0, .int .i64 (nx : Nat), .int .i64 0], H, z0)) ?_ k
  refine callK_start (n := 94) (rs := [.tmp 4, .tmp 5, .tmp 6]) Tryd.func96 rfl rfl rfl ?_
  intro σ hl ha
  have h0 := ha 0 (by simp)
  have h1 := ha 1 (by simp)
  clear ha
  simp only [Option.getD_some, List.getElem?_cons_zero, List.getElem?_cons_succ] at h0 h1
  have hlen := fun H' => hv.v.len H'
  simp only [go_sem, simprocAttr, hl, h0, h1]
  refine go_rounds (fun m st => ∃ σ row a nx0 out ov n' nx' Hc e, Rn bs m row a n' nx' ∧ n0 = out ++ n' ∧ (nx0 = 0 → nx' = nx) ∧ (nx0 ≠ 0 → nx0 = nx) ∧ nx0 ≤ bs.length ∧ row ≤ bs.length ∧ st = ⟨σ, Hc, e⟩ ∧ clean H.length e ∧ Og H.length 5 Hc ov (u8s out) ∧
      H.length ≤ Hc.length ∧ (∀ (i : Nat) (x : ABlk), H[i]? = some x → Hc[i]? = some x) ∧
      σ.length = 94 ∧ fr σ 0 = v ∧ fr σ 1 = .int .i64 (a : Nat) ∧ fr σ 7 = ov ∧ fr σ 8 = .int .i64 (nx0 : Nat) ∧ fr σ 9 = .int .i64 (row : Nat)) m0
    ⟨_, a0, a0, 0, [], .nils, n0, nx, H, z0, hr, rfl, fun _ => rfl, fun h => absurd rfl h, by omega, by have := hr.pos; omega, rfl, by simp [clean, z0, low], .inl ⟨rfl, rfl⟩, Nat.le_refl _, fun i x h => h, by simp only [go_sem, simprocAttr, hl], by simp only [go_sem, simprocAttr, hl, h0], by simp only [go_sem, simprocAttr, hl, h1], by simp only [go_sem, simprocAttr, hl], by simp only [go_sem, simprocAttr, hl], by simp only [go_sem, simprocAttr, hl]⟩ ?_
  clear hl h0 h1
  rintro m _ ⟨σ, row, a, nx0, out, ov, n', nx', Hc, e, hr', hnn, hx1, hx2, hxb, hrb, rfl, hce, hO, hHl, hk, hl, h0, h1, h7, h8, h9⟩
  have hvc : Rd Hc v bs := hv.keep hk
  have hpos := hr'.pos
  have t8 := fun k => take8 bs a Hc k v hvc (by omega) (by omega)
  have hol : out.length + n'.length = n0.length := by rw [hnn, List.length_append]
  have holen := fun H' => hO.len tsh_31 H'
  rw [u8s_len] at holen
  cases m with
  | zero =>
    obtain ⟨hc, rfl, rfl⟩ := hr'
    have ht : tk8 bs a = (0, a + 1, 0) := by unfold tk8; rw [if_neg (by omega), hc]; rfl
    have hlt := (List.getElem?_eq_some_iff.1 hc).1
    obtain ⟨y, L, hsl, hy⟩ := hvc.sl (lo := a) (hi := a + 1) (by omega) (by omega)
    have hy1 : (bs.drop a).take (a + 1 - a) = [0] := by rw [Nat.add_sub_cancel_left, drop_at hc]; rfl
    rw [hy1] at hy
    have hap := hy.appd
    have hO' : Og H.length 5 (Hc ++ L) ov (u8s out) := hO.keep (fun i x _ h => get_app h)
    obtain ⟨v', H', e', q1, q2, q3, q4, q5, q6, q7, _⟩ := hO'.app (w := 1) (by simp; omega) zok_31 (u8s [0]) u8s_scal (by rw [u8s_len]; simp [fits, u8s_len]; simp at hol; omega)
    rw [← u8s_app, hnn.symm] at q2
    have q1 : ∀ kk, stepK (appTo Tryd.prog (.slice 5 1 1) ov (u8s [0], 1) (Hc ++ L)) kk = kk (v', H', e') := q1
    have hstr := (q2.rd).v.nm
    have w1 : IntKind.i64.wrap (((a + 1 : Nat) : Int) + 0) = ((a + 1 : Nat) : Int) := by rw [wrap_i64 (by omega)]; omega
    have w2 : IntKind.i64.wrap ((bs.length : Int) - ((a + 1 : Nat) : Int)) = ((bs.length - (a + 1) : Nat) : Int) := by rw [wrap_i64 (by omega)]; omega
    have g1 : decide (((bs.length - (a + 1) : Nat) : Int) < 0) = false := by simp
    have w0 : IntKind.i64.wrap ((0 : Nat) : Int) = 0 := rfl
    have hkk : ∀ (i : Nat) (x : ABlk), H[i]? = some x → H'[i]? = some x := fun i x hx => q4 i x (by
      intro hbk
      have := (hO.cells hbk).1
      have := lt_of_get hx
      omega) (get_app (hk i x hx))
    have hlv : ∀ (y : AV) (ef : Ef), flat y = true → clean H.length ef → leave H.length y H' ef = (y, H, z0) := fun y ef hy he => leave_abs hy he hkk
    by_cases hz : nx0 = 0
    · subst hz
      have := hx1 rfl
      subst this
      simp only [go_sem, simprocAttr, hl, h0, h1, h7, h8, h9, t8, ht, hlen, w0, w1, w2, g1, gt_iff_lt, hsl, hap, q1, hstr]
      rw [hlv _ _ (by simp [flat, flats]) (by simp only [clean_andI, hce, q5, clean_z, and_true, true_and])]
    · have := hx2 hz
      subst this
      have g2 : ((nx0 : Int) == 0) = false := by rw [beq_eq_false_iff_ne]; omega
      simp only [go_sem, simprocAttr, hl, h0, h1, h7, h8, h9, t8, ht, hlen, w0, w1, w2, g1, g2, gt_iff_lt, hsl, hap, q1, hstr]
      rw [hlv _ _ (by simp [flat, flats]) (by simp only [clean_andI, hce, q5, clean_z, and_true, true_and])]
  | succ m =>
    obtain ⟨c, n2, hc, c1, c2, c3, rfl, hr2⟩ | ⟨c, d, nx2, hc, c1, hd, rfl, hp, hr2⟩ := hr'
    · have hp2 := hr2.pos
      have ht : tk8 bs a = (c.toNat, a + 1, 0) := by unfold tk8; rw [if_neg (by omega), hc]
      obtain ⟨y, L, hsl, hy⟩ := hvc.sl (lo := a) (hi := a + (1 + c.toNat)) (by omega) (by omega)
      rw [show a + (1 + c.toNat) - a = 1 + c.toNat by omega] at hy
      have hyl : ((bs.drop a).take (1 + c.toNat)).length = 1 + c.toNat := by rw [List.length_take, List.length_drop]; omega
      generalize hX : (bs.drop a).take (1 + c.toNat) = X at *
      have hap := hy.appd
      have hO' : Og H.length 5 (Hc ++ L) ov (u8s out) := hO.keep (fun i x _ h => get_app h)
      have hl3 : out.length + (1 + c.toNat) + n2.length = n0.length := by rw [hnn, List.length_append, List.length_append]; omega
      obtain ⟨v', H', e', q1, q2, q3, q4, q5, q6, q7, _⟩ := hO'.app (w := 1) (by simp; omega) zok_31 (u8s X) u8s_scal (by rw [u8s_len, u8s_len]; simp [fits]; omega)
      rw [← u8s_app] at q2
      rw [u8s_len] at q1
      have w1 : IntKind.i64.wrap (((a + 1 : Nat) : Int) + (c.toNat : Int)) = ((a + (1 + c.toNat) : Nat) : Int) := by rw [wrap_i64 (by omega)]; omega
      have w2 : IntKind.i64.wrap ((bs.length : Int) - ((a + 1 : Nat) : Int)) = ((bs.length - (a + 1) : Nat) : Int) := by rw [wrap_i64 (by omega)]; omega
      have w3 : IntKind.i64.wrap (c.toNat : Int) = (c.toNat : Int) := wrap_i64 (by omega)
      have w4 : IntKind.i64.wrap ((out.length : Int) + (c.toNat : Int)) = ((out.length + c.toNat : Nat) : Int) := by rw [wrap_i64 (by omega)]; omega
      have w5 : IntKind.i64.wrap (((out.length + c.toNat : Nat) : Int) + 1) = ((out.length + c.toNat + 1 : Nat) : Int) := by rw [wrap_i64 (by omega)]; omega
      have d1 : decide ((192 : Int) ≤ (c.toNat : Int)) = false := by simp; omega
      have d2 : decide ((63 : Int) < (c.toNat : Int)) = false := by simp; omega
      have d3 : ¬ bs.length - (a + 1) < c.toNat := by omega
      have d4 : decide ((0 : Int) < (c.toNat : Int)) = true := by simp; omega
      have d5 : decide ((255 : Int) ≤ ((out.length + (c.toNat + 1) : Nat) : Int)) = false := by simp; omega
      have gz : ((c.toNat : Int) == 0) = false := by rw [beq_eq_false_iff_ne]; omega
      simp only [go_sem, simprocAttr, hl, h0, h1, h7, h8, h9, t8, ht, hlen, holen, w1, w2, w3, w4, w5, gt_iff_lt, ge_iff_le, hsl, hap, q1, d1, d2, d3, d4, d5, gz]
      have hkk : ∀ (i : Nat) (x : ABlk), H[i]? = some x → H'[i]? = some x := fun i x hx => q4 i x (by
        intro hbk
        have := (hO.cells hbk).1
        have := lt_of_get hx
        omega) (get_app (hk i x hx))
      refine ⟨m, by omega, _, row, a + (1 + c.toNat), nx0, out ++ X, v', n2, nx', H', _, by rw [← Nat.add_assoc]; exact hr2, by rw [hnn, List.append_assoc], hx1, hx2, hxb, hrb, rfl, ?_, q2, ?_, hkk, ?_, ?_, ?_, ?_, ?_, ?_⟩
      · simp only [clean_andI, hce, q5, clean_z, and_true, true_and]
      · simp only [List.length_append] at q3; omega
      · simp only [go_sem, simprocAttr, hl]
      · simp only [go_sem, simprocAttr, hl, h0]
      · simp only [go_sem, simprocAttr, hl]
      · simp only [go_sem, simprocAttr, hl]
      · simp only [go_sem, simprocAttr, hl, h8]
      · simp only [go_sem, simprocAttr, hl, h9]
    · have hp2 := hr2.pos
      have ht : tk8 bs a = (c.toNat, a + 1, 0) := by unfold tk8; rw [if_neg (by omega), hc]
      have t16 := fun k => take16 bs a c d Hc k v hvc (by omega) hc hd
      have hcl := c.toNat_lt
      have hdl := d.toNat_lt
      have haf := and_far (x := 256 * c.toNat + d.toNat) (by omega)
      rw [show (256 * c.toNat + d.toNat) % 16384 = ptrP c d from rfl] at haf
      have w1 : IntKind.i64.wrap ((ptrP c d : Nat) : Int) = ((ptrP c d : Nat) : Int) := wrap_i64 (by omega)
      have d1 : decide ((192 : Int) ≤ (c.toNat : Int)) = true := by simp; omega
      have d2 : ¬ row ≤ ptrP c d := by omega
      by_cases hz : nx0 = 0
      · subst hz
        simp only [go_sem, simprocAttr, hl, h0, h1, h7, h8, h9, t8, ht, hlen, holen, t16, haf, w1, gt_iff_lt, ge_iff_le, d1, d2]
        refine ⟨m, by omega, _, ptrP c d, ptrP c d, a + 2, out, ov, n', nx2, Hc, _, hr2, hnn, fun h => by omega, fun _ => hx1 rfl, by omega, by omega, rfl, ?_, hO, hHl, hk, ?_, ?_, ?_, ?_, ?_, ?_⟩
        · simp only [clean_andI, hce, clean_z, and_true, true_and]
        · simp only [go_sem, simprocAttr, hl]
        · simp only [go_sem, simprocAttr, hl, h0]
        · simp only [go_sem, simprocAttr, hl]
        · simp only [go_sem, simprocAttr, hl, h7]
        · simp only [go_sem, simprocAttr, hl]
        · simp only [go_sem, simprocAttr, hl]
      · have g2 : ((nx0 : Int) == 0) = false := by rw [beq_eq_false_iff_ne]; omega
        simp only [go_sem, simprocAttr, hl, h0, h1, h7, h8, h9, t8, ht, hlen, holen, t16, haf, w1, gt_iff_lt, ge_iff_le, d1, d2, g2]
        refine ⟨m, by omega, _, ptrP c d, ptrP c d, nx0, out, ov, n', nx2, Hc, _, hr2, hnn, fun h => absurd h hz, fun _ => hx2 hz, hxb, by omega, rfl, ?_, hO, hHl, hk, ?_, ?_, ?_, ?_, ?_, ?_⟩
        · simp only [clean_andI, hce, clean_z, and_true, true_and]
        · simp only [go_sem, simprocAttr, hl]
        · simp only [go_sem, simprocAttr, hl, h0]
        · simp only [go_sem, simprocAttr, hl]
        · simp only [go_sem, simprocAttr, hl, h7]
        · simp only [go_sem, simprocAttr, hl, h8]
        · simp only [go_sem, simprocAttr, hl]
end Go.Proofs.YtgkpgpdkolpfkaaDoor.V
namespace Go.Proofs.YtgkpgpdkolpfkaaDoor.V
open Go
set_option linter.unusedSimpArgs false
set_option linter.unusedVariables false
attribute [local irreducible] go goOps goD opK callK callT stepK leaveTo nextK

/-- A reader, as it lies. -/
def RdC (v : AV) (a en : Nat) (d : Dt) (k : Nat) : List AV := [v, .int .i64 a, .int .i64 en, .str d.raw, .str d.host, .str d.mail, .int .u32 d.n0, .int .u32 d.n1, .int .u32 d.n2, .int .u32 d.n3, .int .u32 d.n4, .int .i64 k]
section
variable {v : AV} {a en : Nat} {d : Dt} {k : Nat} {e : TypeId} {kd : Kd}
theorem RdC.l0 : ldC 0 1 false (.cells (RdC v a en d k) e kd) = some v := rfl
theorem RdC.l1 : ldC 1 1 false (.cells (RdC v a en d k) e kd) = some (.int .i64 a) := rfl
theorem RdC.l2 : ldC 2 1 false (.cells (RdC v a en d k) e kd) = some (.int .i64 en) := rfl
theorem RdC.l3 : ldC 3 8 true (.cells (RdC v a en d k) e kd) = some (.agg d.cells) := rfl
theorem RdC.len : (RdC v a en d k).length = 12 := rfl
theorem RdC.s1 {x : Nat} : splice (RdC v a en d k) 1 [.int .i64 x] = RdC v x en d k := rfl
theorem RdC.s3 {x : List UInt8} : splice (RdC v a en d k) 3 [.str x] = RdC v a en { d with raw := x } k := rfl
theorem RdC.s4 {x : List UInt8} : splice (RdC v a en d k) 4 [.str x] = RdC v a en { d with host := x } k := rfl
theorem RdC.s5 {x : List UInt8} : splice (RdC v a en d k) 5 [.str x] = RdC v a en { d with mail := x } k := rfl
theorem RdC.s11 {x : Nat} : splice (RdC v a en d k) 11 [.int .i64 x] = RdC v a en d x := rfl
theorem RdC.l11 : ldC 11 1 false (.cells (RdC v a en d k) e kd) = some (.int .i64 k) := rfl
end
theorem low_lt {n x : Nat} (h : x < n) : low n (some x) = some x := by
  show (if n ≤ x then none else some x) = some x
  rw [if_neg (by omega)]
theorem leave_w {H : Hp} {n rb : Nat} {v : AV} (hv : flat v = true) (h : H.length = n) (hr : rb < n) : leave n v H ⟨none, some rb⟩ = (v, H, ⟨none, some rb⟩) := by
  rw [leave_same hv h, low_lt hr]
theorem leave_wn {H l : Hp} {n rb : Nat} {v : AV} (hv : flat v = true) (h : H.length = n) (hr : rb < n) : leave n v (H ++ l) ⟨none, some rb⟩ = (v, H, ⟨none, some rb⟩) := by
  unfold leave
  have hlo : low n none = none := rfl
  simp only [hlo, hv, and_self, if_true]
  rw [List.take_left' h, low_lt hr]
/-- A field of numbers, set. -/
def Dt.setN (d : Dt) : Nat → Int → Dt
  | 0, x => { d with n0 := x }
  | 1, x => { d with n1 := x }
  | 2, x => { d with n2 := x }
  | 3, x => { d with n3 := x }
  | 4, x => { d with n4 := x }
  | _, _ => d
theorem RdC.lN {v : AV} {a en : Nat} {d : Dt} {k : Nat} {e : TypeId} {kd : Kd} {j : Nat} (hj : j < 5) : ldC (6 + j) 1 false (.cells (RdC v a en d k) e kd) = some (.int .u32 (d.n j)) := by
  have : j = 0 ∨ j = 1 ∨ j = 2 ∨ j = 3 ∨ j = 4 := by omega
  rcases this with rfl | rfl | rfl | rfl | rfl <;> rfl
theorem RdC.sN {v : AV} {a en : Nat} {d : Dt} {k : Nat} {j : Nat} {x : Int} (hj : j < 5) : splice (RdC v a en d k) (6 + j) [.int .u32 x] = RdC v a en (d.setN j x) k := by
  have : j = 0 ∨ j = 1 ∨ j = 2 ∨ j = 3 ∨ j = 4 := by omega
  rcases this with rfl | rfl | rfl | rfl | rfl <;> rfl
theorem Dt.n_set {d : Dt} {j : Nat} {x : Int} (hj : j < 5) : (d.setN j x).n j = x := by
  have : j = 0 ∨ j = 1 ∨ j = 2 ∨ j = 3 ∨ j = 4 := by omega
  rcases this with rfl | rfl | rfl | rfl | rfl <;> rfl
theorem Dt.set_set {d : Dt} {j : Nat} {x y : Int} : (d.setN j x).setN j y = d.setN j y := by
  match j with
  | 0 => rfl
  | 1 => rfl
  | 2 => rfl
  | 3 => rfl
  | 4 => rfl
  | j + 5 => rfl
theorem Dt.set_same {d : Dt} {j : Nat} {x : Int} (hj : j < 5) (h : d.n j = x) : d.setN j x = d := by
  have : j = 0 ∨ j = 1 ∨ j = 2 ∨ j = 3 ∨ j = 4 := by omega
  subst h
  rcases this with rfl | rfl | rfl | rfl | rfl <;> rfl
set_option maxRecDepth 20000 in
theorem rd_name (H k) (rb : Nat) (v : AV) (bs : List UInt8) (a en : Nat) (d : Dt) (j : Nat) (m : Nat) (n : List UInt8) (nx : Nat) (hb : H[rb]? = some (.cells (RdC v a en d j) 97 .rw)) (hv : Rd H v bs) (hbl : bs.length ≤ 1048576000) (hr : Rn bs m a a n nx) (hn : n.length ≤ 255) (hen : nx ≤ en) (hel : en ≤ 1048576000) :
    callK Tryd.prog 80 [.ptr rb 0] H k = k (.str n, H.set rb (.cells (RdC v nx en d j) 97 .rw), ⟨none, some rb⟩) := by
  refine callK_eq (r := (.str n, H.set rb (.cells (RdC v nx en d j) 97 .rw), ⟨none, some rb⟩)) ?_ k
  refine callK_start (n := 38) (rs := [.tmp 2]) Tryd.func80 rfl rfl rfl ?_
  intro σ hl ha
  have h0 := ha 0 (by simp)
  clear ha
  simp only [Option.getD_some, List.getElem?_cons_zero, List.getElem?_cons_succ] at h0
  have ht := fun k => pr_Take bs m a n nx H k v hv hbl hr hn
  have d1 : ¬ en < nx := by omega
  simp only [go_sem, simprocAttr, hl, h0]
  refine go_drawZ tFollows (by kernel_rfl) ?_
  have hlt := lt_of_get hb
  have hlv : ∀ (y : ABlk) (x : AV), flat x = true → leave H.length x (H.set rb y) ⟨none, some rb⟩ = (x, H.set rb y, ⟨none, some rb⟩) := fun y x hx => leave_w hx (by simp) hlt
  simp only [go_sem, simprocAttr, hl, h0, hb, RdC.l0, RdC.l1, RdC.l2, RdC.len, RdC.s1, ht, gt_iff_lt, d1, hlv]
/-- A field read as a name. -/
theorem rd_host (H k) (rb : Nat) (v : AV) (bs : List UInt8) (a en : Nat) (d : Dt) (j : Nat) (m : Nat) (n : List UInt8) (nx : Nat) (hb : H[rb]? = some (.cells (RdC v a en d j) 97 .rw)) (hv : Rd H v bs) (hbl : bs.length ≤ 1048576000) (hr : Rn bs m a a n nx) (hn : n.length ≤ 255) (hen : nx ≤ en) (hel : en ≤ 1048576000) :
    callK Tryd.prog 53 [.ptr rb 0] H k = k (.tuple [], H.set rb (.cells (RdC v nx en { d with host := n } j) 97 .rw), ⟨none, some rb⟩) := by
  refine callK_eq (r := (.tuple [], H.set rb (.cells (RdC v nx en { d with host := n } j) 97 .rw), ⟨none, some rb⟩)) ?_ k
  refine callK_start (n := 8) (rs := []) Tryd.func53 rfl rfl rfl ?_
  intro σ hl ha
  have h0 := ha 0 (by simp)
  clear ha
  simp only [Option.getD_some, List.getElem?_cons_zero, List.getElem?_cons_succ] at h0
  have ht := fun k => rd_name H k rb v bs a en d j m n nx hb hv hbl hr hn hen hel
  have hlt := lt_of_get hb
  have hg : ∀ y : ABlk, (H.set rb y)[rb]? = some y := fun y => by rw [List.getElem?_set_self hlt]
  have hlv : ∀ (y : ABlk) (x : AV), flat x = true → leave H.length x (H.set rb y) ⟨none, some rb⟩ = (x, H.set rb y, ⟨none, some rb⟩) := fun y x hx => leave_w hx (by simp) hlt
  simp only [go_sem, simprocAttr, hl, h0, ht, hg, RdC.len, RdC.s4, hlv, List.set_set]
theorem rd_mail (H k) (rb : Nat) (v : AV) (bs : List UInt8) (a en : Nat) (d : Dt) (j : Nat) (m : Nat) (n : List UInt8) (nx : Nat) (hb : H[rb]? = some (.cells (RdC v a en d j) 97 .rw)) (hv : Rd H v bs) (hbl : bs.length ≤ 1048576000) (hr : Rn bs m a a n nx) (hn : n.length ≤ 255) (hen : nx ≤ en) (hel : en ≤ 1048576000) :
    callK Tryd.prog 54 [.ptr rb 0] H k = k (.tuple [], H.set rb (.cells (RdC v nx en { d with mail := n } j) 97 .rw), ⟨none, some rb⟩) := by
  refine callK_eq (r := (.tuple [], H.set rb (.cells (RdC v nx en { d with mail := n } j) 97 .rw), ⟨none, some rb⟩)) ?_ k
  refine callK_start (n := 8) (rs := []) Tryd.func54 rfl rfl rfl ?_
  intro σ hl ha
  have h0 := ha 0 (by simp)
  clear ha
  simp only [Option.getD_some, List.getElem?_cons_zero, List.getElem?_cons_succ] at h0
  have ht := fun k => rd_name H k rb v bs a en d j m n nx hb hv hbl hr hn hen hel
  have hlt := lt_of_get hb
  have hg : ∀ y : ABlk, (H.set rb y)[rb]? = some y := fun y => by rw [List.getElem?_set_self hlt]
  have hlv : ∀ (y : ABlk) (x : AV), flat x = true → leave H.length x (H.set rb y) ⟨none, some rb⟩ = (x, H.set rb y, ⟨none, some rb⟩) := fun y x hx => leave_w hx (by simp) hlt
  simp only [go_sem, simprocAttr, hl, h0, ht, hg, RdC.len, RdC.s5, hlv, List.set_set]
theorem quiet_ap {v : AV} {H L : Hp} {x : ABlk} {e : Ef} : quiet (v, H ++ x :: L, e) H = false := by simp [quiet]
/-- What is left, read as bytes. -/
theorem rd_rest (H k) (rb : Nat) (v : AV) (bs : List UInt8) (a en : Nat) (d : Dt) (j : Nat) (hb : H[rb]? = some (.cells (RdC v a en d j) 97 .rw)) (hv : Rd H v bs) (hae : a ≤ en) (hen : en ≤ bs.length) :
    callK Tryd.prog 57 [.ptr rb 0] H k = k (.tuple [], H.set rb (.cells (RdC v en en { d with raw := (bs.drop a).take (en - a) } j) 97 .rw), ⟨none, some rb⟩) := by
  refine callK_eq (r := (.tuple [], H.set rb (.cells (RdC v en en { d with raw := (bs.drop a).take (en - a) } j) 97 .rw), ⟨none, some rb⟩)) ?_ k
  refine callK_start (n := 27) (rs := []) Tryd.func57 rfl rfl rfl ?_
  intro σ hl ha
  have h0 := ha 0 (by simp)
  clear ha
  simp only [Option.getD_some, List.getElem?_cons_zero, List.getElem?_cons_succ] at h0
  have hlt := lt_of_get hb
  have hg : ∀ y : ABlk, (H.set rb y)[rb]? = some y := fun y => by rw [List.getElem?_set_self hlt]
  have hlv : ∀ (y : ABlk) (x : AV), flat x = true → leave H.length x (H.set rb y) ⟨none, some rb⟩ = (x, H.set rb y, ⟨none, some rb⟩) := fun y x hx => leave_w hx (by simp) hlt
  obtain ⟨y, L, hsl, hy⟩ := hv.sl hae hen
  have hstr := hy.str
  simp only [go_sem, simprocAttr, hl, h0]
  refine go_drawZ tFollows (by kernel_rfl) ?_
  rcases L with _ | ⟨x, L⟩
  · simp only [List.append_nil] at hsl hstr
    simp only [go_sem, simprocAttr, hl, h0, hb, RdC.l0, RdC.l1, RdC.l2, RdC.len, RdC.s3, RdC.s1, hsl, hstr, hg, hlv, List.set_set]
    kernel_rfl
  · have hg2 : (H ++ x :: L)[rb]? = some (.cells (RdC v a en d j) 97 .rw) := get_app hb
    have hs2 : ∀ (y : ABlk), (H ++ x :: L).set rb y = H.set rb y ++ x :: L := fun y => by rw [List.set_append_left _ _ hlt]
    have hg3 : ∀ y : ABlk, (H.set rb y ++ x :: L)[rb]? = some y := fun y => get_app (hg y)
    have hs3 : ∀ (z y : ABlk), (H.set rb z ++ x :: L).set rb y = H.set rb y ++ x :: L := fun z y => by rw [List.set_append_left _ _ (by simpa using hlt), List.set_set]
    have hlv2 : ∀ (y : ABlk) (z : AV), flat z = true → leave H.length z (H.set rb y ++ x :: L) ⟨none, some rb⟩ = (z, H.set rb y, ⟨none, some rb⟩) := fun y z hz => leave_wn hz (by simp) hlt
    simp only [go_sem, simprocAttr, hl, h0, hb, RdC.l0, RdC.l1, RdC.l2, RdC.len, RdC.s3, RdC.s1, hsl, hstr, quiet_ap, hg2, hs2, hg3, hs3, hlv2]
    exact (by kernel_rfl : effOk _ _ _ = true)
/-- A number of bytes. -/
def beN (X : List UInt8) : Nat := X.foldl (fun s b => 256 * s + b.toNat) 0
theorem beN_snoc (X : List UInt8) (c : UInt8) : beN (X ++ [c]) = 256 * beN X + c.toNat := by simp [beN]
theorem beN_lt : ∀ (m : Nat) (X : List UInt8), X.length = m → beN X < 256 ^ m
  | 0, X, h => by
    have : X = [] := List.length_eq_zero_iff.1 h
    subst this; simp [beN]
  | m + 1, X, h => by
    obtain ⟨Y, c, rfl⟩ : ∃ Y c, X = Y ++ [c] := ⟨X.dropLast, X.getLast (by intro h'; subst h'; simp at h), (List.dropLast_concat_getLast _).symm⟩
    have := beN_lt m Y (by simpa using h)
    have := c.toNat_lt
    rw [beN_snoc, Nat.pow_succ]
    omega
theorem RdC.no {H : Hp} {v : AV} {bs : List UInt8} (hv : Rd H v bs) {a en : Nat} {d : Dt} {k q : Nat} {x : Int} : (RdC v a en d k)[q]? ≠ some (.int .u8 x) := by
  have : v ≠ .int .u8 x := by
    obtain ⟨rfl, _⟩ | ⟨b, o, c, pre, post, e, k, rfl, _⟩ := hv <;> simp
  intro h
  match q, h with
  | 0, h => exact this (Option.some.inj h)
  | 1, h => simp [RdC] at h
  | 2, h => simp [RdC] at h
  | 3, h => simp [RdC] at h
  | 4, h => simp [RdC] at h
  | 5, h => simp [RdC] at h
  | 6, h => simp [RdC] at h
  | 7, h => simp [RdC] at h
  | 8, h => simp [RdC] at h
  | 9, h => simp [RdC] at h
  | 10, h => simp [RdC] at h
  | 11, h => simp [RdC] at h
  | q + 12, h => simp [RdC] at h
/-- What was written: nothing, or into one block. -/
def Wr (rb : Nat) (e : Ef) : Prop := e = z0 ∨ e = ⟨none, some rb⟩
theorem Wr.and {rb : Nat} {e : Ef} (h : Wr rb e) : e.and ⟨none, some rb⟩ = ⟨none, some rb⟩ := by
  rcases h with rfl | rfl
  · rw [Ef.z0_and]
  · rw [and_ww]
theorem Wr.z {rb : Nat} {e : Ef} (h : Wr rb e) : Wr rb (e.and z0) := by rw [Ef.and_z0]; exact h
theorem Wr.w {rb : Nat} {e : Ef} (h : Wr rb e) : Wr rb (e.and ⟨none, some rb⟩) := .inr h.and
set_option maxRecDepth 20000 in
/-- A number read. -/
theorem rd_number (H k) (rb : Nat) (v : AV) (bs : List UInt8) (a en : Nat) (d : Dt) (j n : Nat) (hb : H[rb]? = some (.cells (RdC v a en d j) 97 .rw)) (hv : Rd H v bs) (hbl : bs.length ≤ 1048576000) (hn : n ≤ 4) (hae : a + n ≤ en) (hen : en ≤ bs.length) (hj : j < 5) (hz : d.n j = 0) :
    callK Tryd.prog 81 [.ptr rb 0, .int .i64 (n : Nat)] H k = k (.tuple [], H.set rb (.cells (RdC v (a + n) en (d.setN j (beN ((bs.drop a).take n))) (j + 1)) 97 .rw), ⟨none, some rb⟩) := by
  refine callK_eq (r := (.tuple [], H.set rb (.cells (RdC v (a + n) en (d.setN j (beN ((bs.drop a).take n))) (j + 1)) 97 .rw), ⟨none, some rb⟩)) ?_ k
  refine callK_start (n := 77) (rs := []) Tryd.func81 rfl rfl rfl ?_
  intro σ hl ha
  have h0 := ha 0 (by simp)
  have h1 := ha 1 (by simp)
  clear ha
  simp only [Option.getD_some, List.getElem?_cons_zero, List.getElem?_cons_succ] at h0 h1
  have hlt := lt_of_get hb
  have w1 : IntKind.i64.wrap ((en : Int) - (a : Int)) = ((en - a : Nat) : Int) := by rw [wrap_i64 (by omega)]; omega
  have d1 : ¬ en - a < n := by omega
  have w2 : IntKind.i64.wrap ((a : Int) + (n : Int)) = ((a + n : Nat) : Int) := by rw [wrap_i64 (by omega)]; omega
  obtain ⟨y, L, hsl, hy⟩ := hv.sl (lo := a) (hi := a + n) (by omega) (by omega)
  rw [Nat.add_sub_cancel_left] at hy
  have hyl : ((bs.drop a).take n).length = n := by rw [List.length_take, List.length_drop]; omega
  generalize hX : (bs.drop a).take n = X at *
  have hlen := fun H' => hy.len H'
  simp only [go_sem, simprocAttr, hl, h0, h1]
  refine go_drawZ tFollows (by kernel_rfl) ?_
  simp only [go_sem, simprocAttr, hl, h0, h1, hb, RdC.l1, RdC.l2, w1, gt_iff_lt, d1]
  refine go_drawZ tFollows (by kernel_rfl) ?_
  obtain ⟨H2, hH2⟩ : ∃ H2, H2 = H ++ L := ⟨_, rfl⟩
  rw [← hH2] at hy
  simp only [← hH2] at hsl
  have hg0 : H2[rb]? = some (.cells (RdC v a en d j) 97 .rw) := by rw [hH2]; exact get_app hb
  have hl2 : rb < H2.length := lt_of_get hg0
  have hg : ∀ z : ABlk, (H2.set rb z)[rb]? = some z := fun z => by rw [List.getElem?_set_self hl2]
  have hlv : ∀ (z : ABlk) (x : AV), flat x = true → leave H.length x (H2.set rb z) ⟨none, some rb⟩ = (x, H.set rb z, ⟨none, some rb⟩) := fun z x hx => by
    rw [hH2, List.set_append_left _ _ hlt]
    exact leave_wn hx (by simp) hlt
  have hyb : y = .nils ∨ ∃ b o c, y = .slice b o X.length c := by
    obtain ⟨rfl, _⟩ | ⟨b, o, c, rfl, _⟩ := hy.rd
    · exact .inl rfl
    · exact .inr ⟨b, o, c, rfl⟩
  have hix : ∀ (i : Nat) (c : UInt8) (z : ABlk), X[i]? = some c → ∃ b q row e kd, evIndexAddr Tryd.prog 31 y (.int .i64 (i : Nat)) = some (.ptr b q) ∧ (H2.set rb (.cells (RdC v a en (d.setN j (beN (X.take i))) j) 97 .rw))[b]? = some (.cells row e kd) ∧ ldC q 1 false (.cells row e kd) = some (.int .u8 c.toNat) := by
    intro i c z hc
    obtain ⟨b, q, row, e, kd, q1, _, q3, q4⟩ := hy.at hc
    have hne : b ≠ rb := by
      rintro rfl
      rw [hg0] at q3
      cases q3
      rw [ldC_f] at q4
      exact RdC.no hv q4
    exact ⟨b, q, row, e, kd, q1, by rw [List.getElem?_set_ne (Ne.symm hne)]; exact q3, q4⟩
  have hw4 : ∀ c : UInt8, IntKind.u32.wrap (c.toNat : Int) = (c.toNat : Int) := fun c => by have := c.toNat_lt; exact wrap_u32 (by omega)
  have hj5 : (j : Int) < 5 := by omega
  have wj := wrap_succ (show j < 9223372036854775807 by omega)
  have hgn : ∀ (x : Int) (e : TypeId) (kd : Kd), ldC (6 + j) 1 false (.cells (RdC v a en (d.setN j x) j) e kd) = some (.int .u32 x) := fun x e kd => by rw [RdC.lN hj, Dt.n_set hj]
  have hsn : ∀ (x y : Int), splice (RdC v a en (d.setN j x) j) (6 + j) [.int .u32 y] = RdC v a en (d.setN j y) j := fun x y => by rw [RdC.sN hj, Dt.set_set]
  have h02 : H2 = H2.set rb (.cells (RdC v a en (d.setN j (beN (X.take 0))) j) 97 .rw) := by
    rw [show ((beN (X.take 0) : Nat) : Int) = 0 from rfl, Dt.set_same hj hz, set_get hg0]
  cases hq : quiet (y, H2, z0) H
  all_goals
    simp only [go_sem, simprocAttr, hl, h0, h1, hb, RdC.l0, RdC.l1, RdC.l2, w1, w2, hsl, hq, hlen, nextZ_t]
    try refine ⟨(by kernel_rfl : effOk _ _ _ = true), ?_⟩
    refine go_rounds (fun m st => ∃ σ i e, m + i = n ∧ st = ⟨σ, H2.set rb (.cells (RdC v a en (d.setN j (beN (X.take i))) j) 97 .rw), e⟩ ∧ Wr rb e ∧ σ.length = 77 ∧ fr σ 0 = .ptr rb 0 ∧ fr σ 1 = .int .i64 (n : Nat) ∧ fr σ 32 = y ∧ fr σ 33 = .int .i64 (n : Nat) ∧ fr σ 34 = .int .i64 (i : Nat)) n
      ⟨_, 0, _, by omega, by rw [← h02], .inl rfl, by simp only [go_sem, simprocAttr, hl], by simp only [go_sem, simprocAttr, hl, h0], by simp only [go_sem, simprocAttr, hl, h1], by simp only [go_sem, simprocAttr, hl], by simp only [go_sem, simprocAttr, hl, hyl], by simp only [go_sem, simprocAttr, hl]⟩ ?_
    rintro m _ ⟨σ, i, e, hmi, rfl, hwr, hl, h0, h1, h32, h33, h34⟩
    by_cases hlt2 : i < n
    · obtain ⟨c, hc⟩ : ∃ c, X[i]? = some c := ⟨_, List.getElem?_eq_getElem (by omega)⟩
      obtain ⟨b, q, row, ee, kd, x1, x2, x3⟩ := hix i c .dead hc
      have hsn1 : X.take (i + 1) = X.take i ++ [c] := by rw [List.take_add_one, hc]; rfl
      have hbl2 := beN_lt i (X.take i) (by rw [List.length_take]; omega)
      have hbl3 : beN (X.take i) < 16777216 := by
        have : (256 : Nat) ^ i ≤ 256 ^ 3 := Nat.pow_le_pow_right (by decide) (by omega)
        omega
      have ho := or_8 (c := beN (X.take i)) (d := c.toNat) hbl3 c.toNat_lt
      rw [← beN_snoc, ← hsn1] at ho
      have wi := wrap_succ (show i < 9223372036854775807 by omega)
      simp only [go_sem, simprocAttr, hl, h0, h1, h32, h33, h34, hlt2, x1, x2, x3]
      refine go_drawZ tFollows (by kernel_rfl) ?_
      simp only [go_sem, simprocAttr, hl, h0, h1, h32, h33, h34, hg, RdC.l11, RdC.len, hj5, hgn, hsn, hw4, ho, wi, List.set_set]
      exact ⟨by omega, (by kernel_rfl : effOk _ _ _ = true), m - 1, by omega, _, i + 1, _, by omega, rfl, hwr.w, by simp only [go_sem, simprocAttr, hl], by simp only [go_sem, simprocAttr, hl, h0], by simp only [go_sem, simprocAttr, hl, h1], by simp only [go_sem, simprocAttr, hl, h32], by simp only [go_sem, simprocAttr, hl, h33], by simp only [go_sem, simprocAttr, hl]⟩
    · have hi : i = n := by omega
      subst hi
      have hXi : X.take i = X := List.take_of_length_le (by omega)
      have hwa := hwr.and
      simp only [go_sem, simprocAttr, hl, h0, h1, h32, h33, h34, hg, RdC.l1, RdC.l11, RdC.len, RdC.s1, RdC.s11, w2, wj, hXi, hwa, hlt2, and_ww, hlv, List.set_set]
end Go.Proofs.YtgkpgpdkolpfkaaDoor.V
namespace Go.Proofs.YtgkpgpdkolpfkaaDoor.V
open Go
set_option linter.unusedSimpArgs false
set_option linter.unusedVariables false

section
variable {P : Program} {Q : Ex → St → Prop} {k : List It} {σ : List AV} {H : Hp} {e : Ef} {ops : List Oper} {K KP : St → Prop} {l : List Oper} {kk kp : AV × Hp × Ef → Prop}

/-! ### a function that defers, stepped through up to its defer statement -/
def isDef : Code → Bool
  | .region _ ⟨[o]⟩ false => match o.op, o.guard with
    | .defer _, none => true
    | _, _ => false
  | _ => false
def cutOk (c : Code) : Bool :=
  match cutD c with
  | some (_, o, _) => (match o.op with | .defer k => (match k.callee with | .value _ => true | _ => false) | _ => false)
  | none => false
theorem cutD_seq {a b : Code} (h : isDef a = false) : cutD (.seq a b) = (cutD b).map fun r => (a :: r.1, r.2) := by
  rw [cutD.eq_def]
  split
  · rename_i heq
    cases heq
    split
    · rename_i h1 h2
      simp only [isDef, h1, h2] at h
      cases h
    · rfl
  · rename_i heq
    cases heq
    rfl
  · rename_i hne
    exact absurd rfl (hne a b)
def goA (P : Program) (rs : List ResultVar) (m : Nat) (kk : AV × Hp × Ef → Prop) (c : Code) (s : St) (_ : Ph (kk, c) := ⟨⟩) : Prop :=
  match cutD c with
  | some (l, o, b) => (match o.op with | .defer d => (match d.callee with | .value fo => go P (endA P rs m fo d.args.toList o.dst b kk) (l.map It.code) s | _ => False) | _ => False)
  | none => False
def nextA (P : Program) (rs : List ResultVar) (m : Nat) (kk : AV × Hp × Ef → Prop) (b : Code) : Ex → St → Prop
  | .normal, s => goA P rs m kk b s
  | .ret, s => endR P rs m kk .ret s
  | _, _ => False
instance {rs : List ResultVar} {m : Nat} {b : Code} : Calm (nextA P rs m kk b) := ⟨fun _ h => h⟩
theorem nextA_n {rs : List ResultVar} {m : Nat} {b : Code} : nextA P rs m kk b .normal ⟨σ, H, e⟩ = goA P rs m kk b ⟨σ, H, e⟩ := rfl
theorem nextA_r {rs : List ResultVar} {m : Nat} {b : Code} : nextA P rs m kk b .ret ⟨σ, H, e⟩ = bindK (evRes P ⟨σ, H, e⟩ rs) fun vs => kk (leave m (pack vs) H e) := endR_r
attribute [go_sem ↓] nextA_n nextA_r
theorem goA_seq {rs : List ResultVar} {m : Nat} {a b : Code} {s : St} (ha : isDef a = false) (hb : cutOk b = true) (h : go P (nextA P rs m kk b) [.code a] s) : goA P rs m kk (.seq a b) s := by
  unfold goA
  rw [cutD_seq ha]
  unfold cutOk at hb
  cases hc : cutD b with
  | none => rw [hc] at hb; cases hb
  | some r =>
    obtain ⟨l, o, b'⟩ := r
    rw [hc] at hb
    simp only [Option.map_some] at hb ⊢
    split at hb
    · rename_i d ho
      split at hb
      · rename_i fo hfo
        obtain ⟨n, ex, s', h1, h2⟩ := h
        refine ⟨n, ex, s', h1, ?_⟩
        have gen : ∀ (Q : Ex → St → Prop) (l : List Code) (ex : Ex) (s : St), ex ≠ .normal → Q ex s → (∀ i, ex ≠ .exit i) → contQ P Q (l.map It.code) ex s := by
          intro Q l
          induction l with
          | nil => intro ex s _ h _; exact h
          | cons c l ih => intro ex s hn h he; cases ex <;> first | exact absurd rfl hn | exact ih _ _ hn h he
        cases ex with
        | normal =>
          have h2 : goA P rs m kk b s' := h2
          unfold goA at h2
          rw [hc] at h2
          simp only [ho, hfo] at h2
          exact h2
        | ret => exact gen _ l .ret s' (by simp) h2 (by simp)
        | exit i => exact h2.elim
        | goto l => exact h2.elim
        | pan => exact h2.elim
      · cases hb
    · cases hb
theorem goA_defer {rs : List ResultVar} {m : Nat} {id : Nat} {dst : Option Tmp} {fo : Operand} {dargs : Array Operand} {ts : Array TypeId} {ty : TypeId} {pos : String} {af : Array Edge} {b : Code} : goA P rs m kk (.seq (.region id ⟨[⟨dst, .defer ⟨.value fo, dargs, ts⟩, ty, pos, af, none⟩]⟩ false) b) ⟨σ, H, e⟩ =
    bindK (evArg P σ fo) fun f => bindK (evArgs P σ dargs.toList) fun az => go P (endD P rs m (f, az) kk) [.code b] ⟨put σ dst undefA, H, e⟩ := rfl
theorem k_insert {t : TypeId} {m x y : Operand} : opK P σ H (.insert t m x y) kk = bindK (evArg P σ m) fun u => bindK (evArg P σ x) fun v => bindK (evArg P σ y) fun w => bindK (evMapSet P t u v w H) fun r => kk (undefA, r.1, r.2) := by
  show stepK _ _ = _
  simp only [evOp]
  rw [stepK_bind]; refine bindK_ext fun c => ?_
  rw [stepK_bind]; refine bindK_ext fun c => ?_
  rw [stepK_bind]; refine bindK_ext fun c => ?_
  exact stepK_map
attribute [go_sem ↓] k_insert
/-- The defer statement. -/
theorem goA_def {rs : List ResultVar} {m : Nat} {id : Nat} {dst : Option Tmp} {fo : Operand} {dargs : Array Operand} {ts : Array TypeId} {ty : TypeId} {pos : String} {af : Array Edge} {b : Code} {fv : AV} {az : List AV} (hf : evArg P σ fo = some fv) (ha : evArgs P σ dargs.toList = some az) (h : go P (endD P rs m (fv, az) kk) [.code b] ⟨put σ dst undefA, H, e⟩) :
    goA P rs m kk (.seq (.region id ⟨[⟨dst, .defer ⟨.value fo, dargs, ts⟩, ty, pos, af, none⟩]⟩ false) b) ⟨σ, H, e⟩ := by
  rw [goA_defer, hf, bindK_some, ha, bindK_some]
  exact h
theorem callK_startD {f : FuncId} {fn : Func} {c : Code} {args : List AV} {rs : List ResultVar} {n : Nat} (hf : P.funcs[f]? = some fn) (hb : fn.body = some c) (hr : fn.results.toList = rs) (hn : args.length + (fn.ntmps - args.length) = n)
    (h : ∀ σ : List AV, σ.length = n → (∀ i : Nat, i < args.length → fr σ i = (args[i]?).getD undefA) → goA P rs H.length kk c ⟨σ, H, z0⟩) : callK P f args H kk := by
  have h1 : ∀ (l0 : List Code) (o : Oper) (b : Code), cutD c = some (l0, o, b) → callK P f args H kk := by
    intro l0 o b hd
    have hex : ∃ fo dargs ts, o.op = .defer ⟨.value fo, dargs, ts⟩ := by
      subst hn
      have h0 := h (args ++ List.replicate (fn.ntmps - args.length) undefA) (by simp) (fun i hi => by unfold fr; rw [List.getElem?_append_left hi])
      unfold goA at h0
      rw [hd] at h0
      simp only at h0
      split at h0
      · rename_i d ho
        split at h0
        · rename_i fo hfo
          obtain ⟨ca, ar, ts⟩ := d
          simp only at hfo
          subst hfo
          exact ⟨fo, ar, ts, ho⟩
        · exact h0.elim
      · exact h0.elim
    obtain ⟨fo, dargs, ts, ho⟩ := hex
    refine callK_defer hf hb hd ho hr hn (fun σ hl ha => ?_)
    have h2 := h σ hl ha
    unfold goA at h2
    rw [hd] at h2
    simp only [ho] at h2
    exact h2
  cases hd : cutD c with
  | none =>
    subst hn
    have h0 := h (args ++ List.replicate (fn.ntmps - args.length) undefA) (by simp) (fun i hi => by unfold fr; rw [List.getElem?_append_left hi])
    unfold goA at h0
    rw [hd] at h0
    exact h0.elim
  | some r => exact h1 r.1 r.2.1 r.2.2 hd
end
attribute [irreducible] goA
end Go.Proofs.YtgkpgpdkolpfkaaDoor.V
namespace Go.Proofs.YtgkpgpdkolpfkaaDoor.V
open Go
set_option linter.unusedSimpArgs false
set_option linter.unusedVariables false
attribute [local irreducible] go goOps goD opK callK callT stepK leaveTo nextK

theorem isk_t {n : Tmp} : evOp.isConst (.tmp n) = false := rfl
theorem isk_c {v : Value} : evOp.isConst (.const v) = true := rfl
theorem neAA : binV Tryd.prog .neq 20 .nili .nili true = some (.bool false) := by
  simp only [binV, if_true, tsh_20]
/-- Nothing was thrown: nothing is caught. -/
theorem caught0 {p q : AV} {H : Hp} {K : Hp × Ef → Prop} (h : K (H, z0)) : defK Tryd.prog (.func (.func 52) [] [], [p, q]) none H K := by
  refine defK_start (n := 24) Tryd.func52 rfl rfl rfl rfl rfl rfl ?_
  intro σ hl ha
  have h0 := ha 0 (by simp)
  have h1 := ha 1 (by simp)
  clear ha
  simp only [go_sem, simprocAttr, hl, Option.getD_none, isk_t, isk_c, neAA]
  exact h
theorem rd_short (H k) (rb : Nat) (v : AV) (bs : List UInt8) (a en : Nat) (d : Dt) (j : Nat) (hb : H[rb]? = some (.cells (RdC v a en d j) 97 .rw)) (hv : Rd H v bs) (hbl : bs.length ≤ 1048576000) (hae : a + 2 ≤ en) (hen : en ≤ bs.length) (hj : j < 5) (hz : d.n j = 0) :
    callK Tryd.prog 55 [.ptr rb 0] H k = k (.tuple [], H.set rb (.cells (RdC v (a + 2) en (d.setN j (beN ((bs.drop a).take 2))) (j + 1)) 97 .rw), ⟨none, some rb⟩) := by
  refine callK_eq (r := (.tuple [], H.set rb (.cells (RdC v (a + 2) en (d.setN j (beN ((bs.drop a).take 2))) (j + 1)) 97 .rw), ⟨none, some rb⟩)) ?_ k
  refine callK_start (n := 4) (rs := []) Tryd.func55 rfl rfl rfl ?_
  intro σ hl ha
  have h0 := ha 0 (by simp)
  clear ha
  simp only [Option.getD_some, List.getElem?_cons_zero, List.getElem?_cons_succ] at h0
  have hlt := lt_of_get hb
  have hlv : ∀ (y : ABlk) (x : AV), flat x = true → leave H.length x (H.set rb y) ⟨none, some rb⟩ = (x, H.set rb y, ⟨none, some rb⟩) := fun y x hx => leave_w hx (by simp) hlt
  have hn := fun k => rd_number H k rb v bs a en d j 2 hb hv hbl (by omega) hae hen hj hz
  have hn : ∀ k, callK Tryd.prog 81 [.ptr rb 0, .int .i64 2] H k = _ := hn
  simp only [go_sem, simprocAttr, hl, h0, hn, hlv]
theorem rd_long (H k) (rb : Nat) (v : AV) (bs : List UInt8) (a en : Nat) (d : Dt) (j : Nat) (hb : H[rb]? = some (.cells (RdC v a en d j) 97 .rw)) (hv : Rd H v bs) (hbl : bs.length ≤ 1048576000) (hae : a + 4 ≤ en) (hen : en ≤ bs.length) (hj : j < 5) (hz : d.n j = 0) :
    callK Tryd.prog 56 [.ptr rb 0] H k = k (.tuple [], H.set rb (.cells (RdC v (a + 4) en (d.setN j (beN ((bs.drop a).take 4))) (j + 1)) 97 .rw), ⟨none, some rb⟩) := by
  refine callK_eq (r := (.tuple [], H.set rb (.cells (RdC v (a + 4) en (d.setN j (beN ((bs.drop a).take 4))) (j + 1)) 97 .rw), ⟨none, some rb⟩)) ?_ k
  refine callK_start (n := 4) (rs := []) Tryd.func56 rfl rfl rfl ?_
  intro σ hl ha
  have h0 := ha 0 (by simp)
  clear ha
  simp only [Option.getD_some, List.getElem?_cons_zero, List.getElem?_cons_succ] at h0
  have hlt := lt_of_get hb
  have hlv : ∀ (y : ABlk) (x : AV), flat x = true → leave H.length x (H.set rb y) ⟨none, some rb⟩ = (x, H.set rb y, ⟨none, some rb⟩) := fun y x hx => leave_w hx (by simp) hlt
  have hn := fun k => rd_number H k rb v bs a en d j 4 hb hv hbl (by omega) hae hen hj hz
  have hn : ∀ k, callK Tryd.prog 81 [.ptr rb 0, .int .i64 4] H k = _ := hn
  simp only [go_sem, simprocAttr, hl, h0, hn, hlv]

/-- What lies at a place, letter by letter of a form. -/
def Rds (bs : List UInt8) (en : Nat) (d : Dt) : List UInt8 → Nat → Nat → Prop
  | [], _, a => a = en
  | c :: r, k, a =>
    if c.toNat = 104 ∨ c.toNat = 112 then ∃ m nx, Rn bs m a a d.host nx ∧ d.host.length ≤ 255 ∧ nx ≤ en ∧ Rds bs en d r k nx
    else if c.toNat = 109 then ∃ m nx, Rn bs m a a d.mail nx ∧ d.mail.length ≤ 255 ∧ nx ≤ en ∧ Rds bs en d r k nx
    else if c.toNat = 115 then a + 2 ≤ en ∧ k < 5 ∧ (beN ((bs.drop a).take 2) : Int) = d.n k ∧ Rds bs en d r (k + 1) (a + 2)
    else if c.toNat = 108 then a + 4 ≤ en ∧ k < 5 ∧ (beN ((bs.drop a).take 4) : Int) = d.n k ∧ Rds bs en d r (k + 1) (a + 4)
    else a ≤ en ∧ (bs.drop a).take (en - a) = d.raw ∧ Rds bs en d r k en
/-- What has been read then. -/
def gotF (d : Dt) : List UInt8 → Nat → Dt → Dt
  | [], _, x => x
  | c :: r, k, x =>
    if c.toNat = 104 ∨ c.toNat = 112 then gotF d r k { x with host := d.host }
    else if c.toNat = 109 then gotF d r k { x with mail := d.mail }
    else if c.toNat = 115 ∨ c.toNat = 108 then gotF d r (k + 1) (x.setN k (d.n k))
    else gotF d r k { x with raw := d.raw }
/-- The parts' readers. -/
def doE (rb : Nat) : List (AV × AV) := [(.int .i32 104, .func (.func 53) [.ptr rb 0] []), (.int .i32 112, .func (.func 53) [.ptr rb 0] []), (.int .i32 109, .func (.func 54) [.ptr rb 0] []), (.int .i32 115, .func (.func 55) [.ptr rb 0] []), (.int .i32 108, .func (.func 56) [.ptr rb 0] [])]
set_option maxRecDepth 20000 in
set_option maxHeartbeats 4000000 in
theorem rdata_Take (H k) (v : AV) (bs : List UInt8) (a n : Nat) (t : Int) (d : Dt) (hk : Tk H) (hv : Rd H v bs) (hbl : bs.length ≤ 1048576000) (han : a + n ≤ bs.length) (hd : d.wf) (hck : chk t d = 0) (hr : Rds bs (a + n) d (formS t) 0 a) (hgot : gotF d (formS t) 0 Dt.zero = d) :
    callK Tryd.prog 18 [v, .int .i64 (a : Nat), .int .i64 (n : Nat), .int .u16 t] H k = k (.tuple [.agg d.cells, .int .i64 0], H, z0) := by
  refine callK_eq (r := (.tuple [.agg d.cells, .int .i64 0], H, z0)) ?_ k
  have hfl := form_lenP (t := t)
  have hfa := form_ascii (t := t)
  have hckf := fun l k => rdata_Check t d (H ++ l) k (hk.old l) hd
  rw [hck] at hckf
  have hfm := fun l k => rdata_form t (H ++ l) k (hk.old l)
  refine callK_startD (n := 96) (rs := [.cell 8 37, .cell 9 40]) Tryd.func18 rfl rfl rfl ?_
  intro σ hl ha
  have h0 := ha 0 (by simp)
  have h1 := ha 1 (by simp)
  have h2 := ha 2 (by simp)
  have h3 := ha 3 (by simp)
  clear ha
  simp only [Option.getD_some, List.getElem?_cons_zero, List.getElem?_cons_succ] at h0 h1 h2 h3
  generalize formS t = F at *
  have hlen := fun H' => hv.v.len H'
  have d1 : decide ((a : Int) < 0) = false := by simp
  have d2 : decide ((n : Int) < 0) = false := by simp
  have d3 : ¬ bs.length < a := by omega
  have w1 : IntKind.i64.wrap ((bs.length : Int) - (a : Int)) = ((bs.length - a : Nat) : Int) := by rw [wrap_i64 (by omega)]; omega
  have d4 : ¬ bs.length - a < n := by omega
  have w2 : IntKind.i64.wrap ((a : Int) + (n : Int)) = ((a + n : Nat) : Int) := by rw [wrap_i64 (by omega)]; omega
  refine goA_seq (by kernel_rfl) (by kernel_rfl) ?_
  simp only [go_sem, simprocAttr, hl]
  refine goA_seq (by kernel_rfl) (by kernel_rfl) ?_
  simp only [go_sem, simprocAttr, hl, h0, h1, h2, hlen, d1, d2, d3, d4, w1, w2, gt_iff_lt]
  refine goA_def (fv := .func (.func 52) [] []) (az := [.ptr H.length 0, .ptr (H.length + 1) 0]) (by simp only [go_sem]) (by simp only [go_sem, simprocAttr, hl]) ?_
  generalize hσ : List.set _ 35 _ = σ1
  have s0 : fr σ1 0 = v := by rw [← hσ]; simp only [go_sem, simprocAttr, hl, h0]
  have s1 : fr σ1 1 = .int .i64 (a : Nat) := by rw [← hσ]; simp only [go_sem, simprocAttr, hl, h1]
  have s2 : fr σ1 2 = .int .i64 (n : Nat) := by rw [← hσ]; simp only [go_sem, simprocAttr, hl, h2]
  have s3 : fr σ1 3 = .int .u16 t := by rw [← hσ]; simp only [go_sem, simprocAttr, hl, h3]
  have s8 : fr σ1 8 = .ptr H.length 0 := by rw [← hσ]; simp only [go_sem, simprocAttr, hl]
  have s9 : fr σ1 9 = .ptr (H.length + 1) 0 := by rw [← hσ]; simp only [go_sem, simprocAttr, hl]
  have sl : σ1.length = 96 := by rw [← hσ]; simp only [go_sem, simprocAttr, hl]
  clear hσ hl h0 h1 h2 h3
  have hbd : evBuild Tryd.prog 97 [(0, v), (1, .int .i64 (a : Nat)), (2, .int .i64 ((a + n : Nat) : Int))] = some (.agg (RdC v a (a + n) Dt.zero 0)) := by
    have hvc : vcells v = [v] := by obtain ⟨rfl, _⟩ | ⟨b, o, c, pre, post, e, k, rfl, _⟩ := hv <;> rfl
    simp only [evBuild, tsh_97, tzero_97, tplaces_97, Option.bind_some, fillA, hvc, List.getElem?_cons_zero, List.getElem?_cons_succ]
    rfl
  have hsh : mapSh Tryd.prog 98 = some (.int .i32, 1) := by simp only [mapSh, tsh_98, tsh_21]
  have hms : ∀ (x y : ABlk) (z : ABlk) (es : List (AV × AV)) (c : Int) (g : FuncId), findK (.int .i32) (.int .i32 c) es 0 = some none → evMapSet Tryd.prog 98 (.map (H.length + 3)) (.int .i32 c) (.func (.func g) [.ptr (H.length + 2) 0] []) (H ++ [x, y, z, .map es]) = some (H ++ [x, y, z, .map (es ++ [(.int .i32 c, .func (.func g) [.ptr (H.length + 2) 0] [])])], ⟨some (H.length + 3), some (H.length + 3)⟩) := by
    intro x y z es c g hf
    have hg : (H ++ [x, y, z, .map es])[H.length + 3]? = some (.map es) := by rw [List.getElem?_append_right (by omega)]; simp
    simp only [evMapSet, hsh, Option.bind_some, hg, hf, Option.map_some]
    rw [List.set_append_right _ _ (by omega)]
    simp [flat, flats]
  have f1 : findK (.int .i32) (.int .i32 104) [] 0 = some none := rfl
  have f2 : ∀ x, findK (.int .i32) (.int .i32 112) [(.int .i32 104, x)] 0 = some none := fun _ => rfl
  have f3 : ∀ x y, findK (.int .i32) (.int .i32 109) [(.int .i32 104, x), (.int .i32 112, y)] 0 = some none := fun _ _ => rfl
  have f4 : ∀ x y z, findK (.int .i32) (.int .i32 115) [(.int .i32 104, x), (.int .i32 112, y), (.int .i32 109, z)] 0 = some none := fun _ _ _ => rfl
  have f5 : ∀ x y z w, findK (.int .i32) (.int .i32 108) [(.int .i32 104, x), (.int .i32 112, y), (.int .i32 109, z), (.int .i32 115, w)] 0 = some none := fun _ _ _ _ => rfl
  have hvcR : vcells (.agg (RdC v a (a + n) Dt.zero 0)) = RdC v a (a + n) Dt.zero 0 := rfl
  simp only [go_sem, simprocAttr, sl, s0, s1, s2, s3, s8, s9, w2, hbd, hvcR, hms, f1, f2, f3, f4, f5, hfm]
  have hit : ∀ i c, F[i]? = some c → strIter F i = (.tuple [.bool true, .int .i64 (i : Nat), .int .i32 c.toNat], i + 1) := fun i c h => by rw [strIter_a hfa, itN_s h]
  have hie : strIter F F.length = (.tuple [.bool false], F.length) := by rw [strIter_a hfa]; unfold itN; rw [List.getElem?_eq_none (Nat.le_refl _)]
  refine go_rounds (fun m st => ∃ σ i a' k' x e, m + i = F.length ∧ Rds bs (a + n) d (F.drop i) k' a' ∧ gotF d (F.drop i) k' x = d ∧ (∀ j, k' ≤ j → j < 5 → x.n j = 0) ∧ a' ≤ a + n ∧
      st = ⟨σ, H ++ [.cells Dt.zero.cells 37 .rw, .cells [.int .i64 0] 40 .rw, .cells (RdC v a' (a + n) x k') 97 .rw, .map (doE (H.length + 2)), .iter F i], e⟩ ∧ clean H.length e ∧
      σ.length = 96 ∧ fr σ 3 = .int .u16 t ∧ fr σ 8 = .ptr H.length 0 ∧ fr σ 9 = .ptr (H.length + 1) 0 ∧ fr σ 10 = .ptr (H.length + 2) 0 ∧ fr σ 11 = .map (H.length + 3) ∧ fr σ 58 = .ptr (H.length + 4) 0) F.length
    ⟨_, 0, a, 0, Dt.zero, _, rfl, hr, hgot, fun j _ _ => by unfold Dt.n; split <;> rfl, by omega, rfl, by simp [clean_andI, clean_mk, low_sI], by simp only [go_sem, simprocAttr, sl], by simp only [go_sem, simprocAttr, sl, s3], by simp only [go_sem, simprocAttr, sl, s8], by simp only [go_sem, simprocAttr, sl, s9], by simp only [go_sem, simprocAttr, sl], by simp only [go_sem, simprocAttr, sl], by simp only [go_sem, simprocAttr, sl]⟩ ?_
  clear s0 s1 s2 s3 s8 s9 sl hr hgot
  rintro m _ ⟨σ, i, a', k', x, e, hmi, hr, hgot, hxz, hae, rfl, hce, hl, h3, h8, h9, h10, h11, h58⟩
  by_cases hlt : i < F.length
  · obtain ⟨c, hc⟩ : ∃ c, F[i]? = some c := ⟨_, List.getElem?_eq_getElem hlt⟩
    have hs := hit i c hc
    rw [drop_at hc] at hr hgot
    obtain ⟨Hx, hHx⟩ : ∃ Hx, Hx = H ++ [.cells Dt.zero.cells 37 .rw, .cells [.int .i64 0] 40 .rw, .cells (RdC v a' (a + n) x k') 97 .rw, .map (doE (H.length + 2)), .iter F (i + 1)] := ⟨_, rfl⟩
    have hbx : Hx[H.length + 2]? = some (.cells (RdC v a' (a + n) x k') 97 .rw) := by rw [hHx, List.getElem?_append_right (by omega)]; simp
    have hmx : Hx[H.length + 3]? = some (.map (doE (H.length + 2))) := by rw [hHx, List.getElem?_append_right (by omega)]; simp
    have hvx : Rd Hx v bs := by rw [hHx]; exact hv.old _
    have hsx : ∀ y, Hx.set (H.length + 2) y = H ++ [.cells Dt.zero.cells 37 .rw, .cells [.int .i64 0] 40 .rw, y, .map (doE (H.length + 2)), .iter F (i + 1)] := fun y => by rw [hHx, List.set_append_right _ _ (by omega)]; simp
    have hlk : ∀ r, findK (.int .i32) (.int .i32 c.toNat) (doE (H.length + 2)) 0 = some (some r) → evLookup Tryd.prog 98 (.map (H.length + 3)) (.int .i32 c.toNat) true Hx = some (.tuple [r.2, .bool true]) := fun r hr => by
      simp only [evLookup, hsh, hmx, Option.bind_some, hr, if_true]
    have hlkn : findK (.int .i32) (.int .i32 c.toNat) (doE (H.length + 2)) 0 = some none → evLookup Tryd.prog 98 (.map (H.length + 3)) (.int .i32 c.toNat) true Hx = some (.tuple [.nilf, .bool false]) := fun hr => by
      have hz : tzeroV Tryd.prog 1 = some .nilf := by kernel_rfl
      simp only [evLookup, hsh, hmx, Option.bind_some, hr, hz, Option.map_some, if_true]
    -- the round's end, whichever letter
    have fin : ∀ (σ' : List AV) (a2 k2 : Nat) (x2 : Dt) (e' : Ef), Rds bs (a + n) d (F.drop (i + 1)) k2 a2 → gotF d (F.drop (i + 1)) k2 x2 = d → (∀ j, k2 ≤ j → j < 5 → x2.n j = 0) → a2 ≤ a + n → clean H.length e' → σ'.length = 96 → fr σ' 3 = .int .u16 t → fr σ' 8 = .ptr H.length 0 → fr σ' 9 = .ptr (H.length + 1) 0 → fr σ' 10 = .ptr (H.length + 2) 0 → fr σ' 11 = .map (H.length + 3) → fr σ' 58 = .ptr (H.length + 4) 0 →
        ∃ m', m' < m ∧ (fun (m : Nat) (st : St) => ∃ σ i a' k' x e, m + i = F.length ∧ Rds bs (a + n) d (F.drop i) k' a' ∧ gotF d (F.drop i) k' x = d ∧ (∀ j, k' ≤ j → j < 5 → x.n j = 0) ∧ a' ≤ a + n ∧
      st = ⟨σ, H ++ [.cells Dt.zero.cells 37 .rw, .cells [.int .i64 0] 40 .rw, .cells (RdC v a' (a + n) x k') 97 .rw, .map (doE (H.length + 2)), .iter F i], e⟩ ∧ clean H.length e ∧
      σ.length = 96 ∧ fr σ 3 = .int .u16 t ∧ fr σ 8 = .ptr H.length 0 ∧ fr σ 9 = .ptr (H.length + 1) 0 ∧ fr σ 10 = .ptr (H.length + 2) 0 ∧ fr σ 11 = .map (H.length + 3) ∧ fr σ 58 = .ptr (H.length + 4) 0) m' ⟨σ', Hx.set (H.length + 2) (.cells (RdC v a2 (a + n) x2 k2) 97 .rw), e'⟩ := by
      intro σ' a2 k2 x2 e' q1 q2 q3 q4 q5 q6 q7 q8 q9 q10 q11 q12
      exact ⟨m - 1, by omega, σ', i + 1, a2, k2, x2, e', by omega, q1, q2, q3, q4, by rw [hsx], q5, q6, q7, q8, q9, q10, q11, q12⟩
    have nset : ∀ (y : Int) (k2 : Nat), k2 < 5 → (∀ j, k2 ≤ j → j < 5 → x.n j = 0) → ∀ j, k2 + 1 ≤ j → j < 5 → (x.setN k2 y).n j = 0 := by
      intro y k2 hk2 hz j hj hj5
      have h0 := hz j (by omega) hj5
      have : k2 = 0 ∨ k2 = 1 ∨ k2 = 2 ∨ k2 = 3 ∨ k2 = 4 := by omega
      rcases this with rfl | rfl | rfl | rfl | rfl <;> (match j, hj, h0 with
        | 0, hj, h0 => first | exact h0 | omega
        | 1, hj, h0 => first | exact h0 | omega
        | 2, hj, h0 => first | exact h0 | omega
        | 3, hj, h0 => first | exact h0 | omega
        | 4, hj, h0 => first | exact h0 | omega
        | j + 5, _, h0 => omega)
    have hset : (H ++ [.cells Dt.zero.cells 37 .rw, .cells [.int .i64 0] 40 .rw, .cells (RdC v a' (a + n) x k') 97 .rw, .map (doE (H.length + 2)), .iter F (i + 1)]) = Hx := hHx.symm
    have hrl : ∀ y, (Hx.set (H.length + 2) y)[H.length + 2]? = some y := fun y => by rw [List.getElem?_set_self (lt_of_get hbx)]
    simp only [Rds] at hr
    simp only [gotF] at hgot
    by_cases c1 : c.toNat = 104 ∨ c.toNat = 112
    · rw [if_pos c1] at hr hgot
      obtain ⟨q, nx, r1, r2, r3, r4⟩ := hr
      have hf : evLookup Tryd.prog 98 (.map (H.length + 3)) (.int .i32 c.toNat) true Hx = some (.tuple [.func (.func 53) [.ptr (H.length + 2) 0] [], .bool true]) := by
        rcases c1 with c1 | c1
        · exact hlk (0, _) (by rw [c1]; rfl)
        · exact hlk (1, _) (by rw [c1]; rfl)
      have hh := fun k => rd_host Hx k (H.length + 2) v bs a' (a + n) x k' q d.host nx hbx hvx hbl r1 r2 r3 (by omega)
      simp only [go_sem, simprocAttr, hl, h3, h8, h9, h10, h11, h58, hs, hset, hf, hh]
      exact fin _ nx k' { x with host := d.host } _ r4 hgot (fun j hj hj5 => hxz j hj hj5) r3 (by simp only [clean_andI, clean_sn, clean_z, hce, and_true, true_and]; omega) (by simp only [go_sem, simprocAttr, hl]) (by simp only [go_sem, simprocAttr, hl, h3]) (by simp only [go_sem, simprocAttr, hl, h8]) (by simp only [go_sem, simprocAttr, hl, h9]) (by simp only [go_sem, simprocAttr, hl, h10]) (by simp only [go_sem, simprocAttr, hl, h11]) (by simp only [go_sem, simprocAttr, hl, h58])
    · rw [if_neg c1] at hr hgot
      have c1a : c.toNat ≠ 104 := fun h => c1 (.inl h)
      have c1b : c.toNat ≠ 112 := fun h => c1 (.inr h)
      by_cases c2 : c.toNat = 109
      · rw [if_pos c2] at hr hgot
        obtain ⟨q, nx, r1, r2, r3, r4⟩ := hr
        have hf := hlk (2, _) (by rw [c2]; rfl)
        have hh := fun k => rd_mail Hx k (H.length + 2) v bs a' (a + n) x k' q d.mail nx hbx hvx hbl r1 r2 r3 (by omega)
        simp only [go_sem, simprocAttr, hl, h3, h8, h9, h10, h11, h58, hs, hset, hf, hh]
        exact fin _ nx k' { x with mail := d.mail } _ r4 hgot (fun j hj hj5 => hxz j hj hj5) r3 (by simp only [clean_andI, clean_sn, clean_z, hce, and_true, true_and]; omega) (by simp only [go_sem, simprocAttr, hl]) (by simp only [go_sem, simprocAttr, hl, h3]) (by simp only [go_sem, simprocAttr, hl, h8]) (by simp only [go_sem, simprocAttr, hl, h9]) (by simp only [go_sem, simprocAttr, hl, h10]) (by simp only [go_sem, simprocAttr, hl, h11]) (by simp only [go_sem, simprocAttr, hl, h58])
      · rw [if_neg c2] at hr hgot
        by_cases c3 : c.toNat = 115
        · rw [if_pos c3] at hr
          rw [if_pos (.inl c3)] at hgot
          obtain ⟨r1, r2, r3, r4⟩ := hr
          have hf := hlk (3, _) (by rw [c3]; rfl)
          have hh := fun k => rd_short Hx k (H.length + 2) v bs a' (a + n) x k' hbx hvx hbl r1 (by omega) r2 (hxz k' (Nat.le_refl _) r2)
          rw [r3] at hh
          simp only [go_sem, simprocAttr, hl, h3, h8, h9, h10, h11, h58, hs, hset, hf, hh]
          exact fin _ (a' + 2) (k' + 1) (x.setN k' (d.n k')) _ r4 hgot (nset _ _ r2 hxz) r1 (by simp only [clean_andI, clean_sn, clean_z, hce, and_true, true_and]; omega) (by simp only [go_sem, simprocAttr, hl]) (by simp only [go_sem, simprocAttr, hl, h3]) (by simp only [go_sem, simprocAttr, hl, h8]) (by simp only [go_sem, simprocAttr, hl, h9]) (by simp only [go_sem, simprocAttr, hl, h10]) (by simp only [go_sem, simprocAttr, hl, h11]) (by simp only [go_sem, simprocAttr, hl, h58])
        · rw [if_neg c3] at hr
          by_cases c4 : c.toNat = 108
          · rw [if_pos c4] at hr
            rw [if_pos (.inr c4)] at hgot
            obtain ⟨r1, r2, r3, r4⟩ := hr
            have hf := hlk (4, _) (by rw [c4]; rfl)
            have hh := fun k => rd_long Hx k (H.length + 2) v bs a' (a + n) x k' hbx hvx hbl r1 (by omega) r2 (hxz k' (Nat.le_refl _) r2)
            rw [r3] at hh
            simp only [go_sem, simprocAttr, hl, h3, h8, h9, h10, h11, h58, hs, hset, hf, hh]
            exact fin _ (a' + 4) (k' + 1) (x.setN k' (d.n k')) _ r4 hgot (nset _ _ r2 hxz) r1 (by simp only [clean_andI, clean_sn, clean_z, hce, and_true, true_and]; omega) (by simp only [go_sem, simprocAttr, hl]) (by simp only [go_sem, simprocAttr, hl, h3]) (by simp only [go_sem, simprocAttr, hl, h8]) (by simp only [go_sem, simprocAttr, hl, h9]) (by simp only [go_sem, simprocAttr, hl, h10]) (by simp only [go_sem, simprocAttr, hl, h11]) (by simp only [go_sem, simprocAttr, hl, h58])
          · rw [if_neg c4] at hr
            rw [if_neg (by omega)] at hgot
            obtain ⟨r1, r3, r4⟩ := hr
            have hno : findK (.int .i32) (.int .i32 c.toNat) (doE (H.length + 2)) 0 = some none := by
              have b : ∀ z : Nat, c.toNat ≠ z → ((c.toNat : Int) == (z : Nat)) = false := fun z h => by rw [beq_eq_false_iff_ne]; omega
              have b1 := b 104 c1a
              have b2 := b 112 c1b
              have b3 := b 109 c2
              have b4 := b 115 c3
              have b5 := b 108 c4
              have b1 : ((c.toNat : Int) == 104) = false := b1
              have b2 : ((c.toNat : Int) == 112) = false := b2
              have b3 : ((c.toNat : Int) == 109) = false := b3
              have b4 : ((c.toNat : Int) == 115) = false := b4
              have b5 : ((c.toNat : Int) == 108) = false := b5
              simp only [doE, findK, sameKey, if_true, b1, b2, b3, b4, b5]
            have hf := hlkn hno
            have hh := fun k => rd_rest Hx k (H.length + 2) v bs a' (a + n) x k' hbx hvx r1 (by omega)
            rw [r3] at hh
            simp only [go_sem, simprocAttr, hl, h3, h8, h9, h10, h11, h58, hs, hset, hf, hh]
            exact fin _ (a + n) k' { x with raw := d.raw } _ r4 hgot (fun j hj hj5 => hxz j hj hj5) (by omega) (by simp only [clean_andI, clean_sn, clean_z, hce, and_true, true_and]; omega) (by simp only [go_sem, simprocAttr, hl]) (by simp only [go_sem, simprocAttr, hl, h3]) (by simp only [go_sem, simprocAttr, hl, h8]) (by simp only [go_sem, simprocAttr, hl, h9]) (by simp only [go_sem, simprocAttr, hl, h10]) (by simp only [go_sem, simprocAttr, hl, h11]) (by simp only [go_sem, simprocAttr, hl, h58])
  · have hi : i = F.length := by omega
    subst hi
    rw [List.drop_length] at hr hgot
    have hr : a' = a + n := hr
    have hgot : x = d := hgot
    subst hr hgot
    simp only [go_sem, simprocAttr, hl, h3, h8, h9, h10, h11, h58, hie]
    refine go_drawZ tFollows (by kernel_rfl) ?_
    have q1 : x.cells.length = 8 := rfl
    have q2 : Dt.zero.cells.length = 8 := rfl
    have q3 : x.cells.all scal = true := rfl
    have q4 : flats x.cells = true := by simp [Dt.cells, flats, flat]
    have q5 : splice Dt.zero.cells 0 x.cells = x.cells := rfl
    simp only [go_sem, simprocAttr, hl, h3, h8, h9, h10, h11, h58, RdC.l1, RdC.l2, RdC.l3, hckf, q1, q2, q3, q4, q5]
    refine caught0 ?_
    simp only [go_sem, simprocAttr, hl, h8, h9, Dt.l8]
    exact leave_flat (by simp [flat, flats, q4]) (by simp only [clean_andI, clean_sn, hce, true_and]; omega)
end Go.Proofs.YtgkpgpdkolpfkaaDoor.V
namespace Go.Proofs.YtgkpgpdkolpfkaaDoor.V
open Go
set_option linter.unusedSimpArgs false
set_option linter.unusedVariables false

theorem geta {α : Type} {l xs : List α} {i : Nat} {x : α} (h : l[i]? = some x) : (l ++ xs)[i]? = some x := by
  rw [List.getElem?_append_left (List.getElem?_eq_some_iff.1 h).1]; exact h
theorem Rn.app {bs : List UInt8} (xs : List UInt8) : ∀ {m row a : Nat} {n : List UInt8} {nx : Nat}, Rn bs m row a n nx → Rn (bs ++ xs) m row a n nx
  | 0, _, a, n, nx, h => by
    obtain ⟨h1, h2, h3⟩ := h
    exact ⟨geta h1, h2, h3⟩
  | m + 1, row, a, n, nx, h => by
    obtain ⟨c, n', h1, h2, h3, h4, h5, h6⟩ | ⟨c, d, nx', h1, h2, h3, h4, h5, h6⟩ := h
    · refine .inl ⟨c, n', geta h1, h2, h3, by rw [List.length_append]; omega, ?_, h6.app xs⟩
      rw [h5, List.drop_append_of_le_length (by omega), List.take_append_of_le_length (by rw [List.length_drop]; omega)]
    · exact .inr ⟨c, d, nx', geta h1, h2, geta h3, h4, h5, h6.app xs⟩
/-- What the table remembers is so. -/
def GoodT (out : List UInt8) (tab : Tab) : Prop := ∀ n p, tget tab n = some p → p < out.length ∧ p ≤ 16383 ∧ ∃ m nx, Rn out m p p n nx
theorem GoodT.app {out : List UInt8} {tab : Tab} (h : GoodT out tab) (xs : List UInt8) : GoodT (out ++ xs) tab := fun n p hp => by
  obtain ⟨h1, h2, m, nx, h3⟩ := h n p hp
  exact ⟨by rw [List.length_append]; omega, h2, m, nx, h3.app xs⟩
theorem tget_snoc {t : Tab} {k : List UInt8} {q : Nat} : ∀ {n : List UInt8} {p : Nat}, tget (t ++ [(k, q)]) n = some p → tget t n = some p ∨ (tget t n = none ∧ n = k ∧ p = q) := by
  induction t with
  | nil =>
    intro n p h
    have h : (if k = n then some q else none) = some p := h
    split at h
    · rename_i hk
      cases h
      exact .inr ⟨rfl, hk.symm, rfl⟩
    · cases h
  | cons x r ih =>
    obtain ⟨k', q'⟩ := x
    intro n p h
    have h : (if k' = n then some q' else tget (r ++ [(k, q)]) n) = some p := h
    show (if k' = n then some q' else tget r n) = some p ∨ ((if k' = n then some q' else tget r n) = none ∧ n = k ∧ p = q)
    by_cases hk : k' = n
    · rw [if_pos hk] at h ⊢
      exact .inl h
    · rw [if_neg hk] at h ⊢
      exact ih h
theorem ptr_be {p : Nat} (h : p ≤ 16383) : ptrP (byt (49152 + p) 8) (byt (49152 + p) 0) = p ∧ 192 ≤ (byt (49152 + p) 8).toNat := by
  unfold ptrP byt
  have e1 : (UInt8.ofNat ((49152 + p) / 2 ^ 8)).toNat = (49152 + p) / 256 := by
    rw [UInt8.toNat_ofNat']; omega
  have e2 : (UInt8.ofNat ((49152 + p) / 2 ^ 0)).toNat = (49152 + p) % 256 := by
    rw [UInt8.toNat_ofNat']; omega
  rw [e1, e2]
  omega
theorem putN_ext (plain : Bool) : ∀ (L : List (List UInt8)) (tab : Tab) (out : List UInt8), ∃ xs, (putN plain L tab out).1 = out ++ xs
  | [], _, _ => ⟨[0], rfl⟩
  | l :: L, tab, out => by
    unfold putN
    split
    · split
      · obtain ⟨xs, h⟩ := putN_ext plain L tab (out ++ lb l)
        exact ⟨lb l ++ xs, by rw [h, List.append_assoc]⟩
      · exact ⟨_, rfl⟩
    · obtain ⟨xs, h⟩ := putN_ext plain L (if out.length ≤ 16383 then tab ++ [(glue (l :: L), out.length)] else tab) (out ++ lb l)
      exact ⟨lb l ++ xs, by rw [h, List.append_assoc]⟩
/-- A name that is written is read, and all that the table remembers then. -/
theorem putN_rd (plain : Bool) : ∀ (L : List (List UInt8)) (tab : Tab) (out : List UInt8) (p0 : Nat), (∀ l ∈ L, 0 < l.length ∧ l.length ≤ 63) → p0 ≤ out.length →
    (∀ n p, tget tab n = some p → n.length ≤ (glue L).length → p < p0 ∧ p ≤ 16383 ∧ ∃ m nx, Rn out m p p n nx) →
    (∃ m, ∀ row, p0 ≤ row → Rn (putN plain L tab out).1 m row out.length (glue L) (putN plain L tab out).1.length) ∧
    (∀ n p, tget (putN plain L tab out).2 n = some p → tget tab n = some p ∨ (p < (putN plain L tab out).1.length ∧ p ≤ 16383 ∧ ∃ m nx, Rn (putN plain L tab out).1 m p p n nx))
  | [], tab, out, p0, hL, hp, hT => by
    refine ⟨⟨0, fun row _ => ⟨?_, rfl, by simp [putN]⟩⟩, fun n p h => .inl h⟩
    show (out ++ [0])[out.length]? = some 0
    simp
  | l :: L, tab, out, p0, hL, hp, hT => by
    have hgl := glue_len_cons l L
    obtain ⟨hl1, hl2⟩ := hL l (by simp)
    have hL' : ∀ l ∈ L, 0 < l.length ∧ l.length ≤ 63 := fun x hx => hL x (by simp [hx])
    -- a label, and the rest by what holds of it
    have lab : ∀ (tab1 : Tab), (∃ m, ∀ row, p0 ≤ row → Rn (putN plain L tab1 (out ++ lb l)).1 m row (out ++ lb l).length (glue L) (putN plain L tab1 (out ++ lb l)).1.length) →
        ∃ m, ∀ row, p0 ≤ row → Rn (putN plain L tab1 (out ++ lb l)).1 m row out.length (glue (l :: L)) (putN plain L tab1 (out ++ lb l)).1.length := by
      rintro tab1 ⟨m, hm⟩
      obtain ⟨xs, hxs⟩ := putN_ext plain L tab1 (out ++ lb l)
      refine ⟨m + 1, fun row hrow => .inl ⟨UInt8.ofNat l.length, glue L, ?_, ?_, ?_, ?_, ?_, ?_⟩⟩
      · rw [hxs, List.append_assoc, List.getElem?_append_right (Nat.le_refl _), Nat.sub_self]; rfl
      · rw [ofNat_le (Nat.le_refl _) (by omega)]; exact hl1
      · rw [ofNat_le (Nat.le_refl _) (by omega)]; exact hl2
      · rw [ofNat_le (Nat.le_refl _) (by omega), hxs, List.length_append, List.length_append, lb_len]; omega
      · rw [ofNat_le (Nat.le_refl _) (by omega), hxs, List.append_assoc, List.drop_left, List.take_append_of_le_length (by rw [lb_len]; omega), List.take_of_length_le (by rw [lb_len]; omega), glue_cons]
      · have := hm row hrow
        rw [ofNat_le (Nat.le_refl _) (by omega)]
        rw [List.length_append, lb_len] at this
        rw [show out.length + 1 + l.length = out.length + (1 + l.length) by omega]
        exact this
    have keepT : ∀ n p, tget tab n = some p → n.length ≤ (glue L).length → p < p0 ∧ p ≤ 16383 ∧ ∃ m nx, Rn (out ++ lb l) m p p n nx := fun n p h hn => by
      obtain ⟨a, b, m, nx, c⟩ := hT n p h (by omega)
      exact ⟨a, b, m, nx, c.app _⟩
    unfold putN
    cases ht : tget tab (glue (l :: L)) with
    | some p =>
      simp only
      by_cases hpl : plain = true
      · rw [if_pos hpl]
        obtain ⟨i1, i2⟩ := putN_rd plain L tab (out ++ lb l) p0 hL' (by rw [List.length_append]; omega) keepT
        exact ⟨lab tab i1, i2⟩
      · rw [if_neg hpl]
        obtain ⟨a, b, m, nx, c⟩ := hT _ p ht (Nat.le_refl _)
        obtain ⟨e1, e2⟩ := ptr_be b
        refine ⟨⟨m + 1, fun row hrow => .inr ⟨byt (49152 + p) 8, byt (49152 + p) 0, nx, ?_, e2, ?_, ?_, by rw [e1]; omega, by rw [e1]; exact c.app _⟩⟩, fun n q h => .inl h⟩
        · show (out ++ be16 (49152 + p))[out.length]? = _
          rw [List.getElem?_append_right (Nat.le_refl _), Nat.sub_self]; rfl
        · show (out ++ be16 (49152 + p))[out.length + 1]? = _
          rw [List.getElem?_append_right (by omega), Nat.add_sub_cancel_left]; rfl
        · show (out ++ be16 (49152 + p)).length = _
          rw [List.length_append]; rfl
    | none =>
      simp only
      have hkeep : ∀ n p, tget (if out.length ≤ 16383 then tab ++ [(glue (l :: L), out.length)] else tab) n = some p → n.length ≤ (glue L).length → p < p0 ∧ p ≤ 16383 ∧ ∃ m nx, Rn (out ++ lb l) m p p n nx := by
        intro n p h hn
        split at h
        · rcases tget_snoc h with h | ⟨_, rfl, _⟩
          · exact keepT n p h hn
          · omega
        · exact keepT n p h hn
      obtain ⟨i1, i2⟩ := putN_rd plain L _ (out ++ lb l) p0 hL' (by rw [List.length_append]; omega) hkeep
      have i1' := lab _ i1
      refine ⟨i1', fun n p h => ?_⟩
      rcases i2 n p h with h | h
      · split at h
        · rename_i hfar
          rcases tget_snoc h with h | ⟨_, rfl, rfl⟩
          · exact .inl h
          · right
            obtain ⟨m, hm⟩ := i1'
            have := hm out.length hp
            rw [if_pos hfar] at this ⊢
            exact ⟨this.pos.2.1, hfar, m, _, this⟩
        · exact .inl h
      · exact .inr h
theorem putN_good {plain : Bool} {s : List UInt8} (hs : (nm s).isSome = true) {tab : Tab} {out : List UInt8} (hg : GoodT out tab) :
    (∃ m, Rn (putN plain (labs s) tab out).1 m out.length out.length s (putN plain (labs s) tab out).1.length) ∧ GoodT (putN plain (labs s) tab out).1 (putN plain (labs s) tab out).2 := by
  obtain ⟨h1, h2, _⟩ := nm_glue (labs_is hs)
  obtain ⟨⟨m, hm⟩, h4⟩ := putN_rd plain (labs s) tab out out.length h2 (Nat.le_refl _) (fun n p hp _ => hg n p hp)
  refine ⟨⟨m, by conv => enter [5]; rw [h1]
                 exact hm _ (Nat.le_refl _)⟩, fun n p hp => ?_⟩
  rcases h4 n p hp with h | h
  · obtain ⟨xs, hx⟩ := putN_ext plain (labs s) tab out
    rw [hx]
    exact hg.app xs n p h
  · exact h
theorem beN_16 {x : Nat} (h : x < 65536) : beN (be16 x) = x := by
  have e1 : (byt x 8).toNat = x / 256 := by unfold byt; rw [UInt8.toNat_ofNat']; omega
  have e2 : (byt x 0).toNat = x % 256 := by unfold byt; rw [UInt8.toNat_ofNat']; omega
  simp only [beN, be16, List.foldl_cons, List.foldl_nil, e1, e2]
  omega
theorem beN_32 {x : Nat} (h : x < 4294967296) : beN (be32 x) = x := by
  have e0 : (byt x 24).toNat = x / 16777216 := by
    unfold byt; rw [UInt8.toNat_ofNat']; omega
  have e3 : (byt x 16).toNat = x / 65536 % 256 := by unfold byt; rw [UInt8.toNat_ofNat']
  have e1 : (byt x 8).toNat = x / 256 % 256 := by unfold byt; rw [UInt8.toNat_ofNat']
  have e2 : (byt x 0).toNat = x % 256 := by unfold byt; rw [UInt8.toNat_ofNat']; omega
  simp only [beN, be32, List.foldl_cons, List.foldl_nil, e0, e1, e2, e3]
  omega
theorem putF_rd {d : Dt} (hd : d.wf) : ∀ (F : List UInt8) (k : Nat) (tab : Tab) (out : List UInt8), okF d F k → GoodT out tab →
    GoodT (putF d F k tab out).1 (putF d F k tab out).2 ∧ (∃ xs, (putF d F k tab out).1 = out ++ xs) ∧ ∀ ys, Rds ((putF d F k tab out).1 ++ ys) (putF d F k tab out).1.length d F k out.length
  | [], k, tab, out, _, hg => ⟨hg, ⟨[], by simp [putF]⟩, fun _ => rfl⟩
  | c :: r, k, tab, out, h, hg => by
    have name : ∀ (plain : Bool) (s : List UInt8), (nm s).isSome = true → okF d r k → putF d (c :: r) k tab out = putF d r k (putN plain (labs s) tab out).2 (putN plain (labs s) tab out).1 →
        (∀ B en nx m, Rn B m out.length out.length s nx → s.length ≤ 255 → nx ≤ en → Rds B en d r k nx → Rds B en d (c :: r) k out.length) →
        GoodT (putF d (c :: r) k tab out).1 (putF d (c :: r) k tab out).2 ∧ (∃ xs, (putF d (c :: r) k tab out).1 = out ++ xs) ∧ ∀ ys, Rds ((putF d (c :: r) k tab out).1 ++ ys) (putF d (c :: r) k tab out).1.length d (c :: r) k out.length := by
      intro plain s hs h he hR
      obtain ⟨⟨m, g1⟩, g2⟩ := putN_good (plain := plain) hs hg
      obtain ⟨i1, ⟨xs, hx⟩, i2⟩ := putF_rd hd r k _ _ h g2
      obtain ⟨zs, hz⟩ := putN_ext plain (labs s) tab out
      rw [he]
      refine ⟨i1, ⟨zs ++ xs, by rw [hx, hz, List.append_assoc]⟩, fun ys => ?_⟩
      refine hR _ _ _ m ?_ (nm_glue (labs_is hs)).2.2 ?_ (i2 ys)
      · rw [hx, List.append_assoc]; exact g1.app _
      · rw [hx, List.length_append]; omega
    have num : ∀ (w : Nat) (bs : List UInt8), bs.length = w → (beN bs : Int) = d.n k → k < 5 → okF d r (k + 1) → putF d (c :: r) k tab out = putF d r (k + 1) tab (out ++ bs) →
        (∀ B en, out.length + w ≤ en → (beN ((B.drop out.length).take w) : Int) = d.n k → Rds B en d r (k + 1) (out.length + w) → Rds B en d (c :: r) k out.length) →
        GoodT (putF d (c :: r) k tab out).1 (putF d (c :: r) k tab out).2 ∧ (∃ xs, (putF d (c :: r) k tab out).1 = out ++ xs) ∧ ∀ ys, Rds ((putF d (c :: r) k tab out).1 ++ ys) (putF d (c :: r) k tab out).1.length d (c :: r) k out.length := by
      intro w bs hw hb hk h he hR
      obtain ⟨i1, ⟨xs, hx⟩, i2⟩ := putF_rd hd r (k + 1) tab (out ++ bs) h (hg.app bs)
      rw [he]
      refine ⟨i1, ⟨bs ++ xs, by rw [hx, List.append_assoc]⟩, fun ys => ?_⟩
      refine hR _ _ ?_ ?_ ?_
      · rw [hx, List.length_append, List.length_append]; omega
      · rw [hx, List.append_assoc, List.append_assoc, List.drop_left, ← hw, List.take_left]; exact hb
      · have := i2 ys
        rw [List.length_append, hw] at this
        exact this
    obtain (⟨hc, hh, h⟩ | ⟨hc, hh, h⟩ | ⟨hc, hh, h⟩) | ⟨hc, hk, hx, h⟩ | ⟨hc, hk, h⟩ := h
    · refine name false d.host hh h (by rw [putF]; simp only [hc, if_true]) (fun B en nx m r1 r2 r3 r4 => ?_)
      simp only [Rds]; rw [if_pos (.inl hc)]; exact ⟨m, nx, r1, r2, r3, r4⟩
    · refine name true d.host hh h (by rw [putF]; simp only [hc]; rfl) (fun B en nx m r1 r2 r3 r4 => ?_)
      simp only [Rds]; rw [if_pos (.inr hc)]; exact ⟨m, nx, r1, r2, r3, r4⟩
    · refine name false d.mail hh h (by rw [putF]; simp only [hc]; rfl) (fun B en nx m r1 r2 r3 r4 => ?_)
      simp only [Rds]; rw [if_neg (by omega), if_pos hc]; exact ⟨m, nx, r1, r2, r3, r4⟩
    · obtain ⟨n0, n1⟩ := n_wf hd hk
      refine num 2 (be16 (d.n k).toNat) rfl (by rw [beN_16 (by omega)]; try omega) hk h (by rw [putF]; simp only [hc]; try rfl) (fun B en r1 r2 r3 => ?_)
      simp only [Rds]; rw [if_neg (by omega), if_neg (by omega), if_pos hc]; exact ⟨r1, hk, r2, r3⟩
    · obtain ⟨n0, n1⟩ := n_wf hd hk
      refine num 4 (be32 (d.n k).toNat) rfl (by rw [beN_32 (by omega)]; try omega) hk h (by rw [putF]; simp only [hc]; try rfl) (fun B en r1 r2 r3 => ?_)
      simp only [Rds]; rw [if_neg (by omega), if_neg (by omega), if_neg (by omega), if_pos hc]; exact ⟨r1, hk, r2, r3⟩
theorem got_good {t : Int} {d : Dt} (hg : goodB t d = true) : gotF d (formS t) 0 Dt.zero = d := by
  obtain ⟨raw, host, mail, n0, n1, n2, n3, n4⟩ := d
  simp only [goodB, headB, Bool.and_eq_true] at hg
  obtain ⟨⟨h1, h2, h3, h4, h5⟩, m0, m1, m2, m3, m4⟩ := hg
  rcases kinds_cases t with rfl | rfl | rfl | rfl | rfl | rfl | rfl | rfl | rfl | h
  all_goals simp_all [gotF, formS, Dt.setN, Dt.n, Dt.zero, hostT, mailT, numB, numT, bitT, rawT]
/-- What was written, whatever it is, is read at its place. -/
theorem put_rds {t : Int} {d : Dt} (hd : d.wf) (hg : goodB t d = true) {tab : Tab} {out : List UInt8} (hT : GoodT out tab) :
    GoodT (putF d (formS t) 0 tab out).1 (putF d (formS t) 0 tab out).2 ∧ (∃ xs, (putF d (formS t) 0 tab out).1 = out ++ xs) ∧ ∀ ys, Rds ((putF d (formS t) 0 tab out).1 ++ ys) (putF d (formS t) 0 tab out).1.length d (formS t) 0 out.length := by
  by_cases hm : madeT t
  · exact putF_rd hd _ _ _ _ (okF_good hm hg) hT
  · rw [putF_bytes hm]
    refine ⟨hT.app _, ⟨_, rfl⟩, fun ys => ?_⟩
    obtain ⟨c, hF, m1, m2, m3, m4, m5⟩ := form_bytes hm
    rw [hF]
    simp only [Rds]
    rw [if_neg (by omega), if_neg m3, if_neg m4, if_neg m5]
    refine ⟨by rw [List.length_append]; omega, ?_, trivial⟩
    rw [List.append_assoc, List.drop_left, List.length_append, Nat.add_sub_cancel_left, List.take_left]
end Go.Proofs.YtgkpgpdkolpfkaaDoor.V
namespace Go.Proofs.YtgkpgpdkolpfkaaDoor.V
open Go
set_option linter.unusedSimpArgs false
set_option linter.unusedVariables false

theorem itsC_app (a b : List Itm) : itsC (a ++ b) = itsC a ++ itsC b := by simp [itsC]
theorem itsC_one (x : Itm) : itsC [x] = x.cells := by simp [itsC]
theorem itm_scal (x : Itm) : x.cells.all scal = true := rfl
theorem its_ldI {R : List Itm} {i : Nat} {x : Itm} (h : R[i]? = some x) (e : TypeId) (k : Kd) : ldC (i * 10) 10 true (.cells (itsC R) e k) = some (.agg x.cells) := by
  have hl : i < R.length := (List.getElem?_eq_some_iff.1 h).1
  have hlen := itsC_len R
  have e1 : ((itsC R).drop (i * 10)).take 10 = x.cells := by rw [itsC_at h]; rfl
  rw [ldC_t, if_pos (by rw [hlen]; omega), e1]
/-- A row of items that append made. -/
def Kp (n : Nat) (H : Hp) (v : AV) (ks : List Itm) : Prop := (v = .nils ∧ ks = []) ∨ ∃ b, n ≤ b ∧ v = .slice b 0 ks.length (.op 0) ∧ H[b]? = some (.cells (itsC ks) 39 (.op 0 false)) ∧ ks ≠ []
theorem Kp.keep {n : Nat} {H H' : Hp} {v : AV} {ks : List Itm} (h : Kp n H v ks) (hk : ∀ (i : Nat) (x : ABlk), bk v = some i → H[i]? = some x → H'[i]? = some x) : Kp n H' v ks := by
  obtain h | ⟨b, h1, rfl, h3, h4⟩ := h
  · exact .inl h
  · exact .inr ⟨b, h1, rfl, hk b _ rfl h3, h4⟩
theorem Kp.cells {n : Nat} {H : Hp} {v : AV} {ks : List Itm} (h : Kp n H v ks) {i : Nat} (hi : bk v = some i) : n ≤ i ∧ H[i]? = some (.cells (itsC ks) 39 (.op 0 false)) := by
  obtain ⟨rfl, _⟩ | ⟨b, h1, rfl, h3, h4⟩ := h
  · cases hi
  · cases hi; exact ⟨h1, h3⟩
theorem Kp.len {n : Nat} {H : Hp} {v : AV} {ks : List Itm} (h : Kp n H v ks) (H' : Hp) : evLen Tryd.prog 22 v H' = some (.int .i64 ks.length) := by
  obtain ⟨rfl, rfl⟩ | ⟨b, h1, rfl, h3, h4⟩ := h <;> simp only [evLen, tsh_22] <;> rfl
theorem Kp.at {n : Nat} {H : Hp} {v : AV} {ks : List Itm} (h : Kp n H v ks) {i : Nat} {x : Itm} (hx : ks[i]? = some x) :
    ∃ b, evIndexAddr Tryd.prog 22 v (.int .i64 (i : Nat)) = some (.ptr b (i * 10)) ∧ H[b]? = some (.cells (itsC ks) 39 (.op 0 false)) := by
  have hi := (List.getElem?_eq_some_iff.1 hx).1
  obtain ⟨rfl, rfl⟩ | ⟨b, h1, rfl, h3, h4⟩ := h
  · simp at hi
  · refine ⟨b, ?_, h3⟩
    simp only [evIndexAddr, tsh_22]
    rw [if_pos (by omega)]
    simp
/-- An item appended. -/
theorem Kp.app {n : Nat} {H : Hp} {v : AV} {ks : List Itm} (h : Kp n H v ks) (hn : n ≤ H.length) (x : Itm) (hf : fits (ks.length + 1) 88 = true) :
    ∃ (v' : AV) (H' : Hp) (e' : Ef), (∀ kk, stepK (appTo Tryd.prog (.slice 39 10 88) v (x.cells, 1) H) kk = kk (v', H', e')) ∧ Kp n H' v' (ks ++ [x]) ∧ H.length ≤ H'.length ∧
      (∀ (i : Nat) (y : ABlk), bk v ≠ some i → H[i]? = some y → H'[i]? = some y) ∧ clean n e' := by
  have zk := zok_22
  obtain ⟨rfl, rfl⟩ | ⟨b, hb, rfl, hg, hne⟩ := h
  · refine ⟨.slice H.length 0 1 (.op 0), H ++ [.cells x.cells 39 (.op 0 false)], z0, fun kk => ?_, .inr ⟨H.length, hn, rfl, by rw [List.nil_append, itsC_one]; simp, by simp⟩, by simp, fun i x _ hx => get_app hx, by simp [clean, z0, low]⟩
    rw [appTo_nils (by decide) zk]
    have hf : fits 1 88 = true := by simpa using hf
    have hd : decide ((1 : Nat) = 0) = false := by decide
    simp only [hd, guardK_ft, hf, true_and]
  · have hlt := lt_of_get hg
    refine ⟨.slice H.length 0 (ks.length + 1) (.op 0), H.set b .dead ++ [.cells (itsC ks ++ x.cells) 39 (.op 0 false)], ⟨none, some b⟩, fun kk => ?_, .inr ⟨H.length, hn, by simp, ?_, by simp⟩, by simp, ?_, by simp [clean, low]; omega⟩
    · rw [appTo_op (by decide) zk, hg, bindK_some, appO_c]
      have hlen := itsC_len ks
      have hd : decide (0 + (ks.length + 1) * 10 ≤ (itsC ks).length) = false := by simp; omega
      have hk : ((itsC ks).drop 0).take (ks.length * 10) = itsC ks := by rw [List.drop_zero, ← hlen, List.take_length]
      have hle : 0 + ks.length * 10 ≤ (itsC ks).length := by omega
      simp only [hd, guardK_ft, hk, hf, itm_scal]
      simp [hlen]
    · rw [List.getElem?_append_right (by simp), itsC_app, itsC_one]; simp
    · intro i y hi hy
      exact get_app (by rw [List.getElem?_set_ne (by rintro rfl; exact hi rfl)]; exact hy)
theorem bsliceK (x : Itm) (H : Hp) : evBuildSlice Tryd.prog 22 1 [(0, .agg x.cells)] H = some (.slice H.length 0 1 (.ex 1), H ++ [.cells x.cells 39 .rw]) := by
  have hv : vcells (.agg x.cells) = x.cells := rfl
  have hl : x.cells.length = 10 := rfl
  have hz : (Itm.cells ⟨0, 0, Dt.zero⟩).length = 10 := rfl
  simp only [evBuildSlice, tsh_22, tzero_39, Option.bind_some]
  rw [if_pos (by decide), if_pos (by rfl)]
  simp only [fillA, hv, Option.bind_some]
  rfl
end Go.Proofs.YtgkpgpdkolpfkaaDoor.V
