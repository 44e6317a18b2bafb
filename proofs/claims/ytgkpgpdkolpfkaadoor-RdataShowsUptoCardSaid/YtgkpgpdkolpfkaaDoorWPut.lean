/- Numbers as bytes: as 'V' runs the program's functions. No conditions. -/
import Derived.Test.YtgkpgpdkolpfkaaDoorWShow
namespace Go.Proofs.YtgkpgpdkolpfkaaDoor.V
open Go
set_option linter.unusedSimpArgs false
set_option linter.unusedVariables false
theorem k_makeMap {P : Program} {σ : List AV} {H : Hp} {t : TypeId} {kk : AV × Hp × Ef → Prop} (h : (match tsh P t with | some (.map _ _) => true | _ => false) = true) : opK P σ H (.makeMap t none) kk = kk (.map H.length, H ++ [.map []], z0) := by
  show stepK _ _ = _
  simp only [evOp]
  split at h
  · rename_i e; rw [e]; rfl
  · cases h
theorem callK_yI {P : Program} {b : Nat} {args : List AV} {H : Hp} {kk : AV × Hp × Ef → Prop} (h : bindK (asReady (H[b]?)) fun L => (args.length = L.ps.length ∧ noRange L.as = true) ∧ go P (rdQ P b H.length L.bd kk) [.code L.as] ⟨putAll L.σ L.ps args, H, z0⟩) :
    callK P (P.funcs.size + b) args H kk := by
  cases hb : H[b]? with
  | none => rw [hb] at h; simp [asReady, bindK] at h
  | some x =>
    rw [hb] at h
    cases x <;> try (simp [asReady, bindK] at h; done)
    rename_i s1 p1 a1 b1 m1
    cases m1 <;> try (simp [asReady, bindK] at h; done)
    have h' : (args.length = p1.length ∧ noRange a1 = true) ∧ go P (rdQ P b H.length b1 kk) [It.code a1] ⟨putAll s1 p1 args, H, z0⟩ := by simpa only [asReady, bindK] using h
    obtain ⟨⟨h1, h2⟩, h3⟩ := h'
    rw [callK_yl hb h1 h2]
    exact h3
attribute [local irreducible] go goOps goD opK callK callT stepK leaveTo nextK

set_option maxRecDepth 20000 in
theorem size16 (H k) : callK Tryd.prog 65 [] H k = k (.int .i64 2, H, z0) := by
  refine callK_eq (r := (.int .i64 2, H, z0)) ?_ k
  refine callK_start (n := 19) (rs := [.tmp 0]) Tryd.func65 rfl rfl rfl ?_
  intro σ hl ha
  clear ha
  have w2 : IntKind.u16.wrap 0 = 0 := by decide
  have w3 : IntKind.u16.wrap (-1) = 65535 := by decide
  have w4 : IntKind.u32.wrap 65535 = 65535 := by decide
  have g1 : decide ((65535 : Int).fdiv (2 ^ min 7 32) > 1) = true := by decide
  have g2 : decide ((65535 : Int).fdiv (2 ^ min 15 32) > 1) = false := by decide
  simp only [go_sem, simprocAttr, hl, w2, w3]
  rw [go_loop]
  simp only [go_sem, simprocAttr, hl, w2, w3, w4, g1]
  rw [go_loop]
  simp only [go_sem, simprocAttr, hl, w2, w3, w4, g2]

/-- New bytes: a row of their own. -/
def Own (n : Nat) (T : Hp) (v : AV) (bs : List UInt8) : Prop := ∃ m, v = .slice (n + m) 0 bs.length (.op 0) ∧ T[m]? = some (.cells (u8s bs) 5 (.op 0 false))
theorem Own.rd {H T : Hp} {v : AV} {bs : List UInt8} (h : Own H.length T v bs) : Rd (H ++ T) v bs := by
  obtain ⟨m, rfl, hm⟩ := h
  exact .inr ⟨_, _, _, [], [], 5, .op 0 false, rfl, rfl, by rw [hp_new, hm]; simp, .inr ⟨rfl, rfl, 0, false, rfl⟩⟩

set_option maxRecDepth 20000 in
theorem wk_put16 (H k) : callK Tryd.prog 26 [.nils, .int .u16 10] H k = k (.slice (H.length + 3) 0 2 (.op 0), H ++ [.cells [.int .u8 0] 5 .rw, .dead, .cells [.int .u8 10] 5 .rw, .cells [.int .u8 0, .int .u8 10] 5 (.op 0 false)], z0) := by
  refine callK_eq ?_ k
  refine callK_start (n := 28) (rs := [.tmp 4]) Tryd.func26 rfl rfl rfl ?_
  intro σ hl ha
  have h0 := ha 0 (by simp)
  have h1 := ha 1 (by simp)
  clear ha
  simp only [Option.getD_some, List.getElem?_cons_zero, List.getElem?_cons_succ] at h0 h1
  have hs := fun H k => size16 H k
  have hln : ∀ H', evLen Tryd.prog 31 .nils H' = some (.int .i64 0) := by intro H'; simp only [evLen, tsh_31]
  have fits1 : fits 1 1 = true := by decide
  have fits2 : fits 2 1 = true := by decide
  have wm : IntKind.i64.wrap (-1) = -1 := by decide
  have wg : decide ((-1 : Int) ≥ 0) = false := by decide
  have w1 : IntKind.u32.wrap 10 = 10 := by decide
  have w2 : IntKind.u8.wrap ((10 : Int).fdiv (2 ^ min 8 32)) = 0 := by decide
  have w3 : IntKind.u8.wrap ((10 : Int).fdiv (2 ^ min 0 32)) = 10 := by decide
  simp only [go_sem, simprocAttr, hl, h0, h1, hs, hln]
  rw [go_loop]
  simp only [go_sem, simprocAttr, hl, h0, h1, hs, hln, w1, w2, w3, bslice1, fits1, fits2, wm, wg]
  rw [go_loop]
  simp only [go_sem, simprocAttr, hl, h0, h1, hs, hln, w1, w2, w3, bslice1, fits1, fits2, wm, wg]
  rw [go_loop]
  simp only [go_sem, simprocAttr, hl, h0, h1, hs, hln, w1, w2, w3, bslice1, fits1, fits2, wm, wg]

attribute [go_sem ↓] k_makeMap
theorem mk_map : ∀ t : TypeId, t = 57 → (match tsh Tryd.prog t with | some (.map _ _) => true | _ => false) = true := by
  rintro t rfl; simp only [tsh_57]
set_option maxRecDepth 20000 in
theorem press_New (H k) : callK Tryd.prog 9 [] H k = k (.ptr (H.length + 1) 0, H ++ [.map [], .cells [.map H.length] 59 .rw], z0) := by
  refine callK_eq (r := (.ptr (H.length + 1) 0, H ++ [.map [], .cells [.map H.length] 59 .rw], z0)) ?_ k
  refine callK_start (n := 4) (rs := [.tmp 0]) Tryd.func9 rfl rfl rfl ?_
  intro σ hl ha
  clear ha
  have hbd : ∀ n, evBuild Tryd.prog 59 [(0, .map n)] = some (.agg [.map n]) := by intro n; kernel_rfl
  simp only [go_sem, simprocAttr, hl, hbd]

theorem nm_wk : nm [1, 97, 0] = some [[97]] := by decide
set_option maxRecDepth 20000 in
theorem wk_parent (H k) : callK Tryd.prog 101 [.str [1, 97, 0]] H k = k (.tuple [.str [0], .bool true], H, z0) := by
  obtain ⟨⟨bv, bT⟩, hb, hst⟩ := name_starts [1, 97, 0] H (by decide)
  have hB := hb _ nm_wk
  rw [nm_wk] at hst
  simp only [Option.isSome_some] at hst
  refine callK_eq (r := (.tuple [.str [0], .bool true], H, z0)) ?_ k
  refine callK_start (n := 24) (rs := [.tmp 2, .tmp 3]) Tryd.func101 rfl rfl rfl ?_
  intro σ hl ha
  have h0 := ha 0 (by simp)
  clear ha
  simp only [Option.getD_some, List.getElem?_cons_zero, List.getElem?_cons_succ] at h0
  obtain ⟨rfl, _, h3⟩ | ⟨h1, h2, m, hbv, h3⟩ := hB
  · cases h3
  simp only at hbv hst
  subst hbv
  simp only [go_sem, simprocAttr, hl, h0, hst]
theorem leave_nf {n m : Nat} {v : AV} {e : Ef} (hv : flat v = false) (h : clean m e) : ∃ e', (∀ H, leave n v H e = (v, H, e')) ∧ clean m e' := by
  refine ⟨⟨low n e.es, low n e.ws⟩, fun H => ?_, low_low h.1, low_low h.2⟩
  unfold leave
  rw [if_neg (by rw [hv]; simp)]
theorem arg_nilf {P : Program} {σ : List AV} : evArg P σ (.const .nilFunc) = some .nilf := rfl
theorem und_Tp : Tryd.prog.underlying 24 = some (.pointer 59) := by kernel_rfl
theorem eqTp {b o : Nat} {c : Bool} : binV Tryd.prog .eql 24 (.ptr b o) .nilp c = some (.bool false) := by simp [binV, evBin, evEq, und_Tp]
theorem eqTn {c : Bool} : binV Tryd.prog .eql 24 .nilp .nilp c = some (.bool true) := by simp [binV, evBin, evEq, und_Tp]
attribute [go_sem] arg_nilf eqTp eqTn
set_option maxRecDepth 20000 in
theorem wk_fronts (H k) : callK Tryd.prog 84 [.str [1, 97, 0]] H k = k (.func (.func 100) [] [.ptr H.length 0], H ++ [.cells [.str [1, 97, 0]] 33 .rw], z0) := by
  refine callK_eq (r := (.func (.func 100) [] [.ptr H.length 0], H ++ [.cells [.str [1, 97, 0]] 33 .rw], z0)) ?_ k
  refine callK_start (n := 4) (rs := [.tmp 2]) Tryd.func84 rfl rfl rfl ?_
  intro σ hl ha
  have h0 := ha 0 (by simp)
  clear ha
  simp only [Option.getD_some, List.getElem?_cons_zero, List.getElem?_cons_succ] at h0
  simp only [go_sem, simprocAttr, hl, h0]

set_option maxRecDepth 20000 in
set_option maxHeartbeats 2000000 in
theorem wk_row (H T : Hp) (q : Nat) (hT1 : T[1]? = some (.map [])) (hT2 : T[2]? = some (.cells [.map (H.length + 1)] 59 .rw)) (hq : T[q]? = some (.cells (u8s [0, 10]) 5 (.op 0 false))) :
    callK Tryd.prog 64 [.ptr (H.length + 2) 0, .slice (H.length + q) 0 2 (.op 0), .str [1, 97, 0], .bool false] (H ++ T) (fun r => ∃ m L e, r = (.tuple [.slice (H.length + m) 0 5 (.ex 5), .int .i64 0], H ++ (T.set 1 (.map [(.str [1, 97, 0], .int .i64 2)]) ++ L), e) ∧ clean H.length e ∧ (T.set 1 (.map [(.str [1, 97, 0], .int .i64 2)]) ++ L)[m]? = some (.cells (u8s [0, 10, 1, 97, 0]) 5 .rw)) := by
  refine callK_start (n := 76) (rs := [.cell 8 31, .cell 9 40]) Tryd.func64 rfl rfl rfl ?_
  intro σ hl ha
  have h0 := ha 0 (by simp)
  have h1 := ha 1 (by simp)
  have h2 := ha 2 (by simp)
  have h3 := ha 3 (by simp)
  clear ha
  simp only [Option.getD_some, List.getElem?_cons_zero, List.getElem?_cons_succ] at h0 h1 h2 h3
  have hck := fun H k => name_Check [1, 97, 0] H k (by decide)
  rw [nm_wk] at hck
  have hfr := fun H k => wk_fronts H k
  have hl2 := lt_of_get hT2
  have hT1l : ∀ l : Hp, (T ++ l)[1]? = some (.map []) := fun l => get_app hT1
  have hT2l : ∀ l : Hp, (T ++ l)[2]? = some (.cells [.map (H.length + 1)] 59 .rw) := fun l => get_app hT2
  have hs1 : ∀ (x : ABlk) (l : Hp), (T ++ l).set 1 x = T.set 1 x ++ l := fun x l => List.set_append_left _ _ (by omega)
  have hg1 : ∀ (x : ABlk) (l : Hp) (k : Nat), (T.set 1 x ++ l)[T.length + k]? = l[k]? := fun x l k => by
    rw [List.getElem?_append_right (by simp)]; simp
  have hs2 : ∀ (x y : ABlk) (l : Hp) (k : Nat), (T.set 1 x ++ l).set (T.length + k) y = T.set 1 x ++ l.set k y := fun x y l k => by
    rw [List.set_append_right _ _ (by simp)]; simp
  have hsh : mapSh Tryd.prog 57 = some (.str, 3) := by simp only [mapSh, tsh_57, tsh_33]
  have htz : tzeroV Tryd.prog 3 = some (.int .i64 0) := by kernel_rfl
  have hlk : ∀ (l : Hp), evLookup Tryd.prog 57 (.map (H.length + 1)) (.str [1, 97, 0]) true (H ++ (T ++ l)) = some (.tuple [.int .i64 0, .bool false]) := by
    intro l
    have hg : (H ++ (T ++ l))[H.length + 1]? = some (.map []) := by rw [hp_new]; exact hT1l l
    simp only [evLookup, hsh, hg, Option.bind_some, findK, htz, Option.map_some, if_true]
  have hms : ∀ (l : Hp) (n : Int), evMapSet Tryd.prog 57 (.map (H.length + 1)) (.str [1, 97, 0]) (.int .i64 n) (H ++ (T ++ l)) = some (H ++ (T.set 1 (.map [(.str [1, 97, 0], .int .i64 n)]) ++ l), ⟨none, some (H.length + 1)⟩) := by
    intro l n
    have hg : (H ++ (T ++ l))[H.length + 1]? = some (.map []) := by rw [hp_new]; exact hT1l l
    simp only [evMapSet, hsh, hg, Option.bind_some, findK, Option.map_some, hp_set, hs1, List.nil_append]
    rfl
  have hmk : ∀ H', evMake Tryd.prog 31 (.int .i64 0) (.int .i64 5) H' = some (.slice H'.length 0 0 (.ex 5), H' ++ [.cells [.int .u8 0, .int .u8 0, .int .u8 0, .int .u8 0, .int .u8 0] 5 .rw]) := by
    intro H'
    simp only [evMake, tsh_31, tzero_5, Option.bind_some]
    rfl
  have hq0 : ∀ l : Hp, (T ++ l)[q]? = some (.cells [.int .u8 0, .int .u8 10] 5 (.op 0 false)) := fun l => get_app hq
  simp only [go_sem, simprocAttr, hl, h0, h1, h2, h3, hck, hfr, hmk, hq0]
  refine callK_start (n := 15) (rs := []) Tryd.func100 rfl rfl rfl ?_
  intro τ tl ta
  have t0 := ta 0 (by simp)
  have t1 := ta 1 (by simp)
  clear ta
  simp only [Option.getD_some, List.getElem?_cons_zero, List.getElem?_cons_succ] at t0 t1
  simp only [go_sem, simprocAttr]
  have r0 : (([1, 97, 0] : List UInt8) == [0]) = false := rfl
  have r1 : (([0] : List UInt8) == [0]) = true := rfl
  rw [go_loop]
  simp only [go_sem, simprocAttr, tl, t0, t1, r0]
  refine callK_yI ?_
  simp only [go_sem, simprocAttr, hl, h0, h1, h2, h3]
  refine ⟨rfl, ?_⟩
  simp only [go_sem, simprocAttr, hl, h0, h1, h2, h3, hT1l, hT2l, hs1, hg1, hs2, hlk, hms]
  refine go_drawZ tFollows (by kernel_rfl) ?_
  simp only [go_sem, simprocAttr, hl, h0, h1, h2, h3, hT1l, hT2l, hs1, hg1, hs2, hlk, hms]
  refine ⟨(by kernel_rfl : effOk _ _ _ = true), ?_⟩
  try simp only [go_sem, simprocAttr, hl, h0, h1, h2, h3, hT1l, hT2l, hs1, hg1, hs2, hlk, hms]
  have hmp : List.map (fun b : UInt8 => AV.int .u8 (b.toNat : Int)) [1, 97] = [.int .u8 1, .int .u8 97] := rfl
  have hpa := fun H k => wk_parent H k
  refine go_drawZ tFollows (by kernel_rfl) ?_
  simp only [go_sem, simprocAttr, hl, h0, h1, h2, h3, hT1l, hT2l, hs1, hg1, hs2, hlk, hms, hmp, tl, t0, t1, hpa]
  refine ⟨(by kernel_rfl : effOk _ _ _ = true), ?_⟩
  obtain ⟨e1, he1, hlv⟩ := (show Cl H.length (T.length + 5) (Ef.and (Ef.and (Ef.and (Ef.and ⟨none, some (H.length + (T.length + 7))⟩ ⟨none, some (H.length + 1)⟩) ⟨none, some (H.length + (T.length + 4))⟩) ⟨some (H.length + (T.length + 5)), some (H.length + (T.length + 5))⟩) ⟨none, some (H.length + (T.length + 7))⟩) from .andl (.andr (clean_and (clean_and (by simp [clean, low]) (by simp [clean, low])) (by simp [clean, low])) ⟨_, rfl, by omega, by omega, by simp [low]⟩) (by simp [clean, low])).leave (m := H.length + (T.length + 8)) (by omega)
  simp only [go_sem, simprocAttr, hl, h0, h1, h2, h3, hT1l, hT2l, hs1, hg1, hs2, hlk, hms, hmp, tl, t0, t1, hpa, hlv, r0, r1]
  rw [go_loop]
  simp only [go_sem, simprocAttr, hl, h0, h1, h2, h3, hT1l, hT2l, hs1, hg1, hs2, hlk, hms, hmp, tl, t0, t1, hpa, hlv, r0, r1]
  obtain ⟨e2, he2, hlv2⟩ := (show Cl H.length (T.length + 5) (Ef.and e1 ⟨none, some (H.length + (T.length + 6))⟩) from .andl he1 (by simp [clean, low])).leave (m := H.length + (T.length + 8)) (by omega)
  simp only [go_sem, simprocAttr, hl, h0, h1, h2, h3, hT1l, hT2l, hs1, hg1, hs2, hlk, hms, hmp, tl, t0, t1, hpa, hlv2, bslice1]
  have c2 := he2.cln
  obtain ⟨e3, h4, h5⟩ := leave_nf (n := H.length + T.length) (m := H.length) (v := .tuple [.slice (H.length + (T.length + 4)) 0 5 (.ex 5), .int .i64 0]) (by simp [flat, flats]) (e := Ef.and (Ef.and (Ef.and (Ef.and (Ef.and ⟨none, some (H.length + (T.length + 4))⟩ ⟨some (H.length + (T.length + 5)), some (H.length + (T.length + 5))⟩) (Ef.and e2 ⟨none, some (H.length + (T.length + 7))⟩)) ⟨none, some (H.length + (T.length + 4))⟩) ⟨some (H.length + (T.length + 2)), some (H.length + (T.length + 2))⟩) ⟨none, some (H.length + (T.length + 3))⟩)
    (clean_and (clean_and (clean_and (clean_and (clean_and (by simp [clean, low]) (by simp [clean, low])) (clean_and c2 (by simp [clean, low]))) (by simp [clean, low])) (by simp [clean, low])) (by simp [clean, low]))
  refine ⟨T.length + 4, _, e3, h4 _, h5, ?_⟩
  rw [hg1]; rfl
end Go.Proofs.YtgkpgpdkolpfkaaDoor.V
