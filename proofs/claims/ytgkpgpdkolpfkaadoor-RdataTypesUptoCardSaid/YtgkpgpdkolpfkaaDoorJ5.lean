/- Joined by mkclaim.py: WFlat WRdBase WType WNumP WNumQ WNumR WRdBaseT WTypeOf. No conditions. -/
import Derived.Test.YtgkpgpdkolpfkaaDoorJ2
import Derived.Test.YtgkpgpdkolpfkaaDoorJ4
import Derived.Test.YtgkpgpdkolpfkaaDoorRows
import Derived.Test.YtgkpgpdkolpfkaaDoorCards
import Derived.Test.YtgkpgpdkolpfkaaDoorTie
import Derived.WalkKit
import Derived.ProofKit
import Derived.OpenShut
import Derived.ShutString
import Derived.ChangeOld
import Derived.Below
import Derived.SizedLaws
import Derived.LaidMore
import Derived.Lay
import Derived.MakeChecks
import Derived.SevenTiedAt
import Derived.Deep.DeepHandedRow
namespace Go.Proofs.YtgkpgpdkolpfkaaDoor.V
open Go Go.RowKit
set_option linter.unusedSimpArgs false
set_option linter.unusedVariables false

mutual
/-- Plain data's cells. -/
def flatC {H : Type} : DataW H → List AV
  | .lit (.int k n) => [.int k n]
  | .lit (.string s) => [.str s]
  | .lit (.bool b) => [.bool b]
  | .agg ps => flatCs ps
  | _ => [.nili]
def flatCs {H : Type} : List (DataW H) → List AV
  | [] => []
  | d :: r => flatC d ++ flatCs r
end
def fieldsT (P : Program) (f : TypeId → Bool) : List Field → Nat → Nat → Bool
  | [], o, z => o == z
  | x :: r, o, z => x.offset == o && (f x.type && fieldsT P f r (o + P.cellsOf x.type) z)
/-- A type of plain data. -/
def plainT (P : Program) : Nat → TypeId → Bool
  | 0, _ => false
  | d + 1, t => match P.underlying t with
    | some (.int _) => true
    | some .string => true
    | some .bool => true
    | some (.array n e) => plainT P d e && P.cellsOf t == n * P.cellsOf e
    | some (.struct fs) => fieldsT P (plainT P d) fs.toList 0 (P.cellsOf t)
    | _ => false

section
variable {H : Type} {enc : TypeId × Value → H} {P : Program} {W : World} {base : Nat} {sp : Nat → Bool} {held : Bool}

theorem concs_app {μ : Mu} : ∀ {a b : List AV} {x y : List Value}, concs μ a = some x → concs μ b = some y → concs μ (a ++ b) = some (x ++ y)
  | [], b, x, y, h, h' => by cases h; simpa using h'
  | v :: a, b, x, y, h, h' => by
    simp only [concs, Option.bind_eq_some_iff, Option.map_eq_some_iff] at h
    obtain ⟨c, hc, xs, hx, rfl⟩ := h
    have := concs_app hx h'
    simp only [List.cons_append, concs, hc, this, Option.bind_some, Option.map_some]
theorem pieces {μ : Mu} {c : Nat} : ∀ (xs : List (DataW H × List MemPlace)) (cs : List Value), cs.length = xs.length * c →
    (∀ i x, xs[i]? = some x → concs μ (flatC x.1) = some ((cs.drop (i * c)).take c)) → concs μ (flatCs (xs.map (·.1))) = some cs
  | [], cs, hl, _ => by
    have : cs = [] := List.length_eq_zero_iff.1 (by simpa using hl)
    subst this; rfl
  | x :: xs, cs, hl, h => by
    have h0 := h 0 x rfl
    simp only [Nat.zero_mul, List.drop_zero] at h0
    have ih := pieces (μ := μ) (c := c) xs (cs.drop c) (by rw [List.length_drop, hl, List.length_cons, Nat.add_mul]; omega) (fun i y hy => by
      have := h (i + 1) y (by simpa using hy)
      rw [List.drop_drop, show c + i * c = (i + 1) * c by rw [Nat.add_mul]; omega]
      exact this)
    have := concs_app h0 ih
    rw [List.take_append_drop] at this
    simpa [flatCs] using this
theorem fields {μ : Mu} {z : Nat} {f : TypeId → Bool} {cs : List Value} {g : TypeId → List Value → Option (DataW H × List MemPlace)}
    (hf : ∀ t l x, f t = true → g t l = some x → concs μ (flatC x.1) = some l) : ∀ (fs : List Field) (xs : List (DataW H × List MemPlace)) (o : Nat), fieldsT P f fs o z = true → o ≤ z → xs.length = fs.length → cs.length = z →
    (∀ (i : Nat) (x : Field), fs[i]? = some x → g x.type ((cs.drop x.offset).take (P.cellsOf x.type)) = xs[i]?) → concs μ (flatCs (xs.map (·.1))) = some (cs.drop o)
  | [], [], o, h, hoz, _, hz, _ => by
    simp only [fieldsT, beq_iff_eq] at h
    rw [List.drop_eq_nil_of_le (by omega)]; rfl
  | [], _ :: _, _, _, _, hl, _, _ => by simp at hl
  | _ :: _, [], _, _, _, hl, _, _ => by simp at hl
  | x :: fs, y :: xs, o, h, hoz, hl, hz, hx => by
    simp only [fieldsT, Bool.and_eq_true, beq_iff_eq] at h
    obtain ⟨rfl, h1, h2⟩ := h
    have h0 := hf _ _ _ h1 (hx 0 x rfl)
    have hle : x.offset + P.cellsOf x.type ≤ z := by
      have : ∀ (fs : List Field) (o : Nat), fieldsT P f fs o z = true → o ≤ z := by
        intro fs
        induction fs with
        | nil => intro o h; simp only [fieldsT, beq_iff_eq] at h; omega
        | cons a r ih =>
          intro o h
          simp only [fieldsT, Bool.and_eq_true, beq_iff_eq] at h
          have := ih _ h.2.2
          omega
      exact this _ _ h2
    have ih := fields hf fs xs (x.offset + P.cellsOf x.type) h2 hle (by simpa using hl) hz (fun i w hw => by simpa using hx (i + 1) w (by simpa using hw))
    have := concs_app h0 ih
    have e : (cs.drop x.offset).take (P.cellsOf x.type) ++ cs.drop (x.offset + P.cellsOf x.type) = cs.drop x.offset := by
      rw [← List.drop_drop, List.take_append_drop]
    rw [e] at this
    simpa [flatCs] using this
theorem trod_flat {μ : Mu} : ∀ (m fuel : Nat) (t : TypeId) (cs : List Value) (x : DataW H × List MemPlace), plainT P m t = true → DataW.trod enc P W base sp held fuel t cs = some x → concs μ (flatC x.1) = some cs
  | 0, _, _, _, _, h, _ => by cases h
  | m + 1, fuel, t, cs, x, h, hx => by
    unfold plainT at h
    split at h
    · rename_i k ht
      obtain ⟨n, rfl, rfl, _⟩ := DataW.trod_int ht hx
      simp [flatC, concs, conc]
    · rename_i ht
      obtain ⟨s, rfl, rfl, _⟩ := DataW.trod_string ht hx
      simp [flatC, concs, conc]
    · rename_i ht
      obtain ⟨b, rfl, rfl⟩ := DataW.trod_bool ht hx
      simp [flatC, concs, conc]
    · rename_i n e ht
      simp only [Bool.and_eq_true, beq_iff_eq] at h
      obtain ⟨xs, q, rfl, rfl, hcl, hxl, hel⟩ := DataW.trod_array ht hx
      refine pieces (c := P.cellsOf e) xs cs (by rw [hcl, hxl, h.2]) (fun i y hy => ?_)
      have hi : i < n := by rw [← hxl]; exact (List.getElem?_eq_some_iff.1 hy).1
      have := hel i hi
      rw [hy] at this
      exact trod_flat m q e _ y h.1 this
    · rename_i fs ht
      obtain ⟨xs, q, rfl, rfl, hcl, hxl, hel⟩ := DataW.trod_struct ht hx
      have := fields (P := P) (μ := μ) (g := fun t l => DataW.trod enc P W base sp held q t l) (cs := cs) (fun t l x h1 h2 => trod_flat m q t l x h1 h2) fs.toList xs 0 h (Nat.zero_le _) (by simpa using hxl) hcl (fun i f hf => hel i f (by simpa using hf))
      simpa [flatC] using this
    · cases h
end
end Go.Proofs.YtgkpgpdkolpfkaaDoor.V
namespace Go.Proofs.YtgkpgpdkolpfkaaDoor.V
open Go Go.ChangeShapes Go.WideShapes Go.ChangeAt Go.RowKit
set_option linter.unusedSimpArgs false
set_option linter.unusedVariables false
open Go.ChangeMaps (open_string shut_string)
theorem gsize : Tryd.prog.globals.size = 7 := by kernel_rfl
theorem own : ownKnob Tryd.prog.godebug = none := by kernel_rfl
theorem laidOut : laidOutB Tryd.prog = true := by kernel_rfl
theorem gKinds : Tryd.prog.globalNamed "hearsay/rdata.kinds" = some 0 := by kernel_rfl
theorem gPow : Tryd.prog.globalNamed "internal/strconv.uint64pow10" = some 1 := by kernel_rfl
theorem gDe64 : Tryd.prog.globalNamed "math/bits.deBruijn64tab" = some 6 := by kernel_rfl
theorem lastRow : ((((begin Tryd.prog (fun _ _ => 0) default).world.heap)[7 - 1]?).bind Obj.row?).isSome = true := by kernel_rfl
theorem ptKinds : ((Tryd.prog.globals[0]?).map (·.type)).all (plainT Tryd.prog 8) = true := by kernel_rfl
theorem ptPow : ((Tryd.prog.globals[1]?).map (·.type)).all (plainT Tryd.prog 8) = true := by kernel_rfl
theorem ptDe64 : ((Tryd.prog.globals[6]?).map (·.type)).all (plainT Tryd.prog 8) = true := by kernel_rfl
theorem pt_of {o : Option TypeId} {t : TypeId} {f : TypeId → Bool} (h : o.all f = true) (ht : o = some t) : f t = true := by subst ht; simpa using h

set_option maxRecDepth 100000 in
/-- What the listed variables give. -/
theorem of_laid {W : World} (hsh : W.ShapedOpen Tryd.prog) (h : laidMetH Tryd.prog Rows.rdataChecksUptoRow.laid W) : ∃ Bs : List ABlk, Bs.length = 7 ∧ (∀ x ∈ Bs, apart x = false) ∧ HRel Tryd.prog (start W) (mu0 7) Bs W ∧ Tk Bs ∧ Tb Bs ∧ Db Bs := by
  have hsz := shaped_size gsize hsh lastRow
  have h : laidMet Tryd.prog Rows.rdataChecksUptoRow.laid W := h
  obtain ⟨ps, ⟨_, _, _, _, _, _, _, _, _, _, ⟨g6, t6, c6, f6, p6, q6, hg6, ht6, hv6, hd6, ⟨g1, t1, c1, f1, p1, q1, hg1, ht1, hv1, hd1, ⟨g0, t0, c0, f0, p0, q0, hg0, ht0, hv0, hd0, _, _⟩, _⟩, _⟩, _⟩, _, _⟩ := h
  obtain rfl := Option.some.inj (gDe64.symm.trans hg6)
  obtain rfl := Option.some.inj (gPow.symm.trans hg1)
  obtain rfl := Option.some.inj (gKinds.symm.trans hg0)
  obtain ⟨e6, fr6, hb6⟩ := var_block gDe64 hv6
  obtain ⟨e1, fr1, hb1⟩ := var_block gPow hv1
  obtain ⟨e0, fr0, hb0⟩ := var_block gKinds hv0
  have k6 := trod_flat (μ := mu0 7) 8 _ _ _ _ (pt_of ptDe64 ht6) hd6
  have k1 := trod_flat (μ := mu0 7) 8 _ _ _ _ (pt_of ptPow ht1) hd1
  have k0 := trod_flat (μ := mu0 7) 8 _ _ _ _ (pt_of ptKinds ht0) hd0
  refine ⟨[.cells kindsC e0 .ro, .cells pow10c e1 .ro, .ghost, .ghost, .ghost, .ghost, .cells deB64c e6 .ro], rfl, ?_, start_glob gsize hsz rfl ?_ ?_, ⟨e0, .ro, rfl⟩, ⟨e1, .ro, rfl⟩, ⟨e6, .ro, rfl⟩⟩
  · intro x hx
    simp only [List.mem_cons, List.not_mem_nil, or_false] at hx
    rcases hx with rfl | rfl | rfl | rfl | rfl | rfl | rfl <;> rfl
  · intro x hx
    simp only [List.mem_cons, List.not_mem_nil, or_false] at hx
    rcases hx with rfl | rfl | rfl | rfl | rfl | rfl | rfl <;> rfl
  · intro i x hx
    match i with
    | 0 => cases hx; exact laid_block hb0 k0
    | 1 => cases hx; exact laid_block hb1 k1
    | 2 => cases hx; trivial
    | 3 => cases hx; trivial
    | 4 => cases hx; trivial
    | 5 => cases hx; trivial
    | 6 => cases hx; exact laid_block hb6 k6
    | i + 7 => simp at hx

theorem cells37 : Tryd.prog.cellsOf 37 = 8 := by kernel_rfl
theorem cellsN : Tryd.prog.cellsOf 35 = 5 := by kernel_rfl
theorem cells9 : Tryd.prog.cellsOf 9 = 1 := by kernel_rfl
theorem cellsNm : Tryd.prog.cellsOf 33 = 1 := by kernel_rfl
theorem cells34 : Tryd.prog.cellsOf 34 = 1 := by kernel_rfl
theorem u32_of {n : Int} (h : (Lit.int .u32 n).wf = true) : is32 n := by
  simp [Lit.wf, IntKind.min, IntKind.max, IntKind.bits, IntKind.signed] at h
  exact ⟨by omega, by omega⟩
section
variable {H : Type} {enc : TypeId × Value → H} {W : World}
set_option maxRecDepth 20000 in
/-- Data, as 'V' reads them. -/
theorem open_data {base : Nat} {v : Value} {d : DataW H} {p : List MemPlace} (hval : Value.okWide Tryd.prog W .any base 37 v) (h : DataW.Trod enc Tryd.prog W 0 (fun _ => true) true 37 v d p) :
    ∃ x : Dt, (∀ μ, conc μ (.agg x.cells) = some v) ∧ (is32 x.n0 ∧ is32 x.n1 ∧ is32 x.n2 ∧ is32 x.n3 ∧ is32 x.n4) ∧ x.raw.length + x.host.length + x.mail.length ≤ Rows.uptoBulk d := by
  obtain ⟨fuel, h⟩ := h
  have hv := hval
  unfold Value.okWide at hv
  rw [Tryd.underlying37] at hv
  obtain ⟨cs, rfl, hsz, _⟩ := hv
  rw [cells37] at hsz
  have hcs : (Value.agg cs).cells.toList = cs.toList := rfl
  rw [hcs] at h
  obtain ⟨xs, n', rfl, hx, hcl, hxl, hf⟩ := DataW.trod_struct Tryd.underlying37 h
  obtain ⟨l⟩ := cs
  match l, hsz with
  | [c0, c1, c2, c3, c4, c5, c6, c7], _ =>
    have f0 := hf 0 _ rfl
    have f1 := hf 1 _ rfl
    have f2 := hf 2 _ rfl
    have f3 := hf 3 _ rfl
    have hx4 : xs.length = 4 := hxl
    simp only [cells9, cellsNm, cellsN, List.drop_zero, List.drop_succ_cons, List.take_succ_cons, List.take_zero] at f0 f1 f2 f3
    match xs, hx4 with
    | [x0, x1, x2, x3], _ =>
      simp only [List.getElem?_cons_zero, List.getElem?_cons_succ] at f0 f1 f2 f3
      obtain ⟨s0, e0, z0, _⟩ := DataW.trod_string Tryd.underlying9 f0
      obtain ⟨s1, e1, z1, _⟩ := DataW.trod_string Tryd.underlying33 f1
      obtain ⟨s2, e2, z2, _⟩ := DataW.trod_string Tryd.underlying33 f2
      obtain ⟨ys, m, rfl, z3, _, hyl, hel⟩ := DataW.trod_array Tryd.underlying35 f3
      have i0 := hel 0 (by decide)
      have i1 := hel 1 (by decide)
      have i2 := hel 2 (by decide)
      have i3 := hel 3 (by decide)
      have i4 := hel 4 (by decide)
      simp only [cells34, Nat.mul_one, List.drop_zero, List.drop_succ_cons, List.take_succ_cons, List.take_zero] at i0 i1 i2 i3 i4
      match ys, hyl with
      | [y0, y1, y2, y3, y4], _ =>
        simp only [List.getElem?_cons_zero, List.getElem?_cons_succ] at i0 i1 i2 i3 i4
        obtain ⟨n0, a0, _, w0⟩ := DataW.trod_int Tryd.underlying34 i0
        obtain ⟨n1, a1, _, w1⟩ := DataW.trod_int Tryd.underlying34 i1
        obtain ⟨n2, a2, _, w2⟩ := DataW.trod_int Tryd.underlying34 i2
        obtain ⟨n3, a3, _, w3⟩ := DataW.trod_int Tryd.underlying34 i3
        obtain ⟨n4, a4, _, w4⟩ := DataW.trod_int Tryd.underlying34 i4
        cases e0; cases e1; cases e2; cases a0; cases a1; cases a2; cases a3; cases a4
        cases z0; cases z1; cases z2
        simp only [List.map_cons, List.map_nil, Prod.mk.injEq] at hx
        obtain ⟨rfl, _⟩ := hx
        refine ⟨⟨s0.data.toList, s1.data.toList, s2.data.toList, n0, n1, n2, n3, n4⟩, fun μ => ?_, ⟨u32_of w0, u32_of w1, u32_of w2, u32_of w3, u32_of w4⟩, ?_⟩
        · simp [Dt.cells, conc, concs]
        · simp only [Rows.uptoBulk, Rows.uptoBulkAll]; omega
end
end Go.Proofs.YtgkpgpdkolpfkaaDoor.V
namespace Go.Proofs.YtgkpgpdkolpfkaaDoor.V
open Go
set_option linter.unusedSimpArgs false
set_option linter.unusedVariables false
attribute [local irreducible] go goOps goD opK callK callT stepK leaveTo nextK

/-- The texts of the types that there are. -/
def kX : List (List UInt8) := [[65], [78, 83], [67, 78, 65, 77, 69], [83, 79, 65], [80, 84, 82], [77, 88], [84, 88, 84], [65, 65, 65, 65], [83, 82, 86]]
def kXt (i : Nat) : List UInt8 := (kX[i]?).getD []
theorem kinds_tx {i : Nat} (h : i < 9) (e : TypeId) (k : Kd) : ldC (i * 3 + 1) 1 false (.cells kindsC e k) = some (.str (kXt i)) := by
  have : i = 0 ∨ i = 1 ∨ i = 2 ∨ i = 3 ∨ i = 4 ∨ i = 5 ∨ i = 6 ∨ i = 7 ∨ i = 8 := by omega
  rcases this with rfl | rfl | rfl | rfl | rfl | rfl | rfl | rfl | rfl <;> rfl
def typX (t : Nat) : List UInt8 :=
  if t = 1 then kXt 0 else if t = 2 then kXt 1 else if t = 5 then kXt 2 else if t = 6 then kXt 3 else if t = 12 then kXt 4 else
  if t = 15 then kXt 5 else if t = 16 then kXt 6 else if t = 28 then kXt 7 else if t = 33 then kXt 8 else [84, 89, 80, 69] ++ decP t
theorem typX_at {i : Nat} (h : i < 9) {t : Nat} (ht : kT i = (t : Int)) : kXt i = typX t := by
  have : i = 0 ∨ i = 1 ∨ i = 2 ∨ i = 3 ∨ i = 4 ∨ i = 5 ∨ i = 6 ∨ i = 7 ∨ i = 8 := by omega
  rcases this with rfl | rfl | rfl | rfl | rfl | rfl | rfl | rfl | rfl <;> (simp [kT] at ht; have : t = _ := (Int.ofNat.inj ht).symm; subst this; rfl)
theorem typX_no {t : Nat} (h : ∀ j, j < 9 → kT j ≠ (t : Int)) : typX t = [84, 89, 80, 69] ++ decP t := by
  have h0 := h 0 (by decide); have h1 := h 1 (by decide); have h2 := h 2 (by decide); have h3 := h 3 (by decide); have h4 := h 4 (by decide)
  have h5 := h 5 (by decide); have h6 := h 6 (by decide); have h7 := h 7 (by decide); have h8 := h 8 (by decide)
  simp only [kT, List.getElem?_cons_zero, List.getElem?_cons_succ, Option.getD_some] at h0 h1 h2 h3 h4 h5 h6 h7 h8
  unfold typX
  rw [if_neg (by omega), if_neg (by omega), if_neg (by omega), if_neg (by omega), if_neg (by omega), if_neg (by omega), if_neg (by omega), if_neg (by omega), if_neg (by omega)]
set_option maxRecDepth 20000 in
theorem rdata_TypeText (t : Nat) (H k) (hk : Tk H) (htb : Tb H) (ht : t < 65536) : callK Tryd.prog 21 [.int .u16 (t : Nat)] H k = k (.str (typX t), H, z0) := by
  have hto := fun k => itoa t H k htb (by omega)
  obtain ⟨e, kd, hg⟩ := hk
  refine callK_eq (r := (.str (typX t), H, z0)) ?_ k
  refine callK_start (n := 22) (rs := [.tmp 2]) Tryd.func21 rfl rfl rfl ?_
  intro σ hl ha
  have h0 := ha 0 (by simp)
  clear ha
  simp only [Option.getD_some, List.getElem?_cons_zero, List.getElem?_cons_succ] at h0
  simp only [go_sem, simprocAttr, hl, h0]
  refine go_rounds (fun n st => ∃ σ i, n + i = 9 ∧ (∀ j, j < i → kT j ≠ (t : Int)) ∧ st = ⟨σ, H, z0⟩ ∧ σ.length = 22 ∧ fr σ 0 = .int .u16 (t : Nat) ∧ fr σ 4 = .int .i64 (i : Nat)) 9
    ⟨_, 0, rfl, fun j hj => by omega, rfl, by simp only [go_sem, simprocAttr, hl], by simp only [go_sem, simprocAttr, hl, h0], by simp only [go_sem, simprocAttr, hl]⟩ ?_
  rintro n _ ⟨σ, i, hn, hall, rfl, hl, h0, h4⟩
  by_cases hlt : i < 9
  · obtain ⟨l1, _⟩ := kinds_at hlt e kd
    have l2 := kinds_tx hlt e kd
    have hw := wrap_succ (show i < 9223372036854775807 by omega)
    have g0 : decide ((i : Int) < 9) = true := by simp; omega
    have b0 : (i : Int) < 9 := by omega
    by_cases hk : kT i = (t : Int)
    · have g1 : (kT i == (t : Int)) = true := by rw [hk]; exact beq_self_eq_true _
      have hf := typX_at hlt hk
      simp only [go_sem, simprocAttr, hl, h0, h4, g0, b0, hg, l1, l2, g1, hf]
    · have g1 : (kT i == (t : Int)) = false := by rw [beq_eq_false_iff_ne]; exact hk
      simp only [go_sem, simprocAttr, hl, h0, h4, g0, b0, hg, l1, l2, g1, hw]
      refine ⟨n - 1, by omega, _, i + 1, by omega, fun j hj => ?_, rfl, by simp only [go_sem, simprocAttr, hl], by simp only [go_sem, simprocAttr, hl, h0], by simp only [go_sem, simprocAttr, hl]⟩
      by_cases hji : j = i
      · rw [hji]; exact hk
      · exact hall j (by omega)
  · have g0 : decide ((i : Int) < 9) = false := by simp; omega
    have hf := typX_no (fun j hj => hall j (by omega))
    have w0 : IntKind.i64.wrap (t : Int) = (t : Int) := wrap_i64 (by omega)
    have hdl := decP_len t (by omega)
    rw [hf]
    simp only [go_sem, simprocAttr, hl, h0, h4, g0, w0, hto]
    unfold maxI; omega

/-! ### the document's table -/
def typC : List AV := [.int .u16 1, .int .u16 2, .int .u16 5, .int .u16 6, .int .u16 12, .int .u16 15, .int .u16 16, .int .u16 28, .int .u16 33]
theorem typC_at {i : Nat} (h : i < 9) (e : TypeId) (k : Kd) : ldC i 1 false (.cells typC e k) = some (.int .u16 (kT i)) := by
  have : i = 0 ∨ i = 1 ∨ i = 2 ∨ i = 3 ∨ i = 4 ∨ i = 5 ∨ i = 6 ∨ i = 7 ∨ i = 8 := by omega
  rcases this with rfl | rfl | rfl | rfl | rfl | rfl | rfl | rfl | rfl <;> rfl
set_option maxRecDepth 20000 in
theorem ref_table (H k) : callK Tryd.prog 62 [] H k = k (.tuple [.slice H.length 0 9 (.ex 9), .slice (H.length + 1) 0 9 (.ex 9)], H ++ [.cells typC 32 .rw, .cells (strs kX) 9 .rw], z0) := by
  refine callK_eq (r := (.tuple [.slice H.length 0 9 (.ex 9), .slice (H.length + 1) 0 9 (.ex 9)], H ++ [.cells typC 32 .rw, .cells (strs kX) 9 .rw], z0)) ?_ k
  refine callK_start (n := 4) (rs := [.tmp 0, .tmp 1]) Tryd.func62 rfl rfl rfl ?_
  intro σ hl ha
  clear ha
  have b1 : ∀ H', evBuildSlice Tryd.prog 107 9 [(0, .int .u16 1), (1, .int .u16 2), (2, .int .u16 5), (3, .int .u16 6), (4, .int .u16 12), (5, .int .u16 15), (6, .int .u16 16), (7, .int .u16 28), (8, .int .u16 33)] H' = some (.slice H'.length 0 9 (.ex 9), H' ++ [.cells typC 32 .rw]) := by
    intro H'
    simp only [evBuildSlice, tsh_107, tzero_32, Option.bind_some]
    rfl
  have b2 : ∀ H', evBuildSlice Tryd.prog 64 9 [(0, .str [65]), (1, .str [78, 83]), (2, .str [67, 78, 65, 77, 69]), (3, .str [83, 79, 65]), (4, .str [80, 84, 82]), (5, .str [77, 88]), (6, .str [84, 88, 84]), (7, .str [65, 65, 65, 65]), (8, .str [83, 82, 86])] H' = some (.slice H'.length 0 9 (.ex 9), H' ++ [.cells (strs kX) 9 .rw]) := by
    intro H'
    simp only [evBuildSlice, tsh_64, tzero_9, Option.bind_some]
    rfl
  simp only [go_sem, simprocAttr, hl, b1, b2]

set_option maxRecDepth 20000 in
theorem rdata_low (s : List UInt8) (H k) (hs : s.length ≤ maxI) : callK Tryd.prog 58 [.str s] H k = k (.str (lowS s), H, z0) := by
  refine callK_eq (r := (.str (lowS s), H, z0)) ?_ k
  refine callK_start (n := 5) (rs := [.tmp 2]) Tryd.func58 rfl rfl rfl ?_
  intro σ hl ha
  have h0 := ha 0 (by simp)
  clear ha
  simp only [Option.getD_some, List.getElem?_cons_zero, List.getElem?_cons_succ] at h0
  have hf := fun k => name_Fold s H k hs
  simp only [go_sem, simprocAttr, hl, h0, hf]
/-- A text behind another, cut off. -/
def cutS (s p : List UInt8) : List UInt8 × Bool := if s.take p.length = p then (s.drop p.length, true) else (s, false)
set_option maxRecDepth 20000 in
theorem has_prefix (s p : List UInt8) (H k) (hs : s.length ≤ maxI) (hp : p.length ≤ maxI) : callK Tryd.prog 97 [.str s, .str p] H k = k (.bool (cutS s p).2, H, z0) := by
  refine callK_eq (r := (.bool (cutS s p).2, H, z0)) ?_ k
  refine callK_start (n := 18) (rs := [.tmp 4]) Tryd.func97 rfl rfl rfl ?_
  intro σ hl ha
  have h0 := ha 0 (by simp)
  have h1 := ha 1 (by simp)
  clear ha
  simp only [Option.getD_some, List.getElem?_cons_zero, List.getElem?_cons_succ] at h0 h1
  by_cases hlt : p.length ≤ s.length
  · have hc : (cutS s p).2 = (s.take p.length == p) := by
      unfold cutS
      by_cases h : s.take p.length = p
      · rw [if_pos h]; simp [h]
      · rw [if_neg h]; simp [h]
    rw [hc]
    simp only [go_sem, simprocAttr, hl, h0, h1, ge_iff_le, hlt]
  · have hc : (cutS s p).2 = false := by
      unfold cutS
      rw [if_neg]
      intro h
      have := congrArg List.length h
      rw [List.length_take] at this; omega
    rw [hc]
    simp only [go_sem, simprocAttr, hl, h0, h1, ge_iff_le, hlt]
set_option maxRecDepth 20000 in
theorem cut_prefix_i (s p : List UInt8) (H k) (hs : s.length ≤ maxI) (hp : p.length ≤ maxI) : callK Tryd.prog 82 [.str s, .str p] H k = k (.tuple [.str (cutS s p).1, .bool (cutS s p).2], H, z0) := by
  refine callK_eq (r := (.tuple [.str (cutS s p).1, .bool (cutS s p).2], H, z0)) ?_ k
  refine callK_start (n := 15) (rs := [.tmp 4, .tmp 5]) Tryd.func82 rfl rfl rfl ?_
  intro σ hl ha
  have h0 := ha 0 (by simp)
  have h1 := ha 1 (by simp)
  clear ha
  simp only [Option.getD_some, List.getElem?_cons_zero, List.getElem?_cons_succ] at h0 h1
  have hf := fun k => has_prefix s p H k hs hp
  by_cases h : s.take p.length = p
  · have hc : cutS s p = (s.drop p.length, true) := if_pos h
    have hle : p.length ≤ s.length := by
      have := congrArg List.length h
      rw [List.length_take] at this; omega
    have ht : (s.drop p.length).take (s.length - p.length) = s.drop p.length := by rw [List.take_of_length_le (by rw [List.length_drop]; exact Nat.le_refl _)]
    rw [hc] at hf ⊢
    simp only [go_sem, simprocAttr, hl, h0, h1, hf, hle, ht]
  · have hc : cutS s p = (s, false) := if_neg h
    rw [hc] at hf ⊢
    simp only [go_sem, simprocAttr, hl, h0, h1, hf]
set_option maxRecDepth 20000 in
theorem cut_prefix (s p : List UInt8) (H k) (hs : s.length ≤ maxI) (hp : p.length ≤ maxI) : callK Tryd.prog 59 [.str s, .str p] H k = k (.tuple [.str (cutS s p).1, .bool (cutS s p).2], H, z0) := by
  refine callK_eq (r := (.tuple [.str (cutS s p).1, .bool (cutS s p).2], H, z0)) ?_ k
  refine callK_start (n := 11) (rs := [.tmp 4, .tmp 5]) Tryd.func59 rfl rfl rfl ?_
  intro σ hl ha
  have h0 := ha 0 (by simp)
  have h1 := ha 1 (by simp)
  clear ha
  simp only [Option.getD_some, List.getElem?_cons_zero, List.getElem?_cons_succ] at h0 h1
  have hf := fun k => cut_prefix_i s p H k hs hp
  simp only [go_sem, simprocAttr, hl, h0, h1, hf]

set_option maxRecDepth 20000 in
theorem ref_TypeText (t : Nat) (H k) (ht : t < 65536) : callK Tryd.prog 22 [.int .u16 (t : Nat)] H k = k (.str (typX t), H, z0) := by
  have htb := fun k => ref_table H k
  have hdg := fun l k => ref_digits t (H ++ l) k (by omega)
  refine callK_eq (r := (.str (typX t), H, z0)) ?_ k
  refine callK_start (n := 30) (rs := [.tmp 2]) Tryd.func22 rfl rfl rfl ?_
  intro σ hl ha
  have h0 := ha 0 (by simp)
  clear ha
  simp only [Option.getD_some, List.getElem?_cons_zero, List.getElem?_cons_succ] at h0
  simp only [go_sem, simprocAttr, hl, h0, htb]
  have hg1 : (H ++ [ABlk.cells typC 32 .rw, ABlk.cells (strs kX) 9 .rw])[H.length]? = some (.cells typC 32 .rw) := by rw [hp_new0]; rfl
  have hg2 : (H ++ [ABlk.cells typC 32 .rw, ABlk.cells (strs kX) 9 .rw])[H.length + 1]? = some (.cells (strs kX) 9 .rw) := by rw [hp_new]; rfl
  generalize hL : [ABlk.cells typC 32 .rw, ABlk.cells (strs kX) 9 .rw] = L at *
  refine go_rounds (fun n st => ∃ σ i, n + i = 9 ∧ (∀ j, j < i → kT j ≠ (t : Int)) ∧ st = ⟨σ, H ++ L, z0⟩ ∧ σ.length = 30 ∧ fr σ 0 = .int .u16 (t : Nat) ∧ fr σ 3 = .slice H.length 0 9 (.ex 9) ∧ fr σ 4 = .slice (H.length + 1) 0 9 (.ex 9) ∧ fr σ 5 = .int .i64 (i : Nat)) 9
    ⟨_, 0, rfl, fun j hj => by omega, rfl, by simp only [go_sem, simprocAttr, hl], by simp only [go_sem, simprocAttr, hl, h0], by simp only [go_sem, simprocAttr, hl], by simp only [go_sem, simprocAttr, hl], by simp only [go_sem, simprocAttr, hl]⟩ ?_
  rintro n _ ⟨σ, i, hn, hall, rfl, hl, h0, h3, h4, h5⟩
  by_cases hlt : i < 9
  · have l1 := typC_at hlt
    have l2 : ∀ (e : TypeId) (k : Kd), ldC i 1 false (.cells (strs kX) e k) = some (.str (kXt i)) := by
      intro e k
      have : i = 0 ∨ i = 1 ∨ i = 2 ∨ i = 3 ∨ i = 4 ∨ i = 5 ∨ i = 6 ∨ i = 7 ∨ i = 8 := by omega
      rcases this with rfl | rfl | rfl | rfl | rfl | rfl | rfl | rfl | rfl <;> rfl
    have hw := wrap_succ (show i < 9223372036854775807 by omega)
    have g0 : decide ((i : Int) < 9) = true := by simp; omega
    have b0 : (i : Int) < 9 := by omega
    by_cases hk : kT i = (t : Int)
    · have g1 : (kT i == (t : Int)) = true := by rw [hk]; exact beq_self_eq_true _
      have hf := typX_at hlt hk
      simp only [go_sem, simprocAttr, hl, h0, h3, h4, h5, g0, b0, hg1, hg2, l1, l2, g1, hf]
    · have g1 : (kT i == (t : Int)) = false := by rw [beq_eq_false_iff_ne]; exact hk
      simp only [go_sem, simprocAttr, hl, h0, h3, h4, h5, g0, b0, hg1, l1, g1, hw]
      refine ⟨n - 1, by omega, _, i + 1, by omega, fun j hj => ?_, rfl, by simp only [go_sem, simprocAttr, hl], by simp only [go_sem, simprocAttr, hl, h0], by simp only [go_sem, simprocAttr, hl, h3], by simp only [go_sem, simprocAttr, hl, h4], by simp only [go_sem, simprocAttr, hl]⟩
      by_cases hji : j = i
      · rw [hji]; exact hk
      · exact hall j (by omega)
  · have g0 : decide ((i : Int) < 9) = false := by simp; omega
    have hf := typX_no (fun j hj => hall j (by omega))
    have w0 : IntKind.u32.wrap (t : Int) = (t : Int) := wrap_u32 (by omega)
    have hdl := decP_len t (by omega)
    rw [hf]
    simp only [go_sem, simprocAttr, hl, h0, h3, h4, h5, g0, w0, hdg]
    unfold maxI; omega
end Go.Proofs.YtgkpgpdkolpfkaaDoor.V
namespace Go.Proofs.YtgkpgpdkolpfkaaDoor.V
open Go
set_option linter.unusedSimpArgs false
set_option linter.unusedVariables false
attribute [local irreducible] go goOps goD opK callK callT stepK leaveTo nextK

def isD (c : UInt8) : Bool := decide (48 ≤ c.toNat ∧ c.toNat ≤ 57)
def valS (s : List UInt8) : Nat := s.foldl (fun v c => 10 * v + (c.toNat - 48)) 0
theorem valS_snoc {s : List UInt8} {i : Nat} {c : UInt8} (h : s[i]? = some c) : valS (s.take (i + 1)) = 10 * valS (s.take i) + (c.toNat - 48) := by
  rw [take_snoc h]; simp [valS]
/-- A text's number of at most so much. -/
def numS (s : List UInt8) (most : Nat) : Option Nat :=
  if s = [] ∨ (1 < s.length ∧ s[0]? = some 48) ∨ 12 < s.length then none else if s.all isD = true then (if valS s ≤ most then some (valS s) else none) else none
theorem numS_bad {s : List UInt8} {most : Nat} (h : s = [] ∨ (1 < s.length ∧ s[0]? = some 48) ∨ 12 < s.length) : numS s most = none := if_pos h
set_option maxRecDepth 20000 in
theorem ref_Number (s : List UInt8) (most : Nat) (H k) (hs : s.length ≤ maxI) (hm : most < 18446744073709551616) : callK Tryd.prog 63 [.str s, .int .u64 (most : Nat)] H k = k (.tuple [.int .u64 (((numS s most).getD 0 : Nat)), .bool (numS s most).isSome], H, z0) := by
  refine callK_eq (r := (.tuple [.int .u64 (((numS s most).getD 0 : Nat)), .bool (numS s most).isSome], H, z0)) ?_ k
  refine callK_start (n := 54) (rs := [.tmp 4, .tmp 5]) Tryd.func63 rfl rfl rfl ?_
  intro σ hl ha
  have h0 := ha 0 (by simp)
  have h1 := ha 1 (by simp)
  clear ha
  have hs : s.length ≤ 9223372036854775807 := hs
  simp only [Option.getD_some, List.getElem?_cons_zero, List.getElem?_cons_succ] at h0 h1
  by_cases hz : s = []
  · have hn := numS_bad (most := most) (.inl hz)
    rw [hn]
    subst hz
    simp only [go_sem, simprocAttr, hl, h0, h1, Option.getD_none, Option.isSome_none]
  have hpos : 0 < s.length := List.length_pos_iff.2 hz
  obtain ⟨c0, hc0⟩ : ∃ c, s[0]? = some c := ⟨_, List.getElem?_eq_getElem hpos⟩
  have g0 : ((s.length : Int) == 0) = false := by simp; exact hz
  have hcl0 := c0.toNat_lt
  by_cases hld : 1 < s.length ∧ c0.toNat = 48
  · have hn := numS_bad (most := most) (.inr (.inl ⟨hld.1, by rw [hc0]; congr 1; exact UInt8.toNat.inj hld.2⟩))
    rw [hn]
    have g1 : decide ((s.length : Int) > 1) = true := by simp; omega
    have g2 : ((c0.toNat : Int) == 48) = true := by simp; omega
    simp only [go_sem, simprocAttr, hl, h0, h1, g0, g1, g2, hc0, hpos, Option.getD_none, Option.isSome_none]
  by_cases hlong : 12 < s.length
  · have hn := numS_bad (most := most) (.inr (.inr hlong))
    rw [hn]
    have g1 : decide ((s.length : Int) > 1) = true := by simp; omega
    have g2 : ((c0.toNat : Int) == 48) = false := by simp; intro h; exact hld ⟨by omega, by omega⟩
    have g3 : decide ((s.length : Int) > 12) = true := by simp; omega
    simp only [go_sem, simprocAttr, hl, h0, h1, g0, g1, g2, g3, hc0, hpos, Option.getD_none, Option.isSome_none]
  have hcase : (decide ((s.length : Int) > 1) = true ∧ ((c0.toNat : Int) == 48) = false) ∨ decide ((s.length : Int) > 1) = false := by
    by_cases h1 : 1 < s.length
    · exact .inl ⟨by simp; omega, by simp; intro h; exact hld ⟨h1, by omega⟩⟩
    · exact .inr (by simp; omega)
  have g3 : decide ((s.length : Int) > 12) = false := by simp; omega
  have hns : numS s most = if s.all isD = true then (if valS s ≤ most then some (valS s) else none) else none := by
    unfold numS
    rw [if_neg]
    rintro (h | ⟨h, h'⟩ | h)
    · exact hz h
    · rw [hc0] at h'; cases h'; exact hld ⟨h, rfl⟩
    · exact hlong h
  rw [hns]
  rcases hcase with ⟨g1, g2⟩ | g1
  all_goals
    first | simp only [go_sem, simprocAttr, hl, h0, h1, g0, g1, g2, g3, hc0, hpos] | simp only [go_sem, simprocAttr, hl, h0, h1, g0, g1, g3, hc0, hpos]
    refine go_rounds (fun n st => ∃ σ i, n + i = s.length ∧ (s.take i).all isD = true ∧ valS (s.take i) < 10 ^ i ∧ st = ⟨σ, H, z0⟩ ∧ σ.length = 54 ∧ fr σ 0 = .str s ∧ fr σ 1 = .int .u64 (most : Nat) ∧ fr σ 6 = .int .u64 ((valS (s.take i) : Nat)) ∧ fr σ 7 = .int .i64 (i : Nat)) s.length
      ⟨_, 0, rfl, rfl, by simp [valS], rfl, by simp only [go_sem, simprocAttr, hl], by simp only [go_sem, simprocAttr, hl, h0], by simp only [go_sem, simprocAttr, hl, h1], by simp only [go_sem, simprocAttr, hl]; rfl, by simp only [go_sem, simprocAttr, hl]⟩ ?_
    rintro n _ ⟨σ, i, hn, hall, hv, rfl, hl, h0, h1, h6, h7⟩
    by_cases hlt : i < s.length
    · obtain ⟨c, hc⟩ : ∃ c, s[i]? = some c := ⟨_, List.getElem?_eq_getElem hlt⟩
      have hcl := c.toNat_lt
      have hw := wrap_succ (show i < 9223372036854775807 by omega)
      have hp12 : 10 ^ i ≤ 10 ^ 12 := Nat.pow_le_pow_right (by decide) (by omega)
      have hvs := valS_snoc hc
      generalize valS (s.take i) = V at *
      by_cases hlo : c.toNat < 48
      · have a1 : decide ((c.toNat : Int) < 48) = true := by simp; omega
        have hno : s.all isD = false := all_not hc (by unfold isD; simp; omega)
        rw [if_neg (by rw [hno]; simp)]
        simp only [go_sem, simprocAttr, hl, h0, h1, h6, h7, hlt, hc, a1, Option.getD_none, Option.isSome_none]
      · by_cases hhi : 57 < c.toNat
        · have a1 : decide ((c.toNat : Int) < 48) = false := by simp; omega
          have a2 : decide ((c.toNat : Int) > 57) = true := by simp; omega
          have hno : s.all isD = false := all_not hc (by unfold isD; simp; omega)
          rw [if_neg (by rw [hno]; simp)]
          simp only [go_sem, simprocAttr, hl, h0, h1, h6, h7, hlt, hc, a1, a2, Option.getD_none, Option.isSome_none]
        · have a1 : decide ((c.toNat : Int) < 48) = false := by simp; omega
          have a2 : decide ((c.toNat : Int) > 57) = false := by simp; omega
          have w1 : IntKind.u64.wrap (10 * (V : Int)) = ((10 * V : Nat) : Int) := by rw [wrap_u64 (by omega)]; omega
          have w2 : IntKind.u8.wrap ((c.toNat : Int) - 48) = ((c.toNat - 48 : Nat) : Int) := by rw [wrap_u8 (by omega)]; omega
          have w3 : IntKind.u64.wrap ((c.toNat - 48 : Nat) : Int) = ((c.toNat - 48 : Nat) : Int) := wrap_u64 (by omega)
          have w4 : IntKind.u64.wrap (((10 * V : Nat) : Int) + ((c.toNat - 48 : Nat) : Int)) = ((10 * V + (c.toNat - 48) : Nat) : Int) := by rw [wrap_u64 (by omega)]; omega
          simp only [go_sem, simprocAttr, hl, h0, h1, h6, h7, hlt, hc, a1, a2, w1, w2, w3, w4, hw]
          exact ⟨n - 1, by omega, _, i + 1, by omega, all_take_succ hc hall (by unfold isD; simp; omega), by rw [hvs, Nat.pow_succ]; omega, rfl, by simp only [go_sem, simprocAttr, hl], by simp only [go_sem, simprocAttr, hl, h0], by simp only [go_sem, simprocAttr, hl, h1], by simp only [go_sem, simprocAttr, hl, hvs], by simp only [go_sem, simprocAttr, hl]⟩
    · have hi : i = s.length := by omega
      subst hi
      rw [List.take_length] at hall hv h6
      rw [if_pos hall]
      by_cases hm : valS s ≤ most
      · have b1 : decide ((valS s : Int) > (most : Int)) = false := by simp; omega
        rw [if_pos hm]
        simp only [go_sem, simprocAttr, hl, h0, h1, h6, h7, hlt, gt_iff_lt, Nat.not_lt.2 hm, Option.getD_some, Option.isSome_some]
      · have b1 : decide ((valS s : Int) > (most : Int)) = true := by simp; omega
        rw [if_neg hm]
        simp only [go_sem, simprocAttr, hl, h0, h1, h6, h7, hlt, gt_iff_lt, Nat.lt_of_not_le hm, Option.getD_none, Option.isSome_none]
end Go.Proofs.YtgkpgpdkolpfkaaDoor.V
namespace Go.Proofs.YtgkpgpdkolpfkaaDoor.V
open Go
set_option linter.unusedSimpArgs false
set_option linter.unusedVariables false
attribute [local irreducible] go goOps goD opK callK callT stepK leaveTo nextK

/-- What ParseUint comes to: a number, and an error's number. -/
def puE : List UInt8 → Nat → Nat × Nat
  | [], v => (v, 0)
  | c :: r, v => if isD c = true then (if 65535 < 10 * v + (c.toNat - 48) then (65535, 1) else puE r (10 * v + (c.toNat - 48))) else (0, 2)
def errP (n : Nat) : AV := if n = 0 then .nili else .iface 163 (.int .i64 (n : Nat))
set_option maxRecDepth 20000 in
theorem str_lower (c : UInt8) (H k) : callK Tryd.prog 110 [.int .u8 c.toNat] H k = k (.int .u8 (c ||| 32).toNat, H, z0) := by
  refine callK_eq (r := (.int .u8 (c ||| 32).toNat, H, z0)) ?_ k
  refine callK_start (n := 5) (rs := [.tmp 2]) Tryd.func110 rfl rfl rfl ?_
  intro σ hl ha
  have h0 := ha 0 (by simp)
  clear ha
  simp only [Option.getD_some, List.getElem?_cons_zero, List.getElem?_cons_succ] at h0
  have hor : evInt .or .u8 (c.toNat : Int) 32 = some (.int .u8 (c ||| 32).toNat) := by
    have hlt := (c ||| 32).toNat_lt
    have : (BitVec.ofInt 8 (c.toNat : Int) ||| BitVec.ofInt 8 32).toNat = (c ||| 32).toNat := by
      rw [BitVec.toNat_or, BitVec.ofInt_natCast, UInt8.toNat_or]
      simp only [BitVec.toNat_ofNat]
      rw [Nat.mod_eq_of_lt (show c.toNat < 2 ^ 8 from c.toNat_lt)]
      rfl
    show some (AV.int .u8 (IntKind.u8.wrap ((BitVec.ofInt 8 (c.toNat : Int) ||| BitVec.ofInt 8 32).toNat : Int))) = _
    rw [this, wrap_u8 (by omega)]
  simp only [go_sem, simprocAttr, hl, h0, hor]

set_option maxRecDepth 20000 in
theorem parse_uint_i (s : List UInt8) (H k) (hz : s ≠ []) (hs : s.length ≤ 1048576) : callK Tryd.prog 98 [.str s, .int .i64 10, .int .i64 16] H k = k (.tuple [.int .u64 ((puE s 0).1 : Nat), errP (puE s 0).2], H, z0) := by
  refine callK_eq (r := (.tuple [.int .u64 ((puE s 0).1 : Nat), errP (puE s 0).2], H, z0)) ?_ k
  refine callK_start (n := 172) (rs := [.tmp 6, .tmp 7]) Tryd.func98 rfl rfl rfl ?_
  intro σ hl ha
  have h0 := ha 0 (by simp)
  have h1 := ha 1 (by simp)
  have h2 := ha 2 (by simp)
  clear ha
  simp only [Option.getD_some, List.getElem?_cons_zero, List.getElem?_cons_succ] at h0 h1 h2
  have e0 : (s == []) = false := by simpa using hz
  have hm : IntKind.u64.wrap (IntKind.u64.wrap (1 * 2 ^ min 16 64) - 1) = 65535 := by decide
  simp only [go_sem, simprocAttr, hl, h0, h1, h2, e0, hm]
  refine go_rounds (fun n st => ∃ σ i V e, n + i = s.length ∧ puE s 0 = puE (s.drop i) V ∧ V ≤ 65535 ∧ st = ⟨σ, H ++ [.cells (u8s s) 5 (.op 0 true)], e⟩ ∧ clean H.length e ∧ σ.length = 172 ∧ fr σ 0 = .str s ∧ fr σ 1 = .int .i64 10 ∧ fr σ 8 = .bool false ∧ fr σ 10 = .int .u64 1844674407370955162 ∧ fr σ 11 = .int .u64 65535 ∧ fr σ 12 = .bool false ∧ fr σ 13 = .int .u64 (V : Nat) ∧ fr σ 99 = .slice H.length 0 s.length (.op 0) ∧ fr σ 100 = .int .i64 s.length ∧ fr σ 101 = .int .i64 (i : Nat)) s.length
    ⟨_, 0, 0, _, rfl, rfl, by omega, rfl, ⟨rfl, rfl⟩, by simp only [go_sem, simprocAttr, hl], by simp only [go_sem, simprocAttr, hl, h0], by simp only [go_sem, simprocAttr, hl, h1], by simp only [go_sem, simprocAttr, hl], by simp only [go_sem, simprocAttr, hl], by simp only [go_sem, simprocAttr, hl, hm], by simp only [go_sem, simprocAttr, hl], by simp only [go_sem, simprocAttr, hl], by simp only [go_sem, simprocAttr, hl], by simp only [go_sem, simprocAttr, hl], by simp only [go_sem, simprocAttr, hl]⟩ ?_
  rintro n _ ⟨σ, i, V, e, hn, hp, hV, rfl, he, hl, h0, h1, h8, h10, h11, h12, h13, h99, h100, h101⟩
  have hg : (H ++ [ABlk.cells (u8s s) 5 (.op 0 true)])[H.length]? = some (.cells (u8s s) 5 (.op 0 true)) := by rw [hp_new0]; rfl
  by_cases hlt : i < s.length
  · obtain ⟨c, hc⟩ : ∃ c, s[i]? = some c := ⟨_, List.getElem?_eq_getElem hlt⟩
    have hcl := c.toNat_lt
    have hw := wrap_succ (show i < 9223372036854775807 by omega)
    have hld := fun (e : TypeId) (k : Kd) => u8s_ld (n := 1) (e := e) (k := k) hc
    have hlo := fun H k => str_lower c H k
    rw [drop_at hc] at hp
    have w10 : IntKind.u8.wrap 10 = 10 := by decide
    have hif : ∀ n : Int, ifaceV Tryd.prog 163 (.int .i64 n) = some (.iface 163 (.int .i64 n)) := by intro n; simp only [ifaceV, tsh_163]
    have w11 : IntKind.u64.wrap 10 = 10 := by decide
    by_cases hd : isD c = true
    · have hd' : 48 ≤ c.toNat ∧ c.toNat ≤ 57 := by simpa [isD] using hd
      rw [puE, if_pos hd] at hp
      have a0 : ((c.toNat : Int) == 95) = false := by simp; omega
      have a1 : decide (48 ≤ (c.toNat : Int)) = true := by simp; omega
      have a2 : decide ((c.toNat : Int) ≤ 57) = true := by simp; omega
      have w1 : IntKind.u8.wrap ((c.toNat : Int) - 48) = ((c.toNat - 48 : Nat) : Int) := by rw [wrap_u8 (by omega)]; omega
      have a3 : decide (((c.toNat - 48 : Nat) : Int) ≥ 10) = false := by simp; omega
      have a4 : decide ((V : Int) ≥ 1844674407370955162) = false := by simp; omega
      have w2 : IntKind.u64.wrap ((V : Int) * 10) = ((10 * V : Nat) : Int) := by rw [wrap_u64 (by omega)]; omega
      have w3 : IntKind.u64.wrap ((c.toNat - 48 : Nat) : Int) = ((c.toNat - 48 : Nat) : Int) := wrap_u64 (by omega)
      have w4 : IntKind.u64.wrap (((10 * V : Nat) : Int) + ((c.toNat - 48 : Nat) : Int)) = ((10 * V + (c.toNat - 48) : Nat) : Int) := by rw [wrap_u64 (by omega)]; omega
      have a5 : (10 * V + (c.toNat - 48) < 10 * V) = False := by apply eq_false; omega
      by_cases ho : 65535 < 10 * V + (c.toNat - 48)
      · rw [if_pos ho] at hp
        rw [hp]
        have a6 : decide (((10 * V + (c.toNat - 48) : Nat) : Int) > 65535) = true := by simp; omega
        simp only [go_sem, simprocAttr, hl, h0, h1, h8, h10, h11, h12, h13, h99, h100, h101, hlt, hg, hld, a0, a1, a2, w1, w10, w11, a3, a4, w2, w3, w4, a5, a6, hw, hif]
        exact leave_flat (by simp [flat, flats]) he
      · rw [if_neg ho] at hp
        have a6 : decide (((10 * V + (c.toNat - 48) : Nat) : Int) > 65535) = false := by simp; omega
        simp only [go_sem, simprocAttr, hl, h0, h1, h8, h10, h11, h12, h13, h99, h100, h101, hlt, hg, hld, a0, a1, a2, w1, w10, w11, a3, a4, w2, w3, w4, a5, a6, hw, hif]
        exact ⟨n - 1, by omega, _, i + 1, _, _, by omega, hp, by omega, rfl, he, by simp only [go_sem, simprocAttr, hl], by simp only [go_sem, simprocAttr, hl, h0], by simp only [go_sem, simprocAttr, hl, h1], by simp only [go_sem, simprocAttr, hl, h8], by simp only [go_sem, simprocAttr, hl, h10], by simp only [go_sem, simprocAttr, hl, h11], by simp only [go_sem, simprocAttr, hl, h12], by simp only [go_sem, simprocAttr, hl], by simp only [go_sem, simprocAttr, hl, h99], by simp only [go_sem, simprocAttr, hl, h100], by simp only [go_sem, simprocAttr, hl]⟩
    · rw [puE, if_neg hd] at hp
      rw [hp]
      have hd' : c.toNat < 48 ∨ 57 < c.toNat := by
        have : ¬ (48 ≤ c.toNat ∧ c.toNat ≤ 57) := by simpa [isD] using hd
        omega
      have hLl := (c ||| 32).toNat_lt
      have y1 : decide (48 ≤ (c.toNat : Int)) = true ∧ decide ((c.toNat : Int) ≤ 57) = false ∨ decide (48 ≤ (c.toNat : Int)) = false := by
        rcases hd' with h | h
        · exact .inr (by simp; omega)
        · exact .inl ⟨by simp; omega, by simp; omega⟩
      generalize hL : (c ||| 32).toNat = L at *
      have w6 : 97 ≤ L → L ≤ 122 → decide (IntKind.u8.wrap (IntKind.u8.wrap ((L : Int) - 97) + 10) ≥ 10) = true := by
        intro h1 h2
        have e1 : IntKind.u8.wrap ((L : Int) - 97) = ((L - 97 : Nat) : Int) := by rw [wrap_u8 (by omega)]; omega
        rw [e1, wrap_u8 (by omega)]; simp; omega
      by_cases x4 : 97 ≤ L
      · have z4 : decide (97 ≤ (L : Int)) = true := by simp; omega
        by_cases x5 : L ≤ 122
        · have z5 : decide ((L : Int) ≤ 122) = true := by simp; omega
          have w6 := w6 x4 x5
          rcases y1 with ⟨y1, y2⟩ | y1 <;> cases x1 : ((c.toNat : Int) == 95)
          all_goals
            first | simp only [go_sem, simprocAttr, hl, h0, h1, h8, h10, h11, h12, h13, h99, h100, h101, hlt, hg, hld, hlo, hL, x1, y1, y2, z4, z5, w6, w10, hif] | simp only [go_sem, simprocAttr, hl, h0, h1, h8, h10, h11, h12, h13, h99, h100, h101, hlt, hg, hld, hlo, hL, x1, y1, z4, z5, w6, w10, hif]
            exact leave_flat (by simp [flat, flats]) he
        · have z5 : decide ((L : Int) ≤ 122) = false := by simp; omega
          rcases y1 with ⟨y1, y2⟩ | y1 <;> cases x1 : ((c.toNat : Int) == 95)
          all_goals
            first | simp only [go_sem, simprocAttr, hl, h0, h1, h8, h10, h11, h12, h13, h99, h100, h101, hlt, hg, hld, hlo, hL, x1, y1, y2, z4, z5, w10, hif] | simp only [go_sem, simprocAttr, hl, h0, h1, h8, h10, h11, h12, h13, h99, h100, h101, hlt, hg, hld, hlo, hL, x1, y1, z4, z5, w10, hif]
            exact leave_flat (by simp [flat, flats]) he
      · have z4 : decide (97 ≤ (L : Int)) = false := by simp; omega
        rcases y1 with ⟨y1, y2⟩ | y1 <;> cases x1 : ((c.toNat : Int) == 95)
        all_goals
          first | simp only [go_sem, simprocAttr, hl, h0, h1, h8, h10, h11, h12, h13, h99, h100, h101, hlt, hg, hld, hlo, hL, x1, y1, y2, z4, w10, hif] | simp only [go_sem, simprocAttr, hl, h0, h1, h8, h10, h11, h12, h13, h99, h100, h101, hlt, hg, hld, hlo, hL, x1, y1, z4, w10, hif]
          exact leave_flat (by simp [flat, flats]) he
  · have hi : i = s.length := by omega
    subst hi
    rw [List.drop_length] at hp
    rw [hp]
    simp only [go_sem, simprocAttr, hl, h0, h1, h8, h10, h11, h12, h13, h99, h100, h101, hlt]
    exact leave_flat (by simp [flat, flats]) he
end Go.Proofs.YtgkpgpdkolpfkaaDoor.V
namespace Go.Proofs.YtgkpgpdkolpfkaaDoor.V
open Go
set_option linter.unusedSimpArgs false
set_option linter.unusedVariables false
attribute [local irreducible] go goOps goD opK callK callT stepK leaveTo nextK

/-! ### plainly -/
def valF (v : Nat) (s : List UInt8) : Nat := s.foldl (fun v c => 10 * v + (c.toNat - 48)) v
theorem valF_ge : ∀ (s : List UInt8) (v : Nat), v * 10 ^ s.length ≤ valF v s
  | [], v => by simp [valF]
  | c :: r, v => by
    have := valF_ge r (10 * v + (c.toNat - 48))
    refine Nat.le_trans ?_ this
    rw [List.length_cons, Nat.pow_succ, Nat.mul_comm (10 ^ r.length) 10, ← Nat.mul_assoc]
    exact Nat.mul_le_mul_right _ (by omega)
theorem valF_le (s : List UInt8) (v : Nat) : v ≤ valF v s :=
  Nat.le_trans (Nat.le_mul_of_pos_right v (Nat.pow_pos (by decide))) (valF_ge s v)
theorem puE_spec : ∀ (s : List UInt8) (v : Nat), (s.all isD = true ∧ valF v s ≤ 65535 → puE s v = (valF v s, 0)) ∧ (¬ (s.all isD = true ∧ valF v s ≤ 65535) → v ≤ 65535 → (puE s v).2 = 1 ∨ (puE s v).2 = 2)
  | [], v => ⟨fun _ => rfl, fun h hv => absurd ⟨rfl, hv⟩ h⟩
  | c :: r, v => by
    have ih := puE_spec r (10 * v + (c.toNat - 48))
    have hF : valF v (c :: r) = valF (10 * v + (c.toNat - 48)) r := rfl
    have hle := valF_le r (10 * v + (c.toNat - 48))
    rw [hF]
    by_cases hd : isD c = true
    · rw [puE, if_pos hd]
      by_cases ho : 65535 < 10 * v + (c.toNat - 48)
      · rw [if_pos ho]
        exact ⟨fun h => by omega, fun _ _ => .inl rfl⟩
      · rw [if_neg ho]
        refine ⟨fun ⟨h1, h2⟩ => ih.1 ⟨by simp only [List.all_cons, hd, Bool.true_and] at h1; exact h1, h2⟩, fun h _ => ih.2 (fun ⟨h1, h2⟩ => h ⟨by simp only [List.all_cons, hd, Bool.true_and]; exact h1, h2⟩) (by omega)⟩
    · rw [puE, if_neg hd]
      refine ⟨fun ⟨h1, _⟩ => ?_, fun _ _ => .inr rfl⟩
      simp only [List.all_cons, Bool.and_eq_true] at h1
      exact absurd h1.1 hd
/-- A number that fits, its text not begun by a needless nought. -/
theorem numS_pu {s : List UInt8} (hz : s ≠ []) (h0 : ¬ (1 < s.length ∧ s[0]? = some 48)) : numS s 65535 = if (puE s 0).2 = 0 then some (puE s 0).1 else none := by
  have sp := puE_spec s 0
  by_cases hg : s.all isD = true ∧ valF 0 s ≤ 65535
  · rw [sp.1 hg, if_pos rfl]
    have hl : ¬ 12 < s.length := by
      intro hl
      obtain ⟨c, r, rfl⟩ := List.exists_cons_of_ne_nil hz
      have h1 := valF_ge r (10 * 0 + (c.toNat - 48))
      have hc : isD c = true := by have := hg.1; simp only [List.all_cons, Bool.and_eq_true] at this; exact this.1
      have hc' : 48 ≤ c.toNat ∧ c.toNat ≤ 57 := by simpa [isD] using hc
      have hne : c.toNat ≠ 48 := fun h => h0 ⟨by omega, by simp; exact UInt8.toNat.inj h⟩
      have hp : 10 ^ 12 ≤ 10 ^ r.length := Nat.pow_le_pow_right (by decide) (by simp only [List.length_cons] at hl; omega)
      have h2 : 1 * 10 ^ r.length ≤ (10 * 0 + (c.toNat - 48)) * 10 ^ r.length := Nat.mul_le_mul_right _ (by omega)
      have h3 : valF (10 * 0 + (c.toNat - 48)) r ≤ 65535 := hg.2
      omega
    unfold numS
    rw [if_neg (by
      rintro (h | h | h)
      · exact hz h
      · exact h0 h
      · exact hl h), if_pos hg.1]
    exact if_pos hg.2
  · have h1 := sp.2 hg (by omega)
    rw [if_neg (by omega)]
    unfold numS
    split
    · rfl
    · split
      · rename_i ha
        exact if_neg (fun h => hg ⟨ha, h⟩)
      · rfl
theorem numS_plus {s : List UInt8} (h : s[0]? = some 43) : numS s 65535 = none := by
  unfold numS
  split
  · rfl
  · rw [if_neg]
    rw [all_not h (by decide)]; simp

/-! ### the walks -/
/-- The variables that errors lead to. -/
def Te (H : Hp) : Prop := (∃ e k u b, H[3]? = some (.cells [.iface u b] e k)) ∧ (∃ e k u b, H[4]? = some (.cells [.iface u b] e k))
theorem Te.old {H : Hp} (h : Te H) (l : Hp) : Te (H ++ l) := by
  obtain ⟨⟨e, k, u, b, h1⟩, ⟨e', k', u', b', h2⟩⟩ := h
  exact ⟨⟨e, k, u, b, get_app h1⟩, ⟨e', k', u', b', get_app h2⟩⟩
theorem flats_u8s : ∀ s : List UInt8, flats (u8s s) = true
  | [] => rfl
  | c :: s => by
    have := flats_u8s s
    unfold u8s at this ⊢
    rw [List.map_cons]
    simp only [flats, flat, this, Bool.and_self]
set_option maxRecDepth 20000 in
theorem sl_clone (s : List UInt8) (H k) (hs : s.length ≤ 1048576) : callK Tryd.prog 118 [.str s] H k = k (.str s, H, z0) := by
  refine callK_eq (r := (.str s, H, z0)) ?_ k
  refine callK_start (n := 18) (rs := [.tmp 2]) Tryd.func118 rfl rfl rfl ?_
  intro σ hl ha
  have h0 := ha 0 (by simp)
  clear ha
  simp only [Option.getD_some, List.getElem?_cons_zero, List.getElem?_cons_succ] at h0
  by_cases hz : s = []
  · subst hz
    simp only [go_sem, simprocAttr, hl, h0]
  · have hpos : 0 < s.length := List.length_pos_iff.2 hz
    have g0 : ((s.length : Int) == 0) = false := by simp; exact hz
    have hmk : ∀ H', evMake Tryd.prog 31 (.int .i64 s.length) (.int .i64 s.length) H' = some (.slice H'.length 0 s.length (.ex s.length), H' ++ [.cells (List.replicate s.length (.int .u8 0)) 5 .rw]) := by
      intro H'
      have hr : ∀ n, rep [.int .u8 0] n = List.replicate n (AV.int .u8 0) := by
        intro n; induction n with
        | zero => rfl
        | succ n ih => rw [rep, ih]; rfl
      simp only [evMake, tsh_31, tzero_5, Option.bind_some]
      rw [if_pos (by omega)]
      simp [hr]
    have hcp : ∀ x, evCopy Tryd.prog 31 (.slice H.length 0 s.length x) (.str s) (H ++ [.cells (List.replicate s.length (.int .u8 0)) 5 .rw]) = some (.int .i64 s.length, H ++ [.cells (u8s s) 5 .rw], ⟨none, some H.length⟩) := by
      intro x
      have hg : (H ++ [ABlk.cells (List.replicate s.length (.int .u8 0)) 5 .rw])[H.length]? = some (.cells (List.replicate s.length (.int .u8 0)) 5 .rw) := by rw [hp_new0]; rfl
      have hsc : (u8s s).all scal = true := by simp [u8s, scal]
      have hfl : flats (u8s s) = true := flats_u8s s
      have hsp : splice (List.replicate s.length (AV.int .u8 0)) 0 (u8s s) = u8s s := by
        unfold splice
        rw [List.take_zero, List.nil_append, List.drop_eq_nil_of_le (by simp [u8s]), List.append_nil]
      simp only [evCopy, tsh_31, appended, Option.bind_some]
      have ht : List.take (min s.length s.length * 1) (s.map fun b => AV.int .u8 (b.toNat : Int)) = u8s s := by
        rw [List.take_of_length_le (by simp)]; rfl
      simp only [if_true, Option.bind_some, ht]
      unfold wr
      rw [hg]
      simp only
      rw [if_pos ⟨by simp [u8s], rfl, hsc⟩, hsp, hfl]
      simp [hp_set]
    have hst : ∀ H', H'[H.length]? = some (.cells (u8s s) 5 .rw) → evString Tryd.prog 121 (.ptr H.length 0) (.int .i64 s.length) H' = some (.str s, H'.set H.length .dead, ⟨none, some H.length⟩) := by
      intro H' hg
      have c1 : ¬ ((s.length : Int) = 0) := by omega
      have c2 : 0 < (s.length : Int) ∧ (s.length : Int) ≤ 9223372036854775807 := by omega
      have c3 : Tryd.prog.cellsOf 5 = 1 := by kernel_rfl
      have c5 : ((u8s s).drop 0).take (s.length : Int).toNat = u8s s := by
        rw [List.drop_zero, List.take_of_length_le (by rw [u8s_len]; simp)]
      simp only [evString, tsh_121, hg]
      rw [if_neg c1, if_pos c2, if_pos ⟨trivial, tsize_5, c3, by rw [u8s_len]; simp⟩, c5, bytes_u8s]
      simp
    have hst := hst (H ++ [.cells (u8s s) 5 .rw]) (by rw [hp_new0]; rfl)
    simp only [go_sem, simprocAttr, hl, h0, g0, hmk, hcp, hst, hpos]
    omega

set_option maxRecDepth 20000 in
theorem isIface_er : (match Tryd.prog.underlying 80 with | some (.interface _) => true | _ => false) = true := by kernel_rfl
theorem und_se : Tryd.prog.underlying 163 = some (.int .i64) := by kernel_rfl
set_option maxRecDepth 20000 in
theorem cmp_se : (Tryd.prog.info? 163).map (·.comparable) = some true := by kernel_rfl
set_option maxRecDepth 20000 in
theorem eqErr {a b : Int} {c : Bool} : binV Tryd.prog .eql 80 (.iface 163 (.int .i64 a)) (.iface 163 (.int .i64 b)) c = some (.bool (a == b)) := by
  obtain ⟨ms, hu⟩ : ∃ ms, Tryd.prog.underlying 80 = some (.interface ms) := by
    have := isIface_er
    split at this
    · exact ⟨_, ‹_›⟩
    · cases this
  obtain ⟨i, hi, hc⟩ : ∃ i, Tryd.prog.info? 163 = some i ∧ i.comparable = true := by
    have := cmp_se
    rw [Option.map_eq_some_iff] at this
    exact this
  simp [binV, evBin, evEq, hu, hi, hc, und_se]
theorem isC_t {n : Tmp} : evOp.isConst (.tmp n) = false := rfl
theorem isC_c {v : Value} : evOp.isConst (.const v) = true := rfl
theorem neNN : binV Tryd.prog .neq 80 .nili .nili true = some (.bool false) := by
  simp only [binV, if_true, tsh_80]
set_option maxRecDepth 20000 in
theorem neNI {c : Bool} {u : TypeId} {v : AV} : binV Tryd.prog .neq 80 (.iface u v) .nili c = some (.bool true) := by
  obtain ⟨ms, hu⟩ : ∃ ms, Tryd.prog.underlying 80 = some (.interface ms) := by
    have := isIface_er
    split at this
    · exact ⟨_, ‹_›⟩
    · cases this
  simp [binV, evBin, evEq, hu]
attribute [go_sem] eqErr isC_c neNN neNI
theorem bd_ne (a b : List UInt8) (u : TypeId) (x : AV) : evBuild Tryd.prog 170 [(0, .str a), (1, .str b), (2, .iface u x)] = some (.agg [.str a, .str b, .iface u x]) := by
  simp only [evBuild, tsh_170, tzero_170, tplaces_170, Option.bind_some]
  rfl
set_option maxRecDepth 20000 in
theorem sc_syntaxError (a s : List UInt8) (H) (ht : Te H) (hs : s.length ≤ 1048576) : ∃ x : ABlk, ∀ l k, callK Tryd.prog 112 [.str a, .str s] (H ++ l) k = k (.ptr (H ++ l).length 0, H ++ (l ++ [x]), z0) := by
  obtain ⟨e0, k0, u, b, hg⟩ := ht.1
  refine ⟨.cells [.str a, .str s, .iface u b] 170 .rw, fun l k => ?_⟩
  refine callK_eq (r := (.ptr (H ++ l).length 0, H ++ (l ++ [.cells [.str a, .str s, .iface u b] 170 .rw]), z0)) ?_ k
  refine callK_start (n := 11) (rs := [.tmp 4]) Tryd.func112 rfl rfl rfl ?_
  intro σ hl ha
  have h0 := ha 0 (by simp)
  have h1 := ha 1 (by simp)
  clear ha
  simp only [Option.getD_some, List.getElem?_cons_zero, List.getElem?_cons_succ] at h0 h1
  have hc := fun k => sl_clone s (H ++ l) k hs
  have hg' : (H ++ l)[3]? = some (.cells [.iface u b] e0 k0) := get_app hg
  have hbd := bd_ne a s u b
  simp only [go_sem, simprocAttr, hl, h0, h1, hc, hg', hbd]
  refine go_drawZ tFollows (by kernel_rfl) ?_
  simp only [go_sem, simprocAttr, hl, h0, h1, hc, hg', hbd]
  kernel_rfl
set_option maxRecDepth 20000 in
theorem sc_rangeError (a s : List UInt8) (H) (ht : Te H) (hs : s.length ≤ 1048576) : ∃ x : ABlk, ∀ l k, callK Tryd.prog 113 [.str a, .str s] (H ++ l) k = k (.ptr (H ++ l).length 0, H ++ (l ++ [x]), z0) := by
  obtain ⟨e0, k0, u, b, hg⟩ := ht.2
  refine ⟨.cells [.str a, .str s, .iface u b] 170 .rw, fun l k => ?_⟩
  refine callK_eq (r := (.ptr (H ++ l).length 0, H ++ (l ++ [.cells [.str a, .str s, .iface u b] 170 .rw]), z0)) ?_ k
  refine callK_start (n := 11) (rs := [.tmp 4]) Tryd.func113 rfl rfl rfl ?_
  intro σ hl ha
  have h0 := ha 0 (by simp)
  have h1 := ha 1 (by simp)
  clear ha
  simp only [Option.getD_some, List.getElem?_cons_zero, List.getElem?_cons_succ] at h0 h1
  have hc := fun k => sl_clone s (H ++ l) k hs
  have hg' : (H ++ l)[4]? = some (.cells [.iface u b] e0 k0) := get_app hg
  have hbd := bd_ne a s u b
  simp only [go_sem, simprocAttr, hl, h0, h1, hc, hg', hbd]
  refine go_drawZ tFollows (by kernel_rfl) ?_
  simp only [go_sem, simprocAttr, hl, h0, h1, hc, hg', hbd]
  kernel_rfl
set_option maxRecDepth 20000 in
theorem sc_toError (a s : List UInt8) (n : Nat) (hn : n = 1 ∨ n = 2) (H) (ht : Te H) (hs : s.length ≤ 1048576) : ∃ x : ABlk, ∀ k, callK Tryd.prog 99 [.str a, .str s, .int .i64 10, .int .i64 16, .iface 163 (.int .i64 (n : Nat))] H k = k (.iface 165 (.ptr H.length 0), H ++ [x], z0) := by
  obtain ⟨x1, hx1⟩ := sc_syntaxError a s H ht hs
  obtain ⟨x2, hx2⟩ := sc_rangeError a s H ht hs
  have hx1 := fun k => hx1 [] k
  have hx2 := fun k => hx2 [] k
  simp only [List.append_nil, List.nil_append] at hx1 hx2
  have hif : ∀ n : Int, ifaceV Tryd.prog 163 (.int .i64 n) = some (.iface 163 (.int .i64 n)) := by intro n; simp only [ifaceV, tsh_163]
  have hip : ∀ n : Nat, ifaceV Tryd.prog 165 (.ptr n 0) = some (.iface 165 (.ptr n 0)) := by intro n; simp only [ifaceV, tsh_165]
  refine ⟨if n = 2 then x1 else x2, fun k => ?_⟩
  refine callK_eq (r := (.iface 165 (.ptr H.length 0), H ++ [if n = 2 then x1 else x2], z0)) ?_ k
  refine callK_start (n := 43) (rs := [.tmp 10]) Tryd.func99 rfl rfl rfl ?_
  intro σ hl ha
  have h0 := ha 0 (by simp)
  have h1 := ha 1 (by simp)
  have h2 := ha 2 (by simp)
  have h3 := ha 3 (by simp)
  have h4 := ha 4 (by simp)
  clear ha
  simp only [Option.getD_some, List.getElem?_cons_zero, List.getElem?_cons_succ] at h0 h1 h2 h3 h4
  rcases hn with rfl | rfl
  · simp only [go_sem, simprocAttr, hl, h0, h1, h2, h3, h4, hx1, hx2, hif, hip]
  · simp only [go_sem, simprocAttr, hl, h0, h1, h2, h3, h4, hx1, hx2, hif, hip]
set_option maxRecDepth 20000 in
theorem parse_uint_ok (s : List UInt8) (H k) (hz : s ≠ []) (hs : s.length ≤ 1048576) (he : (puE s 0).2 = 0) : callK Tryd.prog 83 [.str s, .int .i64 10, .int .i64 16] H k = k (.tuple [.int .u64 ((puE s 0).1 : Nat), .nili], H, z0) := by
  refine callK_eq (r := (.tuple [.int .u64 ((puE s 0).1 : Nat), .nili], H, z0)) ?_ k
  refine callK_start (n := 26) (rs := [.tmp 6, .tmp 7]) Tryd.func83 rfl rfl rfl ?_
  intro σ hl ha
  have h0 := ha 0 (by simp)
  have h1 := ha 1 (by simp)
  have h2 := ha 2 (by simp)
  clear ha
  simp only [Option.getD_some, List.getElem?_cons_zero, List.getElem?_cons_succ] at h0 h1 h2
  have hp := fun k => parse_uint_i s H k hz hs
  rw [he] at hp
  simp only [errP, if_true] at hp
  simp only [go_sem, simprocAttr, hl, h0, h1, h2, hp]
set_option maxRecDepth 20000 in
theorem parse_uint_bad (s : List UInt8) (H) (ht : Te H) (hz : s ≠ []) (hs : s.length ≤ 1048576) (he : (puE s 0).2 = 1 ∨ (puE s 0).2 = 2) : ∃ x : ABlk, ∀ k, callK Tryd.prog 83 [.str s, .int .i64 10, .int .i64 16] H k = k (.tuple [.int .u64 ((puE s 0).1 : Nat), .iface 165 (.ptr H.length 0)], H ++ [x], z0) := by
  obtain ⟨x, hx⟩ := sc_toError [80, 97, 114, 115, 101, 85, 105, 110, 116] s _ he H ht hs
  refine ⟨x, fun k => ?_⟩
  refine callK_eq (r := (.tuple [.int .u64 ((puE s 0).1 : Nat), .iface 165 (.ptr H.length 0)], H ++ [x], z0)) ?_ k
  refine callK_start (n := 26) (rs := [.tmp 6, .tmp 7]) Tryd.func83 rfl rfl rfl ?_
  intro σ hl ha
  have h0 := ha 0 (by simp)
  have h1 := ha 1 (by simp)
  have h2 := ha 2 (by simp)
  clear ha
  simp only [Option.getD_some, List.getElem?_cons_zero, List.getElem?_cons_succ] at h0 h1 h2
  have hp := fun k => parse_uint_i s H k hz hs
  have hne : (puE s 0).2 ≠ 0 := by omega
  simp only [errP, if_neg hne] at hp
  simp only [go_sem, simprocAttr, hl, h0, h1, h2, hp, hx]

set_option maxRecDepth 20000 in
theorem rdata_number (s : List UInt8) (H k) (ht : Te H) (hs : s.length ≤ 1048576) : callK Tryd.prog 60 [.str s, .int .i64 16] H k = k (.tuple [.int .u32 (((numS s 65535).getD 0 : Nat)), .bool (numS s 65535).isSome], H, z0) := by
  refine callK_eq (r := (.tuple [.int .u32 (((numS s 65535).getD 0 : Nat)), .bool (numS s 65535).isSome], H, z0)) ?_ k
  refine callK_start (n := 35) (rs := [.tmp 4, .tmp 5]) Tryd.func60 rfl rfl rfl ?_
  intro σ hl ha
  have h0 := ha 0 (by simp)
  have h1 := ha 1 (by simp)
  clear ha
  simp only [Option.getD_some, List.getElem?_cons_zero, List.getElem?_cons_succ] at h0 h1
  by_cases hz : s = []
  · rw [numS_bad (.inl hz)]
    subst hz
    simp only [go_sem, simprocAttr, hl, h0, h1, Option.getD_none, Option.isSome_none]
  have hpos : 0 < s.length := List.length_pos_iff.2 hz
  obtain ⟨c, hc⟩ : ∃ c, s[0]? = some c := ⟨_, List.getElem?_eq_getElem hpos⟩
  have e0 : (s == []) = false := by simpa using hz
  have hcl := c.toNat_lt
  by_cases hld : 1 < s.length ∧ c.toNat = 48
  · rw [numS_bad (.inr (.inl ⟨hld.1, by rw [hc]; congr 1; exact UInt8.toNat.inj hld.2⟩))]
    have g1 : decide ((s.length : Int) > 1) = true := by simp; omega
    have g2 : ((c.toNat : Int) == 48) = true := by simp; omega
    simp only [go_sem, simprocAttr, hl, h0, h1, hc, hpos, g1, g2, e0, Option.getD_none, Option.isSome_none]
  have hcase : (decide ((s.length : Int) > 1) = true ∧ ((c.toNat : Int) == 48) = false) ∨ decide ((s.length : Int) > 1) = false := by
    by_cases h1 : 1 < s.length
    · exact .inl ⟨by simp; omega, by simp; intro h; exact hld ⟨h1, by omega⟩⟩
    · exact .inr (by simp; omega)
  by_cases hp : c.toNat = 43
  · rw [numS_plus (by rw [hc]; congr 1; exact UInt8.toNat.inj hp)]
    have g3 : ((c.toNat : Int) == 43) = true := by simp; omega
    rcases hcase with ⟨g1, g2⟩ | g1
    · simp only [go_sem, simprocAttr, hl, h0, h1, hc, hpos, g1, g2, g3, e0, Option.getD_none, Option.isSome_none]
    · simp only [go_sem, simprocAttr, hl, h0, h1, hc, hpos, g1, g3, e0, Option.getD_none, Option.isSome_none]
  have g3 : ((c.toNat : Int) == 43) = false := by simp; omega
  have hnb : ¬ (1 < s.length ∧ s[0]? = some 48) := by
    rintro ⟨h1, h2⟩
    rw [hc] at h2
    cases h2
    exact hld ⟨h1, rfl⟩
  rw [numS_pu hz hnb]
  by_cases he : (puE s 0).2 = 0
  · have hpu := fun k => parse_uint_ok s H k hz hs he
    rw [if_pos he]
    have hle : (puE s 0).1 ≤ 65535 := by
      by_cases hg : s.all isD = true ∧ valF 0 s ≤ 65535
      · rw [(puE_spec s 0).1 hg]; exact hg.2
      · have := (puE_spec s 0).2 hg (by omega); omega
    have w0 : IntKind.u32.wrap ((puE s 0).1 : Int) = ((puE s 0).1 : Int) := wrap_u32 (by omega)
    rcases hcase with ⟨g1, g2⟩ | g1
    · simp only [go_sem, simprocAttr, hl, h0, h1, hc, hpos, g1, g2, g3, e0, hpu, w0, Option.getD_some, Option.isSome_some]
    · simp only [go_sem, simprocAttr, hl, h0, h1, hc, hpos, g1, g3, e0, hpu, w0, Option.getD_some, Option.isSome_some]
  · have hb : (puE s 0).2 = 1 ∨ (puE s 0).2 = 2 := by
      by_cases hg : s.all isD = true ∧ valF 0 s ≤ 65535
      · exact absurd (by rw [(puE_spec s 0).1 hg]) he
      · exact (puE_spec s 0).2 hg (by omega)
    obtain ⟨x, hpu⟩ := parse_uint_bad s H ht hz hs hb
    rw [if_neg he]
    rcases hcase with ⟨g1, g2⟩ | g1
    · simp only [go_sem, simprocAttr, hl, h0, h1, hc, hpos, g1, g2, g3, e0, hpu, Option.getD_none, Option.isSome_none]
      try exact leave_flat (by simp [flat, flats]) (by simp [clean, low, Ef.and, omin])
    · simp only [go_sem, simprocAttr, hl, h0, h1, hc, hpos, g1, g3, e0, hpu, Option.getD_none, Option.isSome_none]
      try exact leave_flat (by simp [flat, flats]) (by simp [clean, low, Ef.and, omin])
end Go.Proofs.YtgkpgpdkolpfkaaDoor.V
namespace Go.Proofs.YtgkpgpdkolpfkaaDoor.V
open Go Go.ChangeShapes Go.WideShapes Go.ChangeAt Go.RowKit
set_option linter.unusedSimpArgs false
set_option linter.unusedVariables false
/-- The variables' own blocks, and some more. -/
def muX (n : Nat) (xs : List Loc) : Mu := fun i => if i < n then some ⟨i, 0, 0⟩ else xs[i - n]?
theorem start_globX {P : Program} {W : World} {n : Nat} {xs : List Loc} {Bs : List ABlk} (hn : P.globals.size = n) (hsz : n ≤ W.heap.size) (hl : Bs.length = n) (hx : ∀ x ∈ xs, x.blk < W.heap.size) (hw : ∀ x ∈ Bs, apart x = false) (hB : ∀ (i : Nat) x, Bs[i]? = some x → BRel P (muX n xs) W ⟨i, 0, 0⟩ x) : HRel P (start W) (muX n xs) (Bs ++ List.replicate xs.length .ghost) W := by
  have hap : ∀ x ∈ Bs ++ List.replicate xs.length ABlk.ghost, apart x = false := by
    intro x h
    rcases List.mem_append.1 h with h | h
    · exact hw x h
    · rw [(List.mem_replicate.1 h).2]; rfl
  exact {
    dom := fun b l h => by
      unfold muX at h
      rw [List.length_append, List.length_replicate, hl]
      split at h
      · omega
      · have := (List.getElem?_eq_some_iff.1 h).1; omega
    glob := fun i hi => ⟨0, by unfold muX; rw [if_pos (by omega)]⟩
    lt := fun b l h => by
      unfold muX at h
      split at h
      · cases h; show b < _; omega
      · exact hx l (List.mem_of_getElem? h)
    blk := fun b l x h h' => by
      unfold muX at h
      split at h
      · rename_i hb
        cases h
        rw [List.getElem?_append_left (by omega)] at h'
        exact hB b x h'
      · rw [List.getElem?_append_right (by omega)] at h'
        have := List.mem_of_getElem? h'
        rw [(List.mem_replicate.1 this).2]; trivial
    sep := fun b b' l l' x x' _ _ _ hx _ hwx => by rw [hap x (List.mem_of_getElem? hx)] at hwx; cases hwx
    own := fun b l x _ hx hwx => by have := apart_w hwx; rw [hap x (List.mem_of_getElem? hx)] at this; cases this
    old := fun k hk => ⟨hk, rfl⟩
    os := rfl
    tape := rfl
    output := rfl
    size := Nat.le_refl _ }
abbrev erN : String := "*errors.errorString"
theorem name_er {u : TypeId} (h : Tryd.prog.typeName? 3 u = some erN) : u = 174 :=
  typeName_ptr_named (nm := "errors.errorString") (by kernel_rfl) (by kernel_rfl) (by decide) u (h.trans (congrArg some (by decide : erN = "*" ++ "errors.errorString")))
theorem und_ep : Tryd.prog.underlying 174 = some (.pointer 176) := by kernel_rfl
theorem cells_ep : Tryd.prog.cellsOf 176 = 1 := by kernel_rfl
set_option maxRecDepth 20000 in
/-- What a variable of an error holds. -/
theorem err_var {H : Type} {enc : TypeId × Value → H} {W : World} {base fuel : Nat} {sp : Nat → Bool} {cs : List Value} {d : DataW H} {p : List MemPlace} (h : DataW.trod enc Tryd.prog W base sp false fuel 80 cs = some (.iface erN (.ptr d), p)) :
    ∃ l : Loc, l.blk < W.heap.size ∧ (cs = [.iface 174 (.pointer (some ⟨l.blk, l.base, none⟩))] ∨ cs = [.iface 174 (.agg #[.pointer (some ⟨l.blk, l.base, none⟩)])]) := by
  obtain ⟨ms, hu⟩ : ∃ ms, Tryd.prog.underlying 80 = some (.interface ms) := by
    have := isIface_er
    split at this
    · exact ⟨_, ‹_›⟩
    · cases this
  obtain ⟨fuel', u, v, rfl, hn, hd⟩ := iface_of_trod hu h
  obtain rfl := name_er hn
  obtain ⟨f2, a, cs', q, hv, hc, _, _⟩ := ptr_of_trod und_ep hd
  rw [cells_ep] at hc
  unfold World.cells? at hc
  split at hc
  · have hc1 : ∃ x, W.cell? (a.add 0) = some x := by
      cases hx : W.cell? (a.add 0) with
      | some x => exact ⟨x, rfl⟩
      | none => simp [List.range, List.range.loop, hx] at hc
    obtain ⟨x, hx⟩ := hc1
    unfold World.cell? at hx
    split at hx
    · rename_i c e fr hb
      have hsp : a.spot = none := by
        cases hs : a.spot with
        | none => rfl
        | some s => rw [show (a.add 0).spot = a.spot from rfl, hs] at hx; simp at hx
      refine ⟨⟨a.block, a.off, 0⟩, ?_, ?_⟩
      · exact (Array.getElem?_eq_some_iff.1 hb).1
      · obtain ⟨b, o, s⟩ := a
        simp only at hsp
        subst hsp
        cases v with
        | agg l =>
          obtain ⟨l⟩ := l
          simp only [Value.cells] at hv
          exact .inr (by rw [hv])
        | _ =>
          simp only [Value.cells] at hv
          first | (left; have := List.head_eq_of_cons_eq hv; rw [this]) | (exfalso; cases hv)
    · cases hx
  · cases hc
end Go.Proofs.YtgkpgpdkolpfkaaDoor.V
namespace Go.Proofs.YtgkpgpdkolpfkaaDoor.V
open Go
set_option linter.unusedSimpArgs false
set_option linter.unusedVariables false
attribute [local irreducible] go goOps goD opK callK callT stepK leaveTo nextK

/-! ### plainly -/
/-- The type of a text in small letters. -/
def tyO (l : List UInt8) : Option Nat :=
  if l = [97] then some 1 else if l = [110, 115] then some 2 else if l = [99, 110, 97, 109, 101] then some 5 else if l = [115, 111, 97] then some 6 else if l = [112, 116, 114] then some 12 else
  if l = [109, 120] then some 15 else if l = [116, 120, 116] then some 16 else if l = [97, 97, 97, 97] then some 28 else if l = [115, 114, 118] then some 33 else
  if l.take 4 = [116, 121, 112, 101] then numS (l.drop 4) 65535 else none
theorem kXt_low {i : Nat} (h : i < 9) : lowS (kXt i) = (([[97], [110, 115], [99, 110, 97, 109, 101], [115, 111, 97], [112, 116, 114], [109, 120], [116, 120, 116], [97, 97, 97, 97], [115, 114, 118]] : List (List UInt8))[i]?).getD [] := by
  have : i = 0 ∨ i = 1 ∨ i = 2 ∨ i = 3 ∨ i = 4 ∨ i = 5 ∨ i = 6 ∨ i = 7 ∨ i = 8 := by omega
  rcases this with rfl | rfl | rfl | rfl | rfl | rfl | rfl | rfl | rfl <;> decide
theorem tyO_at {i : Nat} (h : i < 9) {l : List UInt8} (hl : lowS (kXt i) = l) : ∃ n : Nat, tyO l = some n ∧ kT i = (n : Int) ∧ n < 65536 := by
  rw [kXt_low h] at hl
  have : i = 0 ∨ i = 1 ∨ i = 2 ∨ i = 3 ∨ i = 4 ∨ i = 5 ∨ i = 6 ∨ i = 7 ∨ i = 8 := by omega
  rcases this with rfl | rfl | rfl | rfl | rfl | rfl | rfl | rfl | rfl <;> (subst hl; exact ⟨_, rfl, rfl, by decide⟩)
theorem tyO_no {l : List UInt8} (h : ∀ j, j < 9 → lowS (kXt j) ≠ l) : tyO l = if l.take 4 = [116, 121, 112, 101] then numS (l.drop 4) 65535 else none := by
  have h0 := h 0 (by decide); have h1 := h 1 (by decide); have h2 := h 2 (by decide); have h3 := h 3 (by decide); have h4 := h 4 (by decide)
  have h5 := h 5 (by decide); have h6 := h 6 (by decide); have h7 := h 7 (by decide); have h8 := h 8 (by decide)
  have h0 : ([97] : List UInt8) ≠ l := fun e => h0 (by rw [kXt_low (by decide)]; exact e)
  have h1 : [110, 115] ≠ l := fun e => h1 (by rw [kXt_low (by decide)]; exact e)
  have h2 : [99, 110, 97, 109, 101] ≠ l := fun e => h2 (by rw [kXt_low (by decide)]; exact e)
  have h3 : [115, 111, 97] ≠ l := fun e => h3 (by rw [kXt_low (by decide)]; exact e)
  have h4 : [112, 116, 114] ≠ l := fun e => h4 (by rw [kXt_low (by decide)]; exact e)
  have h5 : [109, 120] ≠ l := fun e => h5 (by rw [kXt_low (by decide)]; exact e)
  have h6 : [116, 120, 116] ≠ l := fun e => h6 (by rw [kXt_low (by decide)]; exact e)
  have h7 : [97, 97, 97, 97] ≠ l := fun e => h7 (by rw [kXt_low (by decide)]; exact e)
  have h8 : [115, 114, 118] ≠ l := fun e => h8 (by rw [kXt_low (by decide)]; exact e)
  unfold tyO
  rw [if_neg (Ne.symm h0), if_neg (Ne.symm h1), if_neg (Ne.symm h2), if_neg (Ne.symm h3), if_neg (Ne.symm h4), if_neg (Ne.symm h5), if_neg (Ne.symm h6), if_neg (Ne.symm h7), if_neg (Ne.symm h8)]
theorem isD_low {c : UInt8} (h : isD c = true) : lowB c = c := by
  have h' : 48 ≤ c.toNat ∧ c.toNat ≤ 57 := by simpa [isD] using h
  exact lowB_not (by omega)
theorem isD_lowB (c : UInt8) : isD (lowB c) = isD c := by
  by_cases h : 65 ≤ c.toNat ∧ c.toNat ≤ 90
  · have h1 : isD c = false := by unfold isD; simp; omega
    have h2 : (lowB c).toNat = c.toNat + 32 := by unfold lowB; rw [if_pos h, UInt8.toNat_add]; have : (32 : UInt8).toNat = 32 := rfl; omega
    rw [h1]; unfold isD; simp; omega
  · rw [lowB_not h]
theorem all_low (s : List UInt8) : (lowS s).all isD = s.all isD := by
  unfold lowS
  rw [List.all_map]
  congr 1
  funext c
  exact isD_lowB c
theorem low_same : ∀ {s : List UInt8}, s.all isD = true → lowS s = s
  | [], _ => rfl
  | c :: s, h => by
    simp only [List.all_cons, Bool.and_eq_true] at h
    have := low_same h.2
    unfold lowS at this ⊢
    rw [List.map_cons, isD_low h.1, this]
theorem numS_low (s : List UInt8) (m : Nat) : numS (lowS s) m = numS s m := by
  by_cases h : s.all isD = true
  · rw [low_same h]
  · unfold numS
    rw [all_low]
    simp only [h]
    simp
theorem decP_ne (n : Nat) : decP n ≠ [] := by
  unfold decP
  split <;> simp
theorem hexD_isD {n : Nat} (h : n < 10) : isD (hexD n) = true ∧ (hexD n).toNat - 48 = n ∧ (n ≠ 0 → hexD n ≠ 48) := by
  have : ∀ n : Fin 10, isD (hexD n.val) = true ∧ (hexD n.val).toNat - 48 = n.val ∧ (n.val ≠ 0 → hexD n.val ≠ 48) := by decide
  exact this ⟨n, h⟩
theorem decP_ok (n : Nat) : (decP n).all isD = true ∧ valS (decP n) = n ∧ (n ≠ 0 → (decP n)[0]? ≠ some 48) ∧ (n < 10 → (decP n).length = 1) := by
  induction n using Nat.strongRecOn with
  | _ n ih =>
    by_cases h : n < 10
    · obtain ⟨h1, h2, h3⟩ := hexD_isD h
      have he : decP n = [hexD n] := by unfold decP; exact if_pos h
      rw [he]
      refine ⟨by simp [h1], by simp [valS, h2], fun hn => by simpa using h3 hn, fun _ => rfl⟩
    · have he : decP n = decP (n / 10) ++ [hexD (n % 10)] := by rw [decP]; exact if_neg h
      obtain ⟨i1, i2, i3, _⟩ := ih (n / 10) (by omega)
      obtain ⟨h1, h2, _⟩ := hexD_isD (n := n % 10) (by omega)
      rw [he]
      refine ⟨by rw [List.all_append, i1]; simp [h1], ?_, fun _ => ?_, fun h' => absurd h' h⟩
      · have : valS (decP (n / 10) ++ [hexD (n % 10)]) = 10 * valS (decP (n / 10)) + ((hexD (n % 10)).toNat - 48) := by simp [valS]
        rw [this, i2, h2]; omega
      · have hp : 0 < (decP (n / 10)).length := List.length_pos_iff.2 (decP_ne _)
        rw [List.getElem?_append_left hp]
        exact i3 (by omega)
theorem numS_dec {n : Nat} (h : n < 65536) : numS (decP n) 65535 = some n := by
  obtain ⟨h1, h2, h3, h4⟩ := decP_ok n
  have hl := decP_len n (by omega)
  unfold numS
  rw [if_neg, if_pos h1, h2, if_pos (by omega)]
  rintro (h | ⟨h, h'⟩ | h)
  · exact decP_ne n h
  · by_cases hn : n < 10
    · have := h4 hn; omega
    · exact h3 (by omega) h'
  · omega
theorem lowS_app (a b : List UInt8) : lowS (a ++ b) = lowS a ++ lowS b := by simp [lowS]
theorem tyO_back {t : Nat} (h : t < 65536) : tyO (lowS (typX t)) = some t := by
  by_cases hk : ∃ j, j < 9 ∧ kT j = (t : Int)
  · obtain ⟨j, hj, hk⟩ := hk
    have h1 := typX_at hj hk
    obtain ⟨n, h2, h3, _⟩ := tyO_at hj (l := lowS (typX t)) (by rw [h1])
    rw [h2]; congr 1; omega
  · have h1 := typX_no (t := t) (fun j hj hh => hk ⟨j, hj, hh⟩)
    have h2 := decP_ok t
    rw [h1, lowS_app, low_same h2.1]
    have h3 : lowS [84, 89, 80, 69] = [116, 121, 112, 101] := by decide
    rw [h3]
    have h4 : tyO ([116, 121, 112, 101] ++ decP t) = numS (decP t) 65535 := by
      unfold tyO
      simp
    rw [h4, numS_dec h]
theorem tyO_lt {l : List UInt8} {n : Nat} (h : tyO l = some n) : n < 65536 := by
  by_cases hk : ∃ j, j < 9 ∧ lowS (kXt j) = l
  · obtain ⟨j, hj, hk⟩ := hk
    obtain ⟨m, h1, _, h3⟩ := tyO_at hj hk
    rw [h1] at h; cases h; exact h3
  · rw [tyO_no (fun j hj hh => hk ⟨j, hj, hh⟩)] at h
    split at h
    · unfold numS at h
      split at h
      · cases h
      · split at h
        · split at h
          · cases h; omega
          · cases h
        · cases h
    · cases h

/-! ### the walks -/
theorem typ_cut (l : List UInt8) : cutS l [116, 121, 112, 101] = if l.take 4 = [116, 121, 112, 101] then (l.drop 4, true) else (l, false) := rfl
theorem kXt_len {i : Nat} (h : i < 9) : (kXt i).length ≤ 5 := by
  have : i = 0 ∨ i = 1 ∨ i = 2 ∨ i = 3 ∨ i = 4 ∨ i = 5 ∨ i = 6 ∨ i = 7 ∨ i = 8 := by omega
  rcases this with rfl | rfl | rfl | rfl | rfl | rfl | rfl | rfl | rfl <;> decide
set_option maxRecDepth 20000 in
theorem rdata_TypeOf (s : List UInt8) (H k) (hk : Tk H) (hte : Te H) (hs : s.length ≤ 1048576) : callK Tryd.prog 19 [.str s] H k = k (.tuple [.int .u16 (((tyO (lowS s)).getD 0 : Nat)), .bool (tyO (lowS s)).isSome], H, z0) := by
  have hmax : s.length ≤ maxI := by unfold maxI; omega
  have hlw := fun k => rdata_low s H k hmax
  have hll : (lowS s).length = s.length := by simp [lowS]
  obtain ⟨e, kd, hg⟩ := hk
  refine callK_eq (r := (.tuple [.int .u16 (((tyO (lowS s)).getD 0 : Nat)), .bool (tyO (lowS s)).isSome], H, z0)) ?_ k
  refine callK_start (n := 40) (rs := [.tmp 2, .tmp 3]) Tryd.func19 rfl rfl rfl ?_
  intro σ hl ha
  have h0 := ha 0 (by simp)
  clear ha
  simp only [Option.getD_some, List.getElem?_cons_zero, List.getElem?_cons_succ] at h0
  generalize hL : lowS s = L at *
  simp only [go_sem, simprocAttr, hl, h0, hlw]
  refine go_rounds (fun n st => ∃ σ i, n + i = 9 ∧ (∀ j, j < i → lowS (kXt j) ≠ L) ∧ st = ⟨σ, H, z0⟩ ∧ σ.length = 40 ∧ fr σ 0 = .str L ∧ fr σ 11 = .int .i64 (i : Nat)) 9
    ⟨_, 0, rfl, fun j hj => by omega, rfl, by simp only [go_sem, simprocAttr, hl], by simp only [go_sem, simprocAttr, hl], by simp only [go_sem, simprocAttr, hl]⟩ ?_
  rintro n _ ⟨σ, i, hn, hall, rfl, hl, h0, h11⟩
  by_cases hlt : i < 9
  · obtain ⟨l1, _⟩ := kinds_at hlt e kd
    have l2 := kinds_tx hlt e kd
    have hw := wrap_succ (show i < 9223372036854775807 by omega)
    have g0 : decide ((i : Int) < 9) = true := by simp; omega
    have b0 : (i : Int) < 9 := by omega
    have hlk := fun k => rdata_low (kXt i) H k (by have := kXt_len hlt; unfold maxI; omega)
    by_cases hk : lowS (kXt i) = L
    · have g1 : (lowS (kXt i) == L) = true := by rw [hk]; exact beq_self_eq_true _
      obtain ⟨m, hm, hkm, _⟩ := tyO_at hlt hk
      simp only [go_sem, simprocAttr, hl, h0, h11, g0, b0, hg, l1, l2, g1, hlk, hm, hkm, Option.getD_some, Option.isSome_some]
    · have g1 : (lowS (kXt i) == L) = false := by rw [beq_eq_false_iff_ne]; exact hk
      simp only [go_sem, simprocAttr, hl, h0, h11, g0, b0, hg, l1, l2, g1, hlk, hw]
      refine ⟨n - 1, by omega, _, i + 1, by omega, fun j hj => ?_, rfl, by simp only [go_sem, simprocAttr, hl], by simp only [go_sem, simprocAttr, hl, h0], by simp only [go_sem, simprocAttr, hl]⟩
      by_cases hji : j = i
      · rw [hji]; exact hk
      · exact hall j (by omega)
  · have g0 : decide ((i : Int) < 9) = false := by simp; omega
    rw [tyO_no (fun j hj => hall j (by omega))]
    have hcp := fun k => cut_prefix L [116, 121, 112, 101] H k (by unfold maxI; omega) (by unfold maxI; simp)
    rw [typ_cut] at hcp
    by_cases ht : L.take 4 = [116, 121, 112, 101]
    · rw [if_pos ht] at hcp ⊢
      have hnm := fun k => rdata_number (L.drop 4) H k hte (by rw [List.length_drop]; omega)
      have hw2 : IntKind.u16.wrap ((((numS (L.drop 4) 65535).getD 0 : Nat)) : Int) = (((numS (L.drop 4) 65535).getD 0 : Nat) : Int) := by
        refine wrap_u16 ?_
        have : tyO L = numS (L.drop 4) 65535 := by rw [tyO_no (fun j hj => hall j (by omega)), if_pos ht]
        cases hq : numS (L.drop 4) 65535 with
        | none => simp
        | some m => have := tyO_lt (this.trans hq); simp; omega
      simp only [go_sem, simprocAttr, hl, h0, h11, g0, hcp, hnm, hw2]
    · rw [if_neg ht] at hcp ⊢
      simp only [go_sem, simprocAttr, hl, h0, h11, g0, hcp, Option.getD_none, Option.isSome_none]
set_option maxRecDepth 20000 in
theorem ref_TypeOf (s : List UInt8) (H k) (hs : s.length ≤ 1048576) : callK Tryd.prog 20 [.str s] H k = k (.tuple [.int .u16 (((tyO (lowS s)).getD 0 : Nat)), .bool (tyO (lowS s)).isSome], H, z0) := by
  have hmax : s.length ≤ maxI := by unfold maxI; omega
  have hlw := fun k => ref_Low s H k hmax
  have hll : (lowS s).length = s.length := by simp [lowS]
  have htb := fun k => ref_table H k
  refine callK_eq (r := (.tuple [.int .u16 (((tyO (lowS s)).getD 0 : Nat)), .bool (tyO (lowS s)).isSome], H, z0)) ?_ k
  refine callK_start (n := 50) (rs := [.tmp 2, .tmp 3]) Tryd.func20 rfl rfl rfl ?_
  intro σ hl ha
  have h0 := ha 0 (by simp)
  clear ha
  simp only [Option.getD_some, List.getElem?_cons_zero, List.getElem?_cons_succ] at h0
  simp only [go_sem, simprocAttr, hl, h0, hlw, htb]
  have hg1 : (H ++ [ABlk.cells typC 32 .rw, ABlk.cells (strs kX) 9 .rw])[H.length]? = some (.cells typC 32 .rw) := by rw [hp_new0]; rfl
  have hg2 : (H ++ [ABlk.cells typC 32 .rw, ABlk.cells (strs kX) 9 .rw])[H.length + 1]? = some (.cells (strs kX) 9 .rw) := by rw [hp_new]; rfl
  generalize hT : [ABlk.cells typC 32 .rw, ABlk.cells (strs kX) 9 .rw] = T at *
  refine go_rounds (fun n st => ∃ σ i, n + i = 9 ∧ (∀ j, j < i → lowS (kXt j) ≠ lowS s) ∧ st = ⟨σ, H ++ T, z0⟩ ∧ σ.length = 50 ∧ fr σ 0 = .str s ∧ fr σ 4 = .str (lowS s) ∧ fr σ 5 = .slice H.length 0 9 (.ex 9) ∧ fr σ 6 = .slice (H.length + 1) 0 9 (.ex 9) ∧ fr σ 7 = .int .i64 (i : Nat)) 9
    ⟨_, 0, rfl, fun j hj => by omega, rfl, by simp only [go_sem, simprocAttr, hl], by simp only [go_sem, simprocAttr, hl, h0], by simp only [go_sem, simprocAttr, hl], by simp only [go_sem, simprocAttr, hl], by simp only [go_sem, simprocAttr, hl], by simp only [go_sem, simprocAttr, hl]⟩ ?_
  rintro n _ ⟨σ, i, hn, hall, rfl, hl, h0, h4, h5, h6, h7⟩
  generalize hL : lowS s = L at *
  by_cases hlt : i < 9
  · have l1 := typC_at hlt
    have l2 : ∀ (e : TypeId) (k : Kd), ldC i 1 false (.cells (strs kX) e k) = some (.str (kXt i)) := by
      intro e k
      have : i = 0 ∨ i = 1 ∨ i = 2 ∨ i = 3 ∨ i = 4 ∨ i = 5 ∨ i = 6 ∨ i = 7 ∨ i = 8 := by omega
      rcases this with rfl | rfl | rfl | rfl | rfl | rfl | rfl | rfl | rfl <;> rfl
    have hw := wrap_succ (show i < 9223372036854775807 by omega)
    have g0 : decide ((i : Int) < 9) = true := by simp; omega
    have b0 : (i : Int) < 9 := by omega
    have hlk := fun k => ref_Low (kXt i) (H ++ T) k (by have := kXt_len hlt; unfold maxI; omega)
    by_cases hk : lowS (kXt i) = L
    · have g1 : (L == lowS (kXt i)) = true := by rw [hk]; exact beq_self_eq_true _
      obtain ⟨m, hm, hkm, _⟩ := tyO_at hlt hk
      simp only [go_sem, simprocAttr, hl, h0, h4, h5, h6, h7, g0, b0, hg1, hg2, l1, l2, g1, hlk, hm, hkm, Option.getD_some, Option.isSome_some]
    · have g1 : (L == lowS (kXt i)) = false := by rw [beq_eq_false_iff_ne]; exact Ne.symm hk
      simp only [go_sem, simprocAttr, hl, h0, h4, h5, h6, h7, g0, b0, hg1, hg2, l1, l2, g1, hlk, hw]
      refine ⟨n - 1, by omega, _, i + 1, by omega, fun j hj => ?_, rfl, by simp only [go_sem, simprocAttr, hl], by simp only [go_sem, simprocAttr, hl, h0], by simp only [go_sem, simprocAttr, hl, h4], by simp only [go_sem, simprocAttr, hl, h5], by simp only [go_sem, simprocAttr, hl, h6], by simp only [go_sem, simprocAttr, hl]⟩
      by_cases hji : j = i
      · rw [hji]; exact hk
      · exact hall j (by omega)
  · have g0 : decide ((i : Int) < 9) = false := by simp; omega
    rw [tyO_no (fun j hj => hall j (by omega))]
    by_cases hl4 : 4 ≤ L.length
    · have b4 : decide ((L.length : Int) < 4) = false := by simp; omega
      have hd : s.drop 4 = s.drop 4 := rfl
      have hdl : (s.drop 4).length ≤ maxI := by rw [List.length_drop]; omega
      have hnm : ∀ k, callK Tryd.prog 63 [.str (s.drop 4), .int .u64 65535] (H ++ T) k = k (.tuple [.int .u64 (((numS (s.drop 4) 65535).getD 0 : Nat)), .bool (numS (s.drop 4) 65535).isSome], H ++ T, z0) := fun k => ref_Number (s.drop 4) 65535 (H ++ T) k hdl (by decide)
      have i4 : (4 : Int) ≤ (L.length : Int) := by omega
      have j4 : (4 : Int) ≤ (s.length : Int) := by omega
      have hnl : numS (L.drop 4) 65535 = numS (s.drop 4) 65535 := by
        rw [← hL, ← numS_low (s.drop 4)]; congr 1; simp [lowS]
      have ht4 : (s.drop 4).take (s.length - 4) = s.drop 4 := by rw [List.take_of_length_le (by rw [List.length_drop]; exact Nat.le_refl _)]
      have hs4 : 4 ≤ s.length := by omega
      rw [hnl]
      by_cases ht : L.take 4 = [116, 121, 112, 101]
      · have g2 : (L.take 4 != [116, 121, 112, 101]) = false := by rw [ht]; rfl
        rw [if_pos ht]
        have hw2 : IntKind.u16.wrap ((((numS (s.drop 4) 65535).getD 0 : Nat)) : Int) = (((numS (s.drop 4) 65535).getD 0 : Nat) : Int) := by
          refine wrap_u16 ?_
          have : tyO L = numS (s.drop 4) 65535 := by rw [tyO_no (fun j hj => hall j (by omega)), if_pos ht, hnl]
          cases hq : numS (s.drop 4) 65535 with
          | none => simp
          | some m => have := tyO_lt (this.trans hq); simp; omega
        simp only [go_sem, simprocAttr, hl, h0, h4, h5, h6, h7, g0, b4, i4, j4, ht, ht4, g2, hnm, hw2]
      · have g2 : (L.take 4 == [116, 121, 112, 101]) = false := by rw [beq_eq_false_iff_ne]; exact ht
        rw [if_neg ht]
        simp only [go_sem, simprocAttr, hl, h0, h4, h5, h6, h7, g0, b4, i4, j4, g2, Option.getD_none, Option.isSome_none]
    · have b4 : decide ((L.length : Int) < 4) = true := by simp; omega
      rw [if_neg (by intro h; have := congrArg List.length h; simp at this; omega)]
      simp only [go_sem, simprocAttr, hl, h0, h4, h5, h6, h7, g0, b4, Option.getD_none, Option.isSome_none]
theorem typX_len (t : Nat) (h : t < 65536) : (typX t).length ≤ 9 := by
  by_cases hk : ∃ j, j < 9 ∧ kT j = (t : Int)
  · obtain ⟨j, hj, hk⟩ := hk
    rw [← typX_at hj hk]; have := kXt_len hj; omega
  · rw [typX_no (fun j hj hh => hk ⟨j, hj, hh⟩)]
    have := decP_len t (by omega)
    simp; omega
set_option maxRecDepth 20000 in
theorem lawTypes (t : Nat) (s : List UInt8) (H) (hk : Tk H) (htb : Tb H) (hdb : Db H) (hte : Te H) (ht : t < 65536) (hs : s.length ≤ 1048576) : callK Tryd.prog 7 [.int .u16 (t : Nat), .str s] H (fun q => q = (.bool true, H, z0)) := by
  refine callK_start (n := 53) (rs := [.tmp 4]) Tryd.func7 rfl rfl rfl ?_
  intro σ hl ha
  have h0 := ha 0 (by simp)
  have h1 := ha 1 (by simp)
  clear ha
  simp only [Option.getD_some, List.getElem?_cons_zero, List.getElem?_cons_succ] at h0 h1
  have h19 := fun k => rdata_TypeOf s H k hk hte hs
  have h20 := fun k => ref_TypeOf s H k hs
  have h21 := fun k => rdata_TypeText t H k hk htb ht
  have h22 := fun k => ref_TypeText t H k ht
  have h19b := fun k => rdata_TypeOf (typX t) H k hk hte (by have := typX_len t ht; omega)
  rw [tyO_back ht] at h19b
  have hwk := fun k => wk H k hk htb hdb
  simp only [Option.getD_some, Option.isSome_some] at h19b
  simp only [go_sem, simprocAttr, hl, h0, h1, h19, h20, h21, h22, h19b, hwk]
end Go.Proofs.YtgkpgpdkolpfkaaDoor.V
