/- Joined by mkclaim.py: WFlat WRdBase WPutA WPutB WPutC WPutE WPutD WPutF WRefA WRefB WRefC WRefD WRefE WRefF WLawP. No conditions. -/
import Derived.Test.YtgkpgpdkolpfkaaDoorJ2
import Derived.Test.YtgkpgpdkolpfkaaDoorJ4
import Derived.Test.YtgkpgpdkolpfkaaDoorRows
import Derived.Test.YtgkpgpdkolpfkaaDoorCards
import Derived.Test.YtgkpgpdkolpfkaaDoorTie
import Derived.WalkKit
import Derived.ProofKit
import Derived.OpenShut
import Derived.ShutString
import Derived.ChangeOld
import Derived.Below
import Derived.SizedLaws
import Derived.LaidMore
import Derived.Lay
import Derived.MakeChecks
import Derived.SevenTiedAt
import Derived.Deep.DeepHandedRow
namespace Go.Proofs.YtgkpgpdkolpfkaaDoor.V
open Go Go.RowKit
set_option linter.unusedSimpArgs false
set_option linter.unusedVariables false

mutual
/-- Plain data's cells. -/
def flatC {H : Type} : DataW H → List AV
  | .lit (.int k n) => [.int k n]
  | .lit (.string s) => [.str s]
  | .lit (.bool b) => [.bool b]
  | .agg ps => flatCs ps
  | _ => [.nili]
def flatCs {H : Type} : List (DataW H) → List AV
  | [] => []
  | d :: r => flatC d ++ flatCs r
end
def fieldsT (P : Program) (f : TypeId → Bool) : List Field → Nat → Nat → Bool
  | [], o, z => o == z
  | x :: r, o, z => x.offset == o && (f x.type && fieldsT P f r (o + P.cellsOf x.type) z)
/-- A type of plain data. -/
def plainT (P : Program) : Nat → TypeId → Bool
  | 0, _ => false
  | d + 1, t => match P.underlying t with
    | some (.int _) => true
    | some .string => true
    | some .bool => true
    | some (.array n e) => plainT P d e && P.cellsOf t == n * P.cellsOf e
    | some (.struct fs) => fieldsT P (plainT P d) fs.toList 0 (P.cellsOf t)
    | _ => false

section
variable {H : Type} {enc : TypeId × Value → H} {P : Program} {W : World} {base : Nat} {sp : Nat → Bool} {held : Bool}

theorem concs_app {μ : Mu} : ∀ {a b : List AV} {x y : List Value}, concs μ a = some x → concs μ b = some y → concs μ (a ++ b) = some (x ++ y)
  | [], b, x, y, h, h' => by cases h; simpa using h'
  | v :: a, b, x, y, h, h' => by
    simp only [concs, Option.bind_eq_some_iff, Option.map_eq_some_iff] at h
    obtain ⟨c, hc, xs, hx, rfl⟩ := h
    have := concs_app hx h'
    simp only [List.cons_append, concs, hc, this, Option.bind_some, Option.map_some]
theorem pieces {μ : Mu} {c : Nat} : ∀ (xs : List (DataW H × List MemPlace)) (cs : List Value), cs.length = xs.length * c →
    (∀ i x, xs[i]? = some x → concs μ (flatC x.1) = some ((cs.drop (i * c)).take c)) → concs μ (flatCs (xs.map (·.1))) = some cs
  | [], cs, hl, _ => by
    have : cs = [] := List.length_eq_zero_iff.1 (by simpa using hl)
    subst this; rfl
  | x :: xs, cs, hl, h => by
    have h0 := h 0 x rfl
    simp only [Nat.zero_mul, List.drop_zero] at h0
    have ih := pieces (μ := μ) (c := c) xs (cs.drop c) (by rw [List.length_drop, hl, List.length_cons, Nat.add_mul]; omega) (fun i y hy => by
      have := h (i + 1) y (by simpa using hy)
      rw [List.drop_drop, show c + i * c = (i + 1) * c by rw [Nat.add_mul]; omega]
      exact this)
    have := concs_app h0 ih
    rw [List.take_append_drop] at this
    simpa [flatCs] using this
theorem fields {μ : Mu} {z : Nat} {f : TypeId → Bool} {cs : List Value} {g : TypeId → List Value → Option (DataW H × List MemPlace)}
    (hf : ∀ t l x, f t = true → g t l = some x → concs μ (flatC x.1) = some l) : ∀ (fs : List Field) (xs : List (DataW H × List MemPlace)) (o : Nat), fieldsT P f fs o z = true → o ≤ z → xs.length = fs.length → cs.length = z →
    (∀ (i : Nat) (x : Field), fs[i]? = some x → g x.type ((cs.drop x.offset).take (P.cellsOf x.type)) = xs[i]?) → concs μ (flatCs (xs.map (·.1))) = some (cs.drop o)
  | [], [], o, h, hoz, _, hz, _ => by
    simp only [fieldsT, beq_iff_eq] at h
    rw [List.drop_eq_nil_of_le (by omega)]; rfl
  | [], _ :: _, _, _, _, hl, _, _ => by simp at hl
  | _ :: _, [], _, _, _, hl, _, _ => by simp at hl
  | x :: fs, y :: xs, o, h, hoz, hl, hz, hx => by
    simp only [fieldsT, Bool.and_eq_true, beq_iff_eq] at h
    obtain ⟨rfl, h1, h2⟩ := h
    have h0 := hf _ _ _ h1 (hx 0 x rfl)
    have hle : x.offset + P.cellsOf x.type ≤ z := by
      have : ∀ (fs : List Field) (o : Nat), fieldsT P f fs o z = true → o ≤ z := by
        intro fs
        induction fs with
        | nil => intro o h; simp only [fieldsT, beq_iff_eq] at h; omega
        | cons a r ih =>
          intro o h
          simp only [fieldsT, Bool.and_eq_true, beq_iff_eq] at h
          have := ih _ h.2.2
          omega
      exact this _ _ h2
    have ih := fields hf fs xs (x.offset + P.cellsOf x.type) h2 hle (by simpa using hl) hz (fun i w hw => by simpa using hx (i + 1) w (by simpa using hw))
    have := concs_app h0 ih
    have e : (cs.drop x.offset).take (P.cellsOf x.type) ++ cs.drop (x.offset + P.cellsOf x.type) = cs.drop x.offset := by
      rw [← List.drop_drop, List.take_append_drop]
    rw [e] at this
    simpa [flatCs] using this
theorem trod_flat {μ : Mu} : ∀ (m fuel : Nat) (t : TypeId) (cs : List Value) (x : DataW H × List MemPlace), plainT P m t = true → DataW.trod enc P W base sp held fuel t cs = some x → concs μ (flatC x.1) = some cs
  | 0, _, _, _, _, h, _ => by cases h
  | m + 1, fuel, t, cs, x, h, hx => by
    unfold plainT at h
    split at h
    · rename_i k ht
      obtain ⟨n, rfl, rfl, _⟩ := DataW.trod_int ht hx
      simp [flatC, concs, conc]
    · rename_i ht
      obtain ⟨s, rfl, rfl, _⟩ := DataW.trod_string ht hx
      simp [flatC, concs, conc]
    · rename_i ht
      obtain ⟨b, rfl, rfl⟩ := DataW.trod_bool ht hx
      simp [flatC, concs, conc]
    · rename_i n e ht
      simp only [Bool.and_eq_true, beq_iff_eq] at h
      obtain ⟨xs, q, rfl, rfl, hcl, hxl, hel⟩ := DataW.trod_array ht hx
      refine pieces (c := P.cellsOf e) xs cs (by rw [hcl, hxl, h.2]) (fun i y hy => ?_)
      have hi : i < n := by rw [← hxl]; exact (List.getElem?_eq_some_iff.1 hy).1
      have := hel i hi
      rw [hy] at this
      exact trod_flat m q e _ y h.1 this
    · rename_i fs ht
      obtain ⟨xs, q, rfl, rfl, hcl, hxl, hel⟩ := DataW.trod_struct ht hx
      have := fields (P := P) (μ := μ) (g := fun t l => DataW.trod enc P W base sp held q t l) (cs := cs) (fun t l x h1 h2 => trod_flat m q t l x h1 h2) fs.toList xs 0 h (Nat.zero_le _) (by simpa using hxl) hcl (fun i f hf => hel i f (by simpa using hf))
      simpa [flatC] using this
    · cases h
end
end Go.Proofs.YtgkpgpdkolpfkaaDoor.V
namespace Go.Proofs.YtgkpgpdkolpfkaaDoor.V
open Go Go.ChangeShapes Go.WideShapes Go.ChangeAt Go.RowKit
set_option linter.unusedSimpArgs false
set_option linter.unusedVariables false
open Go.ChangeMaps (open_string shut_string)
theorem gsize : Tryd.prog.globals.size = 7 := by kernel_rfl
theorem own : ownKnob Tryd.prog.godebug = none := by kernel_rfl
theorem laidOut : laidOutB Tryd.prog = true := by kernel_rfl
theorem gKinds : Tryd.prog.globalNamed "hearsay/rdata.kinds" = some 0 := by kernel_rfl
theorem gPow : Tryd.prog.globalNamed "internal/strconv.uint64pow10" = some 1 := by kernel_rfl
theorem gDe64 : Tryd.prog.globalNamed "math/bits.deBruijn64tab" = some 6 := by kernel_rfl
theorem lastRow : ((((begin Tryd.prog (fun _ _ => 0) default).world.heap)[7 - 1]?).bind Obj.row?).isSome = true := by kernel_rfl
theorem ptKinds : ((Tryd.prog.globals[0]?).map (·.type)).all (plainT Tryd.prog 8) = true := by kernel_rfl
theorem ptPow : ((Tryd.prog.globals[1]?).map (·.type)).all (plainT Tryd.prog 8) = true := by kernel_rfl
theorem ptDe64 : ((Tryd.prog.globals[6]?).map (·.type)).all (plainT Tryd.prog 8) = true := by kernel_rfl
theorem pt_of {o : Option TypeId} {t : TypeId} {f : TypeId → Bool} (h : o.all f = true) (ht : o = some t) : f t = true := by subst ht; simpa using h

set_option maxRecDepth 100000 in
/-- What the listed variables give. -/
theorem of_laid {W : World} (hsh : W.ShapedOpen Tryd.prog) (h : laidMetH Tryd.prog Rows.rdataChecksUptoRow.laid W) : ∃ Bs : List ABlk, Bs.length = 7 ∧ (∀ x ∈ Bs, apart x = false) ∧ HRel Tryd.prog (start W) (mu0 7) Bs W ∧ Tk Bs ∧ Tb Bs ∧ Db Bs := by
  have hsz := shaped_size gsize hsh lastRow
  have h : laidMet Tryd.prog Rows.rdataChecksUptoRow.laid W := h
  obtain ⟨ps, ⟨_, _, _, _, _, _, _, _, _, _, ⟨g6, t6, c6, f6, p6, q6, hg6, ht6, hv6, hd6, ⟨g1, t1, c1, f1, p1, q1, hg1, ht1, hv1, hd1, ⟨g0, t0, c0, f0, p0, q0, hg0, ht0, hv0, hd0, _, _⟩, _⟩, _⟩, _⟩, _, _⟩ := h
  obtain rfl := Option.some.inj (gDe64.symm.trans hg6)
  obtain rfl := Option.some.inj (gPow.symm.trans hg1)
  obtain rfl := Option.some.inj (gKinds.symm.trans hg0)
  obtain ⟨e6, fr6, hb6⟩ := var_block gDe64 hv6
  obtain ⟨e1, fr1, hb1⟩ := var_block gPow hv1
  obtain ⟨e0, fr0, hb0⟩ := var_block gKinds hv0
  have k6 := trod_flat (μ := mu0 7) 8 _ _ _ _ (pt_of ptDe64 ht6) hd6
  have k1 := trod_flat (μ := mu0 7) 8 _ _ _ _ (pt_of ptPow ht1) hd1
  have k0 := trod_flat (μ := mu0 7) 8 _ _ _ _ (pt_of ptKinds ht0) hd0
  refine ⟨[.cells kindsC e0 .ro, .cells pow10c e1 .ro, .ghost, .ghost, .ghost, .ghost, .cells deB64c e6 .ro], rfl, ?_, start_glob gsize hsz rfl ?_ ?_, ⟨e0, .ro, rfl⟩, ⟨e1, .ro, rfl⟩, ⟨e6, .ro, rfl⟩⟩
  · intro x hx
    simp only [List.mem_cons, List.not_mem_nil, or_false] at hx
    rcases hx with rfl | rfl | rfl | rfl | rfl | rfl | rfl <;> rfl
  · intro x hx
    simp only [List.mem_cons, List.not_mem_nil, or_false] at hx
    rcases hx with rfl | rfl | rfl | rfl | rfl | rfl | rfl <;> rfl
  · intro i x hx
    match i with
    | 0 => cases hx; exact laid_block hb0 k0
    | 1 => cases hx; exact laid_block hb1 k1
    | 2 => cases hx; trivial
    | 3 => cases hx; trivial
    | 4 => cases hx; trivial
    | 5 => cases hx; trivial
    | 6 => cases hx; exact laid_block hb6 k6
    | i + 7 => simp at hx

theorem cells37 : Tryd.prog.cellsOf 37 = 8 := by kernel_rfl
theorem cellsN : Tryd.prog.cellsOf 35 = 5 := by kernel_rfl
theorem cells9 : Tryd.prog.cellsOf 9 = 1 := by kernel_rfl
theorem cellsNm : Tryd.prog.cellsOf 33 = 1 := by kernel_rfl
theorem cells34 : Tryd.prog.cellsOf 34 = 1 := by kernel_rfl
theorem u32_of {n : Int} (h : (Lit.int .u32 n).wf = true) : is32 n := by
  simp [Lit.wf, IntKind.min, IntKind.max, IntKind.bits, IntKind.signed] at h
  exact ⟨by omega, by omega⟩
section
variable {H : Type} {enc : TypeId × Value → H} {W : World}
set_option maxRecDepth 20000 in
/-- Data, as 'V' reads them. -/
theorem open_data {base : Nat} {v : Value} {d : DataW H} {p : List MemPlace} (hval : Value.okWide Tryd.prog W .any base 37 v) (h : DataW.Trod enc Tryd.prog W 0 (fun _ => true) true 37 v d p) :
    ∃ x : Dt, (∀ μ, conc μ (.agg x.cells) = some v) ∧ (is32 x.n0 ∧ is32 x.n1 ∧ is32 x.n2 ∧ is32 x.n3 ∧ is32 x.n4) ∧ x.raw.length + x.host.length + x.mail.length ≤ Rows.uptoBulk d := by
  obtain ⟨fuel, h⟩ := h
  have hv := hval
  unfold Value.okWide at hv
  rw [Tryd.underlying37] at hv
  obtain ⟨cs, rfl, hsz, _⟩ := hv
  rw [cells37] at hsz
  have hcs : (Value.agg cs).cells.toList = cs.toList := rfl
  rw [hcs] at h
  obtain ⟨xs, n', rfl, hx, hcl, hxl, hf⟩ := DataW.trod_struct Tryd.underlying37 h
  obtain ⟨l⟩ := cs
  match l, hsz with
  | [c0, c1, c2, c3, c4, c5, c6, c7], _ =>
    have f0 := hf 0 _ rfl
    have f1 := hf 1 _ rfl
    have f2 := hf 2 _ rfl
    have f3 := hf 3 _ rfl
    have hx4 : xs.length = 4 := hxl
    simp only [cells9, cellsNm, cellsN, List.drop_zero, List.drop_succ_cons, List.take_succ_cons, List.take_zero] at f0 f1 f2 f3
    match xs, hx4 with
    | [x0, x1, x2, x3], _ =>
      simp only [List.getElem?_cons_zero, List.getElem?_cons_succ] at f0 f1 f2 f3
      obtain ⟨s0, e0, z0, _⟩ := DataW.trod_string Tryd.underlying9 f0
      obtain ⟨s1, e1, z1, _⟩ := DataW.trod_string Tryd.underlying33 f1
      obtain ⟨s2, e2, z2, _⟩ := DataW.trod_string Tryd.underlying33 f2
      obtain ⟨ys, m, rfl, z3, _, hyl, hel⟩ := DataW.trod_array Tryd.underlying35 f3
      have i0 := hel 0 (by decide)
      have i1 := hel 1 (by decide)
      have i2 := hel 2 (by decide)
      have i3 := hel 3 (by decide)
      have i4 := hel 4 (by decide)
      simp only [cells34, Nat.mul_one, List.drop_zero, List.drop_succ_cons, List.take_succ_cons, List.take_zero] at i0 i1 i2 i3 i4
      match ys, hyl with
      | [y0, y1, y2, y3, y4], _ =>
        simp only [List.getElem?_cons_zero, List.getElem?_cons_succ] at i0 i1 i2 i3 i4
        obtain ⟨n0, a0, _, w0⟩ := DataW.trod_int Tryd.underlying34 i0
        obtain ⟨n1, a1, _, w1⟩ := DataW.trod_int Tryd.underlying34 i1
        obtain ⟨n2, a2, _, w2⟩ := DataW.trod_int Tryd.underlying34 i2
        obtain ⟨n3, a3, _, w3⟩ := DataW.trod_int Tryd.underlying34 i3
        obtain ⟨n4, a4, _, w4⟩ := DataW.trod_int Tryd.underlying34 i4
        cases e0; cases e1; cases e2; cases a0; cases a1; cases a2; cases a3; cases a4
        cases z0; cases z1; cases z2
        simp only [List.map_cons, List.map_nil, Prod.mk.injEq] at hx
        obtain ⟨rfl, _⟩ := hx
        refine ⟨⟨s0.data.toList, s1.data.toList, s2.data.toList, n0, n1, n2, n3, n4⟩, fun μ => ?_, ⟨u32_of w0, u32_of w1, u32_of w2, u32_of w3, u32_of w4⟩, ?_⟩
        · simp [Dt.cells, conc, concs]
        · simp only [Rows.uptoBulk, Rows.uptoBulkAll]; omega
end
end Go.Proofs.YtgkpgpdkolpfkaaDoor.V
namespace Go.Proofs.YtgkpgpdkolpfkaaDoor.V
open Go
set_option linter.unusedSimpArgs false
set_option linter.unusedVariables false

/-! ### plainly -/
def lb (l : List UInt8) : List UInt8 := UInt8.ofNat l.length :: l
/-- A name's bytes. -/
def glue (L : List (List UInt8)) : List UInt8 := L.flatMap lb ++ [0]
theorem glue_nil : glue [] = [0] := rfl
theorem glue_cons (l : List UInt8) (L : List (List UInt8)) : glue (l :: L) = lb l ++ glue L := by simp [glue]
theorem lb_len (l : List UInt8) : (lb l).length = 1 + l.length := by simp [lb]; omega
theorem glue_len_cons (l : List UInt8) (L : List (List UInt8)) : (glue (l :: L)).length = 1 + l.length + (glue L).length := by rw [glue_cons, List.length_append, lb_len]
theorem glue_pos (L : List (List UInt8)) : 0 < (glue L).length := by simp [glue]
theorem lab_glue : ∀ (n : Nat) (s : List UInt8) (L : List (List UInt8)), s.length ≤ n → lab s = some L → s = glue L ∧ ∀ l ∈ L, 0 < l.length ∧ l.length ≤ 63
  | 0, s, L, hn, h => by
    obtain rfl : s = [] := List.eq_nil_of_length_eq_zero (by omega)
    cases h
  | n + 1, [], L, hn, h => by cases h
  | n + 1, k :: t, L, hn, h => by
    rw [lab_cons] at h
    split at h
    · rename_i hk
      split at h
      · rename_i ht
        cases h
        obtain rfl : t = [] := List.eq_nil_of_length_eq_zero ht
        refine ⟨?_, by simp⟩
        rw [glue_nil]; congr 1; exact UInt8.toNat.inj hk
      · cases h
    · rename_i hk
      split at h
      · cases h
      · rename_i hb
        simp only [Option.map_eq_some_iff] at h
        obtain ⟨L', h', rfl⟩ := h
        have hlen : (t.drop k.toNat).length ≤ n := by
          simp only [List.length_cons] at hn
          rw [List.length_drop]; omega
        obtain ⟨i1, i2⟩ := lab_glue n _ _ hlen h'
        have htk : (t.take k.toNat).length = k.toNat := by rw [List.length_take]; omega
        refine ⟨?_, fun l hl => ?_⟩
        · rw [glue_cons, ← i1, lb, htk]
          rw [List.cons_append, List.take_append_drop]
          congr 1
          exact (UInt8.toNat.inj (by rw [UInt8.toNat_ofNat_of_lt' (by have := k.toNat_lt; simpa using this)])).symm
        · rcases List.mem_cons.1 hl with rfl | hl
          · rw [htk]; omega
          · exact i2 l hl
theorem nm_glue {s : List UInt8} {L : List (List UInt8)} (h : nm s = some L) : s = glue L ∧ (∀ l ∈ L, 0 < l.length ∧ l.length ≤ 63) ∧ s.length ≤ 255 := by
  unfold nm at h
  split at h
  · cases h
  · obtain ⟨h1, h2⟩ := lab_glue s.length s L (Nat.le_refl _) h
    exact ⟨h1, h2, by omega⟩
theorem nm_tail {l : List UInt8} {L : List (List UInt8)} (h : nm (glue (l :: L)) = some (l :: L)) : nm (glue L) = some L := by
  obtain ⟨_, h2, h3⟩ := nm_glue h
  obtain ⟨h4, h5⟩ := h2 l (by simp)
  have hlen := glue_len_cons l L
  unfold nm at h ⊢
  split at h
  · cases h
  · rw [if_neg (by omega)]
    rw [glue_cons, lb, List.cons_append, lab_cons] at h
    have hk : (UInt8.ofNat l.length).toNat = l.length := ofNat_le (m := 63) h5 (by decide)
    rw [hk] at h
    rw [if_neg (by omega), if_neg (by rw [List.length_append]; omega)] at h
    simp only [Option.map_eq_some_iff] at h
    obtain ⟨L', h', he⟩ := h
    rw [List.drop_left] at h'
    rw [List.take_left] at he
    injection he with _ he
    rw [he] at h'; exact h'

attribute [local irreducible] go goOps goD opK callK callT stepK leaveTo nextK
set_option maxRecDepth 20000 in
theorem name_Parent (l : List UInt8) (L : List (List UInt8)) (hL : nm (glue (l :: L)) = some (l :: L)) (H k) : callK Tryd.prog 101 [.str (glue (l :: L))] H k = k (.tuple [.str (glue L), .bool true], H, z0) := by
  obtain ⟨_, hl0, hs⟩ := nm_glue hL
  obtain ⟨hl1, hl2⟩ := hl0 l (by simp)
  have hlen := glue_len_cons l L
  have hgp := glue_pos L
  obtain ⟨⟨bv, bT⟩, hb, hst⟩ := name_starts (glue (l :: L)) H (by unfold maxI; omega)
  have hB := hb _ hL
  rw [hL] at hst
  simp only [Option.isSome_some] at hst
  refine callK_eq (r := (.tuple [.str (glue L), .bool true], H, z0)) ?_ k
  refine callK_start (n := 24) (rs := [.tmp 2, .tmp 3]) Tryd.func101 rfl rfl rfl ?_
  intro σ hl ha
  have h0 := ha 0 (by simp)
  clear ha
  simp only [Option.getD_some, List.getElem?_cons_zero, List.getElem?_cons_succ] at h0
  obtain ⟨rfl, _, h3⟩ | ⟨h1, h2, m, hbv, h3⟩ := hB
  · cases h3
  simp only at hbv hst
  subst hbv
  have hc : (glue (l :: L))[0]? = some (UInt8.ofNat l.length) := by rw [glue_cons, lb]; rfl
  have hn : (UInt8.ofNat l.length).toNat = l.length := ofNat_le (m := 63) hl2 (by decide)
  have hpos : 0 < (glue (l :: L)).length := glue_pos _
  have w0 : IntKind.i64.wrap (l.length : Int) = (l.length : Int) := wrap_i64 (by omega)
  have w1 : IntKind.i64.wrap (1 + (l.length : Int)) = ((1 + l.length : Nat) : Int) := by rw [wrap_i64 (by omega)]; omega
  have hle : 1 + l.length ≤ (glue (l :: L)).length := by omega
  have hdr : ((glue (l :: L)).drop (1 + l.length)).take ((glue (l :: L)).length - (1 + l.length)) = glue L := by
    rw [List.take_of_length_le (by rw [List.length_drop]; exact Nat.le_refl _), glue_cons]
    rw [show 1 + l.length = (lb l).length from (lb_len l).symm, List.drop_left]
  have hz : (((L.length + 1 : Nat) : Int) == 0) = false := by simp; omega
  simp only [go_sem, simprocAttr, hl, h0, hst, hz, hc, hn, hpos, w0, w1, hle, hdr]
  try exact leave_flat (by simp [flat, flats]) (by simp [clean, low, Ef.and, omin])
end Go.Proofs.YtgkpgpdkolpfkaaDoor.V
namespace Go.Proofs.YtgkpgpdkolpfkaaDoor.V
open Go
set_option linter.unusedSimpArgs false
set_option linter.unusedVariables false

/-- A number's byte. -/
def byt (v k : Nat) : UInt8 := UInt8.ofNat (v / 2 ^ k)
def be16 (v : Nat) : List UInt8 := [byt v 8, byt v 0]
def be32 (v : Nat) : List UInt8 := [byt v 24, byt v 16, byt v 8, byt v 0]
theorem u8_nat (x : Nat) : IntKind.u8.wrap (x : Int) = ((UInt8.ofNat x).toNat : Int) := by
  rw [UInt8.toNat_ofNat']
  unfold IntKind.wrap; simp [IntKind.bits, IntKind.signed]
theorem byt_w (v k : Nat) : IntKind.u8.wrap ((v : Int).fdiv (2 ^ k)) = ((byt v k).toNat : Int) := by
  have h2 : ((2 : Int) ^ k) = ((2 ^ k : Nat) : Int) := by simp
  have : (v : Int).fdiv (2 ^ k) = ((v / 2 ^ k : Nat) : Int) := by
    rw [h2, Int.fdiv_eq_ediv_of_nonneg _ (Int.natCast_nonneg _)]
    exact (Int.natCast_ediv _ _).symm
  rw [this, u8_nat]; rfl
/-- A slice of known size that reads as bytes. -/
def RdF (H : Hp) (v : AV) (bs : List UInt8) : Prop := (v = .nils ∧ bs = []) ∨ ∃ b o pre post e k, v = .slice b o bs.length (.ex bs.length) ∧ pre.length = o ∧ H[b]? = some (.cells (pre ++ (u8s bs ++ post)) e k)
theorem Rd.full {H : Hp} {v : AV} {bs : List UInt8} (h : Rd H v bs) :
    ∃ y, (∀ l kk, slK Tryd.prog 31 v none (some (.int .i64 (bs.length : Nat))) (some (.int .i64 (bs.length : Nat))) (H ++ l) kk = kk (y, H ++ l, z0)) ∧ RdF H y bs := by
  obtain ⟨rfl, rfl⟩ | ⟨b, o, c, pre, post, e, k, rfl, ho, hb, hc⟩ := h
  · refine ⟨.nils, fun l kk => ?_, .inl ⟨rfl, rfl⟩⟩
    simp only [go_sem, simprocAttr]
  · refine ⟨.slice b o bs.length (.ex bs.length), fun l kk => ?_, .inr ⟨b, o, pre, post, e, k, rfl, ho, hb⟩⟩
    have hb' : (H ++ l)[b]? = some (.cells (pre ++ (u8s bs ++ post)) e k) := hp_old hb
    obtain ⟨n, rfl, hn⟩ | ⟨rfl, rfl, fz, st, rfl⟩ := hc
    · simp only [go_sem, simprocAttr, hb']
      simp [hn]
    · simp only [go_sem, simprocAttr, hb']
      have : bs.length ≤ (pre.length + (bs.length + post.length) - o) / 1 := by rw [Nat.div_one]; omega
      simp [this]
      intro _; omega
theorem RdF.rd {H : Hp} {v : AV} {bs : List UInt8} (h : RdF H v bs) : Rd H v bs := by
  obtain h | ⟨b, o, pre, post, e, k, h1, h2, h3⟩ := h
  · exact .inl h
  · exact .inr ⟨b, o, _, pre, post, e, k, h1, h2, h3, .inl ⟨_, rfl, Nat.le_refl _⟩⟩
theorem RdF.app {H : Hp} {v : AV} {bs : List UInt8} (h : RdF H v bs) (xs : List AV) (q : Nat) (hq : 0 < q) (hx : xs.length = q) (hf : fits (bs.length + q) 1 = true) (l : Hp) (kk) :
    stepK (appTo Tryd.prog (.slice 5 1 1) v (xs, q) (H ++ l)) kk = kk (.slice (H ++ l).length 0 (bs.length + q) (.op 0), H ++ (l ++ [.cells (u8s bs ++ xs) 5 (.op 0 false)]), z0) := by
  have zk := zok_31
  obtain ⟨rfl, rfl⟩ | ⟨b, o, pre, post, e, k, rfl, ho, hb⟩ := h
  · rw [appTo_nils (by decide) zk]
    have hd : decide (q = 0) = false := by simp; omega
    have hf : fits q 1 = true := by simpa using hf
    simp only [hd, guardK_ft, hf, true_and, List.append_assoc]
    simp [u8s]
  · have hb' : (H ++ l)[b]? = some (.cells (pre ++ (u8s bs ++ post)) e k) := hp_old hb
    rw [appTo_ex (by decide) zk]
    have hd : decide (bs.length + q ≤ bs.length) = false := by simp; omega
    have hr : V.rd (H ++ l) b o (bs.length * 1) = some (u8s bs) := by
      unfold V.rd
      rw [hb']
      simp only
      rw [if_pos (by rw [List.length_append, List.length_append, u8s_len]; omega)]
      rw [← ho, List.drop_left, Nat.mul_one, List.take_append_of_le_length (by rw [u8s_len]; omega), List.take_of_length_le (by rw [u8s_len]; omega)]
    simp only [hd, guardK_ft, hf, true_and, hr, bindK_some, List.append_assoc]

attribute [local irreducible] go goOps goD opK callK callT stepK leaveTo nextK

set_option maxRecDepth 20000 in
set_option maxHeartbeats 1000000 in
theorem oct_put16 (v : AV) (bs : List UInt8) (x : Nat) (H k) (hv : Rd H v bs) (hb : bs.length ≤ 1099511627776) (hx : x < 65536) : callK Tryd.prog 26 [v, .int .u16 (x : Nat)] H k = k (.slice (H.length + 3) 0 (bs.length + 2) (.op 0), H ++ [.cells [.int .u8 (byt x 8).toNat] 5 .rw, .dead, .cells [.int .u8 (byt x 0).toNat] 5 .rw, .cells (u8s (bs ++ be16 x)) 5 (.op 0 false)], z0) := by
  obtain ⟨y, hy, hF⟩ := hv.full
  have hy := hy []
  simp only [List.append_nil] at hy
  refine callK_eq (r := (.slice (H.length + 3) 0 (bs.length + 2) (.op 0), H ++ [.cells [.int .u8 (byt x 8).toNat] 5 .rw, .dead, .cells [.int .u8 (byt x 0).toNat] 5 .rw, .cells (u8s (bs ++ be16 x)) 5 (.op 0 false)], z0)) ?_ k
  refine callK_start (n := 28) (rs := [.tmp 4]) Tryd.func26 rfl rfl rfl ?_
  intro σ hl ha
  have h0 := ha 0 (by simp)
  have h1 := ha 1 (by simp)
  clear ha
  simp only [Option.getD_some, List.getElem?_cons_zero, List.getElem?_cons_succ] at h0 h1
  have hs := fun H k => size16 H k
  have hln := fun H' => hv.v.len H'
  have hap := fun (z : UInt8) (l : Hp) kk => hF.app [.int .u8 (z.toNat : Int)] 1 (by decide) rfl (by simp only [fits, decide_eq_true_eq]; omega) l kk
  have f1 : fits (bs.length + 1 + 1) 1 = true := by simp only [fits, decide_eq_true_eq]; omega
  have f2 : fits (bs.length + 1 + 1 + 1) 1 = true := by simp only [fits, decide_eq_true_eq]; omega
  have f3 : fits (bs.length + 1 + 1 + 1 + 1) 1 = true := by simp only [fits, decide_eq_true_eq]; omega
  have k1 : ∀ a : AV, List.take (bs.length + 1) (u8s bs ++ [a]) = u8s bs ++ [a] := by intro a; rw [List.take_of_length_le]; simp [u8s]
  have k2 : ∀ a b : AV, List.take (bs.length + 2) (u8s bs ++ [a, b]) = u8s bs ++ [a, b] := by intro a b; rw [List.take_of_length_le]; simp [u8s]
  have k3 : ∀ a b c : AV, List.take (bs.length + 3) (u8s bs ++ [a, b, c]) = u8s bs ++ [a, b, c] := by intro a b c; rw [List.take_of_length_le]; simp [u8s]
  have wm : IntKind.i64.wrap (-1) = -1 := by decide
  have wg : decide ((-1 : Int) ≥ 0) = false := by decide
  have w1 : IntKind.u32.wrap (x : Int) = (x : Int) := wrap_u32 (by omega)
  have b0 : IntKind.u8.wrap ((x : Int).fdiv (2 ^ min 0 32)) = ((byt x 0).toNat : Int) := byt_w x 0
  have b1 : IntKind.u8.wrap ((x : Int).fdiv (2 ^ min 8 32)) = ((byt x 8).toNat : Int) := byt_w x 8
  have b2 : IntKind.u8.wrap ((x : Int).fdiv (2 ^ min 16 32)) = ((byt x 16).toNat : Int) := byt_w x 16
  have b3 : IntKind.u8.wrap ((x : Int).fdiv (2 ^ min 24 32)) = ((byt x 24).toNat : Int) := byt_w x 24
  have hd : ∀ n : Nat, decide (n + 1 ≤ n) = false := by intro n; simp
  have hd2 : ∀ n : Nat, decide (n + 1 + 1 ≤ n + 1) = false := by intro n; simp
  simp only [go_sem, simprocAttr, hl, h0, h1, hs, hln, hy]
  rw [go_loop]
  simp only [go_sem, simprocAttr, hl, h0, h1, hs, hln, w1, b0, b1, b2, b3, bslice1, hap, f1, f2, f3, wm, wg, hd, hd2, k1, k2, k3]
  rw [go_loop]
  simp only [go_sem, simprocAttr, hl, h0, h1, hs, hln, w1, b0, b1, b2, b3, bslice1, hap, f1, f2, f3, wm, wg, hd, hd2, k1, k2, k3]
  rw [go_loop]
  simp only [go_sem, simprocAttr, hl, h0, h1, hs, hln, w1, b0, b1, b2, b3, bslice1, hap, f1, f2, f3, wm, wg, hd, hd2, k1, k2, k3]
  simp [be16, u8s, List.take_of_length_le]

set_option maxRecDepth 20000 in
theorem size32 (H k) : callK Tryd.prog 66 [] H k = k (.int .i64 4, H, z0) := by
  refine callK_eq (r := (.int .i64 4, H, z0)) ?_ k
  refine callK_start (n := 18) (rs := [.tmp 0]) Tryd.func66 rfl rfl rfl ?_
  intro σ hl ha
  clear ha
  have w2 : IntKind.u32.wrap 0 = 0 := by decide
  have w3 : IntKind.u32.wrap (-1) = 4294967295 := by decide
  have g1 : decide ((4294967295 : Int).fdiv (2 ^ min 7 32) > 1) = true := by decide
  have g2 : decide ((4294967295 : Int).fdiv (2 ^ min 15 32) > 1) = true := by decide
  simp only [go_sem, simprocAttr, hl, w2, w3]
  rw [go_loop]
  simp only [go_sem, simprocAttr, hl, w2, w3, g1]
  rw [go_loop]
  simp only [go_sem, simprocAttr, hl, w2, w3, g2]
  rw [go_loop]
  have g3 : decide ((4294967295 : Int).fdiv (2 ^ min 31 32) > 1) = false := by decide
  simp only [go_sem, simprocAttr, hl, w2, w3, g3]

set_option maxRecDepth 20000 in
set_option maxHeartbeats 1000000 in
theorem oct_put32 (v : AV) (bs : List UInt8) (x : Nat) (H k) (hv : Rd H v bs) (hb : bs.length ≤ 1099511627776) (hx : x < 4294967296) : callK Tryd.prog 27 [v, .int .u32 (x : Nat)] H k = k (.slice (H.length + 7) 0 (bs.length + 4) (.op 0), H ++ [.cells [.int .u8 (byt x 24).toNat] 5 .rw, .dead, .cells [.int .u8 (byt x 16).toNat] 5 .rw, .dead, .cells [.int .u8 (byt x 8).toNat] 5 .rw, .dead, .cells [.int .u8 (byt x 0).toNat] 5 .rw, .cells (u8s (bs ++ be32 x)) 5 (.op 0 false)], z0) := by
  obtain ⟨y, hy, hF⟩ := hv.full
  have hy := hy []
  simp only [List.append_nil] at hy
  refine callK_eq (r := (.slice (H.length + 7) 0 (bs.length + 4) (.op 0), H ++ [.cells [.int .u8 (byt x 24).toNat] 5 .rw, .dead, .cells [.int .u8 (byt x 16).toNat] 5 .rw, .dead, .cells [.int .u8 (byt x 8).toNat] 5 .rw, .dead, .cells [.int .u8 (byt x 0).toNat] 5 .rw, .cells (u8s (bs ++ be32 x)) 5 (.op 0 false)], z0)) ?_ k
  refine callK_start (n := 27) (rs := [.tmp 4]) Tryd.func27 rfl rfl rfl ?_
  intro σ hl ha
  have h0 := ha 0 (by simp)
  have h1 := ha 1 (by simp)
  clear ha
  simp only [Option.getD_some, List.getElem?_cons_zero, List.getElem?_cons_succ] at h0 h1
  have hs := fun H k => size32 H k
  have hln := fun H' => hv.v.len H'
  have hap := fun (z : UInt8) (l : Hp) kk => hF.app [.int .u8 (z.toNat : Int)] 1 (by decide) rfl (by simp only [fits, decide_eq_true_eq]; omega) l kk
  have f1 : fits (bs.length + 1 + 1) 1 = true := by simp only [fits, decide_eq_true_eq]; omega
  have f2 : fits (bs.length + 1 + 1 + 1) 1 = true := by simp only [fits, decide_eq_true_eq]; omega
  have f3 : fits (bs.length + 1 + 1 + 1 + 1) 1 = true := by simp only [fits, decide_eq_true_eq]; omega
  have k1 : ∀ a : AV, List.take (bs.length + 1) (u8s bs ++ [a]) = u8s bs ++ [a] := by intro a; rw [List.take_of_length_le]; simp [u8s]
  have k2 : ∀ a b : AV, List.take (bs.length + 2) (u8s bs ++ [a, b]) = u8s bs ++ [a, b] := by intro a b; rw [List.take_of_length_le]; simp [u8s]
  have k3 : ∀ a b c : AV, List.take (bs.length + 3) (u8s bs ++ [a, b, c]) = u8s bs ++ [a, b, c] := by intro a b c; rw [List.take_of_length_le]; simp [u8s]
  have wm : IntKind.i64.wrap (-1) = -1 := by decide
  have wg : decide ((-1 : Int) ≥ 0) = false := by decide
  have w1 : IntKind.u32.wrap (x : Int) = (x : Int) := wrap_u32 (by omega)
  have b0 : IntKind.u8.wrap ((x : Int).fdiv (2 ^ min 0 32)) = ((byt x 0).toNat : Int) := byt_w x 0
  have b1 : IntKind.u8.wrap ((x : Int).fdiv (2 ^ min 8 32)) = ((byt x 8).toNat : Int) := byt_w x 8
  have b2 : IntKind.u8.wrap ((x : Int).fdiv (2 ^ min 16 32)) = ((byt x 16).toNat : Int) := byt_w x 16
  have b3 : IntKind.u8.wrap ((x : Int).fdiv (2 ^ min 24 32)) = ((byt x 24).toNat : Int) := byt_w x 24
  have hd : ∀ n : Nat, decide (n + 1 ≤ n) = false := by intro n; simp
  have hd2 : ∀ n : Nat, decide (n + 1 + 1 ≤ n + 1) = false := by intro n; simp
  simp only [go_sem, simprocAttr, hl, h0, h1, hs, hln, hy]
  rw [go_loop]
  simp only [go_sem, simprocAttr, hl, h0, h1, hs, hln, w1, b0, b1, b2, b3, bslice1, hap, f1, f2, f3, wm, wg, hd, hd2, k1, k2, k3]
  rw [go_loop]
  simp only [go_sem, simprocAttr, hl, h0, h1, hs, hln, w1, b0, b1, b2, b3, bslice1, hap, f1, f2, f3, wm, wg, hd, hd2, k1, k2, k3]
  rw [go_loop]
  simp only [go_sem, simprocAttr, hl, h0, h1, hs, hln, w1, b0, b1, b2, b3, bslice1, hap, f1, f2, f3, wm, wg, hd, hd2, k1, k2, k3]
  rw [go_loop]
  simp only [go_sem, simprocAttr, hl, h0, h1, hs, hln, w1, b0, b1, b2, b3, bslice1, hap, f1, f2, f3, wm, wg, hd, hd2, k1, k2, k3]
  rw [go_loop]
  simp only [go_sem, simprocAttr, hl, h0, h1, hs, hln, w1, b0, b1, b2, b3, bslice1, hap, f1, f2, f3, wm, wg, hd, hd2, k1, k2, k3]
  simp [be32, u8s, List.take_of_length_le]
end Go.Proofs.YtgkpgpdkolpfkaaDoor.V
namespace Go.Proofs.YtgkpgpdkolpfkaaDoor.V
open Go
set_option linter.unusedSimpArgs false
set_option linter.unusedVariables false

abbrev Tab := List (List UInt8 × Nat)
def tget : Tab → List UInt8 → Option Nat
  | [], _ => none
  | (k, p) :: r, s => if k = s then some p else tget r s
def tabE (t : Tab) : List (AV × AV) := t.map fun x => (.str x.1, .int .i64 (x.2 : Nat))
theorem tabE_app (a b : Tab) : tabE (a ++ b) = tabE a ++ tabE b := by simp [tabE]
theorem findK_none (s : List UInt8) : ∀ (t : Tab) (i : Nat), tget t s = none → findK .str (.str s) (tabE t) i = some none
  | [], _, _ => rfl
  | (k, p) :: r, i, h => by
    unfold tget at h
    split at h
    · cases h
    · rename_i hk
      have hb : (s == k) = false := by rw [beq_eq_false_iff_ne]; exact fun e => hk e.symm
      show (match sameKey .str (.str s) (.str k) with | some true => _ | some false => findK .str (.str s) (tabE r) (i + 1) | none => _) = _
      simp only [sameKey, hb]
      exact findK_none s r (i + 1) h
theorem findK_some (s : List UInt8) (p : Nat) : ∀ (t : Tab) (i : Nat), tget t s = some p → ∃ j, findK .str (.str s) (tabE t) i = some (some (j, .int .i64 (p : Nat)))
  | [], _, h => by cases h
  | (k, q) :: r, i, h => by
    unfold tget at h
    split at h
    · rename_i hk
      subst hk
      cases h
      refine ⟨i, ?_⟩
      show (match sameKey .str (.str k) (.str k) with | some true => _ | some false => findK .str (.str k) (tabE r) (i + 1) | none => _) = _
      simp only [sameKey, beq_self_eq_true]
    · rename_i hk
      have hb : (s == k) = false := by rw [beq_eq_false_iff_ne]; exact fun e => hk e.symm
      obtain ⟨j, hj⟩ := findK_some s p r (i + 1) h
      refine ⟨j, ?_⟩
      show (match sameKey .str (.str s) (.str k) with | some true => _ | some false => findK .str (.str s) (tabE r) (i + 1) | none => _) = _
      simp only [sameKey, hb]
      exact hj
/-- What a name's row comes to: the bytes, and what the table remembers then. -/
def putN (plain : Bool) : List (List UInt8) → Tab → List UInt8 → List UInt8 × Tab
  | [], tab, out => (out ++ [0], tab)
  | l :: L, tab, out =>
    match tget tab (glue (l :: L)) with
    | some p => if plain = true then putN plain L tab (out ++ lb l) else (out ++ be16 (49152 + p), tab)
    | none => putN plain L (if out.length ≤ 16383 then tab ++ [(glue (l :: L), out.length)] else tab) (out ++ lb l)
/-- Places that a pointer can lead to. -/
def near (t : Tab) : Prop := ∀ x ∈ t, x.2 ≤ 16383
theorem near_get : ∀ {t : Tab} {s : List UInt8} {p : Nat}, near t → tget t s = some p → p ≤ 16383
  | [], _, _, _, h => by cases h
  | (k, q) :: r, s, p, hn, h => by
    unfold tget at h
    split at h
    · cases h; exact hn (k, q) (by simp)
    · exact near_get (fun x hx => hn x (by simp [hx])) h
theorem near_app {t : Tab} {k : List UInt8} {p : Nat} (h : near t) (hp : p ≤ 16383) : near (t ++ [(k, p)]) := by
  intro x hx
  rcases List.mem_append.1 hx with hx | hx
  · exact h x hx
  · simp only [List.mem_singleton] at hx; rw [hx]; exact hp
theorem putN_near (plain : Bool) : ∀ (L : List (List UInt8)) (tab : Tab) (out : List UInt8), near tab → near (putN plain L tab out).2
  | [], _, _, h => h
  | l :: L, tab, out, h => by
    unfold putN
    split
    · split
      · exact putN_near plain L _ _ h
      · exact h
    · refine putN_near plain L _ _ ?_
      split
      · rename_i ho; exact near_app h ho
      · exact h
theorem putN_len (plain : Bool) : ∀ (L : List (List UInt8)) (tab : Tab) (out : List UInt8), (putN plain L tab out).1.length ≤ out.length + (glue L).length + 1
  | [], _, _ => by simp [putN, glue]
  | l :: L, tab, out => by
    have hg := glue_len_cons l L
    have hp := glue_pos L
    unfold putN
    split
    · split
      · have := putN_len plain L tab (out ++ lb l)
        rw [List.length_append, lb_len] at this; omega
      · simp only [be16, List.length_append, List.length_cons, List.length_nil]; omega
    · have := putN_len plain L (if out.length ≤ 16383 then tab ++ [(glue (l :: L), out.length)] else tab) (out ++ lb l)
      rw [List.length_append, lb_len] at this; omega

/-! ### marks of what is written -/
theorem low_ominI {n : Nat} {a b : Option Nat} : low n (omin a b) = none ↔ low n a = none ∧ low n b = none := by
  cases a <;> cases b <;> simp [omin, low]
  omega
theorem clean_andI {n : Nat} {a b : Ef} : clean n (a.and b) ↔ clean n a ∧ clean n b := by
  unfold clean Ef.and
  simp only [low_ominI]
  constructor
  · rintro ⟨⟨h1, h2⟩, h3, h4⟩; exact ⟨⟨h1, h3⟩, h2, h4⟩
  · rintro ⟨⟨h1, h3⟩, h2, h4⟩; exact ⟨⟨h1, h2⟩, h3, h4⟩
theorem clean_mk {n : Nat} {a b : Option Nat} : clean n ⟨a, b⟩ ↔ low n a = none ∧ low n b = none := Iff.rfl
theorem low_nI {n : Nat} : low n none = none ↔ True := by simp [low]
theorem low_sI {n x : Nat} : low n (some x) = none ↔ n ≤ x := by simp [low]
theorem clean_z {n : Nat} : clean n z0 ↔ True := by simp [clean, z0, low]
theorem clean_leave {n m : Nat} {e : Ef} (h : clean n e) : clean n ⟨low m e.es, low m e.ws⟩ := ⟨low_low h.1, low_low h.2⟩
/-- Something with an address was stored as low as that. -/
def Es (j : Nat) (e : Ef) : Prop := ∃ x, e.es = some x ∧ x ≤ j
theorem Es.l {j : Nat} {a b : Ef} (h : Es j a) : Es j (a.and b) := by
  obtain ⟨x, h1, h2⟩ := h
  unfold Es Ef.and
  cases hb : b.es with
  | none => exact ⟨x, by simp [h1, omin], h2⟩
  | some y => exact ⟨min x y, by simp [h1, omin], by omega⟩
theorem Es.r {j : Nat} {a b : Ef} (h : Es j b) : Es j (a.and b) := by
  obtain ⟨x, h1, h2⟩ := h
  unfold Es Ef.and
  cases hb : a.es with
  | none => exact ⟨x, by simp [h1, omin], h2⟩
  | some y => exact ⟨min y x, by simp [h1, omin], by omega⟩
theorem Es.leave {j m : Nat} {e : Ef} (h : Es j e) (hj : j < m) (v : AV) (H : Hp) : leave m v H e = (v, H, ⟨low m e.es, low m e.ws⟩) := by
  obtain ⟨x, h1, h2⟩ := h
  unfold V.leave
  rw [if_neg (by rw [h1, low_sm (by omega)]; simp)]
theorem Es.low {j m : Nat} {e : Ef} (h : Es j e) (hj : j < m) : Es j ⟨V.low m e.es, V.low m e.ws⟩ := by
  obtain ⟨x, h1, h2⟩ := h
  exact ⟨x, by show V.low m e.es = _; rw [h1, low_sm (by omega)], h2⟩
theorem EsI {j : Nat} {a b : Ef} : Es j (a.and b) ↔ Es j a ∨ Es j b := by
  constructor
  · rintro ⟨x, h1, h2⟩
    unfold Ef.and at h1
    simp only at h1
    cases ha : a.es with
    | none => rw [ha] at h1; exact .inr ⟨x, by simpa [omin] using h1, h2⟩
    | some y =>
      rw [ha] at h1
      cases hb : b.es with
      | none => rw [hb] at h1; simp [omin] at h1; exact .inl ⟨y, ha, by omega⟩
      | some z =>
        rw [hb] at h1; simp [omin] at h1
        by_cases hz : y ≤ j
        · exact .inl ⟨y, ha, hz⟩
        · exact .inr ⟨z, hb, by omega⟩
  · rintro (h | h)
    · exact h.l
    · exact h.r
theorem EsS {j x : Nat} {w : Option Nat} : Es j ⟨some x, w⟩ ↔ x ≤ j := ⟨fun ⟨y, h1, h2⟩ => by cases h1; exact h2, fun h => ⟨x, rfl, h⟩⟩
theorem EsN {j : Nat} {w : Option Nat} : Es j ⟨none, w⟩ ↔ False := by
  constructor
  · rintro ⟨y, h1, _⟩; cases h1
  · exact False.elim
theorem leave_es {n : Nat} {v : AV} {H : Hp} {e : Ef} (h : Es (n + 7) e) : leave (n + 8) v H e = (v, H, ⟨low (n + 8) e.es, low (n + 8) e.ws⟩) := h.leave (by omega) v H
theorem EsL8 {n : Nat} {e : Ef} {w : Option Nat} : Es (n + 7) ⟨low (n + 8) e.es, w⟩ ↔ Es (n + 7) e := by
  constructor
  · rintro ⟨x, h1, h2⟩
    simp only at h1
    cases he : e.es with
    | none => rw [he] at h1; cases h1
    | some y =>
      rw [he] at h1
      simp only [low] at h1
      split at h1
      · cases h1
      · cases h1; exact ⟨x, he, h2⟩
  · rintro ⟨x, h1, h2⟩
    exact ⟨x, by show low _ _ = _; rw [h1, low_sm (by omega)], h2⟩
theorem clean_lv {n m : Nat} {e : Ef} (h : n ≤ m) : clean n ⟨low m e.es, low m e.ws⟩ ↔ clean n e := by
  have hh : ∀ x : Option Nat, low n (low m x) = none ↔ low n x = none := by
    intro x
    cases x with
    | none => simp [low]
    | some y =>
      by_cases hm : m ≤ y
      · simp [low, hm]; omega
      · simp [low, hm]
  unfold clean
  simp only [hh]
theorem clean_sn {n x : Nat} : clean n ⟨none, some x⟩ ↔ n ≤ x := by simp [clean, low]
theorem clean_ss {n x y : Nat} : clean n ⟨some y, some x⟩ ↔ n ≤ y ∧ n ≤ x := by simp [clean, low]
theorem gen_loop8 {P : Program} {f : FuncId} {args : List AV} {H : Hp} {a b c d e x y : ABlk} {σ : List AV} {ps : List Tmp} {A B : Code} {k : AV × Hp × Ef → Prop} (h : ∀ A' B', A' = A → B' = B → callK P f args (H ++ [a, b, c, d, e, x, y, .loop σ ps A' B' .ready]) k) : callK P f args (H ++ [a, b, c, d, e, x, y, .loop σ ps A B .ready]) k := h A B rfl rfl
theorem leave_len {m : Nat} {v : AV} {H : Hp} {e : Ef} (h : H.length = m) : leave m v H e = (v, H, ⟨low m e.es, low m e.ws⟩) := by
  unfold leave
  split
  · rw [List.take_of_length_le (by omega)]
  · rfl
theorem leave_nfl {m : Nat} {v : AV} {H : Hp} {e : Ef} (h : flat v = false) : leave m v H e = (v, H, ⟨low m e.es, low m e.ws⟩) := by
  unfold leave
  rw [if_neg (by rw [h]; simp)]
theorem flats_by : ∀ s : List UInt8, flats (u8s s) = true
  | [] => rfl
  | c :: s => by
    have := flats_by s
    unfold u8s at this ⊢
    rw [List.map_cons]
    simp only [flats, flat, this, Bool.and_self]
end Go.Proofs.YtgkpgpdkolpfkaaDoor.V
namespace Go.Proofs.YtgkpgpdkolpfkaaDoor.V
open Go
set_option linter.unusedSimpArgs false
set_option linter.unusedVariables false

/-- A slice's block. -/
def bk : AV → Option Nat
  | .slice b _ _ _ => some b
  | _ => none
/-- A row of bytes that may be written, behind a place. -/
def Bf (mb : Nat) (H : Hp) (v : AV) (bs : List UInt8) : Prop := (v = .nils ∧ bs = []) ∨
  ∃ b c post k, mb < b ∧ v = .slice b 0 bs.length c ∧ H[b]? = some (.cells (u8s bs ++ post) 5 k) ∧
    ((∃ n, c = .ex n ∧ bs.length ≤ n ∧ n ≤ bs.length + post.length ∧ (k = .rw ∨ ∃ st, k = .op 0 st)) ∨ (c = .op 0 ∧ post = [] ∧ ∃ st, k = .op 0 st))
theorem Bf.rd {mb : Nat} {H : Hp} {v : AV} {bs : List UInt8} (h : Bf mb H v bs) : Rd H v bs := by
  obtain h | ⟨b, c, post, k, h1, h2, h3, h4⟩ := h
  · exact .inl h
  · obtain ⟨n, rfl, h5, h6, h7⟩ | ⟨rfl, rfl, st, rfl⟩ := h4
    · exact .inr ⟨b, 0, _, [], post, _, k, h2, rfl, h3, .inl ⟨n, rfl, h5⟩⟩
    · exact .inr ⟨b, 0, _, [], [], _, _, h2, rfl, h3, .inr ⟨rfl, rfl, 0, st, rfl⟩⟩
theorem Bf.keep {mb : Nat} {H H' : Hp} {v : AV} {bs : List UInt8} (h : Bf mb H v bs) (hk : ∀ i x, bk v = some i → H[i]? = some x → H'[i]? = some x) : Bf mb H' v bs := by
  obtain h | ⟨b, c, post, k, h1, rfl, h3, h4⟩ := h
  · exact .inl h
  · exact .inr ⟨b, c, post, k, h1, rfl, hk b _ rfl h3, h4⟩
theorem Bf.lt {mb : Nat} {H : Hp} {v : AV} {bs : List UInt8} (h : Bf mb H v bs) {i : Nat} (hi : bk v = some i) : mb < i ∧ i < H.length := by
  obtain ⟨rfl, _⟩ | ⟨b, c, post, k, h1, rfl, h3, h4⟩ := h
  · cases hi
  · cases hi; exact ⟨h1, lt_of_get h3⟩
theorem Bf.scl {mb : Nat} {H : Hp} {v : AV} {bs : List UInt8} (h : Bf mb H v bs) : scal v = true := by
  obtain ⟨rfl, _⟩ | ⟨b, c, post, k, h1, rfl, h3, h4⟩ := h <;> rfl
theorem Bf.mono {mb mb' : Nat} {H : Hp} {v : AV} {bs : List UInt8} (h : Bf mb H v bs) (hm : mb' ≤ mb) : Bf mb' H v bs := by
  obtain h | ⟨b, c, post, k, h1, h2⟩ := h
  · exact .inl h
  · exact .inr ⟨b, c, post, k, by omega, h2⟩
theorem splice_end {bs xs : List UInt8} {post : List AV} (h : xs.length ≤ post.length) : splice (u8s bs ++ post) bs.length (u8s xs) = u8s (bs ++ xs) ++ post.drop xs.length := by
  unfold splice
  rw [List.take_append_of_le_length (by rw [u8s_len]; exact Nat.le_refl _), List.take_of_length_le (by rw [u8s_len]; exact Nat.le_refl _), u8s_app, u8s_len, List.append_assoc, List.append_assoc, List.drop_append, u8s_len,
    List.drop_eq_nil_of_le (by rw [u8s_len]; omega), List.nil_append]
  congr 3; omega
/-- Bytes appended. -/
theorem Bf.app {mb : Nat} {H : Hp} {v : AV} {bs : List UInt8} (h : Bf mb H v bs) (hm : mb < H.length) (xs : List UInt8) (hf : fits (bs.length + xs.length) 1 = true) :
    ∃ v' H' e', (∀ kk, stepK (appTo Tryd.prog (.slice 5 1 1) v (u8s xs, xs.length) H) kk = kk (v', H', e')) ∧ Bf mb H' v' (bs ++ xs) ∧ H.length ≤ H'.length ∧
      (∀ i x, bk v ≠ some i → H[i]? = some x → H'[i]? = some x) ∧ clean mb e' ∧ (bk v' = bk v ∨ ∃ j, bk v' = some j ∧ H.length ≤ j) := by
  have zk := zok_31
  obtain ⟨rfl, rfl⟩ | ⟨b, c, post, k, hb, rfl, hg, hc⟩ := h
  · by_cases hx : xs = []
    · subst hx
      refine ⟨.nils, H, z0, fun kk => ?_, .inl ⟨rfl, rfl⟩, Nat.le_refl _, fun i x _ hx => hx, by simp [clean, z0, low], .inl rfl⟩
      rw [appTo_nils (by decide) zk]
      simp [guardK_tt]
    · have hp : 0 < xs.length := List.length_pos_iff.2 hx
      refine ⟨.slice H.length 0 xs.length (.op 0), H ++ [.cells (u8s xs) 5 (.op 0 false)], z0, fun kk => ?_, .inr ⟨H.length, .op 0, [], .op 0 false, hm, by simp, by simp, .inr ⟨rfl, rfl, false, rfl⟩⟩, by simp, fun i x _ hx => get_app hx, by simp [clean, z0, low], .inr ⟨_, rfl, Nat.le_refl _⟩⟩
      rw [appTo_nils (by decide) zk]
      have hd : decide (xs.length = 0) = false := by simp; exact hx
      have hf : fits xs.length 1 = true := by simpa using hf
      simp only [hd, guardK_ft, hf, true_and]
  · have hlt := lt_of_get hg
    have hset : ∀ (y : ABlk) (i : Nat) (x : ABlk), bk (.slice b 0 bs.length c) ≠ some i → H[i]? = some x → (H.set b y)[i]? = some x := by
      intro y i x hi hx
      rw [List.getElem?_set_ne (by intro e; exact hi (by rw [e]; rfl))]; exact hx
    have hnew : ∀ (y : ABlk) (st : Bool), (∀ kk, stepK (appTo Tryd.prog (.slice 5 1 1) (.slice b 0 bs.length c) (u8s xs, xs.length) H) kk = kk (.slice H.length 0 (bs.length + xs.length) (.op 0), H.set b y ++ [.cells (u8s (bs ++ xs)) 5 (.op 0 st)], ⟨none, some b⟩)) →
        ∃ v' H' e', (∀ kk, stepK (appTo Tryd.prog (.slice 5 1 1) (.slice b 0 bs.length c) (u8s xs, xs.length) H) kk = kk (v', H', e')) ∧ Bf mb H' v' (bs ++ xs) ∧ H.length ≤ H'.length ∧
          (∀ i x, bk (.slice b 0 bs.length c) ≠ some i → H[i]? = some x → H'[i]? = some x) ∧ clean mb e' ∧ (bk v' = bk (.slice b 0 bs.length c) ∨ ∃ j, bk v' = some j ∧ H.length ≤ j) := by
      intro y st hy
      refine ⟨_, _, _, hy, .inr ⟨H.length, .op 0, [], .op 0 st, hm, by simp, ?_, .inr ⟨rfl, rfl, st, rfl⟩⟩, by simp, fun i x hi hx => get_app (hset y i x hi hx), by simp [clean, low]; omega, .inr ⟨_, rfl, Nat.le_refl _⟩⟩
      rw [List.getElem?_append_right (by simp)]; simp
    obtain ⟨n, rfl, h5, h6, h7⟩ | ⟨rfl, rfl, st, rfl⟩ := hc
    · have hcan : canWr k bs.length = true := by
        rcases h7 with rfl | ⟨st, rfl⟩
        · rfl
        · simp [canWr]
      by_cases hroom : bs.length + xs.length ≤ n
      · refine ⟨.slice b 0 (bs.length + xs.length) (.ex n), H.set b (.cells (u8s (bs ++ xs) ++ post.drop xs.length) 5 k), ⟨none, some b⟩, fun kk => ?_, .inr ⟨b, .ex n, post.drop xs.length, k, hb, by simp, by rw [List.getElem?_set_self hlt], .inl ⟨n, rfl, by simp; omega, by simp; omega, h7⟩⟩, by simp, hset _, by simp [clean, low]; omega, .inl rfl⟩
        rw [appTo_ex (by decide) zk]
        have hd : decide (bs.length + xs.length ≤ n) = true := by simpa using hroom
        have hw : wr H b (0 + bs.length * 1) (u8s xs) = some (H.set b (.cells (u8s (bs ++ xs) ++ post.drop xs.length) 5 k), ⟨none, some b⟩) := by
          unfold wr
          rw [hg]
          simp only [Nat.zero_add, Nat.mul_one]
          rw [if_pos ⟨by rw [List.length_append, u8s_len, u8s_len]; omega, hcan, u8s_scal⟩, splice_end (by omega), flats_by]
          rfl
        simp only [hd, guardK_tt, hw, bindK_some]
      · refine ⟨.slice H.length 0 (bs.length + xs.length) (.op 0), H ++ [.cells (u8s (bs ++ xs)) 5 (.op 0 false)], z0, fun kk => ?_, .inr ⟨H.length, .op 0, [], .op 0 false, hm, by simp, by simp, .inr ⟨rfl, rfl, false, rfl⟩⟩, by simp, fun i x _ hx => get_app hx, by simp [clean, z0, low], .inr ⟨_, rfl, Nat.le_refl _⟩⟩
        rw [appTo_ex (by decide) zk]
        have hd : decide (bs.length + xs.length ≤ n) = false := by simpa using hroom
        have hr : V.rd H b 0 (bs.length * 1) = some (u8s bs) := by
          unfold V.rd
          rw [hg]
          simp only
          rw [if_pos (by rw [List.length_append, u8s_len]; omega)]
          rw [List.drop_zero, Nat.mul_one, List.take_append_of_le_length (by rw [u8s_len]; omega), List.take_of_length_le (by rw [u8s_len]; omega)]
        simp only [hd, guardK_ft, hf, true_and, hr, bindK_some, u8s_app]
    · simp only [List.append_nil] at hg
      by_cases hx : xs = []
      · subst hx
        refine ⟨.slice b 0 bs.length (.op 0), H, ⟨none, some b⟩, fun kk => ?_, .inr ⟨b, .op 0, [], .op 0 st, hb, by simp, by simpa using hg, .inr ⟨rfl, rfl, st, rfl⟩⟩, Nat.le_refl _, fun i x _ hx => hx, by simp [clean, low]; omega, .inl rfl⟩
        rw [appTo_op (by decide) zk, hg, bindK_some, appO_c]
        have hd : decide (0 + (bs.length + 0) * 1 ≤ (u8s bs).length) = true := by rw [u8s_len]; simp
        have hw : wr H b (0 + bs.length * 1) (u8s []) = some (H, ⟨none, some b⟩) := by
          unfold wr
          rw [hg]
          simp only [Nat.zero_add, Nat.mul_one]
          have hs : splice (u8s bs) bs.length (u8s []) = u8s bs := by have := splice_end (bs := bs) (xs := []) (post := []) (by simp); simpa using this
          rw [if_pos ⟨by rw [u8s_len, u8s_len]; simp, by simp [canWr], u8s_scal⟩, hs, set_get hg]
          rfl
        simp only [List.length_nil, hd, guardK_tt, hw, bindK_some]
        simp [u8s_len]
      · have hp : 0 < xs.length := List.length_pos_iff.2 hx
        refine hnew .dead st fun kk => ?_
        rw [appTo_op (by decide) zk, hg, bindK_some, appO_c]
        have hd : decide (bs.length + xs.length ≤ bs.length) = false := by simp; omega
        have hz : bs.length * 1 = bs.length := Nat.mul_one _
        have hk : ((u8s bs).drop 0).take (bs.length * 1) ++ u8s xs = u8s (bs ++ xs) := by
          rw [List.drop_zero, Nat.mul_one, List.take_of_length_le (by rw [u8s_len]; omega), u8s_app]
        rw [Nat.mul_one] at hk
        simp only [u8s_len, Nat.zero_add, Nat.mul_one, hd, guardK_ft, hk, hf, u8s_scal]
        simp
/-- b[:n:n]. -/
theorem Bf.full {mb : Nat} {H : Hp} {v : AV} {bs : List UInt8} (h : Bf mb H v bs) :
    ∃ y, (∀ l kk, slK Tryd.prog 31 v none (some (.int .i64 (bs.length : Nat))) (some (.int .i64 (bs.length : Nat))) (H ++ l) kk = kk (y, H ++ l, z0)) ∧ Bf mb H y bs ∧ bk y = bk v ∧ (y = .nils ∨ ∃ b, y = .slice b 0 bs.length (.ex bs.length)) := by
  obtain ⟨rfl, rfl⟩ | ⟨b, c, post, k, hb, rfl, hg, hc⟩ := h
  · refine ⟨.nils, fun l kk => ?_, .inl ⟨rfl, rfl⟩, rfl, .inl rfl⟩
    simp only [go_sem, simprocAttr]
  · refine ⟨.slice b 0 bs.length (.ex bs.length), fun l kk => ?_, .inr ⟨b, .ex bs.length, post, k, hb, rfl, hg, .inl ⟨_, rfl, Nat.le_refl _, by omega, ?_⟩⟩, rfl, .inr ⟨b, rfl⟩⟩
    · have hg' : (H ++ l)[b]? = some (.cells (u8s bs ++ post) 5 k) := hp_old hg
      obtain ⟨n, rfl, h5, h6, h7⟩ | ⟨rfl, rfl, st, rfl⟩ := hc
      · simp only [go_sem, simprocAttr, hg']
        simp [h5]
      · simp only [go_sem, simprocAttr, hg']
        simp
    · obtain ⟨n, rfl, h5, h6, h7⟩ | ⟨rfl, rfl, st, rfl⟩ := hc
      · exact h7
      · exact .inr ⟨st, rfl⟩
end Go.Proofs.YtgkpgpdkolpfkaaDoor.V
namespace Go.Proofs.YtgkpgpdkolpfkaaDoor.V
open Go
set_option linter.unusedSimpArgs false
set_option linter.unusedVariables false
attribute [local irreducible] go goOps goD opK callK callT stepK leaveTo nextK

set_option maxRecDepth 20000 in
theorem pr_fronts (s : List UInt8) (H k) : callK Tryd.prog 84 [.str s] H k = k (.func (.func 100) [] [.ptr H.length 0], H ++ [.cells [.str s] 33 .rw], z0) := by
  refine callK_eq (r := (.func (.func 100) [] [.ptr H.length 0], H ++ [.cells [.str s] 33 .rw], z0)) ?_ k
  refine callK_start (n := 4) (rs := [.tmp 2]) Tryd.func84 rfl rfl rfl ?_
  intro σ hl ha
  have h0 := ha 0 (by simp)
  clear ha
  simp only [Option.getD_some, List.getElem?_cons_zero, List.getElem?_cons_succ] at h0
  simp only [go_sem, simprocAttr, hl, h0]
/-- Bytes, and noughts behind. -/
def pad (C : Nat) (bs : List UInt8) : List AV := u8s bs ++ List.replicate (C - bs.length) (.int .u8 0)
theorem pad_len {C : Nat} {bs : List UInt8} (h : bs.length ≤ C) : (pad C bs).length = C := by
  unfold pad; rw [List.length_append, u8s_len, List.length_replicate]; omega
theorem pad_nil (C : Nat) : List.replicate C (AV.int .u8 0) = pad C [] := by simp [pad, u8s]
theorem pad_sp {C : Nat} {bs xs : List UInt8} (h : bs.length + xs.length ≤ C) : splice (pad C bs) bs.length (u8s xs) = pad C (bs ++ xs) := by
  unfold splice pad
  rw [List.take_append_of_le_length (by rw [u8s_len]; exact Nat.le_refl _), List.take_of_length_le (by rw [u8s_len]; exact Nat.le_refl _), u8s_app, List.append_assoc, List.append_assoc, List.drop_append, u8s_len, u8s_len,
    List.drop_eq_nil_of_le (by rw [u8s_len]; omega), List.nil_append, List.drop_replicate]
  congr 3
  rw [List.length_append]; omega
theorem rep_u8 : ∀ n, rep [.int .u8 0] n = List.replicate n (AV.int .u8 0)
  | 0 => rfl
  | n + 1 => by rw [rep, rep_u8 n]; rfl
theorem Rd.appd {H : Hp} {v : AV} {bs : List UInt8} (h : Rd H v bs) : appended H 1 v = some (u8s bs, bs.length) := by
  obtain ⟨rfl, rfl⟩ | ⟨b, o, c, pre, post, e, k, rfl, ho, hb, hc⟩ := h
  · rfl
  · have hr : V.rd H b o (bs.length * 1) = some (u8s bs) := by
      unfold V.rd
      rw [hb]
      simp only
      rw [if_pos (by rw [List.length_append, List.length_append, u8s_len]; omega)]
      rw [← ho, List.drop_left, Nat.mul_one, List.take_append_of_le_length (by rw [u8s_len]; omega), List.take_of_length_le (by rw [u8s_len]; omega)]
    simp only [appended, hr, Option.map_some]
/-- What reads as bytes does so when a map has changed, and where more has been laid. -/
theorem Rd.upd {H : Hp} {v : AV} {bs : List UInt8} {mb : Nat} {es : List (AV × AV)} (h : Rd (H.set mb (.map es)) v bs) (es' : List (AV × AV)) (l : Hp) : Rd (H.set mb (.map es') ++ l) v bs := by
  obtain h | ⟨b, o, c, pre, post, e, k, h1, h2, h3, h4⟩ := h
  · exact .inl h
  · refine .inr ⟨b, o, c, pre, post, e, k, h1, h2, get_app ?_, h4⟩
    rw [List.getElem?_set] at h3 ⊢
    split at h3
    · split at h3 <;> cases h3
    · rename_i hne
      rw [if_neg hne]; exact h3

theorem or_near {p : Nat} (h : p ≤ 16383) : evInt .or .i64 49152 (p : Int) = some (.int .i64 ((49152 + p : Nat) : Int)) := by
  have h1 : (BitVec.ofInt 64 49152 ||| BitVec.ofInt 64 (p : Int)).toNat = 49152 + p := by
    rw [BitVec.toNat_or, BitVec.ofInt_natCast, show BitVec.ofInt 64 49152 = BitVec.ofNat 64 49152 from rfl, BitVec.toNat_ofNat, BitVec.toNat_ofNat, Nat.mod_eq_of_lt (by decide), Nat.mod_eq_of_lt (by omega)]
    have := Nat.two_pow_add_eq_or_of_lt (b := p) (i := 14) (by omega) 3
    simpa using this.symm
  show some (AV.int .i64 (IntKind.i64.wrap ((BitVec.ofInt 64 49152 ||| BitVec.ofInt 64 (p : Int)).toNat : Int))) = _
  rw [h1, wrap_i64 (by omega)]
set_option maxRecDepth 20000 in
set_option maxHeartbeats 4000000 in
theorem pr_row (H : Hp) (mb tb : Nat) (tab : Tab) (bv : AV) (bs : List UInt8) (L : List (List UInt8)) (plain : Bool) (hmb : mb < H.length) (htb : H[tb]? = some (.cells [.map mb] 59 .rw)) (hne : mb ≠ tb)
    (hv : Rd (H.set mb (.map (tabE tab))) bv bs) (hL : nm (glue L) = some L) (hb : bs.length ≤ 1048576000) (hn : near tab) :
    callK Tryd.prog 64 [.ptr tb 0, bv, .str (glue L), .bool plain] (H.set mb (.map (tabE tab))) (fun r => ∃ v T e, r = (.tuple [v, .int .i64 0], H.set mb (.map (tabE (putN plain L tab bs).2)) ++ T, e) ∧ clean mb e ∧ flat v = false ∧ Bf mb (H.set mb (.map (tabE (putN plain L tab bs).2)) ++ T) v (putN plain L tab bs).1 ∧ ∃ j, bk v = some j ∧ H.length ≤ j) := by
  refine callK_start (n := 76) (rs := [.cell 8 31, .cell 9 40]) Tryd.func64 rfl rfl rfl ?_
  intro σ hl ha
  have h0 := ha 0 (by simp)
  have h1 := ha 1 (by simp)
  have h2 := ha 2 (by simp)
  have h3 := ha 3 (by simp)
  clear ha
  simp only [Option.getD_some, List.getElem?_cons_zero, List.getElem?_cons_succ] at h0 h1 h2 h3
  obtain ⟨_, hlab, hlen⟩ := nm_glue hL
  have hck := fun H k => name_Check (glue L) H k (by unfold maxI; omega)
  rw [hL] at hck
  simp only [Option.isSome_some, if_true] at hck
  have hfr := fun H k => pr_fronts (glue L) H k
  have hg0 : ∀ (M : List (AV × AV)) (l : Hp), (H.set mb (.map M) ++ l)[H.length]? = l[0]? := fun M l => by rw [List.getElem?_append_right (by simp)]; simp
  have hg : ∀ (M : List (AV × AV)) (l : Hp) (k : Nat), (H.set mb (.map M) ++ l)[H.length + k]? = l[k]? := fun M l k => by rw [List.getElem?_append_right (by simp)]; simp
  have hs0 : ∀ (M : List (AV × AV)) (l : Hp) (y : ABlk), (H.set mb (.map M) ++ l).set H.length y = H.set mb (.map M) ++ l.set 0 y := fun M l y => by rw [List.set_append_right _ _ (by simp)]; simp
  have hs : ∀ (M : List (AV × AV)) (l : Hp) (k : Nat) (y : ABlk), (H.set mb (.map M) ++ l).set (H.length + k) y = H.set mb (.map M) ++ l.set k y := fun M l k y => by rw [List.set_append_right _ _ (by simp)]; simp
  have hgm : ∀ (M : List (AV × AV)) (l : Hp), (H.set mb (.map M) ++ l)[mb]? = some (.map M) := fun M l => get_app (by rw [List.getElem?_set_self hmb])
  have hgt : ∀ (M : List (AV × AV)) (l : Hp), (H.set mb (.map M) ++ l)[tb]? = some (.cells [.map mb] 59 .rw) := fun M l => get_app (by rw [List.getElem?_set_ne hne]; exact htb)
  have hsm : ∀ (M M' : List (AV × AV)) (l : Hp), (H.set mb (.map M) ++ l).set mb (.map M') = H.set mb (.map M') ++ l := fun M M' l => by rw [List.set_append_left _ _ (by simp; exact hmb), List.set_set]
  have hvl := fun H' => hv.v.len H'
  have hap := fun M l => (hv.upd M l).appd
  have wC : IntKind.i64.wrap ((bs.length : Int) + ((glue L).length : Int)) = ((bs.length + (glue L).length : Nat) : Int) := by rw [wrap_i64 (by omega)]; omega
  generalize hC : bs.length + (glue L).length = C at *
  have hmk : ∀ H', evMake Tryd.prog 31 (.int .i64 0) (.int .i64 (C : Nat)) H' = some (.slice H'.length 0 0 (.ex C), H' ++ [.cells (pad C []) 5 .rw]) := by
    intro H'
    simp only [evMake, tsh_31, tzero_5, Option.bind_some]
    rw [if_pos (by omega)]
    simp [rep_u8, pad_nil]
  have p0 : (pad C []).length = C := pad_len (by simp)
  have p1 : splice (pad C []) 0 (u8s bs) = pad C bs := by have := pad_sp (C := C) (bs := []) (xs := bs) (by simp; omega); simpa using this
  have c1 : decide (bs.length ≤ C) = true := by simp; omega
  have c2 : bs.length ≤ C := by omega
  have fl := flats_by bs
  have sc := u8s_scal (s := bs)
  have ul := u8s_len (s := bs)
  simp only [go_sem, simprocAttr, hl, h0, h1, h2, h3, hck, hfr, hmk, hg0, hg, hs0, hs, hgm, hgt, hsm, hvl, hap, wC, p0, p1, c1, c2, fl, sc, ul]
  refine gen_loop8 fun A B hA hB => ?_
  refine callK_start (n := 15) (rs := []) Tryd.func100 rfl rfl rfl ?_
  intro τ tl ta
  have t0 := ta 0 (by simp)
  have t1 := ta 1 (by simp)
  clear ta
  simp only [Option.getD_some, List.getElem?_cons_zero, List.getElem?_cons_succ] at t0 t1
  simp only [go_sem, simprocAttr]
  refine go_rounds (fun m st => ∃ τ L' tab' out σ1 e, m = L'.length ∧ nm (glue L') = some L' ∧ putN plain L tab bs = putN plain L' tab' out ∧ out.length + (glue L').length = C ∧ near tab' ∧ bs.length ≤ out.length ∧
      st = ⟨τ, H.set mb (.map (tabE tab')) ++ [.cells [.ptr tb 0] 24 .rw, .cells [.bool plain] 4 .rw, .cells [.nils] 31 .rw, .cells [.int .i64 0] 40 .rw, .cells (pad C out) 5 .rw, .cells [.slice (H.length + 4) 0 out.length (.ex C)] 31 .rw, .cells [.str (glue L')] 33 .rw, .loop σ1 [31] A B .ready], e⟩ ∧
      clean mb e ∧ τ.length = 15 ∧ fr τ 0 = .yld (H.length + 7) ∧ fr τ 1 = .ptr (H.length + 6) 0 ∧ σ1.length = 76 ∧ fr σ1 4 = .ptr H.length 0 ∧ fr σ1 7 = .ptr (H.length + 1) 0 ∧ fr σ1 8 = .ptr (H.length + 2) 0 ∧ fr σ1 9 = .ptr (H.length + 3) 0 ∧ fr σ1 10 = .ptr (H.length + 5) 0) L.length
    ⟨_, L, tab, bs, _, _, rfl, hL, rfl, hC, hn, Nat.le_refl _, rfl, by simp [clean, z0, low], tl, t0, t1, by simp only [go_sem, simprocAttr, hl], by simp only [go_sem, simprocAttr, hl], by simp only [go_sem, simprocAttr, hl], by simp only [go_sem, simprocAttr, hl], by simp only [go_sem, simprocAttr, hl], by simp only [go_sem, simprocAttr, hl]⟩ ?_
  clear tl t0 t1 h0 h1 h2 h3
  have hlv8 : ∀ (M : List (AV × AV)) (a b c d f x y z : ABlk) (v : AV) (ef : Ef), leave (H.length + 8) v (H.set mb (.map M) ++ [a, b, c, d, f, x, y, z]) ef = (v, H.set mb (.map M) ++ [a, b, c, d, f, x, y, z], ⟨low (H.length + 8) ef.es, low (H.length + 8) ef.ws⟩) := fun M a b c d f x y z v ef => leave_len (by simp)
  have hl76 := hl
  clear hl
  rintro m _ ⟨τ, L', tab', out, σ1, e, rfl, hL', hpn, hol, hn', hbo, rfl, hce, tl, t0, t1, hl, h4, h7, h8, h9, h10⟩
  have hpad : (pad C out).length = C := pad_len (by have := glue_pos L'; omega)
  cases L' with
  | nil =>
    have d1 : decide (out.length + 1 ≤ C) = true := by rw [← hol, glue_nil]; simp
    have d2 : out.length + 1 ≤ C := by rw [← hol, glue_nil]; simp
    have p2 : splice (pad C out) out.length [.int .u8 0] = pad C (out ++ [0]) := pad_sp (xs := [0]) (by simpa using d2)
    simp only [go_sem, simprocAttr, tl, t0, t1, hl76, hl, h4, h7, h8, h9, h10, hg0, hg, hs0, hs, hgm, hgt, hsm, glue_nil, hlv8, bslice1, hpad, d1, d2, p2]
    have hp : putN plain L tab bs = (out ++ [0], tab') := by rw [hpn]; rfl
    rw [leave_nfl (by simp [flat, flats]), hp]
    refine ⟨_, _, _, rfl, clean_leave ?_, rfl, .inr ⟨H.length + 4, .ex C, List.replicate (C - (out ++ [0]).length) (.int .u8 0), .rw, by omega, by simp, by rw [hg]; rfl, .inl ⟨C, rfl, by simpa using d2, by simp; omega, .inl rfl⟩⟩, _, rfl, by omega⟩
    have hce' := clean_leave (m := H.length + 8) hce
    simp only [clean_mk] at hce'
    simp only [clean_andI, clean_mk, low_nI, low_sI, hce', and_true, true_and]
    omega
  | cons l L' =>
    have hnz : (glue (l :: L') == [0]) = false := by rw [beq_eq_false_iff_ne]; intro h; have := congrArg List.length h; rw [glue_len_cons] at this; have := glue_pos L'; simp at *; omega
    simp only [go_sem, simprocAttr, tl, t0, t1, hl, h4, h7, h8, h9, h10, hg0, hg, hs0, hs, hgm, hgt, hsm, hnz]
    refine callK_yI ?_
    subst hA hB
    simp only [go_sem, simprocAttr, tl, t0, t1, hl, h4, h7, h8, h9, h10, hg0, hg, hs0, hs, hgm, hgt, hsm]
    refine ⟨rfl, ?_⟩
    have hsh : mapSh Tryd.prog 57 = some (.str, 3) := by simp only [mapSh, tsh_57, tsh_33]
    have htz : tzeroV Tryd.prog 3 = some (.int .i64 0) := by kernel_rfl
    obtain ⟨_, hlab', hlen'⟩ := nm_glue hL'
    obtain ⟨hl1, hl2⟩ := hlab' l (by simp)
    have hL2 := nm_tail hL'
    have hgl := glue_len_cons l L'
    have hgp := glue_pos L'
    have hc0 : (glue (l :: L'))[0]? = some (UInt8.ofNat l.length) := by rw [glue_cons, lb]; rfl
    have hcn : (UInt8.ofNat l.length).toNat = l.length := ofNat_le (m := 63) hl2 (by decide)
    have hcp : 0 < (glue (l :: L')).length := glue_pos _
    have w0 : IntKind.i64.wrap (l.length : Int) = (l.length : Int) := wrap_i64 (by omega)
    have w1 : IntKind.i64.wrap (1 + (l.length : Int)) = ((1 + l.length : Nat) : Int) := by rw [wrap_i64 (by omega)]; omega
    have htk : (glue (l :: L')).take (1 + l.length) = lb l := by rw [glue_cons, show 1 + l.length = (lb l).length from (lb_len l).symm, List.take_left]
    have hkl : (lb l).length = 1 + l.length := lb_len l
    have hle : 1 + l.length ≤ (glue (l :: L')).length := by omega
    have d3 : decide (out.length + (1 + l.length) ≤ C) = true := by simp; omega
    have c3 : out.length + (1 + l.length) ≤ C := by omega
    have fl := flats_by (lb l)
    have sc := u8s_scal (s := lb l)
    have ul : (u8s (lb l)).length = 1 + l.length := by rw [u8s_len, lb_len]
    have p3 : splice (pad C out) out.length (u8s (lb l)) = pad C (out ++ lb l) := pad_sp (by rw [lb_len]; omega)
    have hpa := fun H k => name_Parent l L' hL' H k
    cases htg : tget tab' (glue (l :: L')) with
    | some p =>
      obtain ⟨j, hj⟩ := findK_some _ p tab' 0 htg
      have hlk : ∀ (l' : Hp), evLookup Tryd.prog 57 (.map mb) (.str (glue (l :: L'))) true (H.set mb (.map (tabE tab')) ++ l') = some (.tuple [.int .i64 (p : Nat), .bool true]) := by
        intro l'
        simp only [evLookup, hsh, hgm, Option.bind_some, hj, if_true]
      cases plain with
      | true =>
        simp only [go_sem, simprocAttr, tl, t0, t1, hl76, hl, h4, h7, h8, h9, h10, hg0, hg, hs0, hs, hgm, hgt, hsm, hlk]
        refine go_drawZ tFollows (by kernel_rfl) ?_
        simp only [go_sem, simprocAttr, tl, t0, t1, hl76, hl, h4, h7, h8, h9, h10, hg0, hg, hs0, hs, hgm, hgt, hsm, hlk, hsh, htz, hc0, hcn, hcp, w0, w1, htk, hkl, d3, c3, hpad, fl, sc, ul, p3, u8s_fold, hpa, leave_es, EsI, EsS, EsN, EsL8, hle]
        refine ⟨(by kernel_rfl : effOk _ _ _ = true), ?_⟩
        try simp only [go_sem, simprocAttr, tl, t0, t1, hl76, hl, h4, h7, h8, h9, h10, hg0, hg, hs0, hs, hgm, hgt, hsm, hlk, hsh, htz, hc0, hcn, hcp, w0, w1, htk, hkl, d3, c3, hpad, fl, sc, ul, p3, u8s_fold, hpa, leave_es, EsI, EsS, EsN, EsL8, hle]
        have hol2 : (out ++ lb l).length = out.length + (1 + l.length) := by rw [List.length_append, lb_len]
        refine ⟨L'.length, by omega, _, L', tab', out ++ lb l, _, _, rfl, hL2, by rw [hpn, putN, htg]; rfl, by omega, hn', by omega, by rw [hol2], ?_, by simp only [go_sem, simprocAttr, tl], by simp only [go_sem, simprocAttr, tl, t0], by simp only [go_sem, simprocAttr, tl, t1], hl, h4, h7, h8, h9, h10⟩
        have hmn : mb ≤ H.length + 8 := by omega
        simp only [clean_andI, clean_lv hmn, clean_sn, clean_ss, clean_z, hce, and_true, true_and]
        omega
      | false =>
        simp only [go_sem, simprocAttr, tl, t0, t1, hl76, hl, h4, h7, h8, h9, h10, hg0, hg, hs0, hs, hgm, hgt, hsm, hlk]
        have hp := near_get hn' htg
        have hor := or_near hp
        have wu : IntKind.u16.wrap ((49152 + p : Nat) : Int) = ((49152 + p : Nat) : Int) := wrap_u16 (by omega)
        have hpt : ∀ (a b c d f g y : ABlk) k, callK Tryd.prog 26 [.slice (H.length + 4) 0 out.length (.ex C), .int .u16 ((49152 + p : Nat) : Int)] (H.set mb (.map (tabE tab')) ++ [a, b, c, d, .cells (pad C out) 5 .rw, f, g, y]) k = k (.slice (H.length + 11) 0 (out.length + 2) (.op 0), H.set mb (.map (tabE tab')) ++ [a, b, c, d, .cells (pad C out) 5 .rw, f, g, y, .cells [.int .u8 (byt (49152 + p) 8).toNat] 5 .rw, .dead, .cells [.int .u8 (byt (49152 + p) 0).toNat] 5 .rw, .cells (u8s (out ++ be16 (49152 + p))) 5 (.op 0 false)], z0) := by
          intro a b c d f g y k
          have hR : Rd (H.set mb (.map (tabE tab')) ++ [a, b, c, d, .cells (pad C out) 5 .rw, f, g, y]) (.slice (H.length + 4) 0 out.length (.ex C)) out :=
            .inr ⟨H.length + 4, 0, .ex C, [], List.replicate (C - out.length) (.int .u8 0), 5, .rw, rfl, rfl, by rw [hg]; rfl, .inl ⟨C, rfl, by omega⟩⟩
          rw [oct_put16 _ out (49152 + p) _ k hR (by omega) (by omega)]
          simp
        simp only [go_sem, simprocAttr, tl, t0, t1, hl76, hl, h4, h7, h8, h9, h10, hg0, hg, hs0, hs, hgm, hgt, hsm, hlk, hsh, htz, hpad, leave_es, EsI, EsS, EsN, EsL8, hor, wu, hpt]
        have hpp : putN false L tab bs = (out ++ be16 (49152 + p), tab') := by rw [hpn, putN, htg]; rfl
        rw [leave_nfl (by simp [flat, flats]), hpp]
        have hmn : mb ≤ H.length + 8 := by omega
        refine ⟨_, _, _, rfl, clean_leave ?_, rfl, .inr ⟨H.length + 11, .op 0, [], .op 0 false, by omega, by simp [be16], by rw [hg]; simp, .inr ⟨rfl, rfl, false, rfl⟩⟩, _, rfl, by omega⟩
        simp only [clean_andI, clean_lv hmn, clean_sn, clean_ss, clean_z, hce, and_true, true_and]
        omega
    | none =>
      have hj := findK_none _ tab' 0 htg
      have hlk : ∀ (l' : Hp), evLookup Tryd.prog 57 (.map mb) (.str (glue (l :: L'))) true (H.set mb (.map (tabE tab')) ++ l') = some (.tuple [.int .i64 0, .bool false]) := by
        intro l'
        simp only [evLookup, hsh, hgm, Option.bind_some, hj, htz, Option.map_some, if_true]
      have hms : ∀ (l' : Hp) (n : Nat), evMapSet Tryd.prog 57 (.map mb) (.str (glue (l :: L'))) (.int .i64 (n : Nat)) (H.set mb (.map (tabE tab')) ++ l') = some (H.set mb (.map (tabE (tab' ++ [(glue (l :: L'), n)]))) ++ l', ⟨none, some mb⟩) := by
        intro l' n
        simp only [evMapSet, hsh, hgm, Option.bind_some, hj, Option.map_some, hsm, tabE_app]
        rfl
      by_cases hfar : out.length ≤ 16383
      · have g1 : decide ((out.length : Int) ≤ 16383) = true := by simp; omega
        simp only [go_sem, simprocAttr, tl, t0, t1, hl76, hl, h4, h7, h8, h9, h10, hg0, hg, hs0, hs, hgm, hgt, hsm, hlk, hms, g1, hsh, htz, hc0, hcn, hcp, w0, w1, htk, hkl, d3, c3, hpad, fl, sc, ul, p3, u8s_fold, hpa, leave_es, EsI, EsS, EsN, EsL8, hle]
        refine go_drawZ tFollows (by kernel_rfl) ?_
        simp only [go_sem, simprocAttr, tl, t0, t1, hl76, hl, h4, h7, h8, h9, h10, hg0, hg, hs0, hs, hgm, hgt, hsm, hlk, hms, g1, hsh, htz, hc0, hcn, hcp, w0, w1, htk, hkl, d3, c3, hpad, fl, sc, ul, p3, u8s_fold, hpa, leave_es, EsI, EsS, EsN, EsL8, hle]
        refine ⟨(by kernel_rfl : effOk _ _ _ = true), ?_⟩
        try simp only [go_sem, simprocAttr, tl, t0, t1, hl76, hl, h4, h7, h8, h9, h10, hg0, hg, hs0, hs, hgm, hgt, hsm, hlk, hms, g1, hsh, htz, hc0, hcn, hcp, w0, w1, htk, hkl, d3, c3, hpad, fl, sc, ul, p3, u8s_fold, hpa, leave_es, EsI, EsS, EsN, EsL8, hle]
        refine go_drawZ tFollows (by kernel_rfl) ?_
        simp only [go_sem, simprocAttr, tl, t0, t1, hl76, hl, h4, h7, h8, h9, h10, hg0, hg, hs0, hs, hgm, hgt, hsm, hlk, hms, g1, hsh, htz, hc0, hcn, hcp, w0, w1, htk, hkl, d3, c3, hpad, fl, sc, ul, p3, u8s_fold, hpa, leave_es, EsI, EsS, EsN, EsL8, hle]
        refine ⟨(by kernel_rfl : effOk _ _ _ = true), ?_⟩
        try simp only [go_sem, simprocAttr, tl, t0, t1, hl76, hl, h4, h7, h8, h9, h10, hg0, hg, hs0, hs, hgm, hgt, hsm, hlk, hms, g1, hsh, htz, hc0, hcn, hcp, w0, w1, htk, hkl, d3, c3, hpad, fl, sc, ul, p3, u8s_fold, hpa, leave_es, EsI, EsS, EsN, EsL8, hle]
        have hol2 : (out ++ lb l).length = out.length + (1 + l.length) := by rw [List.length_append, lb_len]
        refine ⟨L'.length, by omega, _, L', tab' ++ [(glue (l :: L'), out.length)], out ++ lb l, _, _, rfl, hL2, by rw [hpn, putN, htg]; simp only; rw [if_pos hfar], by omega, near_app hn' hfar, by omega, by rw [hol2], ?_, by simp only [go_sem, simprocAttr, tl], by simp only [go_sem, simprocAttr, tl, t0], by simp only [go_sem, simprocAttr, tl, t1], hl, h4, h7, h8, h9, h10⟩
        have hmn : mb ≤ H.length + 8 := by omega
        simp only [clean_andI, clean_lv hmn, clean_sn, clean_ss, clean_z, hce, and_true, true_and]
        omega
      · have g1 : decide ((out.length : Int) ≤ 16383) = false := by simp; omega
        simp only [go_sem, simprocAttr, tl, t0, t1, hl76, hl, h4, h7, h8, h9, h10, hg0, hg, hs0, hs, hgm, hgt, hsm, hlk, hms, g1, hsh, htz, hc0, hcn, hcp, w0, w1, htk, hkl, d3, c3, hpad, fl, sc, ul, p3, u8s_fold, hpa, leave_es, EsI, EsS, EsN, EsL8, hle]
        refine go_drawZ tFollows (by kernel_rfl) ?_
        simp only [go_sem, simprocAttr, tl, t0, t1, hl76, hl, h4, h7, h8, h9, h10, hg0, hg, hs0, hs, hgm, hgt, hsm, hlk, hms, g1, hsh, htz, hc0, hcn, hcp, w0, w1, htk, hkl, d3, c3, hpad, fl, sc, ul, p3, u8s_fold, hpa, leave_es, EsI, EsS, EsN, EsL8, hle]
        refine ⟨(by kernel_rfl : effOk _ _ _ = true), ?_⟩
        try simp only [go_sem, simprocAttr, tl, t0, t1, hl76, hl, h4, h7, h8, h9, h10, hg0, hg, hs0, hs, hgm, hgt, hsm, hlk, hms, g1, hsh, htz, hc0, hcn, hcp, w0, w1, htk, hkl, d3, c3, hpad, fl, sc, ul, p3, u8s_fold, hpa, leave_es, EsI, EsS, EsN, EsL8, hle]
        have hol2 : (out ++ lb l).length = out.length + (1 + l.length) := by rw [List.length_append, lb_len]
        refine ⟨L'.length, by omega, _, L', tab', out ++ lb l, _, _, rfl, hL2, by rw [hpn, putN, htg]; simp only; rw [if_neg hfar], by omega, hn', by omega, by rw [hol2], ?_, by simp only [go_sem, simprocAttr, tl], by simp only [go_sem, simprocAttr, tl, t0], by simp only [go_sem, simprocAttr, tl, t1], hl, h4, h7, h8, h9, h10⟩
        have hmn : mb ≤ H.length + 8 := by omega
        simp only [clean_andI, clean_lv hmn, clean_sn, clean_ss, clean_z, hce, and_true, true_and]
        omega
set_option maxRecDepth 20000 in
theorem pr_Put (H : Hp) (mb tb : Nat) (tab : Tab) (bv : AV) (bs : List UInt8) (L : List (List UInt8)) (hmb : mb < H.length) (htb : H[tb]? = some (.cells [.map mb] 59 .rw)) (hne : mb ≠ tb)
    (hv : Rd (H.set mb (.map (tabE tab))) bv bs) (hL : nm (glue L) = some L) (hb : bs.length ≤ 1048576000) (hn : near tab) :
    ∃ v T e, (∀ k, callK Tryd.prog 24 [.ptr tb 0, bv, .str (glue L)] (H.set mb (.map (tabE tab))) k = k (.tuple [v, .int .i64 0], H.set mb (.map (tabE (putN false L tab bs).2)) ++ T, e)) ∧ clean mb e ∧ flat v = false ∧ Bf mb (H.set mb (.map (tabE (putN false L tab bs).2)) ++ T) v (putN false L tab bs).1 ∧ ∃ j, bk v = some j ∧ H.length ≤ j := by
  obtain ⟨⟨v, T, e⟩, ⟨hce, hvf, hR⟩, hrow⟩ := callK_exP (α := AV × Hp × Ef) (fun b => clean mb b.2.2 ∧ flat b.1 = false ∧ Bf mb (H.set mb (.map (tabE (putN false L tab bs).2)) ++ b.2.1) b.1 (putN false L tab bs).1 ∧ ∃ j, bk b.1 = some j ∧ H.length ≤ j) (fun b => (.tuple [b.1, .int .i64 0], H.set mb (.map (tabE (putN false L tab bs).2)) ++ b.2.1, b.2.2))
    (callK_mono (pr_row H mb tb tab bv bs L false hmb htb hne hv hL hb hn) (fun r ⟨v, T, e, h1, h2, h3, h4⟩ => ⟨(v, T, e), ⟨h2, h3, h4⟩, h1⟩))
  simp only at hce hR hrow hvf
  refine ⟨v, T, ⟨low H.length e.es, low H.length e.ws⟩, fun k => ?_, clean_leave hce, hvf, hR⟩
  refine callK_eq ?_ k
  refine callK_start (n := 14) (rs := [.tmp 6, .tmp 7]) Tryd.func24 rfl rfl rfl ?_
  intro σ hl ha
  have h0 := ha 0 (by simp)
  have h1 := ha 1 (by simp)
  have h2 := ha 2 (by simp)
  clear ha
  simp only [Option.getD_some, List.getElem?_cons_zero, List.getElem?_cons_succ] at h0 h1 h2
  simp only [go_sem, simprocAttr, hl, h0, h1, h2, hrow]
  exact leave_nfl (by simp [flat, flats, hvf])
set_option maxRecDepth 20000 in
theorem pr_Plain (H : Hp) (mb tb : Nat) (tab : Tab) (bv : AV) (bs : List UInt8) (L : List (List UInt8)) (hmb : mb < H.length) (htb : H[tb]? = some (.cells [.map mb] 59 .rw)) (hne : mb ≠ tb)
    (hv : Rd (H.set mb (.map (tabE tab))) bv bs) (hL : nm (glue L) = some L) (hb : bs.length ≤ 1048576000) (hn : near tab) :
    ∃ v T e, (∀ k, callK Tryd.prog 25 [.ptr tb 0, bv, .str (glue L)] (H.set mb (.map (tabE tab))) k = k (.tuple [v, .int .i64 0], H.set mb (.map (tabE (putN true L tab bs).2)) ++ T, e)) ∧ clean mb e ∧ flat v = false ∧ Bf mb (H.set mb (.map (tabE (putN true L tab bs).2)) ++ T) v (putN true L tab bs).1 ∧ ∃ j, bk v = some j ∧ H.length ≤ j := by
  obtain ⟨⟨v, T, e⟩, ⟨hce, hvf, hR⟩, hrow⟩ := callK_exP (α := AV × Hp × Ef) (fun b => clean mb b.2.2 ∧ flat b.1 = false ∧ Bf mb (H.set mb (.map (tabE (putN true L tab bs).2)) ++ b.2.1) b.1 (putN true L tab bs).1 ∧ ∃ j, bk b.1 = some j ∧ H.length ≤ j) (fun b => (.tuple [b.1, .int .i64 0], H.set mb (.map (tabE (putN true L tab bs).2)) ++ b.2.1, b.2.2))
    (callK_mono (pr_row H mb tb tab bv bs L true hmb htb hne hv hL hb hn) (fun r ⟨v, T, e, h1, h2, h3, h4⟩ => ⟨(v, T, e), ⟨h2, h3, h4⟩, h1⟩))
  simp only at hce hR hrow hvf
  refine ⟨v, T, ⟨low H.length e.es, low H.length e.ws⟩, fun k => ?_, clean_leave hce, hvf, hR⟩
  refine callK_eq ?_ k
  refine callK_start (n := 14) (rs := [.tmp 6, .tmp 7]) Tryd.func25 rfl rfl rfl ?_
  intro σ hl ha
  have h0 := ha 0 (by simp)
  have h1 := ha 1 (by simp)
  have h2 := ha 2 (by simp)
  clear ha
  simp only [Option.getD_some, List.getElem?_cons_zero, List.getElem?_cons_succ] at h0 h1 h2
  simp only [go_sem, simprocAttr, hl, h0, h1, h2, hrow]
  exact leave_nfl (by simp [flat, flats, hvf])
/-- The same, of any memory that has the table. -/
theorem pr_PutA (H : Hp) (mb tb : Nat) (tab : Tab) (bv : AV) (bs s : List UInt8) (L : List (List UInt8)) (hm : H[mb]? = some (.map (tabE tab))) (htb : H[tb]? = some (.cells [.map mb] 59 .rw))
    (hv : Rd H bv bs) (hL : nm s = some L) (hb : bs.length ≤ 1048576000) (hn : near tab) :
    ∃ v H' e, (∀ k, callK Tryd.prog 24 [.ptr tb 0, bv, .str s] H k = k (.tuple [v, .int .i64 0], H', e)) ∧ clean mb e ∧ flat v = false ∧ Bf mb H' v (putN false L tab bs).1 ∧ (∃ j, bk v = some j ∧ H.length ≤ j) ∧
      H.length ≤ H'.length ∧ H'[mb]? = some (.map (tabE (putN false L tab bs).2)) ∧ (∀ i x, i ≠ mb → H[i]? = some x → H'[i]? = some x) := by
  obtain ⟨rfl, _⟩ := nm_glue hL
  have hlt := lt_of_get hm
  have hne : mb ≠ tb := by rintro rfl; rw [hm] at htb; cases htb
  have hs := set_get hm
  obtain ⟨v, T, e, h1, h2, h3, h4, h5⟩ := pr_Put H mb tb tab bv bs L hlt htb hne (by rw [hs]; exact hv) hL hb hn
  rw [hs] at h1
  refine ⟨v, _, e, h1, h2, h3, h4, h5, by simp, get_app (by rw [List.getElem?_set_self hlt]), fun i x hi hx => get_app (by rw [List.getElem?_set_ne (Ne.symm hi)]; exact hx)⟩
/-- The same, of any memory that has the table. -/
theorem pr_PlainA (H : Hp) (mb tb : Nat) (tab : Tab) (bv : AV) (bs s : List UInt8) (L : List (List UInt8)) (hm : H[mb]? = some (.map (tabE tab))) (htb : H[tb]? = some (.cells [.map mb] 59 .rw))
    (hv : Rd H bv bs) (hL : nm s = some L) (hb : bs.length ≤ 1048576000) (hn : near tab) :
    ∃ v H' e, (∀ k, callK Tryd.prog 25 [.ptr tb 0, bv, .str s] H k = k (.tuple [v, .int .i64 0], H', e)) ∧ clean mb e ∧ flat v = false ∧ Bf mb H' v (putN true L tab bs).1 ∧ (∃ j, bk v = some j ∧ H.length ≤ j) ∧
      H.length ≤ H'.length ∧ H'[mb]? = some (.map (tabE (putN true L tab bs).2)) ∧ (∀ i x, i ≠ mb → H[i]? = some x → H'[i]? = some x) := by
  obtain ⟨rfl, _⟩ := nm_glue hL
  have hlt := lt_of_get hm
  have hne : mb ≠ tb := by rintro rfl; rw [hm] at htb; cases htb
  have hs := set_get hm
  obtain ⟨v, T, e, h1, h2, h3, h4, h5⟩ := pr_Plain H mb tb tab bv bs L hlt htb hne (by rw [hs]; exact hv) hL hb hn
  rw [hs] at h1
  refine ⟨v, _, e, h1, h2, h3, h4, h5, by simp, get_app (by rw [List.getElem?_set_self hlt]), fun i x hi hx => get_app (by rw [List.getElem?_set_ne (Ne.symm hi)]; exact hx)⟩
end Go.Proofs.YtgkpgpdkolpfkaaDoor.V
namespace Go.Proofs.YtgkpgpdkolpfkaaDoor.V
open Go
set_option linter.unusedSimpArgs false
set_option linter.unusedVariables false

/-! ### plainly -/
/-- Data's bytes, letter by letter of their form. -/
def putF (d : Dt) : List UInt8 → Nat → Tab → List UInt8 → List UInt8 × Tab
  | [], _, tab, out => (out, tab)
  | c :: r, k, tab, out =>
    if c.toNat = 104 then putF d r k (putN false (labs d.host) tab out).2 (putN false (labs d.host) tab out).1
    else if c.toNat = 112 then putF d r k (putN true (labs d.host) tab out).2 (putN true (labs d.host) tab out).1
    else if c.toNat = 109 then putF d r k (putN false (labs d.mail) tab out).2 (putN false (labs d.mail) tab out).1
    else if c.toNat = 115 then putF d r (k + 1) tab (out ++ be16 (d.n k).toNat)
    else if c.toNat = 108 then putF d r (k + 1) tab (out ++ be32 (d.n k).toNat)
    else putF d r k tab (out ++ d.raw)
/-- What the letters ask of data. -/
def okF (d : Dt) : List UInt8 → Nat → Prop
  | [], _ => True
  | c :: r, k => ((c.toNat = 104 ∧ (nm d.host).isSome = true ∧ okF d r k) ∨ (c.toNat = 112 ∧ (nm d.host).isSome = true ∧ okF d r k) ∨ (c.toNat = 109 ∧ (nm d.mail).isSome = true ∧ okF d r k)) ∨
    (c.toNat = 115 ∧ k < 5 ∧ d.n k ≤ 65535 ∧ okF d r (k + 1)) ∨ (c.toNat = 108 ∧ k < 5 ∧ okF d r (k + 1))
/-- Types whose data are no mere bytes. -/
def madeT (t : Int) : Prop := t = 2 ∨ t = 5 ∨ t = 6 ∨ t = 12 ∨ t = 15 ∨ t = 33
theorem okF_good {t : Int} {d : Dt} (ht : madeT t) (hg : goodB t d = true) : okF d (formS t) 0 := by
  simp only [goodB, headB, Bool.and_eq_true] at hg
  obtain ⟨⟨h1, h2, h3, h4, h5⟩, n0, n1, n2, n3, n4⟩ := hg
  rcases ht with rfl | rfl | rfl | rfl | rfl | rfl
  · have hh : (nm d.host).isSome = true := by have := eq_of_beq h2; rw [← this]; rfl
    exact .inl (.inl ⟨rfl, hh, trivial⟩)
  · have hh : (nm d.host).isSome = true := by have := eq_of_beq h2; rw [← this]; rfl
    exact .inl (.inl ⟨rfl, hh, trivial⟩)
  · have hh : (nm d.host).isSome = true := by have := eq_of_beq h2; rw [← this]; rfl
    have hm : (nm d.mail).isSome = true := by have := eq_of_beq h4; rw [← this]; rfl
    exact .inl (.inl ⟨rfl, hh, .inl (.inr (.inr ⟨rfl, hm, .inr (.inr ⟨rfl, by decide, .inr (.inr ⟨rfl, by decide, .inr (.inr ⟨rfl, by decide, .inr (.inr ⟨rfl, by decide, .inr (.inr ⟨rfl, by decide, trivial⟩)⟩)⟩)⟩)⟩)⟩))⟩)
  · have hh : (nm d.host).isSome = true := by have := eq_of_beq h2; rw [← this]; rfl
    exact .inl (.inl ⟨rfl, hh, trivial⟩)
  · have hh : (nm d.host).isSome = true := by have := eq_of_beq h2; rw [← this]; rfl
    have k0 : d.n 0 ≤ 65535 := by simpa [numB, numT, bitT] using n0
    exact .inr (.inl ⟨rfl, by decide, k0, .inl (.inl ⟨rfl, hh, trivial⟩)⟩)
  · have hh : (nm d.host).isSome = true := by have := eq_of_beq h2; rw [← this]; rfl
    have k0 : d.n 0 ≤ 65535 := by simpa [numB, numT, bitT] using n0
    have k1 : d.n 1 ≤ 65535 := by simpa [numB, numT, bitT] using n1
    have k2 : d.n 2 ≤ 65535 := by simpa [numB, numT, bitT] using n2
    exact .inr (.inl ⟨rfl, by decide, k0, .inr (.inl ⟨rfl, by decide, k1, .inr (.inl ⟨rfl, by decide, k2, .inl (.inr (.inl ⟨rfl, hh, trivial⟩))⟩)⟩)⟩)
theorem form_ascii {t : Int} : (formS t).all (fun c => decide (c.toNat < 128)) = true := by
  unfold formS
  repeat' split
  all_goals decide
theorem form_lenP {t : Int} : (formS t).length ≤ 7 ∧ 0 < (formS t).length := by
  unfold formS
  repeat' split
  all_goals decide
theorem labs_is {s : List UInt8} (h : (nm s).isSome = true) : nm s = some (labs s) := by
  obtain ⟨L, hL⟩ := Option.isSome_iff_exists.1 h
  unfold labs; rw [hL]; rfl
theorem glue_labs {s : List UInt8} (h : (nm s).isSome = true) : (glue (labs s)).length ≤ 255 := by
  obtain ⟨h1, _, h3⟩ := nm_glue (labs_is h)
  rw [← h1]; exact h3
theorem putN_lenA {plain : Bool} {s : List UInt8} (h : (nm s).isSome = true) (tab : Tab) (out : List UInt8) : (putN plain (labs s) tab out).1.length ≤ out.length + 1000 := by
  have := putN_len plain (labs s) tab out
  have := glue_labs h
  omega
theorem n_wf {d : Dt} (hd : d.wf) {k : Nat} (hk : k < 5) : is32 (d.n k) := by
  obtain ⟨_, _, _, h0, h1, h2, h3, h4⟩ := hd
  have : k = 0 ∨ k = 1 ∨ k = 2 ∨ k = 3 ∨ k = 4 := by omega
  rcases this with rfl | rfl | rfl | rfl | rfl <;> assumption
theorem cells_n {d : Dt} {k : Nat} (hk : k < 5) (e : TypeId) (kd : Kd) : ldC (3 + k) 1 false (.cells d.cells e kd) = some (.int .u32 (d.n k)) := by
  have : k = 0 ∨ k = 1 ∨ k = 2 ∨ k = 3 ∨ k = 4 := by omega
  rcases this with rfl | rfl | rfl | rfl | rfl <;> rfl
theorem Bf.cells {mb : Nat} {H : Hp} {v : AV} {bs : List UInt8} (h : Bf mb H v bs) {i : Nat} (hi : bk v = some i) : ∃ post k, H[i]? = some (.cells (u8s bs ++ post) 5 k) := by
  obtain ⟨rfl, _⟩ | ⟨b, c, post, k, h1, rfl, h3, h4⟩ := h
  · cases hi
  · cases hi; exact ⟨_, _, h3⟩
theorem oct16A {mb : Nat} {H : Hp} {v : AV} {bs : List UInt8} (x : Nat) (hv : Rd H v bs) (hm : mb < H.length) (hb : bs.length ≤ 1048576000) (hx : x < 65536) :
    ∃ (v' : AV) (H' : Hp), (∀ k, callK Tryd.prog 26 [v, .int .u16 (x : Nat)] H k = k (v', H', z0)) ∧ flat v' = false ∧ Bf mb H' v' (bs ++ be16 x) ∧ (∃ j, bk v' = some j ∧ H.length ≤ j) ∧ H.length ≤ H'.length ∧ ∀ (i : Nat) (y : ABlk), H[i]? = some y → H'[i]? = some y :=
  ⟨_, _, fun k => oct_put16 v bs x H k hv (by omega) hx, rfl, .inr ⟨H.length + 3, .op 0, [], .op 0 false, by omega, by simp [be16], by rw [List.getElem?_append_right (by omega)]; simp, .inr ⟨rfl, rfl, false, rfl⟩⟩, ⟨_, rfl, by omega⟩, by simp, fun i y hy => get_app hy⟩
theorem oct32A {mb : Nat} {H : Hp} {v : AV} {bs : List UInt8} (x : Nat) (hv : Rd H v bs) (hm : mb < H.length) (hb : bs.length ≤ 1048576000) (hx : x < 4294967296) :
    ∃ (v' : AV) (H' : Hp), (∀ k, callK Tryd.prog 27 [v, .int .u32 (x : Nat)] H k = k (v', H', z0)) ∧ flat v' = false ∧ Bf mb H' v' (bs ++ be32 x) ∧ (∃ j, bk v' = some j ∧ H.length ≤ j) ∧ H.length ≤ H'.length ∧ ∀ (i : Nat) (y : ABlk), H[i]? = some y → H'[i]? = some y :=
  ⟨_, _, fun k => oct_put32 v bs x H k hv (by omega) hx, rfl, .inr ⟨H.length + 7, .op 0, [], .op 0 false, by omega, by simp [be32], by rw [List.getElem?_append_right (by omega)]; simp, .inr ⟨rfl, rfl, false, rfl⟩⟩, ⟨_, rfl, by omega⟩, by simp, fun i y hy => get_app hy⟩

attribute [local irreducible] go goOps goD opK callK callT stepK leaveTo nextK
/-- Named types: letter by letter. -/
theorem rdata_PutM (t : Int) (d : Dt) (H : Hp) (mb tb : Nat) (tab : Tab) (bv : AV) (bs : List UInt8) (ht : madeT t) (hk : Tk H) (hd : d.wf) (hgd : goodB t d = true) (hm : H[mb]? = some (.map (tabE tab))) (htb : H[tb]? = some (.cells [.map mb] 59 .rw))
    (hv : Bf mb H bv bs) (hb : bs.length ≤ 104857600) (hn : near tab) :
    callK Tryd.prog 10 [bv, .ptr tb 0, .int .u16 t, .agg d.cells] H (fun r => ∃ v H' e, r = (.tuple [v, .int .i64 0], H', e) ∧ clean mb e ∧ Bf mb H' v (putF d (formS t) 0 tab bs).1 ∧ (∃ j, bk v = some j ∧ H.length ≤ j) ∧
      H.length ≤ H'.length ∧ H'[mb]? = some (.map (tabE (putF d (formS t) 0 tab bs).2)) ∧ near (putF d (formS t) 0 tab bs).2 ∧ (putF d (formS t) 0 tab bs).1.length ≤ bs.length + 7000 ∧ (∀ i x, i ≠ mb → H[i]? = some x → H'[i]? = some x)) := by
  have hok := okF_good ht hgd
  have hfl := form_lenP (t := t)
  have hfa := form_ascii (t := t)
  have hck : chk t d = 0 := if_pos hgd
  have hck := fun l k => rdata_Check t d (H ++ l) k (hk.old l) hd
  rw [show chk t d = 0 from if_pos hgd] at hck
  have hfm := fun l k => rdata_form t (H ++ l) k (hk.old l)
  obtain ⟨y, hy, hyB, hyb, hye⟩ := hv.full
  have hln := fun H' => hv.rd.v.len H'
  refine callK_start (n := 88) (rs := [.tmp 8, .tmp 9]) Tryd.func10 rfl rfl rfl ?_
  intro σ hl ha
  have h0 := ha 0 (by simp)
  have h1 := ha 1 (by simp)
  have h2 := ha 2 (by simp)
  have h3 := ha 3 (by simp)
  clear ha
  simp only [Option.getD_some, List.getElem?_cons_zero, List.getElem?_cons_succ] at h0 h1 h2 h3
  generalize formS t = F at *
  have hit : ∀ i c, F[i]? = some c → strIter F i = (.tuple [.bool true, .int .i64 (i : Nat), .int .i32 c.toNat], i + 1) := fun i c h => by rw [strIter_a hfa, itN_s h]
  have hie : strIter F F.length = (.tuple [.bool false], F.length) := by rw [strIter_a hfa]; unfold itN; rw [List.getElem?_eq_none (Nat.le_refl _)]
  simp only [go_sem, simprocAttr, hl, h0, h1, h2, h3, hck, hfm, hy, hln, Dt.vc, Dt.l8]
  have hyk : Bf mb (H ++ [.cells d.cells 37 .rw, .iter F 0]) y bs := hyB.keep (fun i x _ hx => get_app hx)
  refine go_rounds (fun m st => ∃ σ i tab' out v k Hc e, m + i = F.length ∧ putF d F 0 tab bs = putF d (F.drop i) k tab' out ∧ okF d (F.drop i) k ∧ near tab' ∧ out.length ≤ bs.length + i * 1000 ∧ st = ⟨σ, Hc, e⟩ ∧ clean mb e ∧ Bf mb Hc v out ∧ (i = 0 ∨ (flat v = false ∧ ∃ j, bk v = some j ∧ H.length ≤ j)) ∧
      H.length + 2 ≤ Hc.length ∧ Hc[mb]? = some (.map (tabE tab')) ∧ (∀ (j : Nat) (x : ABlk), j ≠ mb → H[j]? = some x → Hc[j]? = some x) ∧ Hc[H.length]? = some (.cells d.cells 37 .rw) ∧ Hc[H.length + 1]? = some (.iter F i) ∧
      σ.length = 88 ∧ fr σ 0 = v ∧ fr σ 1 = .ptr tb 0 ∧ fr σ 7 = .ptr H.length 0 ∧ fr σ 10 = .int .i64 (k : Nat) ∧ fr σ 27 = .ptr (H.length + 1) 0) F.length
    ⟨_, 0, tab, bs, y, 0, _, _, rfl, rfl, hok, hn, by omega, rfl, by simp [clean, z0, low], hyk, .inl rfl, by simp, get_app hm, fun j x _ hx => get_app hx, by simp, by simp, by simp only [go_sem, simprocAttr, hl], by simp only [go_sem, simprocAttr, hl], by simp only [go_sem, simprocAttr, hl, h1], by simp only [go_sem, simprocAttr, hl], by simp only [go_sem, simprocAttr, hl], by simp only [go_sem, simprocAttr, hl]⟩ ?_
  clear h0 h1 h2 h3 hl
  rintro m _ ⟨σ, i, tab', out, v, k, Hc, e, hmi, hpf, hok', hn', hol, rfl, hce, hB, hfv, hHl, hcm, hkeep, hbx, hitr, hl, h0, h1, h7, h10, h27⟩
  have hmlt := lt_of_get hm
  have htbc : Hc[tb]? = some (.cells [.map mb] 59 .rw) := hkeep tb _ (by rintro rfl; rw [hm] at htb; cases htb) htb
  by_cases hlt : i < F.length
  · obtain ⟨c, hc⟩ : ∃ c, F[i]? = some c := ⟨_, List.getElem?_eq_getElem hlt⟩
    have hs := hit i c hc
    rw [drop_at hc] at hpf hok'
    obtain ⟨H2, hH2⟩ : ∃ H2, H2 = Hc.set (H.length + 1) (.iter F (i + 1)) := ⟨_, rfl⟩
    have hset : Hc.set (H.length + 1) (.iter F (i + 1)) = H2 := hH2.symm
    have h2g : ∀ (j : Nat) (x : ABlk), j ≠ H.length + 1 → Hc[j]? = some x → H2[j]? = some x := fun j x hj hx => by rw [hH2, List.getElem?_set_ne (Ne.symm hj)]; exact hx
    have h2l : H2.length = Hc.length := by rw [hH2]; simp
    have h2i : H2[H.length + 1]? = some (.iter F (i + 1)) := by rw [hH2, List.getElem?_set_self (by omega)]
    have h2x := h2g _ _ (by omega) hbx
    have h2m := h2g _ _ (by omega) hcm
    have h2t := h2g _ _ (by have := lt_of_get htb; omega) htbc
    have hB2 : Bf mb H2 v out := hB.keep (fun j x hj hx => h2g j x (by
      rintro rfl
      obtain ⟨post, kd, hcc⟩ := hB.cells hj
      rw [hitr] at hcc; cases hcc) hx)
    have h2k : ∀ (j : Nat) (x : ABlk), j ≠ mb → H[j]? = some x → H2[j]? = some x := fun j x hj hx => h2g j x (by have := lt_of_get hx; omega) (hkeep j x hj hx)
    -- the round's end, whichever letter
    have fin : ∀ (σ' : List AV) (tab'' : Tab) (out' : List UInt8) (v' : AV) (k' : Nat) (H3 : Hp) (e3 e' : Ef), putF d F 0 tab bs = putF d (F.drop (i + 1)) k' tab'' out' → okF d (F.drop (i + 1)) k' → near tab'' → out'.length ≤ out.length + 1000 → clean mb e' → Bf mb H3 v' out' → flat v' = false → (∃ j, bk v' = some j ∧ H2.length ≤ j) →
        H2.length ≤ H3.length → H3[mb]? = some (.map (tabE tab'')) → (∀ (j : Nat) (x : ABlk), j ≠ mb → H2[j]? = some x → H3[j]? = some x) → σ'.length = 88 → fr σ' 0 = v' → fr σ' 1 = .ptr tb 0 → fr σ' 7 = .ptr H.length 0 → fr σ' 10 = .int .i64 (k' : Nat) → fr σ' 27 = .ptr (H.length + 1) 0 →
        ∃ m', m' < m ∧ (fun (m : Nat) (st : St) => ∃ σ i tab' out v k Hc e, m + i = F.length ∧ putF d F 0 tab bs = putF d (F.drop i) k tab' out ∧ okF d (F.drop i) k ∧ near tab' ∧ out.length ≤ bs.length + i * 1000 ∧ st = ⟨σ, Hc, e⟩ ∧ clean mb e ∧ Bf mb Hc v out ∧ (i = 0 ∨ (flat v = false ∧ ∃ j, bk v = some j ∧ H.length ≤ j)) ∧
      H.length + 2 ≤ Hc.length ∧ Hc[mb]? = some (.map (tabE tab')) ∧ (∀ (j : Nat) (x : ABlk), j ≠ mb → H[j]? = some x → Hc[j]? = some x) ∧ Hc[H.length]? = some (.cells d.cells 37 .rw) ∧ Hc[H.length + 1]? = some (.iter F i) ∧
      σ.length = 88 ∧ fr σ 0 = v ∧ fr σ 1 = .ptr tb 0 ∧ fr σ 7 = .ptr H.length 0 ∧ fr σ 10 = .int .i64 (k : Nat) ∧ fr σ 27 = .ptr (H.length + 1) 0) m' ⟨σ', H3, e'⟩ := by
      intro σ' tab'' out' v' k' H3 e3 e' q1 q2 q3 q4 q5 q6 q7 q8 q9 q10 q11 q12 q13 q14 q15 q16 q17
      obtain ⟨j, qj, qj'⟩ := q8
      exact ⟨m - 1, by omega, σ', i + 1, tab'', out', v', k', H3, e', by omega, q1, q2, q3, by omega, rfl, q5, q6, .inr ⟨q7, j, qj, by omega⟩, by omega, q10, fun j x hj hx => q11 j x hj (h2k j x hj hx), q11 _ _ (by omega) h2x, q11 _ _ (by omega) h2i, q12, q13, q14, q15, q16, q17⟩
    have hB2r := hB2.rd
    have hob : out.length ≤ 1048576000 := by omega
    rcases hok' with (⟨hcn, hh, hok'⟩ | ⟨hcn, hh, hok'⟩ | ⟨hcn, hh, hok'⟩) | ⟨hcn, hk5, hk6, hok'⟩ | ⟨hcn, hk5, hok'⟩
    · obtain ⟨v', H3, e3, hp, q1, q2, q3, q4, q5, q6, q7⟩ := pr_PutA H2 mb tb tab' v out d.host _ h2m h2t hB2r (labs_is hh) hob hn'
      have hpf' : putF d F 0 tab bs = putF d (F.drop (i + 1)) k (putN false (labs d.host) tab' out).2 (putN false (labs d.host) tab' out).1 := by rw [hpf, putF]; simp only [hcn]; rfl
      simp only [go_sem, simprocAttr, hl, h0, h1, h7, h10, h27, hitr, hs, hset, h2x, Dt.l1, Dt.l2, hcn, hp]
      exact fin _ _ _ v' k H3 e3 _ hpf' hok' (putN_near _ _ _ _ hn') (putN_lenA hh _ _) (by simp only [clean_andI, clean_sn, hce, q1, and_true, true_and]; omega) q3 q2 q4 q5 q6 q7 (by simp only [go_sem, simprocAttr, hl]) (by simp only [go_sem, simprocAttr, hl]) (by simp only [go_sem, simprocAttr, hl, h1]) (by simp only [go_sem, simprocAttr, hl, h7]) (by simp only [go_sem, simprocAttr, hl, h10]) (by simp only [go_sem, simprocAttr, hl, h27])
    · obtain ⟨v', H3, e3, hp, q1, q2, q3, q4, q5, q6, q7⟩ := pr_PlainA H2 mb tb tab' v out d.host _ h2m h2t hB2r (labs_is hh) hob hn'
      have hpf' : putF d F 0 tab bs = putF d (F.drop (i + 1)) k (putN true (labs d.host) tab' out).2 (putN true (labs d.host) tab' out).1 := by rw [hpf, putF]; simp only [hcn]; rfl
      simp only [go_sem, simprocAttr, hl, h0, h1, h7, h10, h27, hitr, hs, hset, h2x, Dt.l1, Dt.l2, hcn, hp]
      exact fin _ _ _ v' k H3 e3 _ hpf' hok' (putN_near _ _ _ _ hn') (putN_lenA hh _ _) (by simp only [clean_andI, clean_sn, hce, q1, and_true, true_and]; omega) q3 q2 q4 q5 q6 q7 (by simp only [go_sem, simprocAttr, hl]) (by simp only [go_sem, simprocAttr, hl]) (by simp only [go_sem, simprocAttr, hl, h1]) (by simp only [go_sem, simprocAttr, hl, h7]) (by simp only [go_sem, simprocAttr, hl, h10]) (by simp only [go_sem, simprocAttr, hl, h27])
    · obtain ⟨v', H3, e3, hp, q1, q2, q3, q4, q5, q6, q7⟩ := pr_PutA H2 mb tb tab' v out d.mail _ h2m h2t hB2r (labs_is hh) hob hn'
      have hpf' : putF d F 0 tab bs = putF d (F.drop (i + 1)) k (putN false (labs d.mail) tab' out).2 (putN false (labs d.mail) tab' out).1 := by rw [hpf, putF]; simp only [hcn]; rfl
      simp only [go_sem, simprocAttr, hl, h0, h1, h7, h10, h27, hitr, hs, hset, h2x, Dt.l1, Dt.l2, hcn, hp]
      exact fin _ _ _ v' k H3 e3 _ hpf' hok' (putN_near _ _ _ _ hn') (putN_lenA hh _ _) (by simp only [clean_andI, clean_sn, hce, q1, and_true, true_and]; omega) q3 q2 q4 q5 q6 q7 (by simp only [go_sem, simprocAttr, hl]) (by simp only [go_sem, simprocAttr, hl]) (by simp only [go_sem, simprocAttr, hl, h1]) (by simp only [go_sem, simprocAttr, hl, h7]) (by simp only [go_sem, simprocAttr, hl, h10]) (by simp only [go_sem, simprocAttr, hl, h27])
    · obtain ⟨hn0, hn1⟩ := n_wf hd hk5
      have hnx : d.n k = (((d.n k).toNat : Nat) : Int) := by omega
      obtain ⟨v', H3, hp, q2, q3, q4, q5, q6⟩ := oct16A (mb := mb) (d.n k).toNat hB2r (by omega) hob (by omega)
      have hpf' : putF d F 0 tab bs = putF d (F.drop (i + 1)) (k + 1) tab' (out ++ be16 (d.n k).toNat) := by rw [hpf, putF]; simp only [hcn]; rfl
      have hat := fun e kd => cells_n (d := d) hk5 e kd
      rw [hnx] at hat
      have wx : IntKind.u16.wrap (((d.n k).toNat : Nat) : Int) = (((d.n k).toNat : Nat) : Int) := wrap_u16 (by omega)
      have hw := wrap_succ (show k < 9223372036854775807 by omega)
      have hk5' : (k : Int) < 5 := by omega
      simp only [go_sem, simprocAttr, hl, h0, h1, h7, h10, h27, hitr, hs, hset, h2x, hcn, hp, hat, wx, hw, hk5']
      exact fin _ _ _ v' (k + 1) H3 z0 _ hpf' hok' hn' (by rw [List.length_append]; simp [be16]) (by simp only [clean_andI, clean_sn, hce, and_true, true_and]; omega) q3 q2 q4 q5 (q6 _ _ h2m) (fun j x _ hx => q6 j x hx) (by simp only [go_sem, simprocAttr, hl]) (by simp only [go_sem, simprocAttr, hl]) (by simp only [go_sem, simprocAttr, hl, h1]) (by simp only [go_sem, simprocAttr, hl, h7]) (by simp only [go_sem, simprocAttr, hl, h10, hw]) (by simp only [go_sem, simprocAttr, hl, h27])
    · obtain ⟨hn0, hn1⟩ := n_wf hd hk5
      have hnx : d.n k = (((d.n k).toNat : Nat) : Int) := by omega
      obtain ⟨v', H3, hp, q2, q3, q4, q5, q6⟩ := oct32A (mb := mb) (d.n k).toNat hB2r (by omega) hob (by omega)
      have hpf' : putF d F 0 tab bs = putF d (F.drop (i + 1)) (k + 1) tab' (out ++ be32 (d.n k).toNat) := by rw [hpf, putF]; simp only [hcn]; rfl
      have hat := fun e kd => cells_n (d := d) hk5 e kd
      rw [hnx] at hat
      have hw := wrap_succ (show k < 9223372036854775807 by omega)
      have hk5' : (k : Int) < 5 := by omega
      simp only [go_sem, simprocAttr, hl, h0, h1, h7, h10, h27, hitr, hs, hset, h2x, hcn, hp, hat, hw, hk5']
      exact fin _ _ _ v' (k + 1) H3 z0 _ hpf' hok' hn' (by rw [List.length_append]; simp [be32]) (by simp only [clean_andI, clean_sn, hce, and_true, true_and]; omega) q3 q2 q4 q5 (q6 _ _ h2m) (fun j x _ hx => q6 j x hx) (by simp only [go_sem, simprocAttr, hl]) (by simp only [go_sem, simprocAttr, hl]) (by simp only [go_sem, simprocAttr, hl, h1]) (by simp only [go_sem, simprocAttr, hl, h7]) (by simp only [go_sem, simprocAttr, hl, h10, hw]) (by simp only [go_sem, simprocAttr, hl, h27])
  · have hi : i = F.length := by omega
    subst hi
    rw [List.drop_length] at hpf
    have hpf' : putF d F 0 tab bs = (out, tab') := hpf
    have hset : Hc.set (H.length + 1) (.iter F F.length) = Hc := set_get hitr
    obtain h | ⟨hvf, hvj⟩ := hfv
    · omega
    rw [hpf']
    simp only [go_sem, simprocAttr, hl, h0, h1, h7, h10, h27, hitr, hie, hset]
    rw [leave_nfl (by simp [flat, flats, hvf])]
    refine ⟨v, Hc, _, rfl, clean_leave ?_, hB, hvj, by omega, hcm, hn', by omega, hkeep⟩
    simp only [clean_andI, clean_sn, hce, and_true, true_and]; omega
/-- Types of mere bytes. -/
theorem form_bytes {t : Int} (ht : ¬ madeT t) : ∃ c : UInt8, formS t = [c] ∧ c.toNat ≠ 104 ∧ c.toNat ≠ 112 ∧ c.toNat ≠ 109 ∧ c.toNat ≠ 115 ∧ c.toNat ≠ 108 := by
  unfold madeT at ht
  rcases kinds_cases t with rfl | rfl | rfl | rfl | rfl | rfl | rfl | rfl | rfl | h
  · exact ⟨97, rfl, by decide, by decide, by decide, by decide, by decide⟩
  · omega
  · omega
  · omega
  · omega
  · omega
  · exact ⟨120, rfl, by decide, by decide, by decide, by decide, by decide⟩
  · exact ⟨113, rfl, by decide, by decide, by decide, by decide, by decide⟩
  · omega
  · refine ⟨114, ?_, by decide, by decide, by decide, by decide, by decide⟩
    obtain ⟨h1, h2, h3, h4, h5, h6, h7, h8, h9⟩ := h
    unfold formS
    rw [if_neg h1, if_neg h2, if_neg h3, if_neg h4, if_neg h5, if_neg h6, if_neg h7, if_neg h8, if_neg h9]
/-- Bytes appended to what is full: all stays as it was. -/
theorem Bf.appF {mb : Nat} {H : Hp} {y : AV} {bs : List UInt8} (h : Bf mb H y bs) (hm : mb < H.length) (hy : y = .nils ∨ ∃ b, y = .slice b 0 bs.length (.ex bs.length)) (xs : List UInt8) (hf : fits (bs.length + xs.length) 1 = true) :
    ∃ v' T e', (∀ kk, stepK (appTo Tryd.prog (.slice 5 1 1) y (u8s xs, xs.length) H) kk = kk (v', H ++ T, e')) ∧ Bf mb (H ++ T) v' (bs ++ xs) ∧ clean mb e' ∧ e'.es = none ∧ ((v' = y ∧ T = [] ∧ xs = []) ∨ (flat v' = false ∧ ∃ j, bk v' = some j ∧ H.length ≤ j)) := by
  by_cases hx : xs = []
  · subst hx
    obtain rfl | ⟨b, rfl⟩ := hy
    · obtain ⟨_, rfl⟩ | ⟨b, c, post, k, _, hh, _⟩ := h
      · refine ⟨.nils, [], z0, fun kk => ?_, .inl ⟨rfl, rfl⟩, by simp [clean, z0, low], rfl, .inl ⟨rfl, rfl, rfl⟩⟩
        rw [appTo_nils (by decide) zok_31]
        simp [guardK_tt]
      · cases hh
    · have hB := h
      obtain ⟨hh, _⟩ | ⟨b', c, post, k, hb, hh, hg, hc⟩ := h
      · cases hh
      cases hh
      obtain ⟨n, hn, h5, h6, h7⟩ | ⟨hn, _⟩ := hc
      · cases hn
        refine ⟨.slice b 0 bs.length (.ex bs.length), [], ⟨none, some b⟩, fun kk => ?_, by simpa using hB, by simp [clean, low]; omega, rfl, .inl ⟨rfl, rfl, rfl⟩⟩
        rw [appTo_ex (by decide) zok_31]
        have hd : decide (bs.length + 0 ≤ bs.length) = true := by simp
        have hcan : canWr k bs.length = true := by
          rcases h7 with rfl | ⟨st, rfl⟩
          · rfl
          · simp [canWr]
        have hw : wr H b (0 + bs.length * 1) (u8s []) = some (H, ⟨none, some b⟩) := by
          unfold wr
          rw [hg]
          simp only [Nat.zero_add, Nat.mul_one]
          have hs : splice (u8s bs ++ post) bs.length (u8s []) = u8s bs ++ post := by have := splice_end (bs := bs) (xs := []) (post := post) (by simp); simpa using this
          rw [if_pos ⟨by rw [List.length_append, u8s_len, u8s_len]; simp, hcan, u8s_scal⟩, hs, set_get hg]
          rfl
        simp only [List.length_nil, hd, guardK_tt, hw, bindK_some]
        simp
      · cases hn
  · have hp : 0 < xs.length := List.length_pos_iff.2 hx
    have hF : RdF H y bs := by
      obtain ⟨rfl, rfl⟩ | ⟨b', c, post, k, hb, rfl, hg, hc⟩ := h
      · exact .inl ⟨rfl, rfl⟩
      · obtain hy | ⟨b, hy⟩ := hy
        · cases hy
        · cases hy
          exact .inr ⟨b', 0, [], post, _, k, rfl, rfl, hg⟩
    refine ⟨.slice H.length 0 (bs.length + xs.length) (.op 0), [.cells (u8s (bs ++ xs)) 5 (.op 0 false)], z0, fun kk => ?_, .inr ⟨H.length, .op 0, [], .op 0 false, hm, by simp, by simp, .inr ⟨rfl, rfl, false, rfl⟩⟩, by simp [clean, z0, low], rfl, .inr ⟨rfl, _, rfl, Nat.le_refl _⟩⟩
    have := hF.app (u8s xs) xs.length hp (u8s_len) hf [] kk
    simpa [u8s_app] using this
theorem rdata_PutR (t : Int) (d : Dt) (H : Hp) (mb tb : Nat) (tab : Tab) (bv : AV) (bs : List UInt8) (ht : ¬ madeT t) (hk : Tk H) (hd : d.wf) (hgd : goodB t d = true) (hm : mb < H.length)
    (hv : Bf mb H bv bs) (hb : bs.length ≤ 104857600) :
    callK Tryd.prog 10 [bv, .ptr tb 0, .int .u16 t, .agg d.cells] H (fun r => ∃ v T e, r = (.tuple [v, .int .i64 0], H ++ T, e) ∧ clean mb e ∧ Bf mb (H ++ T) v (bs ++ d.raw) ∧ (bk v = bk bv ∨ ∃ j, bk v = some j ∧ H.length ≤ j)) := by
  obtain ⟨c, hF, n1, n2, n3, n4, n5⟩ := form_bytes ht
  have hfa := form_ascii (t := t)
  have hck := fun l k => rdata_Check t d (H ++ l) k (hk.old l) hd
  rw [show chk t d = 0 from if_pos hgd] at hck
  have hfm := fun l k => rdata_form t (H ++ l) k (hk.old l)
  rw [hF] at hfm hfa
  obtain ⟨y, hy, hyB, hyb, hye⟩ := hv.full
  have hln := fun H' => hv.rd.v.len H'
  refine callK_start (n := 88) (rs := [.tmp 8, .tmp 9]) Tryd.func10 rfl rfl rfl ?_
  intro σ hl ha
  have h0 := ha 0 (by simp)
  have h1 := ha 1 (by simp)
  have h2 := ha 2 (by simp)
  have h3 := ha 3 (by simp)
  clear ha
  simp only [Option.getD_some, List.getElem?_cons_zero, List.getElem?_cons_succ] at h0 h1 h2 h3
  have i0 : strIter [c] 0 = (.tuple [.bool true, .int .i64 0, .int .i32 c.toNat], 1) := by rw [strIter_a hfa]; rfl
  have i1 : strIter [c] 1 = (.tuple [.bool false], 1) := by rw [strIter_a hfa]; rfl
  have e1 : ((c.toNat : Int) == 104) = false := by simp; omega
  have e2 : ((c.toNat : Int) == 112) = false := by simp; omega
  have e3 : ((c.toNat : Int) == 109) = false := by simp; omega
  have e4 : ((c.toNat : Int) == 115) = false := by simp; omega
  have e5 : ((c.toNat : Int) == 108) = false := by simp; omega
  have hraw := hd.raw
  obtain ⟨v', T, e', hap, hB', hce, hes, hcase⟩ := (hyB.keep (H' := H ++ [.cells d.cells 37 .rw, .iter [c] 1]) (fun i x _ hx => get_app hx)).appF (by simp; omega) hye d.raw (by simp only [fits, decide_eq_true_eq]; omega)
  have hap' : ∀ kk, stepK (appTo Tryd.prog (.slice 5 1 1) y (List.map (fun b => AV.int .u8 (b.toNat : Int)) d.raw, d.raw.length) (H ++ [.cells d.cells 37 .rw, .iter [c] 1])) kk = kk (v', (H ++ [.cells d.cells 37 .rw, .iter [c] 1]) ++ T, e') := hap
  simp only [List.append_assoc, List.cons_append, List.nil_append] at hap' hB' 
  simp only [go_sem, simprocAttr, hl, h0, h1, h2, h3, hck, hfm, hy, hln, Dt.vc, Dt.l8]
  rw [go_loop]
  simp only [go_sem, simprocAttr, hl, h0, h1, h2, h3, i0, i1, e1, e2, e3, e4, e5, Dt.l0, hap']
  rw [go_loop]
  simp only [go_sem, simprocAttr, hl, h0, h1, h2, h3, i0, i1, e1, e2, e3, e4, e5, Dt.l0, hap']
  have hcl : clean mb ((Ef.and ⟨none, some (H.length + 1)⟩ e').and ⟨none, some (H.length + 1)⟩) := by
    simp only [clean_andI, clean_sn, hce, and_true, true_and]; omega
  rcases hcase with ⟨rfl, rfl, hr⟩ | ⟨hvf, j, hj, hjl⟩
  · rcases hye with rfl | ⟨b, rfl⟩
    · have hes' : ((Ef.and ⟨none, some (H.length + 1)⟩ e').and ⟨none, some (H.length + 1)⟩).es = none := by simp [Ef.and, hes, omin]
      refine ⟨.nils, [], ⟨low H.length ((Ef.and ⟨none, some (H.length + 1)⟩ e').and ⟨none, some (H.length + 1)⟩).es, low H.length ((Ef.and ⟨none, some (H.length + 1)⟩ e').and ⟨none, some (H.length + 1)⟩).ws⟩, ?_, clean_leave hcl, ?_, .inl hyb⟩
      · unfold leave
        rw [if_pos ⟨by simp [flat, flats], by rw [hes']; rfl⟩, List.take_left, List.append_nil]
      · rw [hr, List.append_nil, List.append_nil]; exact hyB
    · refine ⟨_, _, _, leave_nfl (by simp [flat, flats]), clean_leave hcl, hB', .inl hyb⟩
  · refine ⟨_, _, _, leave_nfl (by simp [flat, flats, hvf]), clean_leave hcl, hB', .inr ⟨j, hj, ?_⟩⟩
    simp at hjl; omega
/-- What is refused. -/
theorem rdata_PutN (t : Int) (d : Dt) (H : Hp) (tb : Nat) (bv : AV) (k) (hk : Tk H) (hd : d.wf) (hgd : goodB t d = false) :
    callK Tryd.prog 10 [bv, .ptr tb 0, .int .u16 t, .agg d.cells] H k = k (.tuple [.nils, .int .i64 40], H, z0) := by
  have hck := fun l k => rdata_Check t d (H ++ l) k (hk.old l) hd
  rw [show chk t d = 40 from if_neg (by rw [hgd]; simp)] at hck
  refine callK_eq (r := (.tuple [.nils, .int .i64 40], H, z0)) ?_ k
  refine callK_start (n := 88) (rs := [.tmp 8, .tmp 9]) Tryd.func10 rfl rfl rfl ?_
  intro σ hl ha
  have h0 := ha 0 (by simp)
  have h1 := ha 1 (by simp)
  have h2 := ha 2 (by simp)
  have h3 := ha 3 (by simp)
  clear ha
  simp only [Option.getD_some, List.getElem?_cons_zero, List.getElem?_cons_succ] at h0 h1 h2 h3
  simp only [go_sem, simprocAttr, hl, h0, h1, h2, h3, hck, Dt.vc, Dt.l8]
/-- No table. -/
theorem rdata_Put0 (t : Int) (cs : List AV) (H : Hp) (bv : AV) (k) :
    callK Tryd.prog 10 [bv, .nilp, .int .u16 t, .agg cs] H k = k (.tuple [.nils, .int .i64 8], H, z0) := by
  refine callK_eq (r := (.tuple [.nils, .int .i64 8], H, z0)) ?_ k
  refine callK_start (n := 88) (rs := [.tmp 8, .tmp 9]) Tryd.func10 rfl rfl rfl ?_
  intro σ hl ha
  have h0 := ha 0 (by simp)
  have h1 := ha 1 (by simp)
  have h2 := ha 2 (by simp)
  have h3 := ha 3 (by simp)
  clear ha
  simp only [Option.getD_some, List.getElem?_cons_zero, List.getElem?_cons_succ] at h0 h1 h2 h3
  simp only [go_sem, simprocAttr, hl, h0, h1, h2, h3]
end Go.Proofs.YtgkpgpdkolpfkaaDoor.V
namespace Go.Proofs.YtgkpgpdkolpfkaaDoor.V
open Go
set_option linter.unusedSimpArgs false
set_option linter.unusedVariables false

/-- A row that append made, at or behind a place. -/
def Og (n : Nat) (e : TypeId) (H : Hp) (v : AV) (cs : List AV) : Prop := (v = .nils ∧ cs = []) ∨ ∃ b, n ≤ b ∧ v = .slice b 0 cs.length (.op 0) ∧ H[b]? = some (.cells cs e (.op 0 false)) ∧ cs ≠ []
theorem Og.keep {n : Nat} {e : TypeId} {H H' : Hp} {v : AV} {cs : List AV} (h : Og n e H v cs) (hk : ∀ (i : Nat) (x : ABlk), bk v = some i → H[i]? = some x → H'[i]? = some x) : Og n e H' v cs := by
  obtain h | ⟨b, h1, rfl, h3, h4⟩ := h
  · exact .inl h
  · exact .inr ⟨b, h1, rfl, hk b _ rfl h3, h4⟩
theorem Og.cells {n : Nat} {e : TypeId} {H : Hp} {v : AV} {cs : List AV} (h : Og n e H v cs) {i : Nat} (hi : bk v = some i) : n ≤ i ∧ H[i]? = some (.cells cs e (.op 0 false)) := by
  obtain ⟨rfl, _⟩ | ⟨b, h1, rfl, h3, h4⟩ := h
  · cases hi
  · cases hi; exact ⟨h1, h3⟩
theorem Og.scl {n : Nat} {e : TypeId} {H : Hp} {v : AV} {cs : List AV} (h : Og n e H v cs) : scal v = true := by
  obtain ⟨rfl, _⟩ | ⟨b, h1, rfl, h3, h4⟩ := h <;> rfl
theorem Og.vc {n : Nat} {e : TypeId} {H : Hp} {v : AV} {cs : List AV} (h : Og n e H v cs) : vcells v = [v] := by
  obtain ⟨rfl, _⟩ | ⟨b, h1, rfl, h3, h4⟩ := h <;> rfl
theorem Og.appd {n : Nat} {e : TypeId} {H : Hp} {v : AV} {cs : List AV} (h : Og n e H v cs) : appended H 1 v = some (cs, cs.length) := by
  obtain ⟨rfl, rfl⟩ | ⟨b, h1, rfl, h3, h4⟩ := h
  · rfl
  · have hr : V.rd H b 0 (cs.length * 1) = some cs := by
      unfold V.rd
      rw [h3]
      simp
    simp only [appended, hr, Option.map_some]
theorem Og.len {n : Nat} {e t w : Nat} {H : Hp} {v : AV} {cs : List AV} (h : Og n e H v cs) (ht : tsh Tryd.prog t = some (.slice e 1 w)) (H' : Hp) : evLen Tryd.prog t v H' = some (.int .i64 cs.length) := by
  obtain ⟨rfl, rfl⟩ | ⟨b, h1, rfl, h3, h4⟩ := h <;> simp only [evLen, ht] <;> rfl
theorem Og.at {n : Nat} {e t w : Nat} {H : Hp} {v : AV} {cs : List AV} (h : Og n e H v cs) (ht : tsh Tryd.prog t = some (.slice e 1 w)) {i : Nat} {x : AV} (hx : cs[i]? = some x) :
    ∃ b, evIndexAddr Tryd.prog t v (.int .i64 (i : Nat)) = some (.ptr b i) ∧ H[b]? = some (.cells cs e (.op 0 false)) ∧ ∀ (e' : TypeId) (k : Kd), ldC i 1 false (.cells cs e' k) = some x := by
  have hi := (List.getElem?_eq_some_iff.1 hx).1
  obtain ⟨rfl, rfl⟩ | ⟨b, h1, rfl, h3, h4⟩ := h
  · simp at hi
  · refine ⟨b, ?_, h3, fun e' k => by rw [ldC_f]; exact hx⟩
    simp only [evIndexAddr, ht]
    rw [if_pos (by omega)]
    simp
/-- Elements appended. -/
theorem Og.app {n : Nat} {e w : Nat} {H : Hp} {v : AV} {cs : List AV} (h : Og n e H v cs) (hn : n ≤ H.length) (zk : zok Tryd.prog e 1 = true) (xs : List AV) (hsc : xs.all scal = true) (hf : fits (cs.length + xs.length) w = true) :
    ∃ (v' : AV) (H' : Hp) (e' : Ef), (∀ kk, stepK (appTo Tryd.prog (.slice e 1 w) v (xs, xs.length) H) kk = kk (v', H', e')) ∧ Og n e H' v' (cs ++ xs) ∧ H.length ≤ H'.length ∧
      (∀ (i : Nat) (x : ABlk), bk v ≠ some i → H[i]? = some x → H'[i]? = some x) ∧ clean n e' ∧ (bk v' = bk v ∨ ∃ j, bk v' = some j ∧ H.length ≤ j) ∧ (xs ≠ [] → flat v' = false) ∧ (xs = [] → v' = v ∧ H' = H) := by
  obtain ⟨rfl, rfl⟩ | ⟨b, hb, rfl, hg, hne⟩ := h
  · by_cases hx : xs = []
    · subst hx
      refine ⟨.nils, H, z0, fun kk => ?_, .inl ⟨rfl, rfl⟩, Nat.le_refl _, fun i x _ hx => hx, by simp [clean, z0, low], .inl rfl, fun h => absurd rfl h, fun _ => ⟨rfl, rfl⟩⟩
      rw [appTo_nils (by decide) zk]
      simp [guardK_tt]
    · have hp : 0 < xs.length := List.length_pos_iff.2 hx
      refine ⟨.slice H.length 0 xs.length (.op 0), H ++ [.cells xs e (.op 0 false)], z0, fun kk => ?_, .inr ⟨H.length, hn, by simp, by simp, by simpa using hx⟩, by simp, fun i x _ hx => get_app hx, by simp [clean, z0, low], .inr ⟨_, rfl, Nat.le_refl _⟩, fun _ => rfl, fun h => absurd h hx⟩
      rw [appTo_nils (by decide) zk]
      have hd : decide (xs.length = 0) = false := by simp; exact hx
      have hf : fits xs.length w = true := by simpa using hf
      simp only [hd, guardK_ft, hf, true_and]
  · have hlt := lt_of_get hg
    by_cases hx : xs = []
    · subst hx
      refine ⟨.slice b 0 cs.length (.op 0), H, ⟨none, some b⟩, fun kk => ?_, .inr ⟨b, hb, by simp, by simpa using hg, by simpa using hne⟩, Nat.le_refl _, fun i x _ hx => hx, by simp [clean, low]; omega, .inl rfl, fun h => absurd rfl h, fun _ => ⟨rfl, rfl⟩⟩
      rw [appTo_op (by decide) zk, hg, bindK_some, appO_c]
      have hd : decide (0 + (cs.length + 0) * 1 ≤ cs.length) = true := by simp
      have hw : wr H b (0 + cs.length * 1) [] = some (H, ⟨none, some b⟩) := by
        unfold wr
        rw [hg]
        simp only [Nat.zero_add, Nat.mul_one]
        have hs : splice cs cs.length [] = cs := by simp [splice]
        rw [if_pos ⟨by simp, by simp [canWr], by simp⟩, hs, set_get hg]
        rfl
      simp only [List.length_nil, hd, guardK_tt, hw, bindK_some]
      simp
    · have hp : 0 < xs.length := List.length_pos_iff.2 hx
      refine ⟨.slice H.length 0 (cs.length + xs.length) (.op 0), H.set b .dead ++ [.cells (cs ++ xs) e (.op 0 false)], ⟨none, some b⟩, fun kk => ?_, .inr ⟨H.length, hn, by simp, by rw [List.getElem?_append_right (by simp)]; simp, by simp [hne]⟩, by simp,
        fun i x hi hx => get_app (by rw [List.getElem?_set_ne (by rintro rfl; exact hi rfl)]; exact hx), by simp [clean, low]; omega, .inr ⟨_, rfl, Nat.le_refl _⟩, fun _ => rfl, fun h => absurd h hx⟩
      rw [appTo_op (by decide) zk, hg, bindK_some, appO_c]
      have hd : decide (cs.length + xs.length ≤ cs.length) = false := by simp; omega
      have hk : (cs.drop 0).take cs.length ++ xs = cs ++ xs := by simp
      simp only [Nat.zero_add, Nat.mul_one, hd, guardK_ft, hk, hf, hsc]
      simp
attribute [local irreducible] go goOps goD opK callK callT stepK leaveTo nextK

/-! ### the document's table -/
def namC (t : Tab) : List AV := t.map fun x => .str x.1
def plcC (t : Tab) : List AV := t.map fun x => .int .i64 (x.2 : Nat)
theorem namC_at {t : Tab} {i : Nat} {x : List UInt8 × Nat} (h : t[i]? = some x) : (namC t)[i]? = some (.str x.1) := by simp [namC, h]
theorem plcC_at {t : Tab} {i : Nat} {x : List UInt8 × Nat} (h : t[i]? = some x) : (plcC t)[i]? = some (.int .i64 (x.2 : Nat)) := by simp [plcC, h]
theorem namC_len (t : Tab) : (namC t).length = t.length := by simp [namC]
theorem plcC_len (t : Tab) : (plcC t).length = t.length := by simp [plcC]
theorem namC_app (a b : Tab) : namC (a ++ b) = namC a ++ namC b := by simp [namC]
theorem plcC_app (a b : Tab) : plcC (a ++ b) = plcC a ++ plcC b := by simp [plcC]
theorem namC_scal (t : Tab) : (namC t).all scal = true := by simp [namC, scal]
theorem plcC_scal (t : Tab) : (plcC t).all scal = true := by simp [plcC, scal]
/-- The document's table, as it lies. -/
def RT (H : Hp) (rb : Nat) (t : Tab) : Prop := ∃ nv pv, H[rb]? = some (.cells [nv, pv] 30 .rw) ∧ Og (rb + 1) 33 H nv (namC t) ∧ Og (rb + 1) 3 H pv (plcC t)
theorem shN : tsh Tryd.prog 27 = some (.slice 33 1 16) := tsh_27
theorem shI : tsh Tryd.prog 28 = some (.slice 3 1 8) := tsh_28
/-- What find comes to. -/
def fnd (t : Tab) (s : List UInt8) : Int := match tget t s with
  | some p => (p : Int)
  | none => -1
theorem tget_drop {t : Tab} {i : Nat} {x : List UInt8 × Nat} {s : List UInt8} (h : t[i]? = some x) (hx : x.1 ≠ s) : tget (t.drop i) s = tget (t.drop (i + 1)) s := by
  rw [drop_at h]
  obtain ⟨k, p⟩ := x
  exact if_neg hx
theorem tget_at {t : Tab} {i : Nat} {x : List UInt8 × Nat} {s : List UInt8} (h : t[i]? = some x) (hx : x.1 = s) : tget (t.drop i) s = some x.2 := by
  rw [drop_at h]
  obtain ⟨k, p⟩ := x
  exact if_pos hx
set_option maxRecDepth 20000 in
theorem ref_find (H : Hp) (rb : Nat) (t : Tab) (s : List UInt8) (k) (hR : RT H rb t) (hb : t.length ≤ 1048576) : callK Tryd.prog 86 [.ptr rb 0, .str s] H k = k (.int .i64 (fnd t s), H, z0) := by
  obtain ⟨nv, pv, hg, hN, hP⟩ := hR
  refine callK_eq (r := (.int .i64 (fnd t s), H, z0)) ?_ k
  refine callK_start (n := 31) (rs := [.tmp 4]) Tryd.func86 rfl rfl rfl ?_
  intro σ hl ha
  have h0 := ha 0 (by simp)
  have h1 := ha 1 (by simp)
  clear ha
  simp only [Option.getD_some, List.getElem?_cons_zero, List.getElem?_cons_succ] at h0 h1
  have l0 : ∀ e k, ldC 0 1 false (.cells [nv, pv] e k) = some nv := fun e k => rfl
  have l1 : ∀ e k, ldC 1 1 false (.cells [nv, pv] e k) = some pv := fun e k => rfl
  have hln := fun H' => hN.len shN H'
  rw [namC_len] at hln
  simp only [go_sem, simprocAttr, hl, h0, h1]
  refine go_rounds (fun n st => ∃ σ i, n + i = t.length ∧ tget t s = tget (t.drop i) s ∧ st = ⟨σ, H, z0⟩ ∧ σ.length = 31 ∧ fr σ 0 = .ptr rb 0 ∧ fr σ 1 = .str s ∧ fr σ 5 = .int .i64 (i : Nat)) t.length
    ⟨_, 0, rfl, rfl, rfl, by simp only [go_sem, simprocAttr, hl], by simp only [go_sem, simprocAttr, hl, h0], by simp only [go_sem, simprocAttr, hl, h1], by simp only [go_sem, simprocAttr, hl]⟩ ?_
  rintro n _ ⟨σ, i, hn, htg, rfl, hl, h0, h1, h5⟩
  by_cases hlt : i < t.length
  · obtain ⟨x, hx⟩ : ∃ x, t[i]? = some x := ⟨_, List.getElem?_eq_getElem hlt⟩
    obtain ⟨b, ha, hgb, hld⟩ := hN.at shN (namC_at hx)
    have hw := wrap_succ (show i < 9223372036854775807 by omega)
    by_cases hs : x.1 = s
    · obtain ⟨b', ha', hgb', hld'⟩ := hP.at shI (plcC_at hx)
      have hf : fnd t s = (x.2 : Int) := by unfold fnd; rw [htg, tget_at hx hs]
      have e1 : (x.1 == s) = true := by rw [hs]; exact beq_self_eq_true _
      simp only [go_sem, simprocAttr, hl, h0, h1, h5, hg, l0, l1, hln, hlt, ha, hgb, hld, e1, ha', hgb', hld', hf]
    · have e1 : (x.1 == s) = false := by rw [beq_eq_false_iff_ne]; exact hs
      simp only [go_sem, simprocAttr, hl, h0, h1, h5, hg, l0, l1, hln, hlt, ha, hgb, hld, e1, hw]
      exact ⟨n - 1, by omega, _, i + 1, by omega, by rw [htg, tget_drop hx hs], rfl, by simp only [go_sem, simprocAttr, hl], by simp only [go_sem, simprocAttr, hl, h0], by simp only [go_sem, simprocAttr, hl, h1], by simp only [go_sem, simprocAttr, hl]⟩
  · have hi : i = t.length := by omega
    subst hi
    rw [List.drop_length] at htg
    have hf : fnd t s = -1 := by unfold fnd; rw [htg]; rfl
    simp only [go_sem, simprocAttr, hl, h0, h1, h5, hg, l0, l1, hln, hlt, hf]
end Go.Proofs.YtgkpgpdkolpfkaaDoor.V
namespace Go.Proofs.YtgkpgpdkolpfkaaDoor.V
open Go
set_option linter.unusedSimpArgs false
set_option linter.unusedVariables false
/-- What the document's table leaves alone: all that is no row of names or of places. -/
def frz : ABlk → Bool
  | .cells _ e (.op _ _) => e == 5
  | _ => true
theorem clean_mono {n m : Nat} {e : Ef} (h : clean m e) (hn : n ≤ m) : clean n e := by
  have hh : ∀ x : Option Nat, low m x = none → low n x = none := by
    intro x hx
    cases x with
    | none => rfl
    | some y => rw [low_sI] at hx ⊢; omega
  exact ⟨hh _ h.1, hh _ h.2⟩
attribute [local irreducible] go goOps goD opK callK callT stepK leaveTo nextK
set_option maxRecDepth 20000 in
theorem ref_keep (H : Hp) (rb : Nat) (t t2 : Tab) (nv2 pv2 : AV) (hR : RT H rb t) (hN2 : Og (rb + 1) 33 H nv2 (namC t2)) (hP2 : Og (rb + 1) 3 H pv2 (plcC t2)) (hb : t.length + t2.length ≤ 1048576) :
    ∃ (H' : Hp) (e : Ef), (∀ k, callK Tryd.prog 87 [.ptr rb 0, nv2, pv2] H k = k (.tuple [], H', e)) ∧ clean rb e ∧ H.length ≤ H'.length ∧ RT H' rb (t ++ t2) ∧ (∀ (i : Nat) (x : ABlk), i ≠ rb → frz x = true → H[i]? = some x → H'[i]? = some x) := by
  obtain ⟨nv, pv, hg, hN, hP⟩ := hR
  have hlt := lt_of_get hg
  obtain ⟨v1, H1, e1, ha1, hO1, hl1, hk1, hc1, _, hf1, hz1⟩ := hN.app (w := 16) (by omega) zok_27 (namC t2) (namC_scal t2) (by rw [namC_len, namC_len]; simp only [fits, decide_eq_true_eq]; omega)
  have hnb : ∀ i, bk nv = some i → ∃ cs k, H[i]? = some (.cells cs 33 k) := fun i hi => ⟨_, _, (hN.cells hi).2⟩
  have hpb : ∀ i, bk pv = some i → ∃ cs k, H[i]? = some (.cells cs 3 k) := fun i hi => ⟨_, _, (hP.cells hi).2⟩
  have hrb1 : H1[rb]? = some (.cells [nv, pv] 30 .rw) := hk1 rb _ (by
    intro hh; obtain ⟨cs, k, hh⟩ := hnb _ hh; rw [hg] at hh; cases hh) hg
  obtain ⟨H2, hH2⟩ : ∃ H2, H2 = H1.set rb (.cells [v1, pv] 30 .rw) := ⟨_, rfl⟩
  have h2l : H2.length = H1.length := by rw [hH2]; simp
  have h2r : H2[rb]? = some (.cells [v1, pv] 30 .rw) := by rw [hH2, List.getElem?_set_self (by omega)]
  have h2g : ∀ (i : Nat) (x : ABlk), i ≠ rb → H1[i]? = some x → H2[i]? = some x := fun i x hi hx => by rw [hH2, List.getElem?_set_ne (Ne.symm hi)]; exact hx
  have hO2 : Og (rb + 1) 33 H2 v1 (namC t ++ namC t2) := hO1.keep (fun i x hi hx => h2g i x (by have := (hO1.cells hi).1; omega) hx)
  have hP' : Og (rb + 1) 3 H2 pv (plcC t) := hP.keep (fun i x hi hx => h2g i x (by have := (hP.cells hi).1; omega) (hk1 i x (by
    intro hh; obtain ⟨cs, k, hh⟩ := hnb _ hh; rw [(hP.cells hi).2] at hh; cases hh) hx))
  have hP2' : Og (rb + 1) 3 H2 pv2 (plcC t2) := hP2.keep (fun i x hi hx => h2g i x (by have := (hP2.cells hi).1; omega) (hk1 i x (by
    intro hh; obtain ⟨cs, k, hh⟩ := hnb _ hh; rw [(hP2.cells hi).2] at hh; cases hh) hx))
  obtain ⟨v3, H3, e3, ha3, hO3, hl3, hk3, hc3, _, hf3, hz3⟩ := hP'.app (w := 8) (by omega) zok_28 (plcC t2) (plcC_scal t2) (by rw [plcC_len, plcC_len]; simp only [fits, decide_eq_true_eq]; omega)
  have hrb3 : H3[rb]? = some (.cells [v1, pv] 30 .rw) := hk3 rb _ (by
    intro hh; have := (hP'.cells hh).1; omega) h2r
  obtain ⟨H4, hH4⟩ : ∃ H4, H4 = H3.set rb (.cells [v1, v3] 30 .rw) := ⟨_, rfl⟩
  have h4g : ∀ (i : Nat) (x : ABlk), i ≠ rb → H3[i]? = some x → H4[i]? = some x := fun i x hi hx => by rw [hH4, List.getElem?_set_ne (Ne.symm hi)]; exact hx
  have hO4 : Og (rb + 1) 33 H4 v1 (namC t ++ namC t2) := hO2.keep (fun i x hi hx => h4g i x (by have := (hO2.cells hi).1; omega) (hk3 i x (by
    intro hh; have h5 := (hP'.cells hh).2; rw [(hO2.cells hi).2] at h5; simp only [Option.some.injEq, ABlk.cells.injEq] at h5; exact absurd h5.2.1 (by decide)) hx))
  have hO5 : Og (rb + 1) 3 H4 v3 (plcC t ++ plcC t2) := hO3.keep (fun i x hi hx => h4g i x (by have := (hO3.cells hi).1; omega) hx)
  have hRT : RT H4 rb (t ++ t2) := ⟨v1, v3, by rw [hH4, List.getElem?_set_self (by omega)], by rw [namC_app]; exact hO4, by rw [plcC_app]; exact hO5⟩
  have hkeep : ∀ (i : Nat) (x : ABlk), i ≠ rb → frz x = true → H[i]? = some x → H4[i]? = some x := by
    intro i x hi hx hxx
    refine h4g i x hi (hk3 i x ?_ (h2g i x hi (hk1 i x ?_ hxx)))
    · intro hh
      have h5 := (hP.cells hh).2
      rw [hxx] at h5; cases h5; cases hx
    · intro hh
      have h5 := (hN.cells hh).2
      rw [hxx] at h5; cases h5; cases hx
  have hA := hN2.appd
  have hA2 := hP2'.appd
  have s0 : splice [nv, pv] 0 [v1] = [v1, pv] := rfl
  have s1 : splice [v1, pv] 1 [v3] = [v1, v3] := rfl
  have q1 := hO1.scl
  have q3 := hO3.scl
  have qv1 := hO1.vc
  have qv3 := hO3.vc
  have l0 : ∀ e k, ldC 0 1 false (.cells [nv, pv] e k) = some nv := fun e k => rfl
  have l1 : ∀ e k, ldC 1 1 false (.cells [v1, pv] e k) = some pv := fun e k => rfl
  have hfin : ∀ (E : Ef), (t2 ≠ [] → Es rb E) → leave H.length (.tuple []) H4 E = (.tuple [], H4, ⟨low H.length E.es, low H.length E.ws⟩) := by
    intro E hE
    by_cases h2 : t2 = []
    · obtain ⟨rfl, rfl⟩ := hz1 (by rw [h2]; rfl)
      obtain ⟨_, rfl⟩ := hz3 (by rw [h2]; rfl)
      exact leave_len (by rw [hH4, List.length_set, h2l])
    · exact (hE h2).leave hlt _ _
  obtain ⟨o1, ho1, hq1, hr1⟩ : ∃ o1, (if flat v1 = true then none else some rb) = o1 ∧ low rb o1 = none ∧ (t2 ≠ [] → o1 = some rb) := by
    refine ⟨_, rfl, ?_, fun h => ?_⟩
    · split <;> simp [low]
    · have := hf1 (by rw [ne_eq, List.eq_nil_iff_length_eq_zero, namC_len]; simpa using h)
      simp [this]
  obtain ⟨o3, ho3, hq3⟩ : ∃ o3, (if flat v3 = true then none else some rb) = o3 ∧ low rb o3 = none := by
    refine ⟨_, rfl, ?_⟩
    split <;> simp [low]
  have hcb1 : clean rb e1 := clean_mono hc1 (by omega)
  have hcb3 : clean rb e3 := clean_mono hc3 (by omega)
  have hset1 : H1.set rb (.cells [v1, pv] 30 .rw) = H2 := hH2.symm
  have hset3 : H3.set rb (.cells [v1, v3] 30 .rw) = H4 := hH4.symm
  have hmain : callK Tryd.prog 87 [.ptr rb 0, nv2, pv2] H (fun r => ∃ E, clean rb E ∧ r = (.tuple [], H4, E)) := by
    refine callK_start (n := 24) (rs := []) Tryd.func87 rfl rfl rfl ?_
    intro σ hl ha
    have h0 := ha 0 (by simp)
    have h1 := ha 1 (by simp)
    have h2 := ha 2 (by simp)
    clear ha
    simp only [Option.getD_some, List.getElem?_cons_zero, List.getElem?_cons_succ] at h0 h1 h2
    simp only [go_sem, simprocAttr, hl, h0, h1, h2, hg, l0, l1, hA, hA2, ha1, ha3, hrb1, hrb3, h2r, qv1, qv3, q1, q3, s0, s1, ho1, ho3, hset1, hset3]
    refine ⟨_, clean_leave ?_, hfin _ ?_⟩
    · simp only [clean_andI, hcb1, hcb3, true_and, and_true]
      exact ⟨⟨hq1, low_sI.2 (Nat.le_refl _)⟩, hq3, low_sI.2 (Nat.le_refl _)⟩
    · intro h2
      rw [hr1 h2]
      exact ((EsI.2 (.inr (EsS.2 (Nat.le_refl _)))).l).l
  obtain ⟨E, hE, hk⟩ := callK_exP (α := Ef) (fun E => clean rb E) (fun E => (.tuple [], H4, E)) hmain
  exact ⟨H4, E, hk, hE, by rw [hH4, List.length_set]; omega, hRT, hkeep⟩
/-- A name's letters up to its end. -/
def gl0 (L : List (List UInt8)) : List UInt8 := L.flatMap lb
theorem gl0_app (a b : List (List UInt8)) : gl0 (a ++ b) = gl0 a ++ gl0 b := by simp [gl0]
theorem glue_ge : ∀ L : List (List UInt8), L.length < (glue L).length
  | [] => by simp [glue]
  | l :: L => by have := glue_ge L; rw [glue_len_cons]; simp only [List.length_cons]; omega
theorem gl0_one (l : List UInt8) : gl0 [l] = lb l := by simp [gl0]
set_option maxRecDepth 20000 in
theorem ref_Glue (H : Hp) (b o n : Nat) (c : Cap) (L : List (List UInt8)) (cs : List AV) (kd : Kd) (k) (hg : H[b]? = some (.cells cs 9 kd)) (hn : n = L.length) (hat : ∀ i l, L[i]? = some l → cs[o + i]? = some (.str l)) (hL : ∀ l ∈ L, l.length ≤ 63) (hlen : (glue L).length ≤ 255) :
    callK Tryd.prog 85 [.slice b o n c] H k = k (.str (glue L), H, z0) := by
  subst hn
  have hge := glue_ge L
  refine callK_eq (r := (.str (glue L), H, z0)) ?_ k
  refine callK_start (n := 28) (rs := [.tmp 2]) Tryd.func85 rfl rfl rfl ?_
  intro σ hl ha
  have h0 := ha 0 (by simp)
  clear ha
  simp only [Option.getD_some, List.getElem?_cons_zero, List.getElem?_cons_succ] at h0
  simp only [go_sem, simprocAttr, hl, h0]
  refine go_rounds (fun m st => ∃ σ i T e, m + i = L.length ∧ st = ⟨σ, H ++ T, e⟩ ∧ clean H.length e ∧ σ.length = 28 ∧ fr σ 0 = .slice b o L.length c ∧ fr σ 3 = .str (gl0 (L.take i)) ∧ fr σ 4 = .int .i64 (i : Nat)) L.length
    ⟨_, 0, [], _, rfl, by rw [List.append_nil], by simp [clean, z0, low], by simp only [go_sem, simprocAttr, hl], by simp only [go_sem, simprocAttr, hl, h0], by simp only [go_sem, simprocAttr, hl]; rfl, by simp only [go_sem, simprocAttr, hl]⟩ ?_
  rintro m _ ⟨σ, i, T, e, hm, rfl, hce, hl, h0, h3, h4⟩
  by_cases hlt : i < L.length
  · obtain ⟨l, hl'⟩ : ∃ l, L[i]? = some l := ⟨_, List.getElem?_eq_getElem hlt⟩
    have hcs := hat i l hl'
    have hl63 := hL l (List.mem_of_getElem? hl')
    have hg' : ∀ l', (H ++ l')[b]? = some (.cells cs 9 kd) := fun l' => get_app hg
    have hld : ∀ (e : TypeId) (k : Kd), ldC (o + i) 1 false (.cells cs e k) = some (.str l) := fun e k => by rw [ldC_f]; exact hcs
    have hw := wrap_succ (show i < 9223372036854775807 by omega)
    have w8 : IntKind.u8.wrap (l.length : Int) = ((UInt8.ofNat l.length).toNat : Int) := u8_nat l.length
    have hi' : (i : Int) < (L.length : Int) := by omega
    have hgs : gl0 (L.take (i + 1)) = gl0 (L.take i) ++ UInt8.ofNat l.length :: l := by rw [take_snoc hl', gl0_app, gl0_one, lb]
    have hta : (gl0 (L.take i)).length + (1 + l.length) ≤ 255 := by
      have h1 : glue L = gl0 (L.take (i + 1)) ++ glue (L.drop (i + 1)) := by
        unfold glue; rw [← List.append_assoc]; congr 1
        show gl0 L = gl0 _ ++ gl0 _
        rw [← gl0_app, List.take_append_drop]
      have h2 := congrArg List.length h1
      rw [hgs] at h2
      simp only [List.length_append, List.length_cons] at h2
      omega
    simp only [go_sem, simprocAttr, hl, h0, h3, h4, hi', hg', hld, hlt]
    refine go_drawZ tFollows (by kernel_rfl) ?_
    simp only [go_sem, simprocAttr, hl, h0, h3, h4, hi', hg', hld, hlt, w8, hw, bslice1]
    exact ⟨by unfold maxI; omega, by unfold maxI; omega, by kernel_rfl, m - 1, by omega, _, i + 1, T ++ [.cells [.int .u8 (UInt8.ofNat l.length).toNat] 5 .rw], _, by omega, rfl, hce, by simp only [go_sem, simprocAttr, hl], by simp only [go_sem, simprocAttr, hl, h0], by simp only [go_sem, simprocAttr, hl, hgs], by simp only [go_sem, simprocAttr, hl]⟩
  · have hi : i = L.length := by omega
    subst hi
    rw [List.take_length] at h3
    have hg0 : gl0 L ++ [0] = glue L := rfl
    have hll : (gl0 L).length + 1 ≤ 255 := by rw [← hg0] at hlen; simpa using hlen
    have hadd : evStr .add (gl0 L) [0] = some (.str (glue L)) := add_ok (m := 255) (n := 1) (by omega) (by simp) (by omega)
    simp only [go_sem, simprocAttr, hl, h0, h3, h4, hlt, hadd]
    exact leave_flat (by simp [flat, flats]) hce
end Go.Proofs.YtgkpgpdkolpfkaaDoor.V
namespace Go.Proofs.YtgkpgpdkolpfkaaDoor.V
open Go
set_option linter.unusedSimpArgs false
set_option linter.unusedVariables false

/-! ### plainly -/
/-- What the document's put comes to: the bytes, and what is to be remembered. -/
def refN (plain : Bool) (tab : Tab) : List (List UInt8) → Tab → List UInt8 → List UInt8 × Tab
  | [], new, out => (out ++ [0], new)
  | l :: L, new, out =>
    match tget tab (glue (l :: L)) with
    | some p => if plain = true then refN plain tab L new (out ++ lb l) else (out ++ be16 (49152 + p), new)
    | none => refN plain tab L (if out.length ≤ 16383 then new ++ [(glue (l :: L), out.length)] else new) (out ++ lb l)
theorem tget_app (a b : Tab) (s : List UInt8) : tget (a ++ b) s = match tget a s with | some p => some p | none => tget b s := by
  induction a with
  | nil => rfl
  | cons x r ih =>
    obtain ⟨k, p⟩ := x
    show (if k = s then some p else tget (r ++ b) s) = match (if k = s then some p else tget r s) with | some p => some p | none => tget b s
    by_cases h : k = s
    · rw [if_pos h, if_pos h]
    · rw [if_neg h, if_neg h]; exact ih
theorem tget_far {t : Tab} {s : List UInt8} (h : ∀ x ∈ t, s.length < x.1.length) : tget t s = none := by
  induction t with
  | nil => rfl
  | cons x r ih =>
    obtain ⟨k, p⟩ := x
    have h1 := h (k, p) (by simp)
    show (if k = s then some p else tget r s) = none
    rw [if_neg (by rintro rfl; simp at h1)]
    exact ih (fun x hx => h x (by simp [hx]))
theorem refN_putN (plain : Bool) (tab : Tab) : ∀ (L : List (List UInt8)) (new : Tab) (out : List UInt8), (∀ x ∈ new, (glue L).length < x.1.length) →
    putN plain L (tab ++ new) out = ((refN plain tab L new out).1, tab ++ (refN plain tab L new out).2)
  | [], new, out, h => rfl
  | l :: L, new, out, h => by
    have hg := glue_len_cons l L
    have h0 : tget (tab ++ new) (glue (l :: L)) = tget tab (glue (l :: L)) := by
      rw [tget_app, tget_far h]
      cases tget tab (glue (l :: L)) <;> rfl
    unfold putN refN
    rw [h0]
    cases tget tab (glue (l :: L)) with
    | some p =>
      simp only
      cases plain with
      | true => exact refN_putN true tab L new (out ++ lb l) (fun x hx => by have := h x hx; omega)
      | false => rfl
    | none =>
      simp only
      by_cases ho : out.length ≤ 16383
      · rw [if_pos ho, if_pos ho, List.append_assoc]
        refine refN_putN plain tab L (new ++ [(glue (l :: L), out.length)]) (out ++ lb l) (fun x hx => ?_)
        rcases List.mem_append.1 hx with hx | hx
        · have := h x hx; omega
        · simp only [List.mem_singleton] at hx; rw [hx]; simp only; omega
      · rw [if_neg ho, if_neg ho]
        exact refN_putN plain tab L new (out ++ lb l) (fun x hx => by have := h x hx; omega)
theorem refN_new (plain : Bool) (tab : Tab) : ∀ (L : List (List UInt8)) (new : Tab) (out : List UInt8), (refN plain tab L new out).2.length ≤ new.length + L.length
  | [], new, out => by simp [refN]
  | l :: L, new, out => by
    unfold refN
    split
    · split
      · have := refN_new plain tab L new (out ++ lb l); simp only [List.length_cons]; omega
      · simp only [List.length_cons]; omega
    · have := refN_new plain tab L (if out.length ≤ 16383 then new ++ [(glue (l :: L), out.length)] else new) (out ++ lb l)
      have h2 : (if out.length ≤ 16383 then new ++ [(glue (l :: L), out.length)] else new).length ≤ new.length + 1 := by split <;> simp
      simp only [List.length_cons]; omega

/-! ### what lies where -/
theorem Og.other {n n' : Nat} {e e' : TypeId} {H : Hp} {v v' : AV} {cs cs' : List AV} (h : Og n e H v cs) (h' : Og n' e' H v' cs') (hne : e ≠ e') {i : Nat} (hi : bk v = some i) : bk v' ≠ some i := by
  intro hh
  have h1 := (h.cells hi).2
  have h2 := (h'.cells hh).2
  rw [h1] at h2
  simp only [Option.some.injEq, ABlk.cells.injEq] at h2
  exact hne h2.2.1
theorem RT.old {H H' : Hp} {rb : Nat} {t : Tab} (h : RT H rb t) (hk : ∀ (i : Nat) (x : ABlk), H[i]? = some x → H'[i]? = some x) : RT H' rb t := by
  obtain ⟨nv, pv, h1, h2, h3⟩ := h
  exact ⟨nv, pv, hk _ _ h1, h2.keep (fun i x _ hx => hk i x hx), h3.keep (fun i x _ hx => hk i x hx)⟩
/-- The rows that the document's put makes. -/
structure Rw (H : Hp) (L : List (List UInt8)) (lk : Nat) (Hc : Hp) (nv pv ov : AV) (N P O : List AV) : Prop where
  le : H.length ≤ Hc.length
  N : Og H.length 33 Hc nv N
  P : Og H.length 3 Hc pv P
  O : Og H.length 5 Hc ov O
  lab : L ≠ [] → Hc[lk]? = some (.cells (strs L) 9 (.op 0 false))
  old : ∀ (i : Nat) (x : ABlk), H[i]? = some x → Hc[i]? = some x
section
variable {H Hc : Hp} {L : List (List UInt8)} {lk : Nat} {nv pv ov : AV} {N P O : List AV}
theorem Rw.more (h : Rw H L lk Hc nv pv ov N P O) (l : Hp) : Rw H L lk (Hc ++ l) nv pv ov N P O where
  le := by have := h.le; simp; omega
  N := h.N.keep (fun i x _ hx => get_app hx)
  P := h.P.keep (fun i x _ hx => get_app hx)
  O := h.O.keep (fun i x _ hx => get_app hx)
  lab := fun hL => get_app (h.lab hL)
  old := fun i x hx => get_app (h.old i x hx)
theorem Rw.appN (h : Rw H L lk Hc nv pv ov N P O) (xs : List AV) (hsc : xs.all scal = true) (hf : fits (N.length + xs.length) 16 = true) :
    ∃ (v' : AV) (H' : Hp) (e' : Ef), (∀ kk, stepK (appTo Tryd.prog (.slice 33 1 16) nv (xs, xs.length) Hc) kk = kk (v', H', e')) ∧ Rw H L lk H' v' pv ov (N ++ xs) P O ∧ clean H.length e' := by
  obtain ⟨v', H', e', h1, h2, h3, h4, h5, _, _, _⟩ := h.N.app (w := 16) h.le zok_27 xs hsc hf
  refine ⟨v', H', e', h1, ⟨by have := h.le; omega, h2, h.P.keep (fun i x hi hx => h4 i x (h.P.other h.N (by decide) hi) hx), h.O.keep (fun i x hi hx => h4 i x (h.O.other h.N (by decide) hi) hx), fun hL => h4 _ _ (fun hh => ?_) (h.lab hL), fun i x hx => h4 i x (fun hh => ?_) (h.old i x hx)⟩, h5⟩
  · have := (h.N.cells hh).2
    rw [h.lab hL] at this
    simp only [Option.some.injEq, ABlk.cells.injEq] at this
    exact absurd this.2.1 (by decide)
  · have := (h.N.cells hh).1
    have := lt_of_get hx
    omega
theorem Rw.appP (h : Rw H L lk Hc nv pv ov N P O) (xs : List AV) (hsc : xs.all scal = true) (hf : fits (P.length + xs.length) 8 = true) :
    ∃ (v' : AV) (H' : Hp) (e' : Ef), (∀ kk, stepK (appTo Tryd.prog (.slice 3 1 8) pv (xs, xs.length) Hc) kk = kk (v', H', e')) ∧ Rw H L lk H' nv v' ov N (P ++ xs) O ∧ clean H.length e' := by
  obtain ⟨v', H', e', h1, h2, h3, h4, h5, _, _, _⟩ := h.P.app (w := 8) h.le zok_28 xs hsc hf
  refine ⟨v', H', e', h1, ⟨by have := h.le; omega, h.N.keep (fun i x hi hx => h4 i x (h.N.other h.P (by decide) hi) hx), h2, h.O.keep (fun i x hi hx => h4 i x (h.O.other h.P (by decide) hi) hx), fun hL => h4 _ _ (fun hh => ?_) (h.lab hL), fun i x hx => h4 i x (fun hh => ?_) (h.old i x hx)⟩, h5⟩
  · have := (h.P.cells hh).2
    rw [h.lab hL] at this
    simp only [Option.some.injEq, ABlk.cells.injEq] at this
    exact absurd this.2.1 (by decide)
  · have := (h.P.cells hh).1
    have := lt_of_get hx
    omega
theorem Rw.appO (h : Rw H L lk Hc nv pv ov N P O) (xs : List AV) (hsc : xs.all scal = true) (hf : fits (O.length + xs.length) 1 = true) :
    ∃ (v' : AV) (H' : Hp) (e' : Ef), (∀ kk, stepK (appTo Tryd.prog (.slice 5 1 1) ov (xs, xs.length) Hc) kk = kk (v', H', e')) ∧ Rw H L lk H' nv pv v' N P (O ++ xs) ∧ clean H.length e' ∧ (xs ≠ [] → flat v' = false) := by
  obtain ⟨v', H', e', h1, h2, h3, h4, h5, _, h7, _⟩ := h.O.app (w := 1) h.le zok_31 xs hsc hf
  refine ⟨v', H', e', h1, ⟨by have := h.le; omega, h.N.keep (fun i x hi hx => h4 i x (h.N.other h.O (by decide) hi) hx), h.P.keep (fun i x hi hx => h4 i x (h.P.other h.O (by decide) hi) hx), h2, fun hL => h4 _ _ (fun hh => ?_) (h.lab hL), fun i x hx => h4 i x (fun hh => ?_) (h.old i x hx)⟩, h5, h7⟩
  · have := (h.O.cells hh).2
    rw [h.lab hL] at this
    simp only [Option.some.injEq, ABlk.cells.injEq] at this
    exact absurd this.2.1 (by decide)
  · have := (h.O.cells hh).1
    have := lt_of_get hx
    omega
end
end Go.Proofs.YtgkpgpdkolpfkaaDoor.V
namespace Go.Proofs.YtgkpgpdkolpfkaaDoor.V
open Go
set_option linter.unusedSimpArgs false
set_option linter.unusedVariables false
theorem Og.mono {n m : Nat} {e : TypeId} {H : Hp} {v : AV} {cs : List AV} (h : Og n e H v cs) (hm : m ≤ n) : Og m e H v cs := by
  obtain h | ⟨b, h1, h2⟩ := h
  · exact .inl h
  · exact .inr ⟨b, by omega, h2⟩
theorem bslice33 (s : List UInt8) (H : Hp) : evBuildSlice Tryd.prog 27 1 [(0, .str s)] H = some (.slice H.length 0 1 (.ex 1), H ++ [.cells [.str s] 33 .rw]) := by
  simp only [evBuildSlice, tsh_27, tzero_33, Option.bind_some]
  rfl
theorem bsliceI (n : Int) (H : Hp) : evBuildSlice Tryd.prog 28 1 [(0, .int .i64 n)] H = some (.slice H.length 0 1 (.ex 1), H ++ [.cells [.int .i64 n] 3 .rw]) := by
  simp only [evBuildSlice, tsh_28, tzero_3, Option.bind_some]
  rfl
theorem bslice2b (a b : Int) (H : Hp) : evBuildSlice Tryd.prog 31 2 [(0, .int .u8 a), (1, .int .u8 b)] H = some (.slice H.length 0 2 (.ex 2), H ++ [.cells [.int .u8 a, .int .u8 b] 5 .rw]) := by
  simp only [evBuildSlice, tsh_31, tzero_5, Option.bind_some]
  rfl
theorem RT.app {H H' : Hp} {rb n : Nat} {t : Tab} {ov : AV} {O : List AV} (h : RT H rb t) (hO : Og n 5 H ov O) (hn : rb < n) (hk : ∀ (i : Nat) (x : ABlk), bk ov ≠ some i → H[i]? = some x → H'[i]? = some x) : RT H' rb t := by
  obtain ⟨nv, pv, h1, h2, h3⟩ := h
  refine ⟨nv, pv, hk _ _ (fun hh => ?_) h1, h2.keep (fun i x hi hx => hk i x (h2.other hO (by decide) hi) hx), h3.keep (fun i x hi hx => hk i x (h3.other hO (by decide) hi) hx)⟩
  have := (hO.cells hh).1
  omega
/-- What the document's put ends with. -/
theorem ref_end {H Hc : Hp} {L : List (List UInt8)} {lk rb : Nat} {tab new : Tab} {nv pv ov : AV} {out : List UInt8} (hR : RT Hc rb tab) (hrb : rb < H.length) (hw : Rw H L lk Hc nv pv ov (namC new) (plcC new) (u8s out)) (ys : List UInt8) (hy : ys ≠ []) (hb : tab.length + new.length ≤ 1048576) (ho : out.length + ys.length ≤ 1048576000) :
    ∃ (H5 : Hp) (e5 : Ef) (v : AV) (H6 : Hp) (e6 : Ef), (∀ k, callK Tryd.prog 87 [.ptr rb 0, nv, pv] Hc k = k (.tuple [], H5, e5)) ∧ (∀ kk, stepK (appTo Tryd.prog (.slice 5 1 1) ov (u8s ys, ys.length) (H5 ++ [.cells (u8s ys) 5 .rw])) kk = kk (v, H6, e6)) ∧ clean rb e5 ∧ clean rb e6 ∧ flat v = false ∧
      Og H.length 5 H6 v (u8s (out ++ ys)) ∧ RT H6 rb (tab ++ new) ∧ H.length ≤ H6.length ∧ (∀ (i : Nat) (x : ABlk), i ≠ rb → frz x = true → H[i]? = some x → H6[i]? = some x) := by
  obtain ⟨H5, e5, h1, h2, h3, h4, h5⟩ := ref_keep Hc rb tab new nv pv hR (hw.N.mono (by omega)) (hw.P.mono (by omega)) hb
  have hO : Og H.length 5 (H5 ++ [.cells (u8s ys) 5 .rw]) ov (u8s out) := hw.O.keep (fun i x hi hx => by
    obtain ⟨q1, q2⟩ := hw.O.cells hi
    rw [q2] at hx; cases hx
    exact get_app (h5 i _ (by omega) rfl q2))
  have hle := hw.le
  obtain ⟨v, H6, e6, q1, q2, q3, q4, q5, q6, q7, _⟩ := hO.app (w := 1) (by simp; omega) zok_31 (u8s ys) u8s_scal (by rw [u8s_len, u8s_len]; simp only [fits, decide_eq_true_eq]; omega)
  rw [u8s_len] at q1
  refine ⟨H5, e5, v, H6, e6, h1, q1, h2, clean_mono q5 (by omega), q7 (by simpa [u8s] using hy), by rw [u8s_app]; exact q2, (h4.old (fun i x hx => get_app hx)).app hO hrb q4, by simp at q3; omega, fun i x hi hx hxx => q4 i x (fun hh => ?_) (get_app (h5 i x hi hx (hw.old i x hxx)))⟩
  have := (hO.cells hh).1
  have := lt_of_get hxx
  omega
attribute [local irreducible] go goOps goD opK callK callT stepK leaveTo nextK
set_option maxRecDepth 20000 in
set_option maxHeartbeats 4000000 in
theorem ref_put (H : Hp) (rb : Nat) (tab : Tab) (bv : AV) (bs : List UInt8) (L : List (List UInt8)) (plain : Bool) (hR : RT H rb tab) (hv : Rd H bv bs) (hL : nm (glue L) = some L) (hb : bs.length ≤ 104857600) (ht : tab.length ≤ 1000000) (hn : near tab) :
    callK Tryd.prog 67 [.ptr rb 0, bv, .str (glue L), .bool plain] H (fun r => ∃ v H' e, r = (.tuple [v, .int .i64 0], H', e) ∧ clean rb e ∧ flat v = false ∧ Og H.length 5 H' v (u8s (refN plain tab L [] bs).1) ∧
      RT H' rb (tab ++ (refN plain tab L [] bs).2) ∧ H.length ≤ H'.length ∧ (∀ (i : Nat) (x : ABlk), i ≠ rb → frz x = true → H[i]? = some x → H'[i]? = some x)) := by
  obtain ⟨_, hlab, hlen⟩ := nm_glue hL
  have hge := glue_ge L
  have hrb : rb < H.length := by obtain ⟨nv, pv, h1, _⟩ := hR; exact lt_of_get h1
  obtain ⟨⟨lv, lT⟩, hlB, hsp⟩ := ref_Split (glue L) H (by unfold maxI; omega)
  have hlB := hlB L hL
  rw [hL] at hsp
  simp only [Option.isSome_some] at hsp hlB
  have hlnl : ∀ H', evLen Tryd.prog 64 lv H' = some (.int .i64 L.length) := by
    obtain ⟨rfl, h2, h3⟩ | ⟨_, _, m, rfl, _⟩ := hlB
    · intro H'; rw [h3]; simp only [evLen, tsh_64]; rfl
    · intro H'; simp only [evLen, tsh_64]
  obtain ⟨lk, hlk1, hlk2, hlk3⟩ : ∃ lk, (L ≠ [] → lv = .slice lk 0 L.length (.op 0)) ∧ (L ≠ [] → (H ++ lT)[lk]? = some (.cells (strs L) 9 (.op 0 false))) ∧ (L ≠ [] → H.length ≤ lk) := by
    obtain ⟨rfl, h2, h3⟩ | ⟨_, _, m, rfl, hm⟩ := hlB
    · have : L = [] := List.eq_nil_of_length_eq_zero h3
      exact ⟨0, fun h => absurd this h, fun h => absurd this h, fun h => absurd this h⟩
    · exact ⟨H.length + m, fun _ => rfl, fun _ => by rw [hp_new]; exact hm, fun _ => by omega⟩
  have hrw0 : Rw H L lk (H ++ lT) .nils .nils .nils [] [] [] := ⟨by simp, .inl ⟨rfl, rfl⟩, .inl ⟨rfl, rfl⟩, .inl ⟨rfl, rfl⟩, hlk2, fun i x hx => get_app hx⟩
  have hap := (hv.old lT).appd
  obtain ⟨ov0, H0, e0, ha0, hrw0, hc0, _⟩ := hrw0.appO (u8s bs) u8s_scal (by rw [u8s_len]; simp only [fits, decide_eq_true_eq, List.length_nil]; omega)
  rw [u8s_len] at ha0
  simp only [List.nil_append] at hrw0
  refine callK_start (n := 98) (rs := [.tmp 8, .tmp 9]) Tryd.func67 rfl rfl rfl ?_
  intro σ hl ha
  have h0 := ha 0 (by simp)
  have h1 := ha 1 (by simp)
  have h2 := ha 2 (by simp)
  have h3 := ha 3 (by simp)
  clear ha
  simp only [Option.getD_some, List.getElem?_cons_zero, List.getElem?_cons_succ] at h0 h1 h2 h3
  simp only [go_sem, simprocAttr, hl, h0, h1, h2, h3, hsp, hap, ↓ha0]
  have hn0 : H.length ≤ H0.length := hrw0.le
  refine go_rounds (fun m st => ∃ σ i new out nv pv ov Hc e, m + i = L.length ∧ refN plain tab L [] bs = refN plain tab (L.drop i) new out ∧ new.length ≤ i ∧ out.length + (glue (L.drop i)).length = bs.length + (glue L).length ∧ st = ⟨σ, Hc, e⟩ ∧ clean H.length e ∧ Rw H L lk Hc nv pv ov (namC new) (plcC new) (u8s out) ∧
      σ.length = 98 ∧ fr σ 0 = .ptr rb 0 ∧ fr σ 3 = .bool plain ∧ fr σ 10 = lv ∧ fr σ 12 = ov ∧ fr σ 13 = nv ∧ fr σ 14 = pv ∧ fr σ 15 = .int .i64 (i : Nat)) L.length
    ⟨_, 0, [], bs, _, _, _, _, _, rfl, rfl, Nat.le_refl _, rfl, rfl, ?_, hrw0, by simp only [go_sem, simprocAttr, hl], by simp only [go_sem, simprocAttr, hl, h0], by simp only [go_sem, simprocAttr, hl, h3], by simp only [go_sem, simprocAttr, hl], by simp only [go_sem, simprocAttr, hl], by simp only [go_sem, simprocAttr, hl], by simp only [go_sem, simprocAttr, hl], by simp only [go_sem, simprocAttr, hl]⟩ ?_
  · simp only [clean_andI, clean_z, hc0, true_and, and_true]
  clear h0 h1 h2 h3 hl
  rintro m _ ⟨σ, i, new, out, nv, pv, ov, Hc, e, hmi, hrf, hnl, hol, rfl, hce, hw, hl, h0, h3, h10, h12, h13, h14, h15⟩
  have hRc := hR.old hw.old
  have hgp := glue_pos (L.drop i)
  by_cases hlt : i < L.length
  · have hLne : L ≠ [] := by rintro rfl; simp at hlt
    obtain ⟨l, hl'⟩ : ∃ l, L[i]? = some l := ⟨_, List.getElem?_eq_getElem hlt⟩
    have hlab1 := hw.lab hLne
    have hlv := hlk1 hLne
    have hl63 := hlab l (List.mem_of_getElem? hl')
    have hdl : (L.drop i).length = L.length - i := List.length_drop ..
    have hi' : (i : Int) < (L.length : Int) := by omega
    have hglen : (glue (L.drop i)).length ≤ 255 := by
      have h1 : glue L = gl0 (L.take i) ++ glue (L.drop i) := by
        unfold glue; rw [← List.append_assoc]; congr 1
        show gl0 L = gl0 _ ++ gl0 _
        rw [← gl0_app, List.take_append_drop]
      have h2 := congrArg List.length h1
      rw [List.length_append] at h2
      omega
    have hq : decide (i = 0 ∨ i < L.length / 1) = true := by simp; omega
    have hile : i ≤ L.length := by omega
    have hgl : ∀ k, callK Tryd.prog 85 [.slice lk i (L.length - i) (.op i)] Hc k = k (.str (glue (L.drop i)), Hc, z0) := fun k =>
      ref_Glue Hc lk i (L.length - i) (.op i) (L.drop i) (strs L) _ k hlab1 hdl.symm (fun j x hx => strs_at (by rw [← hx, List.getElem?_drop])) (fun x hx => (hlab x (List.mem_of_mem_drop hx)).2) hglen
    have hfd : ∀ k, callK Tryd.prog 86 [.ptr rb 0, .str (glue (L.drop i))] Hc k = k (.int .i64 (fnd tab (glue (L.drop i))), Hc, z0) := fun k => ref_find Hc rb tab _ k hRc (by omega)
    have hdr := drop_at hl'
    have hgc : (glue (L.drop i)).length = 1 + l.length + (glue (L.drop (i + 1))).length := by rw [hdr, glue_len_cons]
    have hld := strs_ld hl'
    have hw8 : IntKind.u8.wrap (l.length : Int) = ((UInt8.ofNat l.length).toNat : Int) := u8_nat l.length
    have hwi := wrap_succ (show i < 9223372036854775807 by omega)
    have hwo : (out.length : Int) = (out.length : Int) := rfl
    cases htg : tget tab (glue (L.drop i)) with
    | some p =>
      have hp := near_get hn htg
      have hf : fnd tab (glue (L.drop i)) = (p : Int) := by unfold fnd; rw [htg]
      rw [hf] at hfd
      have g1 : decide ((p : Int) ≥ 0) = true := by simp
      have g2 : decide ((p : Int) < 0) = false := by simp
      cases plain with
      | true =>
        have hlabA := hw.more [.cells [.int .u8 (UInt8.ofNat l.length).toNat] 5 .rw]
        obtain ⟨ov1, Hy, ey, hay, hwy, hcy, _⟩ := hlabA.appO [.int .u8 (UInt8.ofNat l.length).toNat] rfl (by rw [u8s_len]; simp only [fits, decide_eq_true_eq, List.length_cons, List.length_nil]; omega)
        obtain ⟨ov2, Hz, ez, haz, hwz, hcz, _⟩ := hwy.appO (u8s l) u8s_scal (by rw [List.length_append, u8s_len, u8s_len]; simp only [fits, decide_eq_true_eq, List.length_cons, List.length_nil]; omega)
        rw [u8s_len] at haz
        have hay : ∀ kk, stepK (appTo Tryd.prog (.slice 5 1 1) ov ([.int .u8 ((UInt8.ofNat l.length).toNat : Int)], 1) (Hc ++ [.cells [.int .u8 ((UInt8.ofNat l.length).toNat : Int)] 5 .rw])) kk = kk (ov1, Hy, ey) := hay
        have hly := hwy.lab hLne
        have haz : ∀ kk, stepK (appTo Tryd.prog (.slice 5 1 1) ov1 (List.map (fun b => AV.int .u8 (b.toNat : Int)) l, l.length) Hy) kk = kk (ov2, Hz, ez) := haz
        have hrf' : refN true tab L [] bs = refN true tab (L.drop (i + 1)) new (out ++ lb l) := by
          rw [hrf, hdr, refN, ← hdr, htg]; rfl
        simp only [go_sem, simprocAttr, hl, h0, h3, h10, h12, h13, h14, h15, hlnl, hlv, hi', hlab1, strs_len, hq, hile, hgl, hfd, g1, g2, hld, hw8, hwi, bslice1, hay, haz, hly]
        have hout : u8s out ++ [.int .u8 (UInt8.ofNat l.length).toNat] ++ u8s l = u8s (out ++ lb l) := by simp [u8s, lb]
        rw [hout] at hwz
        exact ⟨m - 1, by omega, _, i + 1, new, out ++ lb l, _, _, ov2, Hz, _, by omega, hrf', by omega, by rw [List.length_append, lb_len]; omega, rfl, by simp only [clean_andI, clean_z, hce, hcy, hcz, true_and, and_true], hwz, by simp only [go_sem, simprocAttr, hl], by simp only [go_sem, simprocAttr, hl, h0], by simp only [go_sem, simprocAttr, hl, h3], by simp only [go_sem, simprocAttr, hl, h10, hlv], by simp only [go_sem, simprocAttr, hl], by simp only [go_sem, simprocAttr, hl, h13], by simp only [go_sem, simprocAttr, hl, h14], by simp only [go_sem, simprocAttr, hl]⟩
      | false =>
        have hrf' : refN false tab L [] bs = (out ++ be16 (49152 + p), new) := by
          rw [hrf, hdr, refN, ← hdr, htg]; rfl
        obtain ⟨H5, e5, v, H6, e6, k1, k2, k3, k4, k5, k6, k7, k8, k9⟩ := ref_end hRc hrb hw (be16 (49152 + p)) (by simp [be16]) (by omega) (by simp [be16]; omega)
        have a1 : IntKind.i64.wrap ((p : Int).tdiv 256) = ((p / 256 : Nat) : Int) := by rw [show (p : Int).tdiv 256 = ((p / 256 : Nat) : Int) from rfl]; exact wrap_i64 (by omega)
        have a2 : IntKind.i64.wrap (192 + ((p / 256 : Nat) : Int)) = ((192 + p / 256 : Nat) : Int) := by rw [wrap_i64 (by omega)]; omega
        have a3 : IntKind.u8.wrap ((192 + p / 256 : Nat) : Int) = ((byt (49152 + p) 8).toNat : Int) := by
          rw [u8_nat]; unfold byt; rw [show (49152 + p) / 2 ^ 8 = 192 + p / 256 by omega]
        have a4 : (p : Int).tmod 256 = ((p % 256 : Nat) : Int) := rfl
        have a5 : IntKind.u8.wrap ((p % 256 : Nat) : Int) = ((byt (49152 + p) 0).toNat : Int) := by
          rw [u8_nat]; unfold byt
          congr 1
          rw [UInt8.toNat_ofNat', UInt8.toNat_ofNat']
          omega
        have k2 : ∀ kk, stepK (appTo Tryd.prog (.slice 5 1 1) ov ([.int .u8 ((byt (49152 + p) 8).toNat : Int), .int .u8 ((byt (49152 + p) 0).toNat : Int)], 2) (H5 ++ [.cells [.int .u8 ((byt (49152 + p) 8).toNat : Int), .int .u8 ((byt (49152 + p) 0).toNat : Int)] 5 .rw])) kk = kk (v, H6, e6) := k2
        simp only [go_sem, simprocAttr, hl, h0, h3, h10, h12, h13, h14, h15, hlnl, hlv, hi', hlab1, strs_len, hq, hile, hgl, hfd, g1, g2, k1, a1, a2, a3, a4, a5, bslice2b, k2]
        rw [leave_nfl (by simp [flat, flats, k5]), hrf']
        have hce' := clean_mono (n := rb) hce (by omega)
        exact ⟨v, H6, _, rfl, clean_leave (by simp only [clean_andI, hce', k3, k4, and_true, true_and]), k5, k6, k7, k8, k9⟩
    | none =>
      have hf : fnd tab (glue (L.drop i)) = -1 := by unfold fnd; rw [htg]
      rw [hf] at hfd
      have g1 : decide ((-1 : Int) ≥ 0) = false := by decide
      have g2 : decide ((-1 : Int) < 0) = true := by decide
      have hlo := hw.O
      have hlno := fun H' => hw.O.len tsh_31 H'
      rw [u8s_len] at hlno
      by_cases hfar : out.length ≤ 16383
      · have g3 : decide ((out.length : Int) ≤ 16383) = true := by simp; omega
        obtain ⟨nv1, Ha, ea, haa, hwa, hca⟩ := (hw.more [.cells [.str (glue (L.drop i))] 33 .rw]).appN [.str (glue (L.drop i))] rfl (by rw [namC_len]; simp only [fits, decide_eq_true_eq, List.length_cons, List.length_nil]; omega)
        obtain ⟨pv1, Hb, eb, hab, hwb, hcb⟩ := (hwa.more [.cells [.int .i64 (out.length : Nat)] 3 .rw]).appP [.int .i64 (out.length : Nat)] rfl (by rw [plcC_len]; simp only [fits, decide_eq_true_eq, List.length_cons, List.length_nil]; omega)
        have haa : ∀ kk, stepK (appTo Tryd.prog (.slice 33 1 16) nv ([.str (glue (L.drop i))], 1) (Hc ++ [.cells [.str (glue (L.drop i))] 33 .rw])) kk = kk (nv1, Ha, ea) := haa
        have hab : ∀ kk, stepK (appTo Tryd.prog (.slice 3 1 8) pv ([.int .i64 (out.length : Nat)], 1) (Ha ++ [.cells [.int .i64 (out.length : Nat)] 3 .rw])) kk = kk (pv1, Hb, eb) := hab
        have hwb : Rw H L lk Hb nv1 pv1 ov (namC (new ++ [(glue (L.drop i), out.length)])) (plcC (new ++ [(glue (L.drop i), out.length)])) (u8s out) := by rw [namC_app, plcC_app]; exact hwb
        have hlabA := hwb.more [.cells [.int .u8 (UInt8.ofNat l.length).toNat] 5 .rw]
        obtain ⟨ov1, Hy, ey, hay, hwy, hcy, _⟩ := hlabA.appO [.int .u8 (UInt8.ofNat l.length).toNat] rfl (by rw [u8s_len]; simp only [fits, decide_eq_true_eq, List.length_cons, List.length_nil]; omega)
        obtain ⟨ov2, Hz, ez, haz, hwz, hcz, _⟩ := hwy.appO (u8s l) u8s_scal (by rw [List.length_append, u8s_len, u8s_len]; simp only [fits, decide_eq_true_eq, List.length_cons, List.length_nil]; omega)
        rw [u8s_len] at haz
        have hay : ∀ kk, stepK (appTo Tryd.prog (.slice 5 1 1) ov ([.int .u8 ((UInt8.ofNat l.length).toNat : Int)], 1) (Hb ++ [.cells [.int .u8 ((UInt8.ofNat l.length).toNat : Int)] 5 .rw])) kk = kk (ov1, Hy, ey) := hay
        have hly := hwy.lab hLne
        have haz : ∀ kk, stepK (appTo Tryd.prog (.slice 5 1 1) ov1 (List.map (fun b => AV.int .u8 (b.toNat : Int)) l, l.length) Hy) kk = kk (ov2, Hz, ez) := haz
        have hrf' : refN plain tab L [] bs = refN plain tab (L.drop (i + 1)) (new ++ [(glue (L.drop i), out.length)]) (out ++ lb l) := by
          rw [hrf, hdr, refN, ← hdr, htg]; simp only; rw [if_pos hfar]
        simp only [go_sem, simprocAttr, hl, h0, h3, h10, h12, h13, h14, h15, hlnl, hlv, hi', hlab1, strs_len, hq, hile, hgl, hfd, g1, g2, hld, hw8, hwi, bslice1, hay, haz, hly, hlno, g3, bslice33, bsliceI, haa, hab, hwb.lab hLne]
        have hout : u8s out ++ [.int .u8 (UInt8.ofNat l.length).toNat] ++ u8s l = u8s (out ++ lb l) := by simp [u8s, lb]
        rw [hout] at hwz
        exact ⟨m - 1, by omega, _, i + 1, new ++ [(glue (L.drop i), out.length)], out ++ lb l, _, _, ov2, Hz, _, by omega, hrf', by simp; omega, by rw [List.length_append, lb_len]; omega, rfl, by simp only [clean_andI, clean_z, hce, hcy, hcz, true_and, and_true, hca, hcb], hwz, by simp only [go_sem, simprocAttr, hl], by simp only [go_sem, simprocAttr, hl, h0], by simp only [go_sem, simprocAttr, hl, h3], by simp only [go_sem, simprocAttr, hl, h10, hlv], by simp only [go_sem, simprocAttr, hl], by simp only [go_sem, simprocAttr, hl], by simp only [go_sem, simprocAttr, hl], by simp only [go_sem, simprocAttr, hl]⟩
      · have g3 : decide ((out.length : Int) ≤ 16383) = false := by simp; omega
        have hlabA := hw.more [.cells [.int .u8 (UInt8.ofNat l.length).toNat] 5 .rw]
        obtain ⟨ov1, Hy, ey, hay, hwy, hcy, _⟩ := hlabA.appO [.int .u8 (UInt8.ofNat l.length).toNat] rfl (by rw [u8s_len]; simp only [fits, decide_eq_true_eq, List.length_cons, List.length_nil]; omega)
        obtain ⟨ov2, Hz, ez, haz, hwz, hcz, _⟩ := hwy.appO (u8s l) u8s_scal (by rw [List.length_append, u8s_len, u8s_len]; simp only [fits, decide_eq_true_eq, List.length_cons, List.length_nil]; omega)
        rw [u8s_len] at haz
        have hay : ∀ kk, stepK (appTo Tryd.prog (.slice 5 1 1) ov ([.int .u8 ((UInt8.ofNat l.length).toNat : Int)], 1) (Hc ++ [.cells [.int .u8 ((UInt8.ofNat l.length).toNat : Int)] 5 .rw])) kk = kk (ov1, Hy, ey) := hay
        have hly := hwy.lab hLne
        have haz : ∀ kk, stepK (appTo Tryd.prog (.slice 5 1 1) ov1 (List.map (fun b => AV.int .u8 (b.toNat : Int)) l, l.length) Hy) kk = kk (ov2, Hz, ez) := haz
        have hrf' : refN plain tab L [] bs = refN plain tab (L.drop (i + 1)) new (out ++ lb l) := by
          rw [hrf, hdr, refN, ← hdr, htg]; simp only; rw [if_neg hfar]
        simp only [go_sem, simprocAttr, hl, h0, h3, h10, h12, h13, h14, h15, hlnl, hlv, hi', hlab1, strs_len, hq, hile, hgl, hfd, g1, g2, hld, hw8, hwi, bslice1, hay, haz, hly, hlno, g3]
        have hout : u8s out ++ [.int .u8 (UInt8.ofNat l.length).toNat] ++ u8s l = u8s (out ++ lb l) := by simp [u8s, lb]
        rw [hout] at hwz
        exact ⟨m - 1, by omega, _, i + 1, new, out ++ lb l, _, _, ov2, Hz, _, by omega, hrf', by omega, by rw [List.length_append, lb_len]; omega, rfl, by simp only [clean_andI, clean_z, hce, hcy, hcz, true_and, and_true], hwz, by simp only [go_sem, simprocAttr, hl], by simp only [go_sem, simprocAttr, hl, h0], by simp only [go_sem, simprocAttr, hl, h3], by simp only [go_sem, simprocAttr, hl, h10, hlv], by simp only [go_sem, simprocAttr, hl], by simp only [go_sem, simprocAttr, hl, h13], by simp only [go_sem, simprocAttr, hl, h14], by simp only [go_sem, simprocAttr, hl]⟩
  · have hi : i = L.length := by omega
    subst hi
    rw [List.drop_length] at hrf hol
    have hrf' : refN plain tab L [] bs = (out ++ [0], new) := hrf
    obtain ⟨H5, e5, v, H6, e6, k1, k2, k3, k4, k5, k6, k7, k8, k9⟩ := ref_end hRc hrb hw [0] (by simp) (by omega) (by simp at hol ⊢; omega)
    have k2 : ∀ kk, stepK (appTo Tryd.prog (.slice 5 1 1) ov ([.int .u8 0], 1) (H5 ++ [.cells [.int .u8 0] 5 .rw])) kk = kk (v, H6, e6) := k2
    simp only [go_sem, simprocAttr, hl, h0, h3, h10, h12, h13, h14, h15, hlnl, hlt, k1, bslice1, k2]
    rw [leave_nfl (by simp [flat, flats, k5]), hrf']
    have hce' := clean_mono (n := rb) hce (by omega)
    exact ⟨v, H6, _, rfl, clean_leave (by simp only [clean_andI, hce', k3, k4, and_true, true_and]), k5, k6, k7, k8, k9⟩
end Go.Proofs.YtgkpgpdkolpfkaaDoor.V
namespace Go.Proofs.YtgkpgpdkolpfkaaDoor.V
open Go
set_option linter.unusedSimpArgs false
set_option linter.unusedVariables false
/-- The last bytes of a number. -/
def beR : Nat → Nat → List UInt8
  | 0, _ => []
  | m + 1, v => byt v (8 * m) :: beR m v
attribute [local irreducible] go goOps goD opK callK callT stepK leaveTo nextK
theorem ref_PutA (H : Hp) (rb : Nat) (tab : Tab) (bv : AV) (bs s : List UInt8) (L : List (List UInt8)) (hR : RT H rb tab) (hv : Rd H bv bs) (hL : nm s = some L) (hb : bs.length ≤ 104857600) (ht : tab.length ≤ 1000000) (hn : near tab) :
    ∃ (v : AV) (H' : Hp) (e : Ef), (∀ k, callK Tryd.prog 28 [.ptr rb 0, bv, .str s] H k = k (.tuple [v, .int .i64 0], H', e)) ∧ clean rb e ∧ flat v = false ∧ Og H.length 5 H' v (u8s (putN false L tab bs).1) ∧
      RT H' rb (putN false L tab bs).2 ∧ H.length ≤ H'.length ∧ (∀ (i : Nat) (x : ABlk), i ≠ rb → frz x = true → H[i]? = some x → H'[i]? = some x) := by
  obtain ⟨rfl, _⟩ := nm_glue hL
  have hp := refN_putN false tab L [] bs (fun x hx => by cases hx)
  rw [List.append_nil] at hp
  obtain ⟨⟨v, H', e⟩, ⟨h1, h2, h3, h4, h5, h6⟩, hrow⟩ := callK_exP (α := AV × Hp × Ef) (fun b => clean rb b.2.2 ∧ flat b.1 = false ∧ Og H.length 5 b.2.1 b.1 (u8s (refN false tab L [] bs).1) ∧ RT b.2.1 rb (tab ++ (refN false tab L [] bs).2) ∧ H.length ≤ b.2.1.length ∧ (∀ (i : Nat) (x : ABlk), i ≠ rb → frz x = true → H[i]? = some x → b.2.1[i]? = some x)) (fun b => (.tuple [b.1, .int .i64 0], b.2.1, b.2.2))
    (callK_mono (ref_put H rb tab bv bs L false hR hv hL hb ht hn) (fun r ⟨v, H', e, q1, q2, q3, q4, q5, q6, q7⟩ => ⟨(v, H', e), ⟨q2, q3, q4, q5, q6, q7⟩, q1⟩))
  simp only at h1 h2 h3 h4 h5 h6 hrow
  rw [hp]
  refine ⟨v, H', ⟨low H.length e.es, low H.length e.ws⟩, fun k => ?_, clean_leave h1, h2, h3, h4, h5, h6⟩
  refine callK_eq ?_ k
  refine callK_start (n := 14) (rs := [.tmp 6, .tmp 7]) Tryd.func28 rfl rfl rfl ?_
  intro σ hl ha
  have a0 := ha 0 (by simp)
  have a1 := ha 1 (by simp)
  have a2 := ha 2 (by simp)
  clear ha
  simp only [Option.getD_some, List.getElem?_cons_zero, List.getElem?_cons_succ] at a0 a1 a2
  simp only [go_sem, simprocAttr, hl, a0, a1, a2, hrow]
  exact leave_nfl (by simp [flat, flats, h2])
theorem ref_PlainA (H : Hp) (rb : Nat) (tab : Tab) (bv : AV) (bs s : List UInt8) (L : List (List UInt8)) (hR : RT H rb tab) (hv : Rd H bv bs) (hL : nm s = some L) (hb : bs.length ≤ 104857600) (ht : tab.length ≤ 1000000) (hn : near tab) :
    ∃ (v : AV) (H' : Hp) (e : Ef), (∀ k, callK Tryd.prog 30 [.ptr rb 0, bv, .str s] H k = k (.tuple [v, .int .i64 0], H', e)) ∧ clean rb e ∧ flat v = false ∧ Og H.length 5 H' v (u8s (putN true L tab bs).1) ∧
      RT H' rb (putN true L tab bs).2 ∧ H.length ≤ H'.length ∧ (∀ (i : Nat) (x : ABlk), i ≠ rb → frz x = true → H[i]? = some x → H'[i]? = some x) := by
  obtain ⟨rfl, _⟩ := nm_glue hL
  have hp := refN_putN true tab L [] bs (fun x hx => by cases hx)
  rw [List.append_nil] at hp
  obtain ⟨⟨v, H', e⟩, ⟨h1, h2, h3, h4, h5, h6⟩, hrow⟩ := callK_exP (α := AV × Hp × Ef) (fun b => clean rb b.2.2 ∧ flat b.1 = false ∧ Og H.length 5 b.2.1 b.1 (u8s (refN true tab L [] bs).1) ∧ RT b.2.1 rb (tab ++ (refN true tab L [] bs).2) ∧ H.length ≤ b.2.1.length ∧ (∀ (i : Nat) (x : ABlk), i ≠ rb → frz x = true → H[i]? = some x → b.2.1[i]? = some x)) (fun b => (.tuple [b.1, .int .i64 0], b.2.1, b.2.2))
    (callK_mono (ref_put H rb tab bv bs L true hR hv hL hb ht hn) (fun r ⟨v, H', e, q1, q2, q3, q4, q5, q6, q7⟩ => ⟨(v, H', e), ⟨q2, q3, q4, q5, q6, q7⟩, q1⟩))
  simp only at h1 h2 h3 h4 h5 h6 hrow
  rw [hp]
  refine ⟨v, H', ⟨low H.length e.es, low H.length e.ws⟩, fun k => ?_, clean_leave h1, h2, h3, h4, h5, h6⟩
  refine callK_eq ?_ k
  refine callK_start (n := 14) (rs := [.tmp 6, .tmp 7]) Tryd.func30 rfl rfl rfl ?_
  intro σ hl ha
  have a0 := ha 0 (by simp)
  have a1 := ha 1 (by simp)
  have a2 := ha 2 (by simp)
  clear ha
  simp only [Option.getD_some, List.getElem?_cons_zero, List.getElem?_cons_succ] at a0 a1 a2
  simp only [go_sem, simprocAttr, hl, a0, a1, a2, hrow]
  exact leave_nfl (by simp [flat, flats, h2])
set_option maxRecDepth 20000 in
theorem ref_num (H : Hp) (bv : AV) (bs : List UInt8) (x z : Nat) (hv : Rd H bv bs) (hb : bs.length ≤ 104857600) (hx : x < 4294967296) (hz : 0 < z ∧ z ≤ 4) :
    ∃ (v : AV) (H' : Hp), (∀ k, callK Tryd.prog 29 [bv, .int .u32 (x : Nat), .int .i64 (z : Nat)] H k = k (v, H', z0)) ∧ flat v = false ∧ Og H.length 5 H' v (u8s (bs ++ beR z x)) ∧ H.length < H'.length ∧ (∀ (i : Nat) (x : ABlk), H[i]? = some x → H'[i]? = some x) := by
  have hap := hv.appd
  obtain ⟨ov0, H0, e0, ha0, hO0, hl0, hk0, hc0, _, _, _⟩ := Og.app (n := H.length) (e := 5) (w := 1) (H := H) (v := .nils) (cs := []) (.inl ⟨rfl, rfl⟩) (Nat.le_refl _) zok_31 (u8s bs) u8s_scal (by rw [u8s_len]; simp only [fits, decide_eq_true_eq, List.length_nil]; omega)
  rw [u8s_len] at ha0
  simp only [List.nil_append] at hO0
  have hmain : callK Tryd.prog 29 [bv, .int .u32 (x : Nat), .int .i64 (z : Nat)] H (fun r => ∃ b : AV × Hp, (flat b.1 = false ∧ Og H.length 5 b.2 b.1 (u8s (bs ++ beR z x)) ∧ H.length < b.2.length ∧ (∀ (i : Nat) (x : ABlk), H[i]? = some x → b.2[i]? = some x)) ∧ r = (b.1, b.2, z0)) := by
    refine callK_start (n := 27) (rs := [.tmp 6]) Tryd.func29 rfl rfl rfl ?_
    intro σ hl ha
    have h0 := ha 0 (by simp)
    have h1 := ha 1 (by simp)
    have h2 := ha 2 (by simp)
    clear ha
    simp only [Option.getD_some, List.getElem?_cons_zero, List.getElem?_cons_succ] at h0 h1 h2
    have wz : IntKind.i64.wrap ((z : Int) - 1) = (z : Int) - 1 := wrap_i64 (by omega)
    simp only [go_sem, simprocAttr, hl, h0, h1, h2, hap, ↓ha0, wz]
    refine go_rounds (fun m st => ∃ σ out ov Hc e, out ++ beR m x = bs ++ beR z x ∧ m ≤ z ∧ out.length + m = bs.length + z ∧ (m = z ∨ (flat ov = false ∧ H.length < Hc.length)) ∧ st = ⟨σ, Hc, e⟩ ∧ clean H.length e ∧ Og H.length 5 Hc ov (u8s out) ∧ H.length ≤ Hc.length ∧ (∀ (i : Nat) (x : ABlk), H[i]? = some x → Hc[i]? = some x) ∧
        σ.length = 27 ∧ fr σ 1 = .int .u32 (x : Nat) ∧ fr σ 7 = ov ∧ fr σ 8 = .int .i64 ((m : Int) - 1)) z
      ⟨_, bs, ov0, H0, _, rfl, Nat.le_refl _, rfl, .inl rfl, rfl, ?_, hO0, hl0, fun i x hx => hk0 i x (by simp [bk]) hx, by simp only [go_sem, simprocAttr, hl], by simp only [go_sem, simprocAttr, hl, h1], by simp only [go_sem, simprocAttr, hl], by simp only [go_sem, simprocAttr, hl]⟩ ?_
    · simp only [clean_andI, clean_z, hc0, true_and, and_true]
    clear h0 h1 h2 hl
    rintro m _ ⟨σ, out, ov, Hc, e, hbe, hmz, hol, hfo, rfl, hce, hO, hle, hold, hl, h1, h7, h8⟩
    cases m with
    | zero =>
      have g1 : decide (((0 : Nat) : Int) - 1 ≥ 0) = false := by decide
      obtain hfo | ⟨hfo, hlt⟩ := hfo
      · omega
      rw [show beR 0 x = [] from rfl, List.append_nil] at hbe
      simp only [go_sem, simprocAttr, hl, h1, h7, h8, g1]
      rw [leave_nfl hfo, hce.1, hce.2]
      exact ⟨(ov, Hc), ⟨hfo, by rw [← hbe]; exact hO, hlt, hold⟩, rfl⟩
    | succ m =>
      have g1 : decide ((((m + 1 : Nat) : Int) - 1) ≥ 0) = true := by rw [decide_eq_true_eq]; omega
      have g2 : ((m + 1 : Nat) : Int) - 1 = (m : Int) := by omega
      rw [g2] at h8 g1
      have w1 : IntKind.i64.wrap (8 * (m : Int)) = ((8 * m : Nat) : Int) := by rw [wrap_i64 (by omega)]; omega
      have w2 : IntKind.u64.wrap ((8 * m : Nat) : Int) = ((8 * m : Nat) : Int) := wrap_u64 (by omega)
      have w3 : decide (((8 * m : Nat) : Int) < 0) = false := by simp; omega
      have w4 : min (8 * m) 32 = 8 * m := by omega
      have w5 := byt_w x (8 * m)
      have w6 : IntKind.i64.wrap ((m : Int) - 1) = (m : Int) - 1 := wrap_i64 (by omega)
      obtain ⟨v', H', e', q1, q2, q3, q4, q5, q6, q7, _⟩ := (hO.keep (H' := Hc ++ [.cells [.int .u8 ((byt x (8 * m)).toNat : Int)] 5 .rw]) (fun i x _ hx => get_app hx)).app (w := 1) (by simp; omega) zok_31 [.int .u8 ((byt x (8 * m)).toNat : Int)] rfl (by rw [u8s_len]; simp only [fits, decide_eq_true_eq, List.length_cons, List.length_nil]; omega)
      have q1 : ∀ kk, stepK (appTo Tryd.prog (.slice 5 1 1) ov ([.int .u8 ((byt x (8 * m)).toNat : Int)], 1) (Hc ++ [.cells [.int .u8 ((byt x (8 * m)).toNat : Int)] 5 .rw])) kk = kk (v', H', e') := q1
      simp only [go_sem, simprocAttr, hl, h1, h7, h8, g1, w1, w2, w3, w4, w5, w6, bslice1, q1, Int.toNat_natCast]
      have hout : u8s out ++ [.int .u8 ((byt x (8 * m)).toNat : Int)] = u8s (out ++ [byt x (8 * m)]) := by simp [u8s]
      rw [hout] at q2
      refine ⟨m, by omega, _, out ++ [byt x (8 * m)], v', H', _, by rw [List.append_assoc]; exact hbe, by omega, by simp only [List.length_append, List.length_cons, List.length_nil]; omega, .inr ⟨q7 (by simp), by simp at q3; omega⟩, rfl, ?_, q2, by simp at q3; omega, fun i y hy => q4 i y (fun hh => ?_) (get_app (hold i y hy)), by simp only [go_sem, simprocAttr, hl], by simp only [go_sem, simprocAttr, hl, h1], by simp only [go_sem, simprocAttr, hl], by simp only [go_sem, simprocAttr, hl]⟩
      · simp only [clean_andI, clean_z, hce, q5, true_and, and_true]
      · have := (hO.cells hh).1
        have := lt_of_get hy
        omega
  obtain ⟨⟨v, H'⟩, ⟨q1, q2, q3, q4⟩, hk⟩ := callK_exP (α := AV × Hp) _ _ hmain
  exact ⟨v, H', hk, q1, q2, q3, q4⟩
end Go.Proofs.YtgkpgpdkolpfkaaDoor.V
namespace Go.Proofs.YtgkpgpdkolpfkaaDoor.V
open Go
set_option linter.unusedSimpArgs false
set_option linter.unusedVariables false
theorem Og.rd {n : Nat} {H : Hp} {v : AV} {bs : List UInt8} (h : Og n 5 H v (u8s bs)) : Rd H v bs := by
  obtain ⟨rfl, h2⟩ | ⟨b, h1, rfl, h3, h4⟩ := h
  · exact .inl ⟨rfl, by simpa [u8s] using h2⟩
  · exact .inr ⟨b, 0, _, [], [], _, _, by rw [u8s_len], rfl, by simpa using h3, .inr ⟨rfl, rfl, 0, false, rfl⟩⟩
theorem und_Rp : Tryd.prog.underlying 26 = some (.pointer 30) := by kernel_rfl
theorem eqRp {b o : Nat} {c : Bool} : binV Tryd.prog .eql 26 (.ptr b o) .nilp c = some (.bool false) := by simp [binV, evBin, evEq, und_Rp]
attribute [go_sem] eqRp
theorem quiet_gr {v : AV} {H H' : Hp} {e : Ef} (h : H.length < H'.length) : quiet (v, H', e) H = false := by
  unfold quiet
  have : (H'.length == H.length) = false := by rw [beq_eq_false_iff_ne]; omega
  simp [this]
theorem nextZ_t {P : Program} {ops : List Oper} {l : List Oper} {H : Hp} {e : Ef} {K : St → List Nat → Prop} {dst : Option Tmp} {i : Nat} {v : AV} {σ : List AV} {H' : Hp} {e' : Ef} (h : quiet (v, H', e') H = true) : nextZ P ops K l σ H e i dst (v, H', e') = goZ P ops K (i + 1) l ⟨put σ dst v, H', e.and e'⟩ := by
  unfold nextZ
  refine goZ_K ?_
  funext s es
  simp only [h, if_true]
theorem putN_tab (plain : Bool) : ∀ (L : List (List UInt8)) (tab : Tab) (out : List UInt8), (putN plain L tab out).2.length ≤ tab.length + L.length
  | [], _, _ => by simp [putN]
  | l :: L, tab, out => by
    unfold putN
    split
    · split
      · have := putN_tab plain L tab (out ++ lb l); simp only [List.length_cons]; omega
      · simp only [List.length_cons]; omega
    · have := putN_tab plain L (if out.length ≤ 16383 then tab ++ [(glue (l :: L), out.length)] else tab) (out ++ lb l)
      have h2 : (if out.length ≤ 16383 then tab ++ [(glue (l :: L), out.length)] else tab).length ≤ tab.length + 1 := by split <;> simp
      simp only [List.length_cons]; omega
theorem putN_tabA {plain : Bool} {s : List UInt8} (h : (nm s).isSome = true) (tab : Tab) (out : List UInt8) : (putN plain (labs s) tab out).2.length ≤ tab.length + 255 := by
  have := putN_tab plain (labs s) tab out
  have := glue_labs h
  have := glue_ge (labs s)
  omega
attribute [local irreducible] go goOps goD opK callK callT stepK leaveTo nextK
/-- The document's numbers, at heaps that hold a table. -/
theorem ref_numA {H Hc : Hp} {rb : Nat} {tab : Tab} {ov : AV} {out : List UInt8} (x z : Nat) (hO : Og H.length 5 Hc ov (u8s out)) (hle : H.length ≤ Hc.length) (hR : RT Hc rb tab) (hb : out.length ≤ 104857600) (hx : x < 4294967296) (hz : 0 < z ∧ z ≤ 4) :
    ∃ (v : AV) (H' : Hp), (∀ k, callK Tryd.prog 29 [ov, .int .u32 (x : Nat), .int .i64 (z : Nat)] Hc k = k (v, H', z0)) ∧ flat v = false ∧ Og H.length 5 H' v (u8s (out ++ beR z x)) ∧ RT H' rb tab ∧ H.length ≤ H'.length ∧ Hc.length < H'.length ∧ (∀ (i : Nat) (x : ABlk), Hc[i]? = some x → H'[i]? = some x) := by
  obtain ⟨v, H', h1, h2, h3, h4, h5⟩ := ref_num Hc ov out x z hO.rd hb hx hz
  exact ⟨v, H', h1, h2, h3.mono hle, hR.old h5, by omega, h4, h5⟩
theorem beR2 (x : Nat) : beR 2 x = be16 x := rfl
theorem beR4 (x : Nat) : beR 4 x = be32 x := rfl
set_option maxRecDepth 20000 in
set_option maxHeartbeats 4000000 in
theorem ref_Put (t : Int) (d : Dt) (H : Hp) (rb : Nat) (tab : Tab) (bv : AV) (bs : List UInt8) (hd : d.wf) (hgd : goodB t d = true) (hR : RT H rb tab) (hv : Rd H bv bs) (hb : bs.length ≤ 90000000) (ht : tab.length ≤ 900000) (hn : near tab) :
    callK Tryd.prog 11 [bv, .ptr rb 0, .int .u16 t, .agg d.cells] H (fun r => ∃ v H' e, r = (.tuple [v, .int .i64 0], H', e) ∧ clean rb e ∧ Og H.length 5 H' v (u8s (putF d (formS t) 0 tab bs).1) ∧
      RT H' rb (putF d (formS t) 0 tab bs).2 ∧ H.length ≤ H'.length ∧ (∀ (i : Nat) (x : ABlk), i ≠ rb → frz x = true → H[i]? = some x → H'[i]? = some x)) := by
  have hrb : rb < H.length := by obtain ⟨nv, pv, h1, _⟩ := hR; exact lt_of_get h1
  have hck := fun l k => ref_Check t d (H ++ l) k hd
  rw [show chk t d = 0 from if_pos hgd] at hck
  have hbx0 : (H ++ [.cells d.cells 37 .rw])[H.length]? = some (.cells d.cells 37 .rw) := by rw [hp_new0]; rfl
  have hap := (hv.old [.cells d.cells 37 .rw]).appd
  obtain ⟨ov, H0, e0, ha0, hO0, hl0, hk0, hc0, _, hf0, hz0⟩ := Og.app (n := H.length) (e := 5) (w := 1) (H := H ++ [.cells d.cells 37 .rw]) (v := .nils) (cs := []) (.inl ⟨rfl, rfl⟩) (by simp) zok_31 (u8s bs) u8s_scal (by rw [u8s_len]; simp only [fits, decide_eq_true_eq, List.length_nil]; omega)
  rw [u8s_len] at ha0
  simp only [List.nil_append] at hO0
  have hk0 : ∀ (i : Nat) (x : ABlk), (H ++ [.cells d.cells 37 .rw])[i]? = some x → H0[i]? = some x := fun i x hx => hk0 i x (by simp [bk]) hx
  have hbx := hk0 _ _ hbx0
  have hold : ∀ (i : Nat) (x : ABlk), H[i]? = some x → H0[i]? = some x := fun i x hx => hk0 i x (get_app hx)
  have hR0 := hR.old hold
  have hl0' : H.length + 1 ≤ H0.length := by simpa using hl0
  have hcb := clean_mono (n := rb) hc0 (by omega)
  refine callK_start (n := 98) (rs := [.tmp 8, .tmp 9]) Tryd.func11 rfl rfl rfl ?_
  intro σ hl ha
  have h0 := ha 0 (by simp)
  have h1 := ha 1 (by simp)
  have h2 := ha 2 (by simp)
  have h3 := ha 3 (by simp)
  clear ha
  simp only [Option.getD_some, List.getElem?_cons_zero, List.getElem?_cons_succ] at h0 h1 h2 h3
  have hgd' := hgd
  simp only [goodB, headB, Bool.and_eq_true] at hgd'
  obtain ⟨⟨g1, g2, g3, g4, g5⟩, n0, n1, n2, n3, n4⟩ := hgd'
  have hnn : ∀ i, i < 5 → d.n i = (((d.n i).toNat : Nat) : Int) ∧ (d.n i).toNat < 4294967296 := fun i hi => by
    obtain ⟨a, b⟩ := n_wf hd hi; exact ⟨by omega, by omega⟩
  have cN : ∀ i, i < 5 → ∀ (e : TypeId) (k : Kd), ldC (3 + i) 1 false (.cells d.cells e k) = some (.int .u32 (((d.n i).toNat : Nat) : Int)) := fun i hi e k => by rw [Dt.at d hi, ← (hnn i hi).1]
  have c0 := cN 0 (by decide)
  have c1 := cN 1 (by decide)
  have c2 := cN 2 (by decide)
  have c3 := cN 3 (by decide)
  have c4 := cN 4 (by decide)
  simp only [Nat.reduceAdd] at c0 c1 c2 c3 c4
  by_cases hm : madeT t
  · rcases hm with rfl | rfl | rfl | rfl | rfl | rfl
    · have hh : (nm d.host).isSome = true := by have := eq_of_beq g2; rw [← this]; rfl
      obtain ⟨v, H1, e1, p1, p2, p3, p4, p5, p6, p7⟩ := ref_PutA H0 rb tab ov bs d.host _ hR0 hO0.rd (labs_is hh) (by omega) (by omega) hn
      have hpf : putF d (formS 2) 0 tab bs = putN false (labs d.host) tab bs := rfl
      rw [hpf]
      simp only [go_sem, simprocAttr, hl, h0, h1, h2, h3, hck, Dt.l8, Dt.vc, Dt.l0, Dt.l1, Dt.l2, hap, ↓ha0, hbx, p1]
      rw [leave_nfl (by simp [flat, flats, p3])]
      exact ⟨v, H1, _, rfl, clean_leave (by simp only [clean_andI, clean_z, hcb, p2, and_true, true_and]), p4.mono (by omega), p5, by omega, fun i x hi hx hxx => p7 i x hi hx (hold i x hxx)⟩
    · have hh : (nm d.host).isSome = true := by have := eq_of_beq g2; rw [← this]; rfl
      obtain ⟨v, H1, e1, p1, p2, p3, p4, p5, p6, p7⟩ := ref_PutA H0 rb tab ov bs d.host _ hR0 hO0.rd (labs_is hh) (by omega) (by omega) hn
      have hpf : putF d (formS 5) 0 tab bs = putN false (labs d.host) tab bs := rfl
      rw [hpf]
      simp only [go_sem, simprocAttr, hl, h0, h1, h2, h3, hck, Dt.l8, Dt.vc, Dt.l0, Dt.l1, Dt.l2, hap, ↓ha0, hbx, p1]
      rw [leave_nfl (by simp [flat, flats, p3])]
      exact ⟨v, H1, _, rfl, clean_leave (by simp only [clean_andI, clean_z, hcb, p2, and_true, true_and]), p4.mono (by omega), p5, by omega, fun i x hi hx hxx => p7 i x hi hx (hold i x hxx)⟩
    · have hh : (nm d.host).isSome = true := by have := eq_of_beq g2; rw [← this]; rfl
      have hm : (nm d.mail).isSome = true := by have := eq_of_beq g4; rw [← this]; rfl
      obtain ⟨va, Ha, ea, p1, p2, p3, p4, p5, p6, p7⟩ := ref_PutA H0 rb tab ov bs d.host _ hR0 hO0.rd (labs_is hh) (by omega) (by omega) hn
      have hla := putN_lenA (plain := false) hh tab bs
      have hta : (putN false (labs d.host) tab bs).2.length ≤ tab.length + 255 := putN_tabA hh tab bs
      have hna := putN_near false (labs d.host) tab bs hn
      have hba := p7 _ _ (by omega) rfl hbx
      obtain ⟨vb, Hb, eb, r1, r2, r3, r4, r5, r6, r7⟩ := ref_PutA Ha rb _ va _ d.mail _ p5 p4.rd (labs_is hm) (by omega) (by omega) hna
      have hlb := putN_lenA (plain := false) hm (putN false (labs d.host) tab bs).2 (putN false (labs d.host) tab bs).1
      have hbb := r7 _ _ (by omega) rfl hba
      have hpf : putF d (formS 6) 0 tab bs = putF d [108, 108, 108, 108, 108] 0 (putN false (labs d.mail) (putN false (labs d.host) tab bs).2 (putN false (labs d.host) tab bs).1).2 (putN false (labs d.mail) (putN false (labs d.host) tab bs).2 (putN false (labs d.host) tab bs).1).1 := rfl
      rw [hpf]
      generalize putN false (labs d.mail) (putN false (labs d.host) tab bs).2 (putN false (labs d.host) tab bs).1 = Q at *
      obtain ⟨out, tab'⟩ := Q
      simp only at hlb r4 r5
      have hr4 := r4.mono (m := H.length) (by omega)
      obtain ⟨v1, H1, q11, q12, q13, q14, q15, q16, q17⟩ := ref_numA (d.n 0).toNat 4 hr4 (by omega) r5 (by first | omega | (simp [be16, be32]; omega)) (hnn 0 (by decide)).2 (by decide)
      rw [beR4] at q13
      have hb1 := q17 _ _ hbb
      have q11 : ∀ k, callK Tryd.prog 29 [vb, .int .u32 (((d.n 0).toNat : Nat) : Int), .int .i64 4] Hb k = k (v1, H1, z0) := q11
      obtain ⟨v2, H2, q21, q22, q23, q24, q25, q26, q27⟩ := ref_numA (d.n 1).toNat 4 q13 (by omega) q14 (by first | omega | (simp [be16, be32]; omega)) (hnn 1 (by decide)).2 (by decide)
      rw [beR4] at q23
      have hb2 := q27 _ _ hb1
      have q21 : ∀ k, callK Tryd.prog 29 [v1, .int .u32 (((d.n 1).toNat : Nat) : Int), .int .i64 4] H1 k = k (v2, H2, z0) := q21
      obtain ⟨v3, H3, q31, q32, q33, q34, q35, q36, q37⟩ := ref_numA (d.n 2).toNat 4 q23 (by omega) q24 (by first | omega | (simp [be16, be32]; omega)) (hnn 2 (by decide)).2 (by decide)
      rw [beR4] at q33
      have hb3 := q37 _ _ hb2
      have q31 : ∀ k, callK Tryd.prog 29 [v2, .int .u32 (((d.n 2).toNat : Nat) : Int), .int .i64 4] H2 k = k (v3, H3, z0) := q31
      obtain ⟨v4, H4, q41, q42, q43, q44, q45, q46, q47⟩ := ref_numA (d.n 3).toNat 4 q33 (by omega) q34 (by first | omega | (simp [be16, be32]; omega)) (hnn 3 (by decide)).2 (by decide)
      rw [beR4] at q43
      have hb4 := q47 _ _ hb3
      have q41 : ∀ k, callK Tryd.prog 29 [v3, .int .u32 (((d.n 3).toNat : Nat) : Int), .int .i64 4] H3 k = k (v4, H4, z0) := q41
      obtain ⟨v5, H5, q51, q52, q53, q54, q55, q56, q57⟩ := ref_numA (d.n 4).toNat 4 q43 (by omega) q44 (by first | omega | (simp [be16, be32]; omega)) (hnn 4 (by decide)).2 (by decide)
      rw [beR4] at q53
      have hb5 := q57 _ _ hb4
      have q51 : ∀ k, callK Tryd.prog 29 [v4, .int .u32 (((d.n 4).toNat : Nat) : Int), .int .i64 4] H4 k = k (v5, H5, z0) := q51
      have hpf2 : putF d [108, 108, 108, 108, 108] 0 tab' out = (((((out ++ be32 (d.n 0).toNat) ++ be32 (d.n 1).toNat) ++ be32 (d.n 2).toNat) ++ be32 (d.n 3).toNat) ++ be32 (d.n 4).toNat, tab') := rfl
      simp only [go_sem, simprocAttr, hl, h0, h1, h2, h3, hck, Dt.l8, Dt.vc, Dt.l0, Dt.l1, Dt.l2, hap, ↓ha0, hbx, c0, c1, c2, c3, c4, hba, hbb, hb1, hb2, hb3, hb4, hb5, q11, q21, q31, q41, q51, p1, r1]
      rw [go_loop]
      simp only [go_sem, simprocAttr, hl, h0, h1, h2, h3, hck, Dt.l8, Dt.vc, Dt.l0, Dt.l1, Dt.l2, hap, ↓ha0, hbx, c0, c1, c2, c3, c4, hba, hbb, hb1, hb2, hb3, hb4, hb5, q11, q21, q31, q41, q51, p1, r1]
      rw [go_loop]
      simp only [go_sem, simprocAttr, hl, h0, h1, h2, h3, hck, Dt.l8, Dt.vc, Dt.l0, Dt.l1, Dt.l2, hap, ↓ha0, hbx, c0, c1, c2, c3, c4, hba, hbb, hb1, hb2, hb3, hb4, hb5, q11, q21, q31, q41, q51, p1, r1]
      rw [go_loop]
      simp only [go_sem, simprocAttr, hl, h0, h1, h2, h3, hck, Dt.l8, Dt.vc, Dt.l0, Dt.l1, Dt.l2, hap, ↓ha0, hbx, c0, c1, c2, c3, c4, hba, hbb, hb1, hb2, hb3, hb4, hb5, q11, q21, q31, q41, q51, p1, r1]
      rw [go_loop]
      simp only [go_sem, simprocAttr, hl, h0, h1, h2, h3, hck, Dt.l8, Dt.vc, Dt.l0, Dt.l1, Dt.l2, hap, ↓ha0, hbx, c0, c1, c2, c3, c4, hba, hbb, hb1, hb2, hb3, hb4, hb5, q11, q21, q31, q41, q51, p1, r1]
      rw [go_loop]
      simp only [go_sem, simprocAttr, hl, h0, h1, h2, h3, hck, Dt.l8, Dt.vc, Dt.l0, Dt.l1, Dt.l2, hap, ↓ha0, hbx, c0, c1, c2, c3, c4, hba, hbb, hb1, hb2, hb3, hb4, hb5, q11, q21, q31, q41, q51, p1, r1]
      rw [go_loop]
      simp only [go_sem, simprocAttr, hl, h0, h1, h2, h3, hck, Dt.l8, Dt.vc, Dt.l0, Dt.l1, Dt.l2, hap, ↓ha0, hbx, c0, c1, c2, c3, c4, hba, hbb, hb1, hb2, hb3, hb4, hb5, q11, q21, q31, q41, q51, p1, r1]
      rw [leave_nfl (by simp [flat, flats, q52]), hpf2]
      exact ⟨v5, H5, _, rfl, clean_leave (by simp only [clean_andI, clean_z, hcb, p2, r2, and_true, true_and]), q53, q54, by omega, fun i x hi hx hxx => q57 i x (q47 i x (q37 i x (q27 i x (q17 i x (r7 i x hi hx (p7 i x hi hx (hold i x hxx)))))))⟩
    · have hh : (nm d.host).isSome = true := by have := eq_of_beq g2; rw [← this]; rfl
      obtain ⟨v, H1, e1, p1, p2, p3, p4, p5, p6, p7⟩ := ref_PutA H0 rb tab ov bs d.host _ hR0 hO0.rd (labs_is hh) (by omega) (by omega) hn
      have hpf : putF d (formS 12) 0 tab bs = putN false (labs d.host) tab bs := rfl
      rw [hpf]
      simp only [go_sem, simprocAttr, hl, h0, h1, h2, h3, hck, Dt.l8, Dt.vc, Dt.l0, Dt.l1, Dt.l2, hap, ↓ha0, hbx, p1]
      rw [leave_nfl (by simp [flat, flats, p3])]
      exact ⟨v, H1, _, rfl, clean_leave (by simp only [clean_andI, clean_z, hcb, p2, and_true, true_and]), p4.mono (by omega), p5, by omega, fun i x hi hx hxx => p7 i x hi hx (hold i x hxx)⟩
    · have hh : (nm d.host).isSome = true := by have := eq_of_beq g2; rw [← this]; rfl
      obtain ⟨v1, H1, q1, q2, q3, q4, q5, q6, q7⟩ := ref_numA (d.n 0).toNat 2 hO0 (by omega) hR0 (by omega) (hnn 0 (by decide)).2 (by decide)
      rw [beR2] at q3
      have hb1 := q7 _ _ hbx
      obtain ⟨v, H2, e2, p1, p2, p3, p4, p5, p6, p7⟩ := ref_PutA H1 rb tab v1 (bs ++ be16 (d.n 0).toNat) d.host _ q4 q3.rd (labs_is hh) (by simp [be16]; omega) (by omega) hn
      have hpf : putF d (formS 15) 0 tab bs = putN false (labs d.host) tab (bs ++ be16 (d.n 0).toNat) := rfl
      rw [hpf]
      have hqq := fun v e => quiet_gr (v := v) (e := e) q6
      have q1 : ∀ k, callK Tryd.prog 29 [ov, .int .u32 (((d.n 0).toNat : Nat) : Int), .int .i64 2] H0 k = k (v1, H1, z0) := q1
      simp only [go_sem, simprocAttr, hl, h0, h1, h2, h3, hck, Dt.l8, Dt.vc, Dt.l0, Dt.l1, Dt.l2, hap, ↓ha0, hbx, c0, hb1, q1, p1, hqq]
      refine go_drawZ tFollows (by kernel_rfl) ?_
      cases hq2 : quiet (.nili, H2, e2) H1
      all_goals
        have hq2 := fun (w : AV) => (show quiet (w, H2, e2) H1 = _ from hq2)
        simp only [go_sem, simprocAttr, hl, h0, h1, h2, h3, hck, Dt.l8, Dt.vc, Dt.l0, Dt.l1, Dt.l2, hap, ↓ha0, hbx, c0, hb1, q1, p1, hqq, hq2, nextZ_t]
        rcases tg_or 8 e2 with hh | hh <;> (try rw [hh])
        all_goals
          refine ⟨(by kernel_rfl : effOk _ _ _ = true), ?_⟩
          rw [leave_nfl (by simp [flat, flats, p3])]
          exact ⟨v, H2, _, rfl, clean_leave (by simp only [clean_andI, clean_z, hcb, p2, and_true, true_and]), p4.mono (by omega), p5, by omega, fun i x hi hx hxx => p7 i x hi hx (q7 i x (hold i x hxx))⟩
    · have hh : (nm d.host).isSome = true := by have := eq_of_beq g2; rw [← this]; rfl
      obtain ⟨v1, H1, q11, q12, q13, q14, q15, q16, q17⟩ := ref_numA (d.n 0).toNat 2 hO0 (by omega) hR0 (by first | omega | (simp [be16, be32]; omega)) (hnn 0 (by decide)).2 (by decide)
      rw [beR2] at q13
      have hb1 := q17 _ _ hbx
      have q11 : ∀ k, callK Tryd.prog 29 [ov, .int .u32 (((d.n 0).toNat : Nat) : Int), .int .i64 2] H0 k = k (v1, H1, z0) := q11
      obtain ⟨v2, H2, q21, q22, q23, q24, q25, q26, q27⟩ := ref_numA (d.n 1).toNat 2 q13 (by omega) q14 (by first | omega | (simp [be16, be32]; omega)) (hnn 1 (by decide)).2 (by decide)
      rw [beR2] at q23
      have hb2 := q27 _ _ hb1
      have q21 : ∀ k, callK Tryd.prog 29 [v1, .int .u32 (((d.n 1).toNat : Nat) : Int), .int .i64 2] H1 k = k (v2, H2, z0) := q21
      obtain ⟨v3, H3, q31, q32, q33, q34, q35, q36, q37⟩ := ref_numA (d.n 2).toNat 2 q23 (by omega) q24 (by first | omega | (simp [be16, be32]; omega)) (hnn 2 (by decide)).2 (by decide)
      rw [beR2] at q33
      have hb3 := q37 _ _ hb2
      have q31 : ∀ k, callK Tryd.prog 29 [v2, .int .u32 (((d.n 2).toNat : Nat) : Int), .int .i64 2] H2 k = k (v3, H3, z0) := q31
      obtain ⟨v, H4, e4, p1, p2, p3, p4, p5, p6, p7⟩ := ref_PlainA H3 rb tab v3 (((bs ++ be16 (d.n 0).toNat) ++ be16 (d.n 1).toNat) ++ be16 (d.n 2).toNat) d.host _ q34 q33.rd (labs_is hh) (by simp [be16]; omega) (by omega) hn
      have hpf : putF d (formS 33) 0 tab bs = putN true (labs d.host) tab (((bs ++ be16 (d.n 0).toNat) ++ be16 (d.n 1).toNat) ++ be16 (d.n 2).toNat) := rfl
      rw [hpf]
      simp only [go_sem, simprocAttr, hl, h0, h1, h2, h3, hck, Dt.l8, Dt.vc, Dt.l0, Dt.l1, Dt.l2, hap, ↓ha0, hbx, c0, c1, c2, hb1, hb2, hb3, q11, q21, q31, p1]
      rw [go_loop]
      simp only [go_sem, simprocAttr, hl, h0, h1, h2, h3, hck, Dt.l8, Dt.vc, Dt.l0, Dt.l1, Dt.l2, hap, ↓ha0, hbx, c0, c1, c2, hb1, hb2, hb3, q11, q21, q31, p1]
      rw [go_loop]
      simp only [go_sem, simprocAttr, hl, h0, h1, h2, h3, hck, Dt.l8, Dt.vc, Dt.l0, Dt.l1, Dt.l2, hap, ↓ha0, hbx, c0, c1, c2, hb1, hb2, hb3, q11, q21, q31, p1]
      rw [go_loop]
      simp only [go_sem, simprocAttr, hl, h0, h1, h2, h3, hck, Dt.l8, Dt.vc, Dt.l0, Dt.l1, Dt.l2, hap, ↓ha0, hbx, c0, c1, c2, hb1, hb2, hb3, q11, q21, q31, p1]
      rw [go_loop]
      simp only [go_sem, simprocAttr, hl, h0, h1, h2, h3, hck, Dt.l8, Dt.vc, Dt.l0, Dt.l1, Dt.l2, hap, ↓ha0, hbx, c0, c1, c2, hb1, hb2, hb3, q11, q21, q31, p1]
      simp only [List.append_assoc] at p4 p5
      rw [leave_nfl (by simp [flat, flats, p3])]
      exact ⟨v, H4, _, rfl, clean_leave (by simp only [clean_andI, clean_z, hcb, p2, and_true, true_and]), p4.mono (by omega), p5, by omega, fun i x hi hx hxx => p7 i x hi hx (q37 i x (q27 i x (q17 i x (hold i x hxx))))⟩
  · obtain ⟨c, hF, m1, m2, m3, m4, m5⟩ := form_bytes hm
    have hpf : putF d (formS t) 0 tab bs = (bs ++ d.raw, tab) := by
      rw [hF, putF]; simp only [m1, m2, m3, m4, m5, if_false]; rfl
    rw [hpf]
    have hraw := hd.raw
    obtain ⟨v, H1, e1, q1, q2, q3, q4, q5, _, q7, q8⟩ := hO0.app (w := 1) (by omega) zok_31 (u8s d.raw) u8s_scal (by rw [u8s_len, u8s_len]; simp only [fits, decide_eq_true_eq]; omega)
    rw [u8s_len] at q1
    have q1 : ∀ kk, stepK (appTo Tryd.prog (.slice 5 1 1) ov (List.map (fun b => AV.int .u8 (b.toNat : Int)) d.raw, d.raw.length) H0) kk = kk (v, H1, e1) := q1
    have e2 : (t == 2) = false := by rw [beq_eq_false_iff_ne]; rintro rfl; exact hm (.inl rfl)
    have e5 : (t == 5) = false := by rw [beq_eq_false_iff_ne]; rintro rfl; exact hm (.inr (.inl rfl))
    have e6 : (t == 6) = false := by rw [beq_eq_false_iff_ne]; rintro rfl; exact hm (.inr (.inr (.inl rfl)))
    have e12 : (t == 12) = false := by rw [beq_eq_false_iff_ne]; rintro rfl; exact hm (.inr (.inr (.inr (.inl rfl))))
    have e15 : (t == 15) = false := by rw [beq_eq_false_iff_ne]; rintro rfl; exact hm (.inr (.inr (.inr (.inr (.inl rfl)))))
    have e33 : (t == 33) = false := by rw [beq_eq_false_iff_ne]; rintro rfl; exact hm (.inr (.inr (.inr (.inr (.inr rfl)))))
    have hcl := clean_mono (n := rb) q5 (by omega)
    rw [← u8s_app] at q2
    by_cases hne : bs = [] ∧ d.raw = []
    · obtain ⟨rfl, hr⟩ := hne
      obtain ⟨rfl, rfl⟩ := hz0 rfl
      obtain ⟨rfl, rfl⟩ := q8 (by rw [hr]; rfl)
      simp only [go_sem, simprocAttr, hl, h0, h1, h2, h3, hck, Dt.l8, Dt.vc, Dt.l0, Dt.l1, Dt.l2, hap, hbx0, e2, e5, e6, e12, e15, e33, hr, List.length_nil, List.map_nil]
      exact ⟨.nils, H, z0, rfl, by simp [clean, z0, low], .inl ⟨rfl, rfl⟩, hR, Nat.le_refl _, fun i x _ _ h => h⟩
    · have hvf : flat v = false := by
        by_cases hr : d.raw = []
        · obtain ⟨rfl, _⟩ := q8 (by rw [hr]; rfl)
          exact hf0 (fun hh => hne ⟨by simpa [u8s] using hh, hr⟩)
        · exact q7 (by simpa [u8s] using hr)
      simp only [go_sem, simprocAttr, hl, h0, h1, h2, h3, hck, Dt.l8, Dt.vc, Dt.l0, Dt.l1, Dt.l2, hap, ↓ha0, hbx, q1, e2, e5, e6, e12, e15, e33]
      rw [leave_nfl (by simp [flat, flats, hvf])]
      refine ⟨v, H1, _, rfl, clean_leave (by simp only [clean_andI, clean_z, hcb, hcl, and_true, true_and]), q2, hR0.app hO0 hrb q4, by omega, fun i x hi hx hxx => q4 i x (fun hh => ?_) (hold i x hxx)⟩
      have := (hO0.cells hh).1
      have := lt_of_get hxx
      omega
/-- What is refused. -/
theorem ref_PutN (t : Int) (d : Dt) (H : Hp) (rb : Nat) (bv : AV) (k) (hd : d.wf) (hgd : goodB t d = false) :
    callK Tryd.prog 11 [bv, .ptr rb 0, .int .u16 t, .agg d.cells] H k = k (.tuple [.nils, .int .i64 40], H, z0) := by
  have hck := fun l k => ref_Check t d (H ++ l) k hd
  rw [show chk t d = 40 from if_neg (by rw [hgd]; simp)] at hck
  refine callK_eq (r := (.tuple [.nils, .int .i64 40], H, z0)) ?_ k
  refine callK_start (n := 98) (rs := [.tmp 8, .tmp 9]) Tryd.func11 rfl rfl rfl ?_
  intro σ hl ha
  have h0 := ha 0 (by simp)
  have h1 := ha 1 (by simp)
  have h2 := ha 2 (by simp)
  have h3 := ha 3 (by simp)
  clear ha
  simp only [Option.getD_some, List.getElem?_cons_zero, List.getElem?_cons_succ] at h0 h1 h2 h3
  simp only [go_sem, simprocAttr, hl, h0, h1, h2, h3, hck, Dt.vc, Dt.l8]
end Go.Proofs.YtgkpgpdkolpfkaaDoor.V
namespace Go.Proofs.YtgkpgpdkolpfkaaDoor.V
open Go
set_option linter.unusedSimpArgs false
set_option linter.unusedVariables false
/-- Data of a type behind so many bytes. -/
structure Itm where
  skip : Int
  ty : Int
  d : Dt
def Itm.cells (x : Itm) : List AV := .int .i64 x.skip :: .int .u16 x.ty :: x.d.cells
def itsC (R : List Itm) : List AV := R.flatMap Itm.cells
theorem Itm.len (x : Itm) : x.cells.length = 10 := rfl
theorem itsC_len : ∀ R : List Itm, (itsC R).length = R.length * 10
  | [] => rfl
  | x :: R => by
    have := itsC_len R
    unfold itsC at this ⊢
    rw [List.flatMap_cons, List.length_append, Itm.len, this, List.length_cons]; omega
theorem itsC_at : ∀ {R : List Itm} {i : Nat} {x : Itm}, R[i]? = some x → (itsC R).drop (i * 10) = x.cells ++ itsC (R.drop (i + 1))
  | y :: R, 0, x, h => by
    simp only [List.getElem?_cons_zero, Option.some.injEq] at h
    subst h
    simp [itsC]
  | y :: R, i + 1, x, h => by
    have h' : R[i]? = some x := by simpa using h
    have ih := itsC_at h'
    rw [show (i + 1) * 10 = 10 + i * 10 by omega, ← List.drop_drop]
    have : (itsC (y :: R)).drop 10 = itsC R := by
      unfold itsC
      rw [List.flatMap_cons, show (10 : Nat) = y.cells.length from rfl, List.drop_left]
    rw [this, ih]; rfl
theorem its_ld {R : List Itm} {i : Nat} {x : Itm} (h : R[i]? = some x) (e : TypeId) (k : Kd) :
    ldC (i * 10) 1 false (.cells (itsC R) e k) = some (.int .i64 x.skip) ∧ ldC (i * 10 + 1) 1 false (.cells (itsC R) e k) = some (.int .u16 x.ty) ∧ ldC (i * 10 + 2) 8 true (.cells (itsC R) e k) = some (.agg x.d.cells) := by
  have hd := itsC_at h
  have hat : ∀ j, (itsC R)[i * 10 + j]? = (x.cells ++ itsC (R.drop (i + 1)))[j]? := fun j => by rw [← hd, List.getElem?_drop]
  refine ⟨?_, ?_, ?_⟩
  · rw [ldC_f]; have := hat 0; rw [Nat.add_zero] at this; rw [this]; rfl
  · rw [ldC_f, hat 1]; rfl
  · have hl : i < R.length := (List.getElem?_eq_some_iff.1 h).1
    have hlen := itsC_len R
    have e1 : ((itsC R).drop (i * 10 + 2)).take 8 = x.d.cells := by
      rw [← List.drop_drop, hd]; rfl
    rw [ldC_t, if_pos (by rw [hlen]; omega), e1]
theorem rep_zero : ∀ n, rep [.int .u8 0] n = u8s (List.replicate n 0)
  | 0 => rfl
  | n + 1 => by rw [rep, rep_zero n]; rfl
theorem RT.bf {H H' : Hp} {rb mb : Nat} {t : Tab} {v : AV} {A : List UInt8} (h : RT H rb t) (hO : Bf mb H v A) (hk : ∀ (i : Nat) (x : ABlk), bk v ≠ some i → H[i]? = some x → H'[i]? = some x) : RT H' rb t := by
  have hne : ∀ i, bk v = some i → ∀ cs e k, H[i]? = some (.cells cs e k) → e = 5 := by
    intro i hi cs e k hh
    obtain ⟨post, kd, hc⟩ := hO.cells hi
    rw [hh] at hc; cases hc; rfl
  obtain ⟨nv, pv, h1, h2, h3⟩ := h
  refine ⟨nv, pv, hk _ _ (fun hh => absurd (hne _ hh _ _ _ h1) (by decide)) h1, h2.keep (fun i x hi hx => hk i x (fun hh => absurd (hne _ hh _ _ _ (h2.cells hi).2) (by decide)) hx), h3.keep (fun i x hi hx => hk i x (fun hh => absurd (hne _ hh _ _ _ (h3.cells hi).2) (by decide)) hx)⟩
theorem RT.km {H H' : Hp} {rb mb : Nat} {t : Tab} {es : List (AV × AV)} (h : RT H rb t) (hm : H[mb]? = some (.map es)) (hk : ∀ (i : Nat) (x : ABlk), i ≠ mb → H[i]? = some x → H'[i]? = some x) : RT H' rb t := by
  have hne : ∀ i cs e k, H[i]? = some (.cells cs e k) → i ≠ mb := by
    rintro i cs e k hh rfl; rw [hm] at hh; cases hh
  obtain ⟨nv, pv, h1, h2, h3⟩ := h
  exact ⟨nv, pv, hk _ _ (hne _ _ _ _ h1) h1, h2.keep (fun i x hi hx => hk i x (hne _ _ _ _ (h2.cells hi).2) hx), h3.keep (fun i x hi hx => hk i x (hne _ _ _ _ (h3.cells hi).2) hx)⟩
theorem Og.bf {n mb : Nat} {H : Hp} {v : AV} {bs : List UInt8} (h : Og n 5 H v (u8s bs)) (hm : mb < n) : Bf mb H v bs := by
  obtain ⟨rfl, h2⟩ | ⟨b, h1, rfl, h3, h4⟩ := h
  · exact .inl ⟨rfl, by simpa [u8s] using h2⟩
  · exact .inr ⟨b, .op 0, [], .op 0 false, by omega, by rw [u8s_len], by simpa using h3, .inr ⟨rfl, rfl, false, rfl⟩⟩
theorem leave_abs {H Hc : Hp} {v : AV} {e : Ef} (hv : flat v = true) (he : clean H.length e) (hk : ∀ (i : Nat) (x : ABlk), H[i]? = some x → Hc[i]? = some x) : leave H.length v Hc e = (v, H, z0) := by
  have ht : Hc.take H.length = H := by
    apply List.ext_getElem?
    intro i
    by_cases hi : i < H.length
    · rw [List.getElem?_take_of_lt hi]
      have := List.getElem?_eq_getElem hi
      rw [this]; exact hk i _ this
    · rw [List.getElem?_eq_none (by rw [List.length_take]; omega), List.getElem?_eq_none (by omega)]
  unfold leave
  rw [if_pos ⟨hv, he.1⟩, ht, he.1, he.2]
  rfl
theorem Tk.old' {H H' : Hp} (h : Tk H) (hk : ∀ (i : Nat) (x : ABlk), H[i]? = some x → H'[i]? = some x) : Tk H' := by
  obtain ⟨e, k, h⟩ := h; exact ⟨e, k, hk _ _ h⟩
theorem Tb.old' {H H' : Hp} (h : Tb H) (hk : ∀ (i : Nat) (x : ABlk), H[i]? = some x → H'[i]? = some x) : Tb H' := by
  obtain ⟨e, k, h⟩ := h; exact ⟨e, k, hk _ _ h⟩
theorem Db.old' {H H' : Hp} (h : Db H) (hk : ∀ (i : Nat) (x : ABlk), H[i]? = some x → H'[i]? = some x) : Db H' := by
  obtain ⟨e, k, h⟩ := h; exact ⟨e, k, hk _ _ h⟩
/-- What the law's loop holds. -/
structure Lw (H : Hp) (Hc : Hp) (av bv : AV) (A : List UInt8) (tab : Tab) : Prop where
  m : Hc[H.length]? = some (.map (tabE tab))
  t : Hc[H.length + 1]? = some (.cells [.map H.length] 59 .rw)
  r : RT Hc (H.length + 2) tab
  a : Bf H.length Hc av A
  b : Bf H.length Hc bv A
  d : ∀ i, bk av = some i → bk bv ≠ some i
  old : ∀ (i : Nat) (x : ABlk), H[i]? = some x → Hc[i]? = some x
  n : near tab

theorem putF_tab (d : Dt) : ∀ (F : List UInt8) (k : Nat) (tab : Tab) (out : List UInt8), okF d F k → (putF d F k tab out).2.length ≤ tab.length + 255 * F.length
  | [], _, _, _, _ => by simp [putF]
  | c :: r, k, tab, out, h => by
    obtain (⟨hc, hh, h⟩ | ⟨hc, hh, h⟩ | ⟨hc, hh, h⟩) | ⟨hc, hk, hx, h⟩ | ⟨hc, hk, h⟩ := h
    · have h1 := putF_tab d r k (putN false (labs d.host) tab out).2 (putN false (labs d.host) tab out).1 h
      have h2 := putN_tabA (plain := false) hh tab out
      rw [putF]; simp only [hc, if_true]; simp only [List.length_cons]; omega
    · have h1 := putF_tab d r k (putN true (labs d.host) tab out).2 (putN true (labs d.host) tab out).1 h
      have h2 := putN_tabA (plain := true) hh tab out
      rw [putF]; simp only [hc]; simp only [List.length_cons]
      show (putF d r k _ _).2.length ≤ _
      omega
    · have h1 := putF_tab d r k (putN false (labs d.mail) tab out).2 (putN false (labs d.mail) tab out).1 h
      have h2 := putN_tabA (plain := false) hh tab out
      rw [putF]; simp only [hc]; simp only [List.length_cons]
      show (putF d r k _ _).2.length ≤ _
      omega
    · have h1 := putF_tab d r (k + 1) tab (out ++ be16 (d.n k).toNat) h
      rw [putF]; simp only [hc]; simp only [List.length_cons]
      show (putF d r (k + 1) _ _).2.length ≤ _
      omega
    · have h1 := putF_tab d r (k + 1) tab (out ++ be32 (d.n k).toNat) h
      rw [putF]; simp only [hc]; simp only [List.length_cons]
      show (putF d r (k + 1) _ _).2.length ≤ _
      omega
theorem putF_bytes {t : Int} (hm : ¬ madeT t) (d : Dt) (tab : Tab) (bs : List UInt8) : putF d (formS t) 0 tab bs = (bs ++ d.raw, tab) := by
  obtain ⟨c, hF, m1, m2, m3, m4, m5⟩ := form_bytes hm
  rw [hF, putF]; simp only [m1, m2, m3, m4, m5, if_false]; rfl
theorem putF_tabG {t : Int} {d : Dt} (hgd : goodB t d = true) (tab : Tab) (bs : List UInt8) : (putF d (formS t) 0 tab bs).2.length ≤ tab.length + 2000 := by
  by_cases hm : madeT t
  · have := putF_tab d (formS t) 0 tab bs (okF_good hm hgd)
    have := (form_lenP (t := t)).1
    omega
  · rw [putF_bytes hm]; simp
/-- The program's Put, of whatever may be. -/
theorem rdata_PutG (t : Int) (d : Dt) (H : Hp) (mb tb : Nat) (tab : Tab) (bv : AV) (bs : List UInt8) (hk : Tk H) (hd : d.wf) (hgd : goodB t d = true) (hm : H[mb]? = some (.map (tabE tab))) (htb : H[tb]? = some (.cells [.map mb] 59 .rw))
    (hv : Bf mb H bv bs) (hb : bs.length ≤ 90000000) (hn : near tab) :
    ∃ (v : AV) (H' : Hp) (e : Ef), (∀ k, callK Tryd.prog 10 [bv, .ptr tb 0, .int .u16 t, .agg d.cells] H k = k (.tuple [v, .int .i64 0], H', e)) ∧ clean mb e ∧ Bf mb H' v (putF d (formS t) 0 tab bs).1 ∧ (bk v = bk bv ∨ ∃ j, bk v = some j ∧ H.length ≤ j) ∧
      H.length ≤ H'.length ∧ H'[mb]? = some (.map (tabE (putF d (formS t) 0 tab bs).2)) ∧ near (putF d (formS t) 0 tab bs).2 ∧ (putF d (formS t) 0 tab bs).1.length ≤ bs.length + 1100000 ∧ (∀ (i : Nat) (x : ABlk), i ≠ mb → H[i]? = some x → H'[i]? = some x) := by
  by_cases hmd : madeT t
  · obtain ⟨⟨v, H', e⟩, ⟨h1, h2, h3, h4, h5, h6, h7, h8⟩, hk⟩ := callK_exP (α := AV × Hp × Ef) (fun b => clean mb b.2.2 ∧ Bf mb b.2.1 b.1 (putF d (formS t) 0 tab bs).1 ∧ (∃ j, bk b.1 = some j ∧ H.length ≤ j) ∧ H.length ≤ b.2.1.length ∧ b.2.1[mb]? = some (.map (tabE (putF d (formS t) 0 tab bs).2)) ∧ near (putF d (formS t) 0 tab bs).2 ∧ (putF d (formS t) 0 tab bs).1.length ≤ bs.length + 7000 ∧ (∀ (i : Nat) (x : ABlk), i ≠ mb → H[i]? = some x → b.2.1[i]? = some x)) (fun b => (.tuple [b.1, .int .i64 0], b.2.1, b.2.2))
      (callK_mono (rdata_PutM t d H mb tb tab bv bs hmd hk hd hgd hm htb hv (by omega) hn) (fun r ⟨v, H', e, q1, q2, q3, q4, q5, q6, q7, q8, q9⟩ => ⟨(v, H', e), ⟨q2, q3, q4, q5, q6, q7, q8, q9⟩, q1⟩))
    exact ⟨v, H', e, hk, h1, h2, .inr h3, h4, h5, h6, by omega, h8⟩
  · obtain ⟨⟨v, T, e⟩, ⟨h1, h2, h3⟩, hk⟩ := callK_exP (α := AV × Hp × Ef) (fun b => clean mb b.2.2 ∧ Bf mb (H ++ b.2.1) b.1 (bs ++ d.raw) ∧ (bk b.1 = bk bv ∨ ∃ j, bk b.1 = some j ∧ H.length ≤ j)) (fun b => (.tuple [b.1, .int .i64 0], H ++ b.2.1, b.2.2))
      (callK_mono (rdata_PutR t d H mb tb tab bv bs hmd hk hd hgd (lt_of_get hm) hv (by omega)) (fun r ⟨v, T, e, q1, q2, q3, q4⟩ => ⟨(v, T, e), ⟨q2, q3, q4⟩, q1⟩))
    rw [putF_bytes hmd]
    have := hd.raw
    exact ⟨v, H ++ T, e, hk, h1, h2, h3, by simp, get_app hm, hn, by rw [List.length_append]; omega, fun i x _ hx => get_app hx⟩
/-- The document's. -/
theorem ref_PutG (t : Int) (d : Dt) (H : Hp) (rb : Nat) (tab : Tab) (bv : AV) (bs : List UInt8) (hd : d.wf) (hgd : goodB t d = true) (hR : RT H rb tab) (hv : Rd H bv bs) (hb : bs.length ≤ 90000000) (ht : tab.length ≤ 900000) (hn : near tab) :
    ∃ (v : AV) (H' : Hp) (e : Ef), (∀ k, callK Tryd.prog 11 [bv, .ptr rb 0, .int .u16 t, .agg d.cells] H k = k (.tuple [v, .int .i64 0], H', e)) ∧ clean rb e ∧ Og H.length 5 H' v (u8s (putF d (formS t) 0 tab bs).1) ∧
      RT H' rb (putF d (formS t) 0 tab bs).2 ∧ H.length ≤ H'.length ∧ (∀ (i : Nat) (x : ABlk), i ≠ rb → frz x = true → H[i]? = some x → H'[i]? = some x) := by
  obtain ⟨⟨v, H', e⟩, ⟨h1, h2, h3, h4, h5⟩, hk⟩ := callK_exP (α := AV × Hp × Ef) (fun b => clean rb b.2.2 ∧ Og H.length 5 b.2.1 b.1 (u8s (putF d (formS t) 0 tab bs).1) ∧ RT b.2.1 rb (putF d (formS t) 0 tab bs).2 ∧ H.length ≤ b.2.1.length ∧ (∀ (i : Nat) (x : ABlk), i ≠ rb → frz x = true → H[i]? = some x → b.2.1[i]? = some x)) (fun b => (.tuple [b.1, .int .i64 0], b.2.1, b.2.2))
    (callK_mono (ref_Put t d H rb tab bv bs hd hgd hR hv hb ht hn) (fun r ⟨v, H', e, q1, q2, q3, q4, q5, q6⟩ => ⟨(v, H', e), ⟨q2, q3, q4, q5, q6⟩, q1⟩))
  exact ⟨v, H', e, hk, h1, h2, h3, h4, h5⟩
/-- Room with bytes at its head. -/
theorem room_bf {mb : Nat} {H : Hp} (A : List UInt8) {C : Nat} (hC : A.length ≤ C) (hm : mb < H.length) : Bf mb (H ++ [.cells (pad C A) 5 .rw]) (.slice H.length 0 A.length (.ex C)) A :=
  .inr ⟨H.length, _, List.replicate (C - A.length) (.int .u8 0), .rw, hm, rfl, by rw [hp_new0]; rfl, .inl ⟨_, rfl, hC, by rw [List.length_replicate]; omega, .inl rfl⟩⟩
theorem Lw.more {H Hc : Hp} {av bv : AV} {A : List UInt8} {tab : Tab} (h : Lw H Hc av bv A tab) (l : Hp) : Lw H (Hc ++ l) av bv A tab where
  m := get_app h.m
  t := get_app h.t
  r := h.r.old (fun i x hx => get_app hx)
  a := h.a.keep (fun i x _ hx => get_app hx)
  b := h.b.keep (fun i x _ hx => get_app hx)
  d := h.d
  old := fun i x hx => get_app (h.old i x hx)
  n := h.n
theorem Lw.swap {H Hc : Hp} {av bv : AV} {A : List UInt8} {tab : Tab} (h : Lw H Hc av bv A tab) (hle : H.length ≤ Hc.length) (zs : List UInt8) (hf : A.length + zs.length ≤ 1000000000) :
    ∃ (av1 bv1 : AV) (H1 H2 : Hp) (e1 e2 : Ef), (∀ kk, stepK (appTo Tryd.prog (.slice 5 1 1) av (u8s zs, zs.length) Hc) kk = kk (av1, H1, e1)) ∧ (∀ kk, stepK (appTo Tryd.prog (.slice 5 1 1) bv (u8s zs, zs.length) H1) kk = kk (bv1, H2, e2)) ∧
      clean H.length e1 ∧ clean H.length e2 ∧ Lw H H2 av1 bv1 (A ++ zs) tab ∧ H.length ≤ H2.length := by
  have hlt : H.length < Hc.length := lt_of_get h.m
  have hcell : ∀ {v : AV} {Hx : Hp} {B : List UInt8} {i : Nat} {x : ABlk}, Bf H.length Hx v B → Hx[i]? = some x → (∀ cs k, x ≠ .cells cs 5 k) → bk v ≠ some i := by
    intro v Hx B i x hB hx hne hh
    obtain ⟨post, k, hc⟩ := hB.cells hh
    rw [hx] at hc; cases hc; exact hne _ _ rfl
  obtain ⟨av1, H1, e1, a1, a2, a3, a4, a5, a6⟩ := h.a.app hlt zs (by simp only [fits, decide_eq_true_eq]; omega)
  have hb1 : Bf H.length H1 bv A := h.b.keep (fun i x hi hx => a4 i x (fun hh => h.d i hh hi) hx)
  obtain ⟨bv1, H2, e2, b1, b2, b3, b4, b5, b6⟩ := hb1.app (by omega) zs (by simp only [fits, decide_eq_true_eq]; omega)
  have hd1 : ∀ i, bk av1 = some i → bk bv ≠ some i := by
    intro i hi hh
    rcases a6 with a6 | ⟨j, hj, hjl⟩
    · exact h.d i (by rw [← a6]; exact hi) hh
    · have := (h.b.lt hh).2
      rw [hi] at hj; cases hj; omega
  refine ⟨av1, bv1, H1, H2, e1, e2, a1, b1, a5, b5, ?_, by omega⟩
  have m1 := a4 _ _ (hcell h.a h.m (by simp)) h.m
  have t1 := a4 _ _ (hcell h.a h.t (by intro cs k hh; cases hh)) h.t
  have r1 := h.r.bf h.a a4
  exact {
    m := b4 _ _ (hcell hb1 m1 (by simp)) m1
    t := b4 _ _ (hcell hb1 t1 (by intro cs k hh; cases hh)) t1
    r := r1.bf hb1 b4
    a := a2.keep (fun i x hi hx => b4 i x (hd1 i hi) hx)
    b := b2
    d := by
      intro i hi hh
      rcases b6 with b6 | ⟨j, hj, hjl⟩
      · exact hd1 i hi (by rw [← b6]; exact hh)
      · have := (a2.lt hi).2
        rw [hh] at hj; cases hj; omega
    old := fun i x hx => b4 i x (fun hh => by have := (hb1.lt hh).1; have := lt_of_get hx; omega) (a4 i x (fun hh => by have := (h.a.lt hh).1; have := lt_of_get hx; omega) (h.old i x hx))
    n := h.n }

attribute [local irreducible] go goOps goD opK callK callT stepK leaveTo nextK
set_option maxRecDepth 20000 in
set_option maxHeartbeats 4000000 in
theorem lawPuts (lv : AV) (R : List Itm) (H) (hk : Tk H) (htb : Tb H) (hdb : Db H) (hR : R.length ≤ 1048576) (hwf : ∀ x ∈ R, x.d.wf) (hfz : ∀ (i : Nat) (x : ABlk), H[i]? = some x → frz x = true)
    (hlv : (lv = .nils ∧ R = []) ∨ ∃ lb c e kd, lv = .slice lb 0 R.length c ∧ H[lb]? = some (.cells (itsC R) e kd)) : callK Tryd.prog 3 [lv] H (fun q => q = (.bool true, H, z0)) := by
  have hln : ∀ H', evLen Tryd.prog 22 lv H' = some (.int .i64 R.length) := by
    obtain ⟨rfl, rfl⟩ | ⟨lb, c, e, kd, rfl, _⟩ := hlv <;> intro H' <;> simp only [evLen, tsh_22] <;> rfl
  have hwk0 := fun k => wk H k hk htb hdb
  refine callK_start (n := 115) (rs := [.tmp 2]) Tryd.func3 rfl rfl rfl ?_
  intro σ hl ha
  have h0 := ha 0 (by simp)
  clear ha
  simp only [Option.getD_some, List.getElem?_cons_zero, List.getElem?_cons_succ] at h0
  by_cases hbig : 30 < R.length
  · have g1 : decide ((R.length : Int) > 30) = true := by simp; omega
    simp only [go_sem, simprocAttr, hl, h0, hln, g1, hwk0]
  have g1 : decide ((R.length : Int) > 30) = false := by simp; omega
  have hnew := fun k => press_New H k
  have hbd : evBuild Tryd.prog 30 [] = some (.agg [.nils, .nils]) := by kernel_rfl
  simp only [go_sem, simprocAttr, hl, h0, hln, g1, hnew, hbd]
  have hw0 : Lw H (H ++ [.map [], .cells [.map H.length] 59 .rw, .cells [.nils, .nils] 30 .rw]) .nils .nils [] [] := by
    refine ⟨by rw [hp_new0]; rfl, by rw [hp_new]; rfl, ⟨.nils, .nils, by rw [hp_new]; rfl, .inl ⟨rfl, rfl⟩, .inl ⟨rfl, rfl⟩⟩, .inl ⟨rfl, rfl⟩, .inl ⟨rfl, rfl⟩, fun i h => (by cases h), fun i x hx => get_app hx, fun x hx => (by cases hx)⟩
  refine go_rounds (fun m st => ∃ σ i av bv A tab Hc e, m + i = R.length ∧ st = ⟨σ, Hc, e⟩ ∧ clean H.length e ∧ Lw H Hc av bv A tab ∧ H.length ≤ Hc.length ∧ A.length ≤ i * 1200000 ∧ tab.length ≤ i * 2000 ∧ σ.length = 115 ∧ fr σ 0 = lv ∧ fr σ 3 = .ptr (H.length + 1) 0 ∧ fr σ 4 = .ptr (H.length + 2) 0 ∧ fr σ 5 = av ∧ fr σ 6 = bv ∧ fr σ 7 = .int .i64 (i : Nat)) R.length
    ⟨_, 0, _, _, [], [], _, _, rfl, rfl, by simp [clean, z0, low], hw0, by simp, by simp, by simp, by simp only [go_sem, simprocAttr, hl], by simp only [go_sem, simprocAttr, hl, h0], by simp only [go_sem, simprocAttr, hl], by simp only [go_sem, simprocAttr, hl], by simp only [go_sem, simprocAttr, hl], by simp only [go_sem, simprocAttr, hl], by simp only [go_sem, simprocAttr, hl]⟩ ?_
  clear h0 hl
  rintro m _ ⟨σ, i, av, bv, A, tab, Hc, e, hmi, rfl, hce, hw, hle, hAl, htl, hl, h0, h3, h4, h5, h6, h7⟩
  by_cases hlt : i < R.length
  · obtain ⟨x, hx⟩ : ∃ x, R[i]? = some x := ⟨_, List.getElem?_eq_getElem hlt⟩
    have hxd := hwf x (List.mem_of_getElem? hx)
    obtain ⟨lb, lc, le, lk, rfl, hlb⟩ : ∃ lb c e kd, lv = .slice lb 0 R.length c ∧ H[lb]? = some (.cells (itsC R) e kd) := by
      obtain ⟨_, rfl⟩ | h := hlv
      · simp at hlt
      · exact h
    obtain ⟨l0, l1, l2⟩ := its_ld hx le lk
    have hi' : (i : Int) < (R.length : Int) := by omega
    have hlc := hw.old _ _ hlb
    have hwi := wrap_succ (show i < 9223372036854775807 by omega)
    simp only [go_sem, simprocAttr, hl, h0, h3, h4, h5, h6, h7, hln, hi', hlc, l0, l1, l2]
    refine condK_cut (fun st => ∃ σ av bv A Hc e, st = ⟨σ, Hc, e⟩ ∧ clean H.length e ∧ Lw H Hc av bv A tab ∧ H.length ≤ Hc.length ∧ A.length ≤ i * 1200000 + 9000 ∧ σ.length = 115 ∧ fr σ 0 = .slice lb 0 R.length lc ∧ fr σ 3 = .ptr (H.length + 1) 0 ∧ fr σ 4 = .ptr (H.length + 2) 0 ∧ fr σ 5 = av ∧ fr σ 6 = bv ∧ fr σ 7 = .int .i64 (i : Nat)) ?_ ?_ ?_
    · intro hpos
      have hp0 : 0 < x.skip.tmod 9000 := by simpa using hpos
      have hp1 : x.skip.tmod 9000 < 9000 := Int.tmod_lt_of_pos _ (by decide)
      obtain ⟨kN, hkN⟩ : ∃ kN : Nat, x.skip.tmod 9000 = (kN : Int) := ⟨(x.skip.tmod 9000).toNat, by omega⟩
      obtain ⟨av1, bv1, H1, H2, e1, e2, a1, a2, a3, a4, a5, a6⟩ := hw.swap hle (List.replicate kN 0) (by rw [List.length_replicate]; omega)
      rw [List.length_replicate, ← rep_zero] at a1 a2
      have f1 : fits kN 1 = true := by simp only [fits, decide_eq_true_eq]; omega
      simp only [go_sem, simprocAttr, hl, h0, h3, h4, h5, h6, h7, hln, hkN, a1, a2, f1]
      exact ⟨_, av1, bv1, A ++ List.replicate kN 0, H2, _, rfl, by simp only [clean_andI, clean_z, hce, a3, a4, true_and, and_true], a5, a6, by rw [List.length_append, List.length_replicate]; omega, by simp only [go_sem, simprocAttr, hl], by simp only [go_sem, simprocAttr, hl, h0], by simp only [go_sem, simprocAttr, hl, h3], by simp only [go_sem, simprocAttr, hl, h4], by simp only [go_sem, simprocAttr, hl], by simp only [go_sem, simprocAttr, hl], by simp only [go_sem, simprocAttr, hl, h7]⟩
    · intro _
      have hA9 : A.length ≤ i * 1200000 + 9000 := Nat.le_trans hAl (Nat.le_add_right _ _)
      simp only [go_sem, simprocAttr]
      exact ⟨_, av, bv, A, Hc, _, rfl, hce, hw, hle, hA9, by simp only [go_sem, simprocAttr, hl], by simp only [go_sem, simprocAttr, hl, h0], by simp only [go_sem, simprocAttr, hl, h3], by simp only [go_sem, simprocAttr, hl, h4], by simp only [go_sem, simprocAttr, hl, h5], by simp only [go_sem, simprocAttr, hl, h6], by simp only [go_sem, simprocAttr, hl, h7]⟩
    · clear hw hle hAl hce h0 h3 h4 h5 h6 h7 hl hlc
      rintro _ ⟨σ, av, bv, A, Hc, e, rfl, hce, hw, hle, hAl, hl, h0, h3, h4, h5, h6, h7⟩
      have hlc := hw.old _ _ hlb
      have hlt' : H.length < Hc.length := lt_of_get hw.m
      obtain ⟨C, hC⟩ : ∃ C, C = A.length + 600 := ⟨_, rfl⟩
      have hCA : A.length ≤ C := by omega
      have hw2 := hw.more [.cells (pad C A) 5 .rw]
      have hroom := room_bf (mb := H.length) (H := Hc) A hCA hlt'
      have hlb2 := hw2.old _ _ hlb
      have wr6 : IntKind.i64.wrap ((A.length : Int) + 600) = (C : Int) := by rw [wrap_i64 (by omega)]; omega
      have hmk : ∀ H', evMake Tryd.prog 31 (.int .i64 (A.length : Nat)) (.int .i64 (C : Nat)) H' = some (.slice H'.length 0 A.length (.ex C), H' ++ [.cells (pad C []) 5 .rw]) := by
        intro H'
        simp only [evMake, tsh_31, tzero_5, Option.bind_some]
        rw [if_pos (by omega)]
        simp [rep_u8, pad_nil]
      have hcp : evCopy Tryd.prog 31 (.slice Hc.length 0 A.length (.ex C)) av (Hc ++ [.cells (pad C []) 5 .rw]) = some (.int .i64 (A.length : Nat), Hc ++ [.cells (pad C A) 5 .rw], ⟨none, some Hc.length⟩) := by
        have ha : appended (Hc ++ [.cells (pad C []) 5 .rw]) 1 av = some (u8s A, A.length) := (hw.a.rd.old _).appd
        have hw3 : wr (Hc ++ [.cells (pad C []) 5 .rw]) Hc.length 0 (u8s A) = some (Hc ++ [.cells (pad C A) 5 .rw], ⟨none, some Hc.length⟩) := by
          have hg : (Hc ++ [ABlk.cells (pad C []) 5 .rw])[Hc.length]? = some (.cells (pad C []) 5 .rw) := by rw [hp_new0]; rfl
          have hp0 : (pad C []).length = C := pad_len (by simp)
          have hsp : splice (pad C []) 0 (u8s A) = pad C A := by have := pad_sp (C := C) (bs := []) (xs := A) (by simpa using hCA); simpa using this
          unfold wr
          rw [hg]
          simp only
          rw [if_pos ⟨by rw [hp0, u8s_len]; omega, rfl, u8s_scal⟩, hsp, flats_by]
          simp [hp_set0]
        have ht : (u8s A).take (min A.length A.length * 1) = u8s A := by rw [List.take_of_length_le (by rw [u8s_len]; omega)]
        simp only [evCopy, tsh_31, ha, Option.bind_some, ht, hw3, Option.map_some]
        rw [Nat.min_self]
      have hla := fun H' => hw.a.rd.v.len H'
      simp only [go_sem, simprocAttr, hl, h0, h3, h4, h5, h6, h7, hln, hla, wr6, hmk, hcp, hlb2, l1, l2]
      have hkr := hk.old' hw2.old
      cases hgd : goodB x.ty x.d with
      | false =>
        have hp := fun k => rdata_PutN x.ty x.d (Hc ++ [.cells (pad C A) 5 .rw]) (H.length + 1) (.slice Hc.length 0 A.length (.ex C)) k hkr hxd hgd
        have hq := fun k => ref_PutN x.ty x.d (Hc ++ [.cells (pad C A) 5 .rw]) (H.length + 2) bv k hxd hgd
        have hs1 : evConv Tryd.prog 31 9 .nils (Hc ++ [.cells (pad C A) 5 .rw]) = some (.str [], Hc ++ [.cells (pad C A) 5 .rw]) := (show Rv _ .nils [] from .inl (.inl ⟨rfl, rfl⟩)).str
        have hs2 := hroom.rd.v.str
        have hs3 := hw2.a.rd.v.str
        refine go_drawZ tFollows (by kernel_rfl) ?_
        simp only [go_sem, simprocAttr, hl, h0, h3, h4, h5, h6, h7, hln, hlt, hla, hlb2, l1, l2, hp, hq, hs1, hs2, hs3]
        refine go_drawZ tFollows (by kernel_rfl) ?_
        simp only [go_sem, simprocAttr, hl, h0, h3, h4, h5, h6, h7, hln, hlt, hla, hlb2, l1, l2, hp, hq, hs1, hs2, hs3]
        have hq5 : A.length ≤ (i + 1) * 1200000 := by have := Nat.add_mul i 1 1200000; omega
        have hq6 : tab.length ≤ (i + 1) * 2000 := by have := Nat.add_mul i 1 2000; omega
        exact ⟨m - 1, by omega, _, i + 1, av, bv, A, tab, _, _, by omega, rfl, by simp only [clean_andI, clean_z, clean_sn, hce, true_and, and_true]; omega, hw2, by simp; omega, hq5, hq6, by simp only [go_sem, simprocAttr, hl], by simp only [go_sem, simprocAttr, hl, h0], by simp only [go_sem, simprocAttr, hl, h3], by simp only [go_sem, simprocAttr, hl, h4], by simp only [go_sem, simprocAttr, hl, h5], by simp only [go_sem, simprocAttr, hl, h6], by simp only [go_sem, simprocAttr, hl, hwi]⟩
      | true =>
        obtain ⟨xv, H3, e3, hp, p2, p3, p4, p5, p6, p7, p8, p9⟩ := rdata_PutG x.ty x.d (Hc ++ [.cells (pad C A) 5 .rw]) H.length (H.length + 1) tab (.slice Hc.length 0 A.length (.ex C)) A hkr hxd hgd hw2.m hw2.t hroom (by omega) hw2.n
        have hR3 := hw2.r.km hw2.m p9
        have hbk : ∀ {v : AV} {B : List UInt8} (j : Nat) (y : ABlk), Bf H.length (Hc ++ [.cells (pad C A) 5 .rw]) v B → bk v = some j → (Hc ++ [ABlk.cells (pad C A) 5 .rw])[j]? = some y → H3[j]? = some y := fun j y hB hj hy => p9 j y (by have := (hB.lt hj).1; omega) hy
        have ha3 : Bf H.length H3 av A := hw2.a.keep (fun j y hj hy => hbk j y hw2.a hj hy)
        have hb3 : Bf H.length H3 bv A := hw2.b.keep (fun j y hj hy => hbk j y hw2.b hj hy)
        have hm3 : Bf H.length H3 (.slice Hc.length 0 A.length (.ex C)) A := hroom.keep (fun j y hj hy => hbk j y hroom hj hy)
        have htl' : tab.length ≤ 900000 := by omega
        obtain ⟨yv, H4, e4, hq, q2, q3, q4, q5, q6⟩ := ref_PutG x.ty x.d H3 (H.length + 2) tab bv A hxd hgd hR3 hb3.rd (by omega) htl' hw2.n
        have hpt := putF_tabG hgd tab A
        generalize putF x.d (formS x.ty) 0 tab A = Q at *
        obtain ⟨out, tab'⟩ := Q
        simp only at p3 p6 p7 p8 q3 q4 hpt
        have hle3 : H.length + 2 < H3.length := by have := lt_of_get hR3.choose_spec.choose_spec.1; omega
        have hkeep4 : ∀ (j : Nat) (y : ABlk), j ≠ H.length + 2 → frz y = true → H3[j]? = some y → H4[j]? = some y := q6
        have hbf4 : ∀ {v : AV} {B : List UInt8}, Bf H.length H3 v B → Bf H.length H4 v B := fun {v B} hB => hB.keep (fun j y hj hy => by
          obtain ⟨post, kd, hc⟩ := hB.cells hj
          rw [hc] at hy; cases hy
          refine q6 j _ ?_ ?_ hc
          · rintro rfl
            obtain ⟨nv, pv, hr, _⟩ := hR3
            rw [hr] at hc
            simp only [Option.some.injEq, ABlk.cells.injEq] at hc
            exact absurd hc.2.1 (by decide)
          · cases kd <;> rfl)
        have hx4 := hbf4 p3
        have hm4 := hbf4 hm3
        have ha4 := hbf4 ha3
        have hy4 : Bf H.length H4 yv out := q3.bf (by omega)
        have hsx := hx4.rd.v.str
        have hsy := hy4.rd.v.str
        have hsm := hm4.rd.v.str
        have hsa := ha4.rd.v.str
        have hw4 : Lw H H4 xv yv out tab' := {
          m := q6 _ _ (by omega) rfl p6
          t := q6 _ _ (by omega) rfl (p9 _ _ (by omega) hw2.t)
          r := q4
          a := hx4
          b := hy4
          d := by
            intro j hj hh
            have h1 := (p3.lt hj).2
            have h2 := (q3.cells hh).1
            omega
          old := fun j y hy => by
            have hj := lt_of_get hy
            exact q6 j y (by omega) (hfz j y hy) (p9 j y (by omega) (hw2.old j y hy))
          n := p7 }
        have hce4 : clean H.length e4 := clean_mono q2 (by omega)
        have hq5 : out.length ≤ (i + 1) * 1200000 := by have := Nat.add_mul i 1 1200000; omega
        have hq6 : tab'.length ≤ (i + 1) * 2000 := by have := Nat.add_mul i 1 2000; omega
        have hlb3 : H3[lb]? = some (.cells (itsC R) le lk) := p9 _ _ (by have := lt_of_get hlb; omega) hlb2
        refine go_drawZ tFollows (by kernel_rfl) ?_
        cases hq1 : quiet (.nili, H3, e3) (Hc ++ [.cells (pad C A) 5 .rw])
        all_goals
          have hq1 := fun (w : AV) => (show quiet (w, H3, e3) (Hc ++ [.cells (pad C A) 5 .rw]) = _ from hq1)
          simp only [go_sem, simprocAttr, hl, h0, h3, h4, h5, h6, h7, hln, hlt, hla, hlb2, l1, l2, hp, hq1, nextZ_t]
          rcases tg_or 12 e3 with hh | hh <;> (try rw [hh])
          all_goals
            try refine ⟨(by kernel_rfl : effOk _ _ _ = true), ?_⟩
            refine go_drawZ tFollows (by kernel_rfl) ?_
            cases hq2 : quiet (.nili, H4, e4) H3
            all_goals
              have hq2 := fun (w : AV) => (show quiet (w, H4, e4) H3 = _ from hq2)
              simp only [go_sem, simprocAttr, hl, h0, h3, h4, h5, h6, h7, hln, hlt, hla, hlb3, l1, l2, hq, hq2, nextZ_t, hsx, hsy, hsm, hsa]
              rcases tg_or 12 e4 with hh2 | hh2 <;> (try rw [hh2])
              all_goals
                try refine ⟨(by kernel_rfl : effOk _ _ _ = true), ?_⟩
                exact ⟨m - 1, by omega, _, i + 1, xv, yv, out, tab', H4, _, by omega, rfl, by simp only [clean_andI, clean_z, clean_sn, hce, p2, hce4, true_and, and_true]; omega, hw4, by omega, hq5, hq6, by simp only [go_sem, simprocAttr, hl], by simp only [go_sem, simprocAttr, hl, h0], by simp only [go_sem, simprocAttr, hl, h3], by simp only [go_sem, simprocAttr, hl, h4], by simp only [go_sem, simprocAttr, hl], by simp only [go_sem, simprocAttr, hl], by simp only [go_sem, simprocAttr, hl, hwi]⟩
  · have hi : i = R.length := by omega
    subst hi
    have hbd2 : evBuild Tryd.prog 37 [(0, .str [97, 98, 99, 100])] = some (.agg [.str [97, 98, 99, 100], .str [], .str [], .int .u32 0, .int .u32 0, .int .u32 0, .int .u32 0, .int .u32 0]) := by kernel_rfl
    have hp0 := fun k => rdata_Put0 1 [.str [97, 98, 99, 100], .str [], .str [], .int .u32 0, .int .u32 0, .int .u32 0, .int .u32 0, .int .u32 0] Hc .nils k
    have hwk := fun k => wk Hc k (hk.old' hw.old) (htb.old' hw.old) (hdb.old' hw.old)
    simp only [go_sem, simprocAttr, hl, h0, h3, h4, h5, h6, h7, hln, hlt, hbd2, hp0, hwk]
    trace_state
    exact leave_abs (v := .bool true) rfl hce hw.old
end Go.Proofs.YtgkpgpdkolpfkaaDoor.V
