/- The relation between the abstract heap of 'V' and a world, and what new blocks and stores do to it. No conditions. -/
import Derived.Test.YtgkpgpdkolpfkaaDoorVBase
import Derived.Deep.MidRow
import Derived.Deep.AppendSrc
import Derived.Below
namespace Go.Proofs.YtgkpgpdkolpfkaaDoor.V
open Go
set_option linter.unusedSimpArgs false
set_option linter.unusedVariables false

/-- Where an abstract block lies: its block, its first cell, the capacity from there (in elements). -/
structure Loc where
  blk : Nat
  base : Nat
  cap : Nat
abbrev Mu := Nat → Option Loc

mutual
def conc (μ : Mu) : AV → Option Value
  | .bool b => some (.bool b)
  | .int k n => some (.int k n)
  | .float k b => some (.float k b)
  | .str s => some (.string ⟨s.toArray⟩)
  | .ptr b o => (μ b).map fun l => .pointer (some ⟨l.blk, l.base + o, none⟩)
  | .nilp => some (.pointer none)
  | .slice b o n c => (μ b).map fun l => .slice (some ⟨l.blk, l.base + o, none⟩) n (match c with | .ex c => c | .op k => l.cap - k)
  | .nils => some (.slice none 0 0)
  | .map r => (μ r).map fun l => .map (some l.blk)
  | .nilm => some (.map none)
  | .func fn f c => (concs μ f).bind fun f => (concs μ c).map fun c => .func fn f.toArray c.toArray
  | .nilf => some .nilFunc
  | .iface t v => (conc μ v).map (.iface t)
  | .nili => some .nilIface
  | .agg cs => (concs μ cs).map fun l => .agg l.toArray
  | .tuple cs => (concs μ cs).map fun l => .tuple l.toArray
  | .yld b => (μ b).map fun l => .func (.yield l.blk) #[] #[]
def concs (μ : Mu) : List AV → Option (List Value)
  | [] => some []
  | v :: vs => (conc μ v).bind fun x => (concs μ vs).map (x :: ·)
end

def Le (μ μ' : Mu) : Prop := ∀ b l, μ b = some l → μ' b = some l
theorem Le.refl (μ : Mu) : Le μ μ := fun _ _ h => h
theorem Le.trans {a b c : Mu} (h : Le a b) (k : Le b c) : Le a c := fun x l e => k x l (h x l e)

mutual
theorem conc_le {μ μ' : Mu} (h : Le μ μ') : ∀ (v : AV) {x : Value}, conc μ v = some x → conc μ' v = some x
  | .bool _, _, e => e
  | .int _ _, _, e => e
  | .float _ _, _, e => e
  | .str _, _, e => e
  | .nilp, _, e => e
  | .nils, _, e => e
  | .nilm, _, e => e
  | .nilf, _, e => e
  | .nili, _, e => e
  | .ptr b o, x, e => by
    simp only [conc, Option.map_eq_some_iff] at e ⊢
    obtain ⟨l, hl, he⟩ := e
    exact ⟨l, h _ _ hl, he⟩
  | .slice b o n c, x, e => by
    simp only [conc, Option.map_eq_some_iff] at e ⊢
    obtain ⟨l, hl, he⟩ := e
    exact ⟨l, h _ _ hl, he⟩
  | .map r, x, e => by
    simp only [conc, Option.map_eq_some_iff] at e ⊢
    obtain ⟨l, hl, he⟩ := e
    exact ⟨l, h _ _ hl, he⟩
  | .func fn f c, x, e => by
    simp only [conc, Option.bind_eq_some_iff, Option.map_eq_some_iff] at e ⊢
    obtain ⟨a, ha, b, hb, he⟩ := e
    exact ⟨a, concs_le h f ha, b, concs_le h c hb, he⟩
  | .iface t v, x, e => by
    simp only [conc, Option.map_eq_some_iff] at e ⊢
    obtain ⟨l, hl, he⟩ := e
    exact ⟨l, conc_le h v hl, he⟩
  | .agg cs, x, e => by
    simp only [conc, Option.map_eq_some_iff] at e ⊢
    obtain ⟨l, hl, he⟩ := e
    exact ⟨l, concs_le h cs hl, he⟩
  | .tuple cs, x, e => by
    simp only [conc, Option.map_eq_some_iff] at e ⊢
    obtain ⟨l, hl, he⟩ := e
    exact ⟨l, concs_le h cs hl, he⟩
  | .yld b, x, e => by
    simp only [conc, Option.map_eq_some_iff] at e ⊢
    obtain ⟨l, hl, he⟩ := e
    exact ⟨l, h b l hl, he⟩
theorem concs_le {μ μ' : Mu} (h : Le μ μ') : ∀ (vs : List AV) {x : List Value}, concs μ vs = some x → concs μ' vs = some x
  | [], _, e => e
  | v :: vs, x, e => by
    simp only [concs, Option.bind_eq_some_iff, Option.map_eq_some_iff] at e ⊢
    obtain ⟨a, ha, b, hb, he⟩ := e
    exact ⟨a, conc_le h v ha, b, concs_le h vs hb, he⟩
end

mutual
theorem conc_flat (μ μ' : Mu) : ∀ (v : AV), flat v = true → conc μ v = conc μ' v
  | .bool _, _ => rfl
  | .int _ _, _ => rfl
  | .float _ _, _ => rfl
  | .str _, _ => rfl
  | .nilp, _ => rfl
  | .nils, _ => rfl
  | .nilm, _ => rfl
  | .nilf, _ => rfl
  | .nili, _ => rfl
  | .ptr b o, e => by simp [flat] at e
  | .slice b o n c, e => by simp [flat] at e
  | .map r, e => by simp [flat] at e
  | .yld b, e => by simp [flat] at e
  | .func fn f c, e => by
    simp only [flat, Bool.and_eq_true] at e
    simp only [conc, concs_flat μ μ' f e.1, concs_flat μ μ' c e.2]
  | .iface t v, e => by
    simp only [flat] at e
    simp only [conc, conc_flat μ μ' v e]
  | .agg cs, e => by
    simp only [flat] at e
    simp only [conc, concs_flat μ μ' cs e]
  | .tuple cs, e => by
    simp only [flat] at e
    simp only [conc, concs_flat μ μ' cs e]
theorem concs_flat (μ μ' : Mu) : ∀ (v : List AV), flats v = true → concs μ v = concs μ' v
  | [], _ => rfl
  | v :: vs, e => by
    simp only [flats, Bool.and_eq_true] at e
    simp only [concs, conc_flat μ μ' v e.1, concs_flat μ μ' vs e.2]
end

mutual
theorem conc_flat_some (μ : Mu) : ∀ (v : AV), flat v = true → ∃ x, conc μ v = some x
  | .bool _, _ => ⟨_, rfl⟩
  | .int _ _, _ => ⟨_, rfl⟩
  | .float _ _, _ => ⟨_, rfl⟩
  | .str _, _ => ⟨_, rfl⟩
  | .nilp, _ => ⟨_, rfl⟩
  | .nils, _ => ⟨_, rfl⟩
  | .nilm, _ => ⟨_, rfl⟩
  | .nilf, _ => ⟨_, rfl⟩
  | .nili, _ => ⟨_, rfl⟩
  | .ptr b o, e => by simp [flat] at e
  | .slice b o n c, e => by simp [flat] at e
  | .map r, e => by simp [flat] at e
  | .yld b, e => by simp [flat] at e
  | .func fn f c, e => by
    simp only [flat, Bool.and_eq_true] at e
    obtain ⟨a, ha⟩ := concs_flat_some μ f e.1
    obtain ⟨b, hb⟩ := concs_flat_some μ c e.2
    exact ⟨_, by simp only [conc, ha, hb, Option.bind_some, Option.map_some]; rfl⟩
  | .iface t v, e => by
    simp only [flat] at e
    obtain ⟨a, ha⟩ := conc_flat_some μ v e
    exact ⟨_, by simp only [conc, ha, Option.map_some]; rfl⟩
  | .agg cs, e => by
    simp only [flat] at e
    obtain ⟨a, ha⟩ := concs_flat_some μ cs e
    exact ⟨_, by simp only [conc, ha, Option.map_some]; rfl⟩
  | .tuple cs, e => by
    simp only [flat] at e
    obtain ⟨a, ha⟩ := concs_flat_some μ cs e
    exact ⟨_, by simp only [conc, ha, Option.map_some]; rfl⟩
theorem concs_flat_some (μ : Mu) : ∀ (v : List AV), flats v = true → ∃ x, concs μ v = some x
  | [], _ => ⟨_, rfl⟩
  | v :: vs, e => by
    simp only [flats, Bool.and_eq_true] at e
    obtain ⟨a, ha⟩ := conc_flat_some μ v e.1
    obtain ⟨b, hb⟩ := concs_flat_some μ vs e.2
    exact ⟨_, by simp only [concs, ha, hb, Option.bind_some, Option.map_some]; rfl⟩
end

mutual
theorem conc_abs (μ : Mu) : ∀ (x : Value) {a : AV}, absV x = some a → conc μ a = some x
  | .bool _, _, e => by cases e; rfl
  | .int _ _, _, e => by cases e; rfl
  | .float _ _, _, e => by cases e; rfl
  | .string s, _, e => by cases e; rfl
  | .pointer none, _, e => by cases e; rfl
  | .slice none 0 0, _, e => by cases e; rfl
  | .map none, _, e => by cases e; rfl
  | .func fn ⟨[]⟩ ⟨[]⟩, _, e => by cases e; rfl
  | .nilFunc, _, e => by cases e; rfl
  | .iface t v, a, e => by
    simp only [absV, Option.map_eq_some_iff] at e
    obtain ⟨b, hb, rfl⟩ := e
    simp only [conc, conc_abs μ v hb, Option.map_some]
  | .nilIface, _, e => by cases e; rfl
  | .agg ⟨cs⟩, a, e => by
    simp only [absV, Option.map_eq_some_iff] at e
    obtain ⟨b, hb, rfl⟩ := e
    simp only [conc, concs_abs μ cs hb, Option.map_some]
  | .tuple ⟨cs⟩, a, e => by
    simp only [absV, Option.map_eq_some_iff] at e
    obtain ⟨b, hb, rfl⟩ := e
    simp only [conc, concs_abs μ cs hb, Option.map_some]
  | .complex _ _ _, _, e => by simp [absV] at e
  | .pointer (some _), _, e => by simp [absV] at e
  | .slice (some _) _ _, _, e => by simp [absV] at e
  | .slice none (_ + 1) _, _, e => by simp [absV] at e
  | .slice none 0 (_ + 1), _, e => by simp [absV] at e
  | .map (some _), _, e => by simp [absV] at e
  | .chan _, _, e => by simp [absV] at e
  | .func _ ⟨_ :: _⟩ _, _, e => by simp [absV] at e
  | .func _ ⟨[]⟩ ⟨_ :: _⟩, _, e => by simp [absV] at e
theorem concs_abs (μ : Mu) : ∀ (xs : List Value) {a : List AV}, absVs xs = some a → concs μ a = some xs
  | [], _, e => by cases e; rfl
  | v :: vs, a, e => by
    simp only [absVs, Option.bind_eq_some_iff, Option.map_eq_some_iff] at e
    obtain ⟨b, hb, c, hc, rfl⟩ := e
    simp only [concs, conc_abs μ v hb, concs_abs μ vs hc, Option.bind_some, Option.map_some]
end

/-! ### lists of values -/
theorem concs_append {μ : Mu} : ∀ (a b : List AV), concs μ (a ++ b) = (concs μ a).bind fun x => (concs μ b).map (x ++ ·)
  | [], b => by simp [concs]
  | v :: vs, b => by
    simp only [List.cons_append, concs, concs_append vs b]
    cases conc μ v <;> simp
    cases concs μ vs <;> simp
    cases concs μ b <;> simp

theorem concs_append_some {μ : Mu} {a b : List AV} {x y : List Value} (ha : concs μ a = some x) (hb : concs μ b = some y) : concs μ (a ++ b) = some (x ++ y) := by
  simp [concs_append, ha, hb]

theorem concs_length {μ : Mu} : ∀ {a : List AV} {x : List Value}, concs μ a = some x → x.length = a.length
  | [], x, e => by cases e; rfl
  | v :: vs, x, e => by
    simp only [concs, Option.bind_eq_some_iff, Option.map_eq_some_iff] at e
    obtain ⟨y, _, ys, hys, rfl⟩ := e
    simp [concs_length hys]

theorem concs_get {μ : Mu} : ∀ {a : List AV} {x : List Value}, concs μ a = some x → ∀ i : Nat, x[i]? = (a[i]?).bind (conc μ)
  | [], x, e, i => by cases e; simp
  | v :: vs, x, e, i => by
    simp only [concs, Option.bind_eq_some_iff, Option.map_eq_some_iff] at e
    obtain ⟨y, hy, ys, hys, rfl⟩ := e
    cases i with
    | zero => simp [hy]
    | succ i => simpa using concs_get hys i

theorem concs_take {μ : Mu} : ∀ {a : List AV} {x : List Value}, concs μ a = some x → ∀ n : Nat, concs μ (a.take n) = some (x.take n)
  | _, _, _, 0 => by simp [concs]
  | [], x, e, n + 1 => by cases e; simp [concs]
  | v :: vs, x, e, n + 1 => by
    simp only [concs, Option.bind_eq_some_iff, Option.map_eq_some_iff] at e
    obtain ⟨y, hy, ys, hys, rfl⟩ := e
    simp [concs, hy, concs_take hys n]

theorem concs_drop {μ : Mu} : ∀ {a : List AV} {x : List Value}, concs μ a = some x → ∀ n : Nat, concs μ (a.drop n) = some (x.drop n)
  | _, _, e, 0 => by simpa using e
  | [], x, e, n + 1 => by cases e; simp [concs]
  | v :: vs, x, e, n + 1 => by
    simp only [concs, Option.bind_eq_some_iff, Option.map_eq_some_iff] at e
    obtain ⟨y, hy, ys, hys, rfl⟩ := e
    simpa using concs_drop hys n

theorem concs_set {μ : Mu} : ∀ {a : List AV} {x : List Value} (d : Nat) {v : AV} {y : Value}, concs μ a = some x → conc μ v = some y → concs μ (a.set d v) = some (x.set d y)
  | [], x, d, v, y, e, h => by cases e; simp [concs]
  | u :: us, x, d, v, y, e, h => by
    simp only [concs, Option.bind_eq_some_iff, Option.map_eq_some_iff] at e
    obtain ⟨z, hz, zs, hzs, rfl⟩ := e
    cases d with
    | zero => simp [concs, h, hzs]
    | succ d => simp [concs, hz, concs_set d hzs h]

theorem concs_mk {μ : Mu} : ∀ (a : List AV), (∀ v ∈ a, ∃ x, conc μ v = some x) → ∃ x, concs μ a = some x
  | [], _ => ⟨_, rfl⟩
  | v :: vs, h => by
    obtain ⟨x, hx⟩ := h v (by simp)
    obtain ⟨xs, hxs⟩ := concs_mk vs (fun u hu => h u (by simp [hu]))
    exact ⟨x :: xs, by simp [concs, hx, hxs]⟩

theorem concs_mem {μ : Mu} {a : List AV} {x : List Value} (h : concs μ a = some x) : ∀ v ∈ a, ∃ y, conc μ v = some y := by
  intro v hv
  obtain ⟨i, hi, rfl⟩ := List.mem_iff_getElem.1 hv
  have hlen := concs_length h
  have := concs_get h i
  rw [List.getElem?_eq_getElem hi, List.getElem?_eq_getElem (by omega)] at this
  exact ⟨_, this.symm⟩

theorem concs_splice {μ : Mu} {c xs : List AV} {x y : List Value} (hc : concs μ c = some x) (hx : concs μ xs = some y) (o : Nat) :
    concs μ (splice c o xs) = some (x.take o ++ y ++ x.drop (o + y.length)) := by
  rw [concs_length hx]
  exact concs_append_some (concs_append_some (concs_take hc o) hx) (concs_drop hc _)

theorem scal_one {μ : Mu} {v : AV} {x : Value} (h : conc μ v = some x) (hs : scal v = true) : x.oneCell' = true := by
  cases v <;> simp only [scal] at hs <;> simp only [conc] at h
  all_goals first
    | (cases hs; done)
    | (cases h; rfl)
    | (simp only [Option.map_eq_some_iff] at h; obtain ⟨_, _, rfl⟩ := h; rfl)
    | (simp only [Option.bind_eq_some_iff, Option.map_eq_some_iff] at h; obtain ⟨_, _, _, _, rfl⟩ := h; rfl)

theorem scals_one {μ : Mu} {a : List AV} {x : List Value} (h : concs μ a = some x) (hs : a.all scal = true) : ∀ v ∈ x, v.oneCell' = true := by
  intro v hv
  obtain ⟨i, hi, rfl⟩ := List.mem_iff_getElem.1 hv
  have hlen := concs_length h
  have := concs_get h i
  rw [List.getElem?_eq_getElem hi, List.getElem?_eq_getElem (by omega)] at this
  exact scal_one this.symm (List.all_eq_true.1 hs _ (List.getElem_mem _))

theorem vcells_conc {μ : Mu} {v : AV} {x : Value} (h : conc μ v = some x) : concs μ (vcells v) = some x.cells.toList := by
  cases v <;> simp only [vcells, concs] <;> simp only [conc] at h
  case agg cs =>
    simp only [Option.map_eq_some_iff] at h
    obtain ⟨l, hl, rfl⟩ := h
    simpa [Value.cells] using hl
  all_goals first
    | (cases h; rfl)
    | (simp only [Option.map_eq_some_iff] at h; obtain ⟨l, hl, rfl⟩ := h; simp [conc, hl, Value.cells]; done)
    | (simp only [Option.bind_eq_some_iff, Option.map_eq_some_iff] at h; obtain ⟨l, hl, l', hl', rfl⟩ := h; simp [conc, hl, hl', Value.cells]; done)

end Go.Proofs.YtgkpgpdkolpfkaaDoor.V
