/- What reads as nested plain data: its cells. No conditions. -/
import Derived.Test.YtgkpgpdkolpfkaaDoorVLaid
namespace Go.Proofs.YtgkpgpdkolpfkaaDoor.V
open Go Go.RowKit
set_option linter.unusedSimpArgs false
set_option linter.unusedVariables false

mutual
/-- Plain data's cells. -/
def flatC {H : Type} : DataW H → List AV
  | .lit (.int k n) => [.int k n]
  | .lit (.string s) => [.str s]
  | .lit (.bool b) => [.bool b]
  | .agg ps => flatCs ps
  | _ => [.nili]
def flatCs {H : Type} : List (DataW H) → List AV
  | [] => []
  | d :: r => flatC d ++ flatCs r
end
def fieldsT (P : Program) (f : TypeId → Bool) : List Field → Nat → Nat → Bool
  | [], o, z => o == z
  | x :: r, o, z => x.offset == o && (f x.type && fieldsT P f r (o + P.cellsOf x.type) z)
/-- A type of plain data. -/
def plainT (P : Program) : Nat → TypeId → Bool
  | 0, _ => false
  | d + 1, t => match P.underlying t with
    | some (.int _) => true
    | some .string => true
    | some .bool => true
    | some (.array n e) => plainT P d e && P.cellsOf t == n * P.cellsOf e
    | some (.struct fs) => fieldsT P (plainT P d) fs.toList 0 (P.cellsOf t)
    | _ => false

section
variable {H : Type} {enc : TypeId × Value → H} {P : Program} {W : World} {base : Nat} {sp : Nat → Bool} {held : Bool}

theorem concs_app {μ : Mu} : ∀ {a b : List AV} {x y : List Value}, concs μ a = some x → concs μ b = some y → concs μ (a ++ b) = some (x ++ y)
  | [], b, x, y, h, h' => by cases h; simpa using h'
  | v :: a, b, x, y, h, h' => by
    simp only [concs, Option.bind_eq_some_iff, Option.map_eq_some_iff] at h
    obtain ⟨c, hc, xs, hx, rfl⟩ := h
    have := concs_app hx h'
    simp only [List.cons_append, concs, hc, this, Option.bind_some, Option.map_some]
theorem pieces {μ : Mu} {c : Nat} : ∀ (xs : List (DataW H × List MemPlace)) (cs : List Value), cs.length = xs.length * c →
    (∀ i x, xs[i]? = some x → concs μ (flatC x.1) = some ((cs.drop (i * c)).take c)) → concs μ (flatCs (xs.map (·.1))) = some cs
  | [], cs, hl, _ => by
    have : cs = [] := List.length_eq_zero_iff.1 (by simpa using hl)
    subst this; rfl
  | x :: xs, cs, hl, h => by
    have h0 := h 0 x rfl
    simp only [Nat.zero_mul, List.drop_zero] at h0
    have ih := pieces (μ := μ) (c := c) xs (cs.drop c) (by rw [List.length_drop, hl, List.length_cons, Nat.add_mul]; omega) (fun i y hy => by
      have := h (i + 1) y (by simpa using hy)
      rw [List.drop_drop, show c + i * c = (i + 1) * c by rw [Nat.add_mul]; omega]
      exact this)
    have := concs_app h0 ih
    rw [List.take_append_drop] at this
    simpa [flatCs] using this
theorem fields {μ : Mu} {z : Nat} {f : TypeId → Bool} {cs : List Value} {g : TypeId → List Value → Option (DataW H × List MemPlace)}
    (hf : ∀ t l x, f t = true → g t l = some x → concs μ (flatC x.1) = some l) : ∀ (fs : List Field) (xs : List (DataW H × List MemPlace)) (o : Nat), fieldsT P f fs o z = true → o ≤ z → xs.length = fs.length → cs.length = z →
    (∀ (i : Nat) (x : Field), fs[i]? = some x → g x.type ((cs.drop x.offset).take (P.cellsOf x.type)) = xs[i]?) → concs μ (flatCs (xs.map (·.1))) = some (cs.drop o)
  | [], [], o, h, hoz, _, hz, _ => by
    simp only [fieldsT, beq_iff_eq] at h
    rw [List.drop_eq_nil_of_le (by omega)]; rfl
  | [], _ :: _, _, _, _, hl, _, _ => by simp at hl
  | _ :: _, [], _, _, _, hl, _, _ => by simp at hl
  | x :: fs, y :: xs, o, h, hoz, hl, hz, hx => by
    simp only [fieldsT, Bool.and_eq_true, beq_iff_eq] at h
    obtain ⟨rfl, h1, h2⟩ := h
    have h0 := hf _ _ _ h1 (hx 0 x rfl)
    have hle : x.offset + P.cellsOf x.type ≤ z := by
      have : ∀ (fs : List Field) (o : Nat), fieldsT P f fs o z = true → o ≤ z := by
        intro fs
        induction fs with
        | nil => intro o h; simp only [fieldsT, beq_iff_eq] at h; omega
        | cons a r ih =>
          intro o h
          simp only [fieldsT, Bool.and_eq_true, beq_iff_eq] at h
          have := ih _ h.2.2
          omega
      exact this _ _ h2
    have ih := fields hf fs xs (x.offset + P.cellsOf x.type) h2 hle (by simpa using hl) hz (fun i w hw => by simpa using hx (i + 1) w (by simpa using hw))
    have := concs_app h0 ih
    have e : (cs.drop x.offset).take (P.cellsOf x.type) ++ cs.drop (x.offset + P.cellsOf x.type) = cs.drop x.offset := by
      rw [← List.drop_drop, List.take_append_drop]
    rw [e] at this
    simpa [flatCs] using this
theorem trod_flat {μ : Mu} : ∀ (m fuel : Nat) (t : TypeId) (cs : List Value) (x : DataW H × List MemPlace), plainT P m t = true → DataW.trod enc P W base sp held fuel t cs = some x → concs μ (flatC x.1) = some cs
  | 0, _, _, _, _, h, _ => by cases h
  | m + 1, fuel, t, cs, x, h, hx => by
    unfold plainT at h
    split at h
    · rename_i k ht
      obtain ⟨n, rfl, rfl, _⟩ := DataW.trod_int ht hx
      simp [flatC, concs, conc]
    · rename_i ht
      obtain ⟨s, rfl, rfl, _⟩ := DataW.trod_string ht hx
      simp [flatC, concs, conc]
    · rename_i ht
      obtain ⟨b, rfl, rfl⟩ := DataW.trod_bool ht hx
      simp [flatC, concs, conc]
    · rename_i n e ht
      simp only [Bool.and_eq_true, beq_iff_eq] at h
      obtain ⟨xs, q, rfl, rfl, hcl, hxl, hel⟩ := DataW.trod_array ht hx
      refine pieces (c := P.cellsOf e) xs cs (by rw [hcl, hxl, h.2]) (fun i y hy => ?_)
      have hi : i < n := by rw [← hxl]; exact (List.getElem?_eq_some_iff.1 hy).1
      have := hel i hi
      rw [hy] at this
      exact trod_flat m q e _ y h.1 this
    · rename_i fs ht
      obtain ⟨xs, q, rfl, rfl, hcl, hxl, hel⟩ := DataW.trod_struct ht hx
      have := fields (P := P) (μ := μ) (g := fun t l => DataW.trod enc P W base sp held q t l) (cs := cs) (fun t l x h1 h2 => trod_flat m q t l x h1 h2) fs.toList xs 0 h (Nat.zero_le _) (by simpa using hxl) hcl (fun i f hf => hel i f (by simpa using hf))
      simpa [flatC] using this
    · cases h
end
end Go.Proofs.YtgkpgpdkolpfkaaDoor.V
