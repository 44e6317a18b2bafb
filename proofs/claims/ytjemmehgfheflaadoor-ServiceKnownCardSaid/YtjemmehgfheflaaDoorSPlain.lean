/- The service chapter's texts, plainly: what a host is, what is safe, digits. No conditions. -/
import Derived.Test.YtjemmehgfheflaaDoorVBase
namespace Go.Proofs.YtjemmehgfheflaaDoor.V
set_option linter.unusedSimpArgs false
set_option linter.unusedVariables false

def hostC (c : UInt8) : Bool := decide ((97 ≤ c.toNat ∧ c.toNat ≤ 122) ∨ (48 ≤ c.toNat ∧ c.toNat ≤ 57) ∨ c.toNat = 45)
def safeP (c : UInt8) : Bool := decide ((97 ≤ c.toNat ∧ c.toNat ≤ 122) ∨ (65 ≤ c.toNat ∧ c.toNat ≤ 90) ∨ (48 ≤ c.toNat ∧ c.toNat ≤ 57) ∨ c.toNat = 45 ∨ c.toNat = 46 ∨ c.toNat = 95)
/-- A host's label. -/
def hostP (s : List UInt8) : Bool := decide (0 < s.length ∧ s.length < 63) && (s.all hostC && (!(s[0]? == some 45) && !(s[s.length - 1]? == some 45)))
/-- A digit to the base 16. -/
def hexD (n : Nat) : UInt8 := if n < 10 then UInt8.ofNat (48 + n) else UInt8.ofNat (87 + n)
def twoP (c : UInt8) : List UInt8 := [hexD (c.toNat / 16), hexD (c.toNat % 16)]
def hexP (s : List UInt8) : List UInt8 := s.flatMap twoP
/-- A number's digits. -/
def decP (n : Nat) : List UInt8 := if n < 10 then [hexD n] else decP (n / 10) ++ [hexD (n % 10)]
termination_by n
decreasing_by omega

theorem hexD_at {n : Nat} (h : n < 16) : ([48, 49, 50, 51, 52, 53, 54, 55, 56, 57, 97, 98, 99, 100, 101, 102] : List UInt8)[n]? = some (hexD n) := by
  have : ∀ n : Fin 16, ([48, 49, 50, 51, 52, 53, 54, 55, 56, 57, 97, 98, 99, 100, 101, 102] : List UInt8)[n.val]? = some (hexD n.val) := by decide
  exact this ⟨n, h⟩
theorem hexD_sl {n : Nat} (h : n < 16) : ((([48, 49, 50, 51, 52, 53, 54, 55, 56, 57, 97, 98, 99, 100, 101, 102] : List UInt8).drop n).take 1) = [hexD n] := by
  have : ∀ n : Fin 16, ((([48, 49, 50, 51, 52, 53, 54, 55, 56, 57, 97, 98, 99, 100, 101, 102] : List UInt8).drop n.val).take 1) = [hexD n.val] := by decide
  exact this ⟨n, h⟩
theorem decP_len : ∀ (n : Nat), n < 100000 → (decP n).length ≤ 5 := by
  intro n h
  unfold decP
  split
  · simp
  rw [List.length_append]
  unfold decP
  split
  · simp
  rw [List.length_append]
  unfold decP
  split
  · simp
  rw [List.length_append]
  unfold decP
  split
  · simp
  rw [List.length_append]
  unfold decP
  rw [if_pos (by omega)]
  simp
theorem hexP_len (s : List UInt8) : (hexP s).length = 2 * s.length := by
  induction s with
  | nil => rfl
  | cons c s ih => show (twoP c ++ hexP s).length = _; rw [List.length_append, ih, List.length_cons]; show 2 + _ = _; omega
theorem take_snoc {α : Type} {l : List α} {i : Nat} {a : α} (h : l[i]? = some a) : l.take (i + 1) = l.take i ++ [a] := by
  rw [List.take_add_one, h]; rfl
theorem hexP_snoc {s : List UInt8} {i : Nat} {c : UInt8} (h : s[i]? = some c) : hexP (s.take (i + 1)) = hexP (s.take i) ++ twoP c := by
  rw [take_snoc h]; simp [hexP]
/-- All so far, and one more. -/
theorem all_take_succ {s : List UInt8} {i : Nat} {c : UInt8} {p : UInt8 → Bool} (h : s[i]? = some c) (ha : (s.take i).all p = true) (hc : p c = true) : (s.take (i + 1)).all p = true := by
  rw [take_snoc h, List.all_append, ha]; simp [hc]
theorem all_not {s : List UInt8} {i : Nat} {c : UInt8} {p : UInt8 → Bool} (h : s[i]? = some c) (hc : p c = false) : s.all p = false := by
  rw [List.all_eq_false]
  exact ⟨c, List.mem_of_getElem? h, by simp [hc]⟩
end Go.Proofs.YtjemmehgfheflaaDoor.V
