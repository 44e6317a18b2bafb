/- Numbers as texts, as 'V' runs the document's functions. No conditions. -/
import Derived.Test.YtgkpgpdkolpfkaaDoorWRefEsc
import Derived.Test.YtgkpgpdkolpfkaaDoorWNumC
namespace Go.Proofs.YtgkpgpdkolpfkaaDoor.V
open Go
set_option linter.unusedSimpArgs false
set_option linter.unusedVariables false
attribute [local irreducible] go goOps goD opK callK callT stepK leaveTo nextK

/-- A number to the base 16. -/
def hexN (n : Nat) : List UInt8 := if n < 16 then [hexD n] else hexN (n / 16) ++ [hexD (n % 16)]
termination_by n
decreasing_by omega
theorem hexN_small {n : Nat} (h : n < 16) : hexN n = [hexD n] := by unfold hexN; rw [if_pos h]
theorem hexN_big {n : Nat} (h : ¬ n < 16) : hexN n = hexN (n / 16) ++ [hexD (n % 16)] := by rw [hexN]; rw [if_neg h]
theorem decP_le (n : Nat) : (decP n).length ≤ n + 1 := by
  induction n using Nat.strongRecOn with
  | _ n ih =>
    by_cases h : n < 10
    · rw [decP_small h]; simp
    · rw [decP_big h, List.length_append]
      have := ih (n / 10) (by omega)
      simp; omega
theorem hexN_le (n : Nat) : (hexN n).length ≤ n + 1 := by
  induction n using Nat.strongRecOn with
  | _ n ih =>
    by_cases h : n < 16
    · rw [hexN_small h]; simp
    · rw [hexN_big h, List.length_append]
      have := ih (n / 16) (by omega)
      simp; omega
theorem hexN_len {n : Nat} (h : n < 65536) : (hexN n).length ≤ 4 := by
  by_cases h1 : n < 16
  · rw [hexN_small h1]; simp
  rw [hexN_big h1, List.length_append]
  by_cases h2 : n / 16 < 16
  · rw [hexN_small h2]; simp
  rw [hexN_big h2, List.length_append]
  by_cases h3 : n / 16 / 16 < 16
  · rw [hexN_small h3]; simp
  rw [hexN_big h3, List.length_append, hexN_small (by omega)]
  simp

set_option maxRecDepth 20000 in
theorem ref_digits (n : Nat) (H k) (hn : n < 4294967296) : callK Tryd.prog 41 [.int .u32 (n : Nat)] H k = k (.str (decP n), H, z0) := by
  refine callK_eq (r := (.str (decP n), H, z0)) ?_ k
  refine callK_start (n := 17) (rs := [.tmp 2]) Tryd.func41 rfl rfl rfl ?_
  intro σ hl ha
  have h0 := ha 0 (by simp)
  clear ha
  simp only [Option.getD_some, List.getElem?_cons_zero, List.getElem?_cons_succ] at h0
  simp only [go_sem, simprocAttr, hl, h0]
  refine go_rounds (fun m st => ∃ σ T e acc, m < 4294967296 ∧ decP n = decP m ++ acc ∧ st = ⟨σ, H ++ T, e⟩ ∧ clean H.length e ∧ σ.length = 17 ∧ fr σ 0 = .int .u32 (m : Nat) ∧ fr σ 3 = .str acc) n
    ⟨_, [], _, [], hn, by simp, by rw [List.append_nil], ⟨rfl, rfl⟩, by simp only [go_sem, simprocAttr, hl], by simp only [go_sem, simprocAttr, hl, h0], by simp only [go_sem, simprocAttr, hl]⟩ ?_
  rintro m _ ⟨σ, T, e, acc, hm, hd, rfl, he, hl, h0, h3⟩
  have hal : acc.length ≤ 4294967297 := by
    have h1 := decP_le n
    rw [hd, List.length_append] at h1; omega
  have w0 : IntKind.u8.wrap (IntKind.u32.wrap (48 + (m : Int).tmod 10)) = ((hexD (m % 10)).toNat : Int) := by
    have e : (m : Int).tmod 10 = ((m % 10 : Nat) : Int) := rfl
    have h : (hexD (m % 10)).toNat = 48 + m % 10 := by
      unfold hexD; rw [if_pos (by omega)]; exact ofNat_le (m := 57) (by omega) (by omega)
    rw [e, h, show IntKind.u32.wrap (48 + ((m % 10 : Nat) : Int)) = 48 + ((m % 10 : Nat) : Int) from wrap_u32 (by omega), wrap_u8 (by omega)]; omega
  have w1 : IntKind.u32.wrap ((m : Int).tdiv 10) = ((m / 10 : Nat) : Int) := by
    have e : (m : Int).tdiv 10 = ((m / 10 : Nat) : Int) := rfl
    rw [e, wrap_u32 (by omega)]
  have a1 := add_ok (a := [hexD (m % 10)]) (b := acc) (m := 1) (n := 4294967297) (by simp) hal (by omega)
  by_cases hlt : m < 10
  · have z : ((m / 10 : Nat) : Int) == 0 := by simp; omega
    have w2 : m / 10 = 0 := by omega
    have hdd : [hexD (m % 10)] ++ acc = decP n := by rw [hd, decP_small hlt, Nat.mod_eq_of_lt hlt]
    simp only [go_sem, simprocAttr, hl, h0, h3, w0, w1, w2, bslice1, a1, Int.natCast_zero, Int.cast_ofNat_Int]
    rw [show hexD (m % 10) :: acc = decP n from hdd]
    exact leave_flat rfl he
  · have z : (((m / 10 : Nat) : Int) == 0) = false := by simp; omega
    simp only [go_sem, simprocAttr, hl, h0, h3, w0, w1, z, bslice1, a1]
    exact ⟨m / 10, by omega, _, _, _, hexD (m % 10) :: acc, by omega, by rw [hd, decP_big hlt, List.append_assoc]; rfl, rfl, he, by simp only [go_sem, simprocAttr, hl], by simp only [go_sem, simprocAttr, hl], by simp only [go_sem, simprocAttr, hl]⟩

set_option maxRecDepth 20000 in
theorem ref_small (n : Nat) (H k) (hn : n < 4294967296) : callK Tryd.prog 42 [.int .i64 (n : Nat)] H k = k (.str (hexN n), H, z0) := by
  refine callK_eq (r := (.str (hexN n), H, z0)) ?_ k
  refine callK_start (n := 17) (rs := [.tmp 2]) Tryd.func42 rfl rfl rfl ?_
  intro σ hl ha
  have h0 := ha 0 (by simp)
  clear ha
  simp only [Option.getD_some, List.getElem?_cons_zero, List.getElem?_cons_succ] at h0
  simp only [go_sem, simprocAttr, hl, h0]
  refine go_rounds (fun m st => ∃ σ acc, m < 4294967296 ∧ hexN n = hexN m ++ acc ∧ st = ⟨σ, H, z0⟩ ∧ σ.length = 17 ∧ fr σ 0 = .int .i64 (m : Nat) ∧ fr σ 3 = .str acc) n
    ⟨_, [], hn, by simp, rfl, by simp only [go_sem, simprocAttr, hl], by simp only [go_sem, simprocAttr, hl, h0], by simp only [go_sem, simprocAttr, hl]⟩ ?_
  rintro m _ ⟨σ, acc, hm, hd, rfl, hl, h0, h3⟩
  have hal : acc.length ≤ 4294967297 := by
    have h1 := hexN_le n
    rw [hd, List.length_append] at h1; omega
  have w0 : (m : Int).tmod 16 = ((m % 16 : Nat) : Int) := rfl
  have w1 : IntKind.i64.wrap ((m : Int).tdiv 16) = ((m / 16 : Nat) : Int) := by
    have e : (m : Int).tdiv 16 = ((m / 16 : Nat) : Int) := rfl
    rw [e, wrap_i64 (by omega)]
  have w3 : IntKind.i64.wrap (((m % 16 : Nat) : Int) + 1) = ((m % 16 + 1 : Nat) : Int) := by rw [wrap_i64 (by omega)]; omega
  have hsl := hexD_sl (n := m % 16) (by omega)
  have d1 : m % 16 ≤ 15 := by omega
  have d2 : m % 16 + 1 ≤ 16 := by omega
  have d3 : m % 16 + 1 - m % 16 = 1 := by omega
  have a1 := add_ok (a := [hexD (m % 16)]) (b := acc) (m := 1) (n := 4294967297) (by simp) hal (by omega)
  by_cases hlt : m < 16
  · have w2 : m / 16 = 0 := by omega
    have hdd : [hexD (m % 16)] ++ acc = hexN n := by rw [hd, hexN_small hlt, Nat.mod_eq_of_lt hlt]
    simp only [go_sem, simprocAttr, hl, h0, h3, w0, w1, w2, w3, d1, d2, d3, hsl, a1, Int.natCast_zero, Int.cast_ofNat_Int]
    exact ⟨by omega, by rw [show hexD (m % 16) :: acc = hexN n from hdd]⟩
  · have z : (((m / 16 : Nat) : Int) == 0) = false := by simp; omega
    simp only [go_sem, simprocAttr, hl, h0, h3, w0, w1, w3, d1, d2, d3, hsl, z, a1]
    exact ⟨by omega, m / 16, by omega, _, hexD (m % 16) :: acc, by omega, by rw [hd, hexN_big hlt, List.append_assoc]; rfl, rfl, by simp only [go_sem, simprocAttr, hl], by simp only [go_sem, simprocAttr, hl], by simp only [go_sem, simprocAttr, hl]⟩
end Go.Proofs.YtgkpgpdkolpfkaaDoor.V
