/- Package strconv's FormatUint and Itoa to the base 10: as 'V' runs the program's functions. No conditions. -/
import Derived.Test.YtgkpgpdkolpfkaaDoorWNumB
namespace Go.Proofs.YtgkpgpdkolpfkaaDoor.V
open Go
set_option linter.unusedSimpArgs false
set_option linter.unusedVariables false
attribute [local irreducible] go goOps goD opK callK callT stepK leaveTo nextK

/-- How many bits a number takes. -/
def bl16 (n : Nat) : Nat := if n < 256 then bl8 n else 8 + bl8 (n / 256)
def bl (n : Nat) : Nat := if n < 65536 then bl16 n else 16 + bl16 (n / 65536)
theorem bl16_le {n : Nat} (h : n < 65536) : bl16 n ≤ 16 := by
  unfold bl16
  split
  · have := (bl8_at ‹_›).2; omega
  · have := (bl8_at (c := n / 256) (by omega)).2; omega
theorem bl16_range {n : Nat} (h : n < 65536) : n < 2 ^ bl16 n ∧ (n ≠ 0 → 2 ^ bl16 n ≤ 2 * n) := by
  unfold bl16
  split
  · exact bl8_range ‹_›
  · have hr := bl8_range (c := n / 256) (by omega)
    rw [Nat.pow_add]
    have := hr.2 (by omega)
    omega
theorem bl_range {n : Nat} (h : n < 4294967296) : n < 2 ^ bl n ∧ (n ≠ 0 → 2 ^ bl n ≤ 2 * n) ∧ bl n ≤ 32 := by
  unfold bl
  split
  · have := bl16_le ‹_›
    exact ⟨(bl16_range ‹_›).1, (bl16_range ‹_›).2, by omega⟩
  · have hr := bl16_range (n := n / 65536) (by omega)
    have := bl16_le (n := n / 65536) (by omega)
    rw [Nat.pow_add]
    have := hr.2 (by omega)
    omega

set_option maxRecDepth 20000 in
theorem num_len (n : Nat) (H k) (hn : n < 4294967296) : callK Tryd.prog 103 [.int .u64 (n : Nat)] H k = k (.int .i64 (bl n : Nat), H, z0) := by
  refine callK_eq (r := (.int .i64 (bl n : Nat), H, z0)) ?_ k
  refine callK_start (n := 25) (rs := [.tmp 2]) Tryd.func103 rfl rfl rfl ?_
  intro σ hl ha
  have h0 := ha 0 (by simp)
  clear ha
  simp only [Option.getD_some, List.getElem?_cons_zero, List.getElem?_cons_succ] at h0
  have g1 : decide ((n : Int) ≥ 4294967296) = false := by simp; omega
  obtain ⟨m, b, hm, hmb, hg, hsum⟩ : ∃ (m b : Nat), m < 65536 ∧ (decide ((n : Int) ≥ 65536) = false ∧ m = n ∧ b = 0 ∨ decide ((n : Int) ≥ 65536) = true ∧ m = n / 65536 ∧ b = 16) ∧ b ≤ 16 ∧ bl n = b + bl16 m := by
    by_cases h : n < 65536
    · exact ⟨n, 0, h, .inl ⟨by simp; omega, rfl, rfl⟩, by omega, by unfold bl; rw [if_pos h, Nat.zero_add]⟩
    · exact ⟨n / 65536, 16, by omega, .inr ⟨by simp; omega, rfl, rfl⟩, by omega, by unfold bl; rw [if_neg h]⟩
  have w16 : IntKind.i64.wrap (0 + 16) = ((16 : Nat) : Int) := by decide
  have w16' : IntKind.i64.wrap 16 = 16 := by decide
  have sh : (n : Int).fdiv (2 ^ min 16 64) = ((n / 65536 : Nat) : Int) := by
    have : (2 : Int) ^ min 16 64 = 65536 := by decide
    rw [this, Int.fdiv_eq_ediv_of_nonneg _ (by omega)]; omega
  rw [hsum]
  by_cases h : m < 256
  · have g3 : decide ((m : Int) ≥ 256) = false := by simp; omega
    have w1 : IntKind.u8.wrap (m : Int) = (m : Int) := by rw [wrap_u8 (by omega)]
    have hb := (bl8_at h).2
    have hv := ofNat_le hb (by decide)
    have w2 : IntKind.i64.wrap (bl8 m : Int) = (bl8 m : Int) := by rw [wrap_i64 (by omega)]
    have hs : bl16 m = bl8 m := if_pos h
    rcases hmb with ⟨g2, rfl, rfl⟩ | ⟨g2, rfl, rfl⟩
    · have w3 : IntKind.i64.wrap (0 + (bl8 m : Int)) = (bl8 m : Int) := by rw [wrap_i64 (by omega)]; omega
      simp only [go_sem, simprocAttr, hl, h0, g1, g2, g3, w1]
      rw [bindK_len8 (by kernel_rfl) h]
      simp only [go_sem, simprocAttr, hl, h0, hv, w2, w3, hs, Nat.zero_add]
    · have w3 : IntKind.i64.wrap (16 + (bl8 (n / 65536) : Int)) = ((16 + bl8 (n / 65536) : Nat) : Int) := by rw [wrap_i64 (by omega)]; omega
      simp only [go_sem, simprocAttr, hl, h0, g1, g2, sh, g3, w1, w16, w16']
      rw [bindK_len8 (by kernel_rfl) h]
      simp only [go_sem, simprocAttr, hl, h0, hv, w2, w3, hs]
  · have g3 : decide ((m : Int) ≥ 256) = true := by simp; omega
    have w1 : IntKind.u8.wrap ((m : Int).fdiv (2 ^ min 8 64)) = ((m / 256 : Nat) : Int) := by
      have : (2 : Int) ^ min 8 64 = 256 := by decide
      rw [this, Int.fdiv_eq_ediv_of_nonneg _ (by omega), wrap_u8 (by omega)]; omega
    have hlt : m / 256 < 256 := by omega
    have hb := (bl8_at hlt).2
    have hv := ofNat_le hb (by decide)
    have w2 : IntKind.i64.wrap (bl8 (m / 256) : Int) = (bl8 (m / 256) : Int) := by rw [wrap_i64 (by omega)]
    have hs : bl16 m = 8 + bl8 (m / 256) := if_neg h
    rcases hmb with ⟨g2, rfl, rfl⟩ | ⟨g2, rfl, rfl⟩
    · have w3 : IntKind.i64.wrap (8 + (bl8 (m / 256) : Int)) = ((8 + bl8 (m / 256) : Nat) : Int) := by rw [wrap_i64 (by omega)]; omega
      simp only [go_sem, simprocAttr, hl, h0, g1, g2, g3, w1]
      rw [bindK_len8 (by kernel_rfl) hlt]
      simp only [go_sem, simprocAttr, hl, h0, hv, w2, w3, hs, Nat.zero_add]
    · have w3 : IntKind.i64.wrap (24 + (bl8 (n / 65536 / 256) : Int)) = ((16 + (8 + bl8 (n / 65536 / 256)) : Nat) : Int) := by rw [wrap_i64 (by omega)]; omega
      have w4 : IntKind.i64.wrap (16 + 8) = 24 := by decide
      have w5 : IntKind.i64.wrap 24 = 24 := by decide
      simp only [go_sem, simprocAttr, hl, h0, g1, g2, sh, g3, w1, w16, w16', w4, w5]
      rw [bindK_len8 (by kernel_rfl) hlt]
      simp only [go_sem, simprocAttr, hl, h0, hv, w2, w3, hs]

theorem lg_tab {b : Nat} (h : b ≤ 32) : b * 78913 / 262144 ≤ 9 ∧ 10 ^ (b * 78913 / 262144) ≤ 2 ^ b ∧ 2 ^ b ≤ 10 ^ (b * 78913 / 262144 + 1) := by
  have : ∀ b : Fin 33, b.val * 78913 / 262144 ≤ 9 ∧ 10 ^ (b.val * 78913 / 262144) ≤ 2 ^ b.val ∧ 2 ^ b.val ≤ 10 ^ (b.val * 78913 / 262144 + 1) := by decide +kernel
  exact this ⟨b, by omega⟩
theorem pow_at {l : Nat} (h : l ≤ 9) (e : TypeId) (k : Kd) : ldC l 1 false (.cells pow10c e k) = some (.int .u64 ((10 ^ l : Nat) : Int)) := by
  have : l = 0 ∨ l = 1 ∨ l = 2 ∨ l = 3 ∨ l = 4 ∨ l = 5 ∨ l = 6 ∨ l = 7 ∨ l = 8 ∨ l = 9 := by omega
  rcases this with rfl | rfl | rfl | rfl | rfl | rfl | rfl | rfl | rfl | rfl <;> rfl

set_option maxRecDepth 20000 in
theorem num_digits (n L : Nat) (H k) (ht : Tb H) (hL : 1 ≤ L) (h1 : 10 ^ (L - 1) ≤ n) (h2 : n < 10 ^ L) (hn : n < 4294967296) : callK Tryd.prog 89 [.int .u64 (n : Nat)] H k = k (.int .i64 (L : Nat), H, z0) := by
  refine callK_eq (r := (.int .i64 (L : Nat), H, z0)) ?_ k
  refine callK_start (n := 15) (rs := [.tmp 2]) Tryd.func89 rfl rfl rfl ?_
  intro σ hl ha
  have h0 := ha 0 (by simp)
  clear ha
  simp only [Option.getD_some, List.getElem?_cons_zero, List.getElem?_cons_succ] at h0
  obtain ⟨te, kd, ht⟩ := ht
  obtain ⟨r1, r2, r3⟩ := bl_range hn
  obtain ⟨t1, t2, t3⟩ := lg_tab r3
  have c1 := fun H k => num_len n H k hn
  have c2 := fun H k => num_log (bl n) H k (by omega)
  have c3 := fun b H k => num_bool b H k
  obtain ⟨l, hl'⟩ : ∃ l, bl n * 78913 / 262144 = l := ⟨_, rfl⟩
  rw [hl'] at c2 t1 t2 t3
  have hld := pow_at t1
  have ix := ix99 (i := l) (by omega)
  have uniq : ∀ a : Nat, 10 ^ a ≤ n → n < 10 ^ (a + 1) → L = a + 1 := by
    intro a ha1 ha2
    have p1 : L - 1 < a + 1 := (Nat.pow_lt_pow_iff_right (by decide : 1 < 10)).1 (Nat.lt_of_le_of_lt h1 ha2)
    have p2 : a < L := (Nat.pow_lt_pow_iff_right (by decide : 1 < 10)).1 (Nat.lt_of_le_of_lt ha1 h2)
    omega
  by_cases hg : 10 ^ l ≤ n
  · have g1 : decide ((n : Int) ≥ ((10 ^ l : Nat) : Int)) = true := by simp only [decide_eq_true_eq]; omega
    have hres := uniq l hg (by omega)
    have w : IntKind.i64.wrap ((l : Int) + 1) = ((l + 1 : Nat) : Int) := by rw [wrap_i64 (by omega)]; omega
    subst hres
    simp only [go_sem, simprocAttr, hl, h0, c1, c2, ix, ht, hld, ge_iff_le, Int.ofNat_le, hg, c3, w]
  · have hn0 : n ≠ 0 := by
      have : 0 < 10 ^ (L - 1) := Nat.pow_pos (by decide)
      omega
    have h4 := r2 hn0
    have hl1 : 1 ≤ l := by
      rcases Nat.eq_zero_or_pos l with h | h
      · rw [h] at hg; simp at hg; omega
      · exact h
    obtain ⟨q, rfl⟩ : ∃ q, l = q + 1 := ⟨l - 1, by omega⟩
    have hp : 10 ^ (q + 1) = 10 ^ q * 10 := Nat.pow_succ 10 q
    have hres := uniq q (by omega) (by omega)
    have w : IntKind.i64.wrap (((q + 1 : Nat) : Int) + 0) = ((q + 1 : Nat) : Int) := by rw [wrap_i64 (by omega)]; omega
    have w' : IntKind.i64.wrap (((q + 1 : Nat) : Int)) = ((q + 1 : Nat) : Int) := by rw [wrap_i64 (by omega)]
    subst hres
    simp only [go_sem, simprocAttr, hl, h0, c1, c2, ix, ht, hld, ge_iff_le, Int.ofNat_le, hg, c3, w, w', Int.add_zero]

def zrow : List AV := [.int .u8 0, .int .u8 0, .int .u8 0, .int .u8 0, .int .u8 0, .int .u8 0, .int .u8 0, .int .u8 0, .int .u8 0, .int .u8 0, .int .u8 0, .int .u8 0, .int .u8 0, .int .u8 0, .int .u8 0, .int .u8 0, .int .u8 0, .int .u8 0, .int .u8 0, .int .u8 0, .int .u8 0, .int .u8 0, .int .u8 0, .int .u8 0]

set_option maxRecDepth 20000 in
theorem fmt_uint_i (n : Nat) (H k) (ht : Tb H) (hn : n < 4294967296) : callK Tryd.prog 70 [.int .u64 (n : Nat), .int .i64 10] H k = k (.str (decP n), H, z0) := by
  refine callK_eq (r := (.str (decP n), H, z0)) ?_ k
  refine callK_start (n := 32) (rs := [.tmp 4]) Tryd.func70 rfl rfl rfl ?_
  intro σ hl ha
  have h0 := ha 0 (by simp)
  have h1 := ha 1 (by simp)
  clear ha
  simp only [Option.getD_some, List.getElem?_cons_zero, List.getElem?_cons_succ] at h0 h1
  by_cases h100 : n < 100
  · have g1 : decide ((n : Int) < 100) = true := by simp; omega
    have hs := fun H k => str_small n H k h100
    have w1 : IntKind.i64.wrap (n : Int) = (n : Int) := wrap_i64 (by omega)
    simp only [go_sem, simprocAttr, hl, h0, h1, g1, w1, hs]
  · have g1 : decide ((n : Int) < 100) = false := by simp; omega
    have hnum := fun L k h1 h2 h3 => num_digits n L (H ++ [.cells [.int .u8 0, .int .u8 0, .int .u8 0, .int .u8 0, .int .u8 0, .int .u8 0, .int .u8 0, .int .u8 0, .int .u8 0, .int .u8 0, .int .u8 0, .int .u8 0, .int .u8 0, .int .u8 0, .int .u8 0, .int .u8 0, .int .u8 0, .int .u8 0, .int .u8 0, .int .u8 0, .int .u8 0, .int .u8 0, .int .u8 0, .int .u8 0] 138 .rw]) k (ht.old _) h1 h2 h3 hn
    have hc : (n < 1000) ∨ (1000 ≤ n ∧ n < 10000) ∨ (10000 ≤ n ∧ n < 100000) ∨ (100000 ≤ n ∧ n < 1000000) ∨ (1000000 ≤ n ∧ n < 10000000) ∨ (10000000 ≤ n ∧ n < 100000000) ∨ (100000000 ≤ n ∧ n < 1000000000) ∨ (1000000000 ≤ n) := by omega
    rcases hc with h | ⟨h, h'⟩ | ⟨h, h'⟩ | ⟨h, h'⟩ | ⟨h, h'⟩ | ⟨h, h'⟩ | ⟨h, h'⟩ | h
    · have hd := fun k => hnum 3 k (by decide) (by omega) (by omega)
      have hf := fun k => fmtL3 n H k (by omega) (by omega)
      simp only [go_sem, simprocAttr, hl, h0, h1, g1, hd, hf, Int.cast_ofNat_Int]
      rw [dcL3 (n := n) (by omega) (by omega)]
    · have hd := fun k => hnum 4 k (by decide) (by omega) (by omega)
      have hf := fun k => fmtL4 n H k (by omega) (by omega)
      simp only [go_sem, simprocAttr, hl, h0, h1, g1, hd, hf, Int.cast_ofNat_Int]
      rw [dcL4 (n := n) (by omega) (by omega)]
    · have hd := fun k => hnum 5 k (by decide) (by omega) (by omega)
      have hf := fun k => fmtL5 n H k (by omega) (by omega)
      simp only [go_sem, simprocAttr, hl, h0, h1, g1, hd, hf, Int.cast_ofNat_Int]
      rw [dcL5 (n := n) (by omega) (by omega)]
    · have hd := fun k => hnum 6 k (by decide) (by omega) (by omega)
      have hf := fun k => fmtL6 n H k (by omega) (by omega)
      simp only [go_sem, simprocAttr, hl, h0, h1, g1, hd, hf, Int.cast_ofNat_Int]
      rw [dcL6 (n := n) (by omega) (by omega)]
    · have hd := fun k => hnum 7 k (by decide) (by omega) (by omega)
      have hf := fun k => fmtL7 n H k (by omega) (by omega)
      simp only [go_sem, simprocAttr, hl, h0, h1, g1, hd, hf, Int.cast_ofNat_Int]
      rw [dcL7 (n := n) (by omega) (by omega)]
    · have hd := fun k => hnum 8 k (by decide) (by omega) (by omega)
      have hf := fun k => fmtL8 n H k (by omega) (by omega)
      simp only [go_sem, simprocAttr, hl, h0, h1, g1, hd, hf, Int.cast_ofNat_Int]
      rw [dcL8 (n := n) (by omega) (by omega)]
    · have hd := fun k => hnum 9 k (by decide) (by omega) (by omega)
      have hf := fun k => fmtL9 n H k (by omega) (by omega)
      simp only [go_sem, simprocAttr, hl, h0, h1, g1, hd, hf, Int.cast_ofNat_Int]
      rw [dcL9 (n := n) (by omega) (by omega)]
    · have hd := fun k => hnum 10 k (by decide) (by omega) (by omega)
      have hf := fun k => fmtL10 n H k (by omega) (by omega)
      simp only [go_sem, simprocAttr, hl, h0, h1, g1, hd, hf, Int.cast_ofNat_Int]
      rw [dcL10 (n := n) (by omega) (by omega)]

set_option maxRecDepth 20000 in
theorem fmt_int_i (n : Nat) (H k) (ht : Tb H) (hn : n < 100000) : callK Tryd.prog 92 [.int .i64 (n : Nat), .int .i64 10] H k = k (.str (decP n), H, z0) := by
  refine callK_eq (r := (.str (decP n), H, z0)) ?_ k
  refine callK_start (n := 54) (rs := [.tmp 4]) Tryd.func92 rfl rfl rfl ?_
  intro σ hl ha
  have h0 := ha 0 (by simp)
  have h1 := ha 1 (by simp)
  clear ha
  simp only [Option.getD_some, List.getElem?_cons_zero, List.getElem?_cons_succ] at h0 h1
  have g0 : decide ((0 : Int) ≤ (n : Int)) = true := by simp
  have w1 : IntKind.u64.wrap (n : Int) = (n : Int) := wrap_u64 (by omega)
  by_cases h100 : n < 100
  · have g1 : decide ((n : Int) < 100) = true := by simp; omega
    have hs := fun H k => str_small n H k h100
    simp only [go_sem, simprocAttr, hl, h0, h1, g0, g1, hs]
  · have g1 : decide ((n : Int) < 100) = false := by simp; omega
    have g2 : decide ((n : Int) < 0) = false := by simp
    have hnum := fun L k h1 h2 h3 => num_digits n L (H ++ [.cells [.int .u8 0, .int .u8 0, .int .u8 0, .int .u8 0, .int .u8 0, .int .u8 0, .int .u8 0, .int .u8 0, .int .u8 0, .int .u8 0, .int .u8 0, .int .u8 0, .int .u8 0, .int .u8 0, .int .u8 0, .int .u8 0, .int .u8 0, .int .u8 0, .int .u8 0, .int .u8 0, .int .u8 0, .int .u8 0, .int .u8 0, .int .u8 0] 138 .rw]) k (ht.old _) h1 h2 h3 (by omega)
    have hc : (n < 1000) ∨ (1000 ≤ n ∧ n < 10000) ∨ (10000 ≤ n ∧ n < 100000) := by omega
    rcases hc with h | ⟨h, h'⟩ | ⟨h, h'⟩
    · have hd := fun k => hnum 3 k (by decide) (by omega) (by omega)
      have hf := fun k => fmtM3 n H k (by omega) (by omega)
      simp only [go_sem, simprocAttr, hl, h0, h1, g0, g1, g2, w1, hd, hf, Int.cast_ofNat_Int]
      rw [dcL3 (n := n) (by omega) (by omega)]
    · have hd := fun k => hnum 4 k (by decide) (by omega) (by omega)
      have hf := fun k => fmtM4 n H k (by omega) (by omega)
      simp only [go_sem, simprocAttr, hl, h0, h1, g0, g1, g2, w1, hd, hf, Int.cast_ofNat_Int]
      rw [dcL4 (n := n) (by omega) (by omega)]
    · have hd := fun k => hnum 5 k (by decide) (by omega) (by omega)
      have hf := fun k => fmtM5 n H k (by omega) (by omega)
      simp only [go_sem, simprocAttr, hl, h0, h1, g0, g1, g2, w1, hd, hf, Int.cast_ofNat_Int]
      rw [dcL5 (n := n) (by omega) (by omega)]
set_option maxRecDepth 20000 in
theorem itoa_i (n : Nat) (H k) (ht : Tb H) (hn : n < 100000) : callK Tryd.prog 71 [.int .i64 (n : Nat)] H k = k (.str (decP n), H, z0) := by
  refine callK_eq (r := (.str (decP n), H, z0)) ?_ k
  refine callK_start (n := 5) (rs := [.tmp 2]) Tryd.func71 rfl rfl rfl ?_
  intro σ hl ha
  have h0 := ha 0 (by simp)
  clear ha
  simp only [Option.getD_some, List.getElem?_cons_zero, List.getElem?_cons_succ] at h0
  have hf := fun k => fmt_int_i n H k ht hn
  simp only [go_sem, simprocAttr, hl, h0, hf]
set_option maxRecDepth 20000 in
theorem itoa (n : Nat) (H k) (ht : Tb H) (hn : n < 100000) : callK Tryd.prog 33 [.int .i64 (n : Nat)] H k = k (.str (decP n), H, z0) := by
  refine callK_eq (r := (.str (decP n), H, z0)) ?_ k
  refine callK_start (n := 5) (rs := [.tmp 2]) Tryd.func33 rfl rfl rfl ?_
  intro σ hl ha
  have h0 := ha 0 (by simp)
  clear ha
  simp only [Option.getD_some, List.getElem?_cons_zero, List.getElem?_cons_succ] at h0
  have hf := fun k => itoa_i n H k ht hn
  simp only [go_sem, simprocAttr, hl, h0, hf]
set_option maxRecDepth 20000 in
theorem fmt_uint (n : Nat) (H k) (ht : Tb H) (hn : n < 4294967296) : callK Tryd.prog 32 [.int .u64 (n : Nat), .int .i64 10] H k = k (.str (decP n), H, z0) := by
  refine callK_eq (r := (.str (decP n), H, z0)) ?_ k
  refine callK_start (n := 8) (rs := [.tmp 4]) Tryd.func32 rfl rfl rfl ?_
  intro σ hl ha
  have h0 := ha 0 (by simp)
  have h1 := ha 1 (by simp)
  clear ha
  simp only [Option.getD_some, List.getElem?_cons_zero, List.getElem?_cons_succ] at h0 h1
  have hf := fun k => fmt_uint_i n H k ht hn
  simp only [go_sem, simprocAttr, hl, h0, h1, hf]
end Go.Proofs.YtgkpgpdkolpfkaaDoor.V
