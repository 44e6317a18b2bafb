/- The service chapter's small functions, as 'V' runs them. No conditions. -/
import Derived.Test.YtjemmehgfheflaaDoorVTab
import Derived.Test.YtjemmehgfheflaaDoorSPlain
namespace Go.Proofs.YtjemmehgfheflaaDoor.V
open Go
set_option linter.unusedSimpArgs false
set_option linter.unusedVariables false
attribute [local irreducible] go goOps goD opK callK callT stepK leaveTo nextK

set_option maxRecDepth 20000 in
theorem safe38 (c : UInt8) (H k) : callK Tryd.prog 38 [.int .u8 c.toNat] H k = k (.bool (safeP c), H, z0) := by
  refine callK_eq (r := (.bool (safeP c), H, z0)) ?_ k
  refine callK_start (n := 37) (rs := [.tmp 2]) Tryd.func38 rfl rfl rfl ?_
  intro σ hl ha
  have h0 := ha 0 (by simp)
  clear ha
  simp only [Option.getD_some, List.getElem?_cons_zero, List.getElem?_cons_succ] at h0
  repeat' first
    | refine guardK_split (fun hb => ?_) (fun hb => ?_)
    | refine condK_split (fun hb => ?_) (fun hb => ?_)
    | simp only [go_sem, simprocAttr, hl, h0, *]
  all_goals
    refine ret_b ?_
    simp only [safeP, decide_eq_true_eq, decide_eq_false_iff_not, beq_iff_eq, beq_eq_false_iff_ne, bne_iff_ne, bne_eq_false_iff_eq, ne_eq, Bool.not_true, Bool.not_false, ge_iff_le, gt_iff_lt, eq_self, true_iff, iff_true, false_iff, iff_false, Bool.false_eq_true, Decidable.not_not, Bool.not_eq_true', Bool.not_eq_false', Bool.not_not] at *
    omega
set_option maxRecDepth 20000 in
theorem safe43 (c : UInt8) (H k) : callK Tryd.prog 43 [.int .u8 c.toNat] H k = k (.bool (safeP c), H, z0) := by
  refine callK_eq (r := (.bool (safeP c), H, z0)) ?_ k
  refine callK_start (n := 37) (rs := [.tmp 2]) Tryd.func43 rfl rfl rfl ?_
  intro σ hl ha
  have h0 := ha 0 (by simp)
  clear ha
  simp only [Option.getD_some, List.getElem?_cons_zero, List.getElem?_cons_succ] at h0
  repeat' first
    | refine guardK_split (fun hb => ?_) (fun hb => ?_)
    | refine condK_split (fun hb => ?_) (fun hb => ?_)
    | simp only [go_sem, simprocAttr, hl, h0, *]
  all_goals
    refine ret_b ?_
    simp only [safeP, decide_eq_true_eq, decide_eq_false_iff_not, beq_iff_eq, beq_eq_false_iff_ne, bne_iff_ne, bne_eq_false_iff_eq, ne_eq, Bool.not_true, Bool.not_false, ge_iff_le, gt_iff_lt, eq_self, true_iff, iff_true, false_iff, iff_false, Bool.false_eq_true, Decidable.not_not, Bool.not_eq_true', Bool.not_eq_false', Bool.not_not] at *
    omega

set_option maxRecDepth 20000 in
theorem host32 (s : List UInt8) (H k) (hs : s.length ≤ 9223372036854775807) : callK Tryd.prog 32 [.str s] H k = k (.bool (hostP s), H, z0) := by
  refine callK_eq (r := (.bool (hostP s), H, z0)) ?_ k
  refine callK_start (n := 53) (rs := [.tmp 2]) Tryd.func32 rfl rfl rfl ?_
  intro σ hl ha
  have h0 := ha 0 (by simp)
  clear ha
  simp only [Option.getD_some, List.getElem?_cons_zero, List.getElem?_cons_succ] at h0
  by_cases hn : s.length = 0
  · have : s = [] := List.length_eq_zero_iff.1 hn
    subst this
    simp only [go_sem, simprocAttr, hl, h0]
    rfl
  obtain ⟨c0, hc0⟩ : ∃ c, s[0]? = some c := ⟨_, List.getElem?_eq_getElem (by omega)⟩
  obtain ⟨c1, hc1⟩ : ∃ c, s[s.length - 1]? = some c := ⟨_, List.getElem?_eq_getElem (by omega)⟩
  have hw : IntKind.i64.wrap ((s.length : Int) - 1) = ((s.length - 1 : Nat) : Int) := by rw [wrap_i64 (by omega)]; omega
  repeat' first
    | refine guardK_split (fun hb => ?_) (fun hb => ?_)
    | refine condK_split (fun hb => ?_) (fun hb => ?_)
    | simp only [go_sem, simprocAttr, hl, h0, hc0, hc1, hw, *]
  · refine ret_b ?_
    have h45 : c1 = 45 := by
      simp only [beq_iff_eq] at *
      rw [← UInt8.toNat_inj]; show c1.toNat = 45; omega
    simp [hostP, hc1, h45]
  · rename_i g1 g2 g3
    have hk1 : s.length < 63 := by simp only [decide_eq_false_iff_not] at g2; omega
    have n0 : c0 ≠ 45 := by rintro rfl; simp at g3
    have n1 : c1 ≠ 45 := by rintro rfl; simp at hb
    refine go_rounds (fun n st => ∃ σ i, n + i = s.length ∧ st = ⟨σ, H, z0⟩ ∧ σ.length = 53 ∧ fr σ 0 = .str s ∧ fr σ 27 = .int .i64 s.length ∧ fr σ 28 = .int .i64 (i : Nat) ∧ (s.take i).all hostC = true) s.length
      ⟨_, 0, rfl, rfl, by simp only [go_sem, simprocAttr, hl], by simp only [go_sem, simprocAttr, hl, h0], by simp only [go_sem, simprocAttr, hl], by simp only [go_sem, simprocAttr, hl], rfl⟩ ?_
    rintro n _ ⟨σ, i, hi, rfl, hl, h0, h27, h28, hall⟩
    by_cases hlt : i < s.length
    · obtain ⟨c, hc⟩ : ∃ c, s[i]? = some c := ⟨_, List.getElem?_eq_getElem hlt⟩
      have hw := wrap_succ (show i < 9223372036854775807 by omega)
      repeat' first
        | refine guardK_split (fun hb => ?_) (fun hb => ?_)
        | refine condK_split (fun hb => ?_) (fun hb => ?_)
        | simp only [go_sem, simprocAttr, hl, h0, h27, h28, hlt, hc, hw, *]
      all_goals first
        | (have hgood : hostC c = true := by
             simp only [hostC, decide_eq_true_eq, decide_eq_false_iff_not, beq_iff_eq, beq_eq_false_iff_ne, bne_iff_ne, bne_eq_false_iff_eq, ne_eq, Bool.not_true, Bool.not_false, ge_iff_le, gt_iff_lt, eq_self, true_iff, iff_true, false_iff, iff_false, Bool.false_eq_true, Decidable.not_not, Bool.not_eq_true', Bool.not_eq_false', Bool.not_not] at *; omega
           have hnext := all_take_succ hc hall hgood
           exact ⟨n - 1, by omega, _, i + 1, by omega, rfl, by simp only [go_sem, simprocAttr, hl], by simp only [go_sem, simprocAttr, hl, h0], by simp only [go_sem, simprocAttr, hl, h27], by simp only [go_sem, simprocAttr, hl], hnext⟩)
        | (have hbad : hostC c = false := by
             simp only [hostC, decide_eq_true_eq, decide_eq_false_iff_not, beq_iff_eq, beq_eq_false_iff_ne, bne_iff_ne, bne_eq_false_iff_eq, ne_eq, Bool.not_true, Bool.not_false, ge_iff_le, gt_iff_lt, eq_self, true_iff, iff_true, false_iff, iff_false, Bool.false_eq_true, Decidable.not_not, Bool.not_eq_true', Bool.not_eq_false', Bool.not_not] at *; omega
           have hno := all_not hc hbad
           refine ret_b ?_
           simp [hostP, hno])
    · simp only [go_sem, simprocAttr, hl, h0, h27, h28, hlt]
      refine ret_b ?_
      have : s.take i = s := List.take_of_length_le (by omega)
      rw [this] at hall
      simp [hostP, hall, hc0, hc1, n0, n1, hk1]; try omega
  · refine ret_b ?_
    have h45 : c0 = 45 := by
      simp only [beq_iff_eq, Bool.not_false] at *
      rw [← UInt8.toNat_inj]; show c0.toNat = 45; omega
    simp [hostP, hc0, h45]
  · refine ret_b ?_
    have : ¬ s.length < 63 := by simp only [decide_eq_true_eq, decide_eq_false_iff_not, beq_iff_eq, beq_eq_false_iff_ne, bne_iff_ne, bne_eq_false_iff_eq, ne_eq, Bool.not_true, Bool.not_false, ge_iff_le, gt_iff_lt, eq_self, true_iff, iff_true, false_iff, iff_false, Bool.false_eq_true, Decidable.not_not, Bool.not_eq_true', Bool.not_eq_false', Bool.not_not] at *; omega
    simp [hostP, this]
  · exact absurd hb (by simp only [decide_eq_true_eq, decide_eq_false_iff_not, beq_iff_eq, beq_eq_false_iff_ne, bne_iff_ne, bne_eq_false_iff_eq, ne_eq, Bool.not_true, Bool.not_false, ge_iff_le, gt_iff_lt, eq_self, true_iff, iff_true, false_iff, iff_false, Bool.false_eq_true, Decidable.not_not, Bool.not_eq_true', Bool.not_eq_false', Bool.not_not] at *; omega)

/-- What a document's host is: a dash stands within. -/
def dashOk (s : List UInt8) (i : Nat) (c : UInt8) : Prop := hostC c = true ∧ (c.toNat = 45 → 0 < i ∧ i + 1 < s.length)
theorem host_all {s : List UInt8} (h : ∀ (j : Nat) c, s[j]? = some c → dashOk s j c) : hostP s = decide (1 ≤ s.length ∧ s.length ≤ 62) := by
  have hall : s.all hostC = true := by
    rw [List.all_eq_true]
    intro c hc
    obtain ⟨j, hj⟩ := List.getElem?_of_mem hc
    exact (h j c hj).1
  by_cases hn : s.length = 0
  · have : s = [] := List.length_eq_zero_iff.1 hn
    subst this; rfl
  · have h0 : (s[0]? == some 45) = false := by
      rw [beq_eq_false_iff_ne]
      intro hc
      have := (h 0 45 hc).2 rfl
      omega
    have h1 : (s[s.length - 1]? == some 45) = false := by
      rw [beq_eq_false_iff_ne]
      intro hc
      have := (h _ 45 hc).2 rfl
      omega
    rw [Bool.eq_iff_iff]
    simp only [hostP, hall, h0, h1, Bool.not_false, Bool.and_self, Bool.and_true, decide_eq_true_eq]
    omega
theorem host_bad {s : List UInt8} {i : Nat} {c : UInt8} (hc : s[i]? = some c) (h : ¬ dashOk s i c) : hostP s = false := by
  cases hp : hostP s with
  | false => rfl
  | true =>
    exfalso
    simp only [hostP, Bool.and_eq_true, Bool.not_eq_true', beq_eq_false_iff_ne, ne_eq] at hp
    obtain ⟨_, hall, h0, h1⟩ := hp
    have hi := (List.getElem?_eq_some_iff.1 hc).1
    refine h ⟨List.all_eq_true.1 hall c (List.mem_of_getElem? hc), fun h45 => ?_⟩
    have h45 : c = 45 := by rw [← UInt8.toNat_inj]; exact h45
    subst h45
    constructor
    · rcases Nat.eq_zero_or_pos i with rfl | hp
      · exact absurd hc h0
      · exact hp
    · rcases Nat.lt_or_ge (i + 1) s.length with hl | hl
      · exact hl
      · have : s.length - 1 = i := by omega
        rw [this] at h1
        exact absurd hc h1

set_option maxRecDepth 20000 in
theorem host40 (s : List UInt8) (H k) (hs : s.length ≤ 9223372036854775807) : callK Tryd.prog 40 [.str s] H k = k (.bool (hostP s), H, z0) := by
  refine callK_eq (r := (.bool (hostP s), H, z0)) ?_ k
  refine callK_start (n := 56) (rs := [.tmp 2]) Tryd.func40 rfl rfl rfl ?_
  intro σ hl ha
  have h0 := ha 0 (by simp)
  clear ha
  simp only [Option.getD_some, List.getElem?_cons_zero, List.getElem?_cons_succ] at h0
  simp only [go_sem, simprocAttr, hl, h0]
  refine go_rounds (fun n st => ∃ σ i, n + i = s.length ∧ st = ⟨σ, H, z0⟩ ∧ σ.length = 56 ∧ fr σ 0 = .str s ∧ fr σ 3 = .int .i64 (i : Nat) ∧ ∀ j, j < i → ∀ c, s[j]? = some c → dashOk s j c) s.length
    ⟨_, 0, rfl, rfl, by simp only [go_sem, simprocAttr, hl], by simp only [go_sem, simprocAttr, hl, h0], by simp only [go_sem, simprocAttr, hl], fun j hj => by omega⟩ ?_
  rintro n _ ⟨σ, i, hi, rfl, hl, h0, h3, hall⟩
  by_cases hlt : i < s.length
  · obtain ⟨c, hc⟩ : ∃ c, s[i]? = some c := ⟨_, List.getElem?_eq_getElem hlt⟩
    have hw := wrap_succ (show i < 9223372036854775807 by omega)
    have hw1 : IntKind.i64.wrap ((s.length : Int) - 1) = (s.length : Int) - 1 := by rw [wrap_i64 (by omega)]
    repeat' first
      | refine guardK_split (fun hb => ?_) (fun hb => ?_)
      | refine condK_split (fun hb => ?_) (fun hb => ?_)
      | simp only [go_sem, simprocAttr, hl, h0, h3, hlt, hc, hw, hw1, *]
    all_goals first
      | (have hgood : dashOk s i c := by
           unfold dashOk
           simp only [hostC, decide_eq_true_eq, decide_eq_false_iff_not, beq_iff_eq, beq_eq_false_iff_ne, bne_iff_ne, bne_eq_false_iff_eq, ne_eq, Bool.not_true, Bool.not_false, ge_iff_le, gt_iff_lt, eq_self, true_iff, iff_true, false_iff, iff_false, Bool.false_eq_true, Decidable.not_not, Bool.not_eq_true', Bool.not_eq_false', Bool.not_not] at *; omega
         have hnext : ∀ j, j < i + 1 → ∀ c, s[j]? = some c → dashOk s j c := by
           intro j hj d hd
           by_cases hji : j = i
           · subst hji; rw [hc] at hd; cases hd; exact hgood
           · exact hall j (by omega) d hd
         exact ⟨n - 1, by omega, _, i + 1, by omega, rfl, by simp only [go_sem, simprocAttr, hl], by simp only [go_sem, simprocAttr, hl, h0], by simp only [go_sem, simprocAttr, hl], hnext⟩)
      | (have hbad : ¬ dashOk s i c := by
           unfold dashOk
           simp only [hostC, decide_eq_true_eq, decide_eq_false_iff_not, beq_iff_eq, beq_eq_false_iff_ne, bne_iff_ne, bne_eq_false_iff_eq, ne_eq, Bool.not_true, Bool.not_false, ge_iff_le, gt_iff_lt, eq_self, true_iff, iff_true, false_iff, iff_false, Bool.false_eq_true, Decidable.not_not, Bool.not_eq_true', Bool.not_eq_false', Bool.not_not] at *; omega
         have hno := host_bad hc hbad
         refine ret_b ?_
         simp [hno])
  · have hfin := host_all (s := s) (fun j c hc => hall j (by have := (List.getElem?_eq_some_iff.1 hc).1; omega) c hc)
    repeat' first
      | refine guardK_split (fun hb => ?_) (fun hb => ?_)
      | refine condK_split (fun hb => ?_) (fun hb => ?_)
      | simp only [go_sem, simprocAttr, hl, h0, h3, hlt, *]
    all_goals
      refine ret_b ?_
      try rw [hfin]
      simp only [decide_eq_true_eq, decide_eq_false_iff_not, beq_iff_eq, beq_eq_false_iff_ne, bne_iff_ne, bne_eq_false_iff_eq, ne_eq, Bool.not_true, Bool.not_false, ge_iff_le, gt_iff_lt, eq_self, true_iff, iff_true, false_iff, iff_false, Bool.false_eq_true, Decidable.not_not, Bool.not_eq_true', Bool.not_eq_false', Bool.not_not] at *
      omega

set_option maxRecDepth 20000 in
theorem two44 (c : UInt8) (H k) : callK Tryd.prog 44 [.int .u8 c.toNat] H k = k (.str (twoP c), H, z0) := by
  refine callK_eq (r := (.str (twoP c), H, z0)) ?_ k
  refine callK_start (n := 16) (rs := [.tmp 2]) Tryd.func44 rfl rfl rfl ?_
  intro σ hl ha
  have h0 := ha 0 (by simp)
  clear ha
  simp only [Option.getD_some, List.getElem?_cons_zero, List.getElem?_cons_succ] at h0
  have hc := c.toNat_lt
  have q1 : IntKind.u8.wrap ((c.toNat : Int).tdiv 16) = ((c.toNat / 16 : Nat) : Int) := by
    rw [Int.tdiv_eq_ediv_of_nonneg (by omega), wrap_u8 (by omega)]; omega
  have q2 : (c.toNat : Int).tmod 16 = ((c.toNat % 16 : Nat) : Int) := by
    rw [Int.tmod_eq_emod_of_nonneg (by omega)]; omega
  have q3 : IntKind.u8.wrap (((c.toNat / 16 : Nat) : Int) + 1) = ((c.toNat / 16 + 1 : Nat) : Int) := by rw [wrap_u8 (by omega)]; omega
  have q4 : IntKind.u8.wrap (((c.toNat % 16 : Nat) : Int) + 1) = ((c.toNat % 16 + 1 : Nat) : Int) := by rw [wrap_u8 (by omega)]; omega
  have s1 := hexD_sl (n := c.toNat / 16) (by omega)
  have s2 := hexD_sl (n := c.toNat % 16) (by omega)
  have d1 : c.toNat / 16 + 1 - c.toNat / 16 = 1 := by omega
  have d2 : c.toNat % 16 + 1 - c.toNat % 16 = 1 := by omega
  have e1 : c.toNat / 16 + 1 ≤ 16 := by omega
  have e2 : c.toNat % 16 + 1 ≤ 16 := by omega
  have e3 : c.toNat / 16 ≤ c.toNat / 16 + 1 := by omega
  have e4 : c.toNat % 16 ≤ c.toNat % 16 + 1 := by omega
  simp only [go_sem, simprocAttr, hl, h0]
  refine go_drawZ tFollows (by kernel_rfl) ?_
  simp only [go_sem, simprocAttr, hl, h0, q1, q2, q3, q4, s1, s2, d1, d2, e1, e2, e3, e4]
  exact ⟨by omega, by omega, by decide, rfl⟩

set_option maxRecDepth 20000 in
theorem hexed41 (s : List UInt8) (H k) (hs : s.length < 1000000) : callK Tryd.prog 41 [.str s] H k = k (.str (hexP s), H, z0) := by
  refine callK_eq (r := (.str (hexP s), H, z0)) ?_ k
  refine callK_start (n := 18) (rs := [.tmp 2]) Tryd.func41 rfl rfl rfl ?_
  intro σ hl ha
  have h0 := ha 0 (by simp)
  clear ha
  simp only [Option.getD_some, List.getElem?_cons_zero, List.getElem?_cons_succ] at h0
  simp only [go_sem, simprocAttr, hl, h0]
  refine go_rounds (fun n st => ∃ σ i, n + i = s.length ∧ st = ⟨σ, H, z0⟩ ∧ σ.length = 18 ∧ fr σ 0 = .str s ∧ fr σ 3 = .str (hexP (s.take i)) ∧ fr σ 4 = .int .i64 (i : Nat)) s.length
    ⟨_, 0, rfl, rfl, by simp only [go_sem, simprocAttr, hl], by simp only [go_sem, simprocAttr, hl, h0], by simp only [go_sem, simprocAttr, hl, hexP, List.flatMap_nil], by simp only [go_sem, simprocAttr, hl]⟩ ?_
  rintro n _ ⟨σ, i, hi, rfl, hl, h0, h3, h4⟩
  by_cases hlt : i < s.length
  · obtain ⟨c, hc⟩ : ∃ c, s[i]? = some c := ⟨_, List.getElem?_eq_getElem hlt⟩
    have hw := wrap_succ (show i < 9223372036854775807 by omega)
    have h2 := fun H k => two44 c H k
    have hx := hexP_snoc hc
    have hb : (hexP (s.take i)).length + (twoP c).length ≤ maxI := by
      rw [hexP_len, List.length_take]; show _ + 2 ≤ 9223372036854775807; omega
    simp only [go_sem, simprocAttr, hl, h0, h3, h4, hlt, hc, hw, h2, hb]
    exact ⟨n - 1, by omega, _, i + 1, by omega, rfl, by simp only [go_sem, simprocAttr, hl], by simp only [go_sem, simprocAttr, hl, h0], by simp only [go_sem, simprocAttr, hl, hx], by simp only [go_sem, simprocAttr, hl]⟩
  · have : s.take i = s := List.take_of_length_le (by omega)
    simp only [go_sem, simprocAttr, hl, h0, h3, h4, hlt, this]

theorem decP_small {n : Nat} (h : n < 10) : decP n = [hexD n] := by unfold decP; rw [if_pos h]
theorem decP_big {n : Nat} (h : ¬ n < 10) : decP n = decP (n / 10) ++ [hexD (n % 10)] := by rw [decP]; rw [if_neg h]
set_option maxRecDepth 20000 in
theorem dec42 : ∀ (n : Nat) (H k), n < 100000 → callK Tryd.prog 42 [.int .i64 (n : Nat)] H k = k (.str (decP n), H, z0) := by
  intro n
  induction n using Nat.strongRecOn with
  | ind n ih =>
  intro H k hn
  refine callK_eq (r := (.str (decP n), H, z0)) ?_ k
  refine callK_start (n := 19) (rs := [.tmp 2]) Tryd.func42 rfl rfl rfl ?_
  intro σ hl ha
  have h0 := ha 0 (by simp)
  clear ha
  simp only [Option.getD_some, List.getElem?_cons_zero, List.getElem?_cons_succ] at h0
  by_cases h10 : n < 10
  · have g : decide ((n : Int) < 10) = true := by simp; omega
    have q3 : IntKind.i64.wrap ((n : Int) + 1) = ((n + 1 : Nat) : Int) := by rw [wrap_i64 (by omega)]; omega
    have s1 := hexD_sl (n := n) (by omega)
    have d1 : n + 1 - n = 1 := by omega
    simp only [go_sem, simprocAttr, hl, h0, g, q3, s1, d1]
    exact ⟨by omega, by rw [decP_small h10]⟩
  · have g : decide ((n : Int) < 10) = false := by simp; omega
    have q1 : IntKind.i64.wrap ((n : Int).tdiv 10) = ((n / 10 : Nat) : Int) := by
      rw [Int.tdiv_eq_ediv_of_nonneg (by omega), wrap_i64 (by omega)]; omega
    have q2 : (n : Int).tmod 10 = ((n % 10 : Nat) : Int) := by
      rw [Int.tmod_eq_emod_of_nonneg (by omega)]; omega
    have q3 : IntKind.i64.wrap (((n % 10 : Nat) : Int) + 1) = ((n % 10 + 1 : Nat) : Int) := by rw [wrap_i64 (by omega)]; omega
    have s1 := hexD_sl (n := n % 10) (by omega)
    have d1 : n % 10 + 1 - n % 10 = 1 := by omega
    have hc := fun H k => ih (n / 10) (by omega) H k (by omega)
    have hb : (decP (n / 10)).length + 1 ≤ maxI := by
      have := decP_len (n / 10) (by omega)
      show _ ≤ 9223372036854775807; omega
    simp only [go_sem, simprocAttr, hl, h0, g]
    refine go_drawZ tFollows (by kernel_rfl) ?_
    simp only [go_sem, simprocAttr, hl, h0, q1, q2, q3, s1, d1, hc, hb]
    exact ⟨by omega, by rw [decP_big h10]⟩
end Go.Proofs.YtjemmehgfheflaaDoor.V
