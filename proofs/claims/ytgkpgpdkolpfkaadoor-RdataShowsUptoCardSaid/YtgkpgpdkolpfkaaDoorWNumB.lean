/- Package strconv's numbers to the base 10, of 32 bits: as 'V' runs the program's functions. No conditions. -/
import Derived.Test.YtgkpgpdkolpfkaaDoorWNum
namespace Go.Proofs.YtgkpgpdkolpfkaaDoor.V
open Go
set_option linter.unusedSimpArgs false
set_option linter.unusedVariables false
attribute [local irreducible] go goOps goD opK callK callT stepK leaveTo nextK

theorem decP_two {n : Nat} (h : 10 ≤ n) (h' : n < 100) : decP n = [hexD (n / 10), hexD (n % 10)] := by rw [decP_big (by omega), decP_small (by omega)]; rfl
theorem decP_pair {n : Nat} (h : 100 ≤ n) : decP n = decP (n / 100) ++ [hexD (n % 100 / 10), hexD (n % 10)] := by
  rw [decP_big (show ¬ n < 10 by omega), decP_big (show ¬ n / 10 < 10 by omega), List.append_assoc, Nat.div_div_eq_div_mul]
  have : n / 10 % 10 = n % 100 / 10 := by omega
  rw [this]; rfl
theorem cons_eq {a b : UInt8} {s t : List UInt8} (h : a = b) (h' : s = t) : a :: s = b :: t := by rw [h, h']
theorem tm64 {x c : Nat} (hc : 0 < c) : (x : Int).tmod (c : Int) = ((x % c : Nat) : Int) := by rw [Int.tmod_eq_emod_of_nonneg (by omega)]; omega
theorem t32d {x c : Nat} (hx : x < 4294967296) (hc : 0 < c) : IntKind.u32.wrap ((x : Int).tdiv (c : Int)) = ((x / c : Nat) : Int) := by
  have : x / c ≤ x := Nat.div_le_self x c
  have e : (x : Int) / (c : Int) = ((x / c : Nat) : Int) := (Int.natCast_ediv x c).symm
  rw [Int.tdiv_eq_ediv_of_nonneg (by omega), e]
  generalize x / c = y at *
  rw [wrap_u32 (by omega)]
theorem t64d {x c : Nat} (hx : x < 18446744073709551616) (hc : 0 < c) : IntKind.u64.wrap ((x : Int).tdiv (c : Int)) = ((x / c : Nat) : Int) := by
  have : x / c ≤ x := Nat.div_le_self x c
  have e : (x : Int) / (c : Int) = ((x / c : Nat) : Int) := (Int.natCast_ediv x c).symm
  rw [Int.tdiv_eq_ediv_of_nonneg (by omega), e]
  generalize x / c = y at *
  rw [wrap_u64 (by omega)]
theorem w2x {x : Nat} (hx : x < 100) : IntKind.u32.wrap ((x : Int) * 2) = ((2 * x : Nat) : Int) := by rw [wrap_u32 (by omega)]; omega
theorem w2y {x : Nat} (hx : x < 100) : IntKind.u32.wrap (((2 * x : Nat) : Int) + 1) = ((2 * x + 1 : Nat) : Int) := by rw [wrap_u32 (by omega)]; omega

theorem dcL3 {n : Nat} (h1 : 100 ≤ n) (h : n < 1000) : decP n = [hexD (n / 100), hexD ((n % 100) / 10), hexD ((n % 100) % 10)] := by
  rw [decP_pair (by omega), decP_small (by omega)]
  simp only [List.cons_append, List.nil_append]
  exact cons_eq (congrArg hexD (by omega)) (cons_eq (congrArg hexD (by omega)) (cons_eq (congrArg hexD (by omega)) (rfl)))
set_option maxRecDepth 20000 in
theorem fmtL3 (n : Nat) (H k) (h1 : 100 ≤ n) (hn : n < 1000) : callK Tryd.prog 90 [.slice H.length 0 3 (.ex 24), .int .u64 (n : Nat)] (H ++ [.cells [.int .u8 0, .int .u8 0, .int .u8 0, .int .u8 0, .int .u8 0, .int .u8 0, .int .u8 0, .int .u8 0, .int .u8 0, .int .u8 0, .int .u8 0, .int .u8 0, .int .u8 0, .int .u8 0, .int .u8 0, .int .u8 0, .int .u8 0, .int .u8 0, .int .u8 0, .int .u8 0, .int .u8 0, .int .u8 0, .int .u8 0, .int .u8 0] 138 .rw]) k =
    k (.tuple [], H ++ [.cells (.int .u8 (hexD (n / 100)).toNat :: .int .u8 (hexD ((n % 100) / 10)).toNat :: .int .u8 (hexD ((n % 100) % 10)).toNat :: [.int .u8 0, .int .u8 0, .int .u8 0, .int .u8 0, .int .u8 0, .int .u8 0, .int .u8 0, .int .u8 0, .int .u8 0, .int .u8 0, .int .u8 0, .int .u8 0, .int .u8 0, .int .u8 0, .int .u8 0, .int .u8 0, .int .u8 0, .int .u8 0, .int .u8 0, .int .u8 0, .int .u8 0]) 138 .rw], ⟨none, some H.length⟩) := by
  refine callK_eq ?_ k
  refine callK_start (n := 167) (rs := []) Tryd.func90 rfl rfl rfl ?_
  intro σ hl ha
  have h0 := ha 0 (by simp)
  have h1' := ha 1 (by simp)
  clear ha
  simp only [Option.getD_some, List.getElem?_cons_zero, List.getElem?_cons_succ] at h0 h1'
  have v0 : IntKind.u32.wrap (n : Int) = (n : Int) := wrap_u32 (by omega)
  have f1 : (n : Int).tmod 100 = ((n % 100 : Nat) : Int) := tm64 (by decide)
  have f2 : IntKind.u32.wrap ((n : Int).tdiv 100) = ((n / 100 : Nat) : Int) := t32d (by omega) (by decide)
  have f3 : IntKind.u32.wrap (((n % 100 : Nat) : Int) * 2) = ((2 * (n % 100) : Nat) : Int) := w2x (by omega)
  have f4 : IntKind.u32.wrap (((2 * (n % 100) : Nat) : Int) + 1) = ((2 * (n % 100) + 1 : Nat) : Int) := w2y (by omega)
  have g1 : IntKind.u8.wrap (IntKind.u32.wrap (48 + ((n / 100 : Nat) : Int))) = ((hexD (n / 100)).toNat : Int) := hexD_i (by omega)
  simp only [go_sem, simprocAttr, hl, h0, h1', v0, f1, f2, f3, f4, g1]
  rw [go_loop]
  simp only [go_sem, simprocAttr, hl, h0, h1', v0, f1, f2, f3, f4, g1]
  refine go_drawZ tFollows (by kernel_rfl) ?_
  simp only [go_sem, simprocAttr, hl, h0, h1', v0, f1, f2, f3, f4, g1]
  rw [bindK_sm1 (by kernel_rfl) (show n % 100 < 100 by omega)]
  simp only [go_sem, simprocAttr, hl, h0, h1', v0, f1, f2, f3, f4, g1]
  rw [bindK_sm0 (by kernel_rfl) (show n % 100 < 100 by omega)]
  simp only [go_sem, simprocAttr, hl, h0, h1', v0, f1, f2, f3, f4, g1]
  refine ⟨(by kernel_rfl : effOk _ _ _ = true), ?_⟩
  try simp only [go_sem, simprocAttr, hl, h0, h1', v0, f1, f2, f3, f4, g1]
  rw [leave_same rfl (by simp), low_sm (by omega)]

theorem dcL4 {n : Nat} (h1 : 1000 ≤ n) (h : n < 10000) : decP n = [hexD ((n % 10000 / 100) / 10), hexD ((n % 10000 / 100) % 10), hexD ((n % 10000 % 100) / 10), hexD ((n % 10000 % 100) % 10)] := by
  rw [decP_pair (by omega), decP_two (by omega) (by omega)]
  simp only [List.cons_append, List.nil_append]
  exact cons_eq (congrArg hexD (by omega)) (cons_eq (congrArg hexD (by omega)) (cons_eq (congrArg hexD (by omega)) (cons_eq (congrArg hexD (by omega)) (rfl))))
set_option maxRecDepth 20000 in
theorem fmtL4 (n : Nat) (H k) (h1 : 1000 ≤ n) (hn : n < 10000) : callK Tryd.prog 90 [.slice H.length 0 4 (.ex 24), .int .u64 (n : Nat)] (H ++ [.cells [.int .u8 0, .int .u8 0, .int .u8 0, .int .u8 0, .int .u8 0, .int .u8 0, .int .u8 0, .int .u8 0, .int .u8 0, .int .u8 0, .int .u8 0, .int .u8 0, .int .u8 0, .int .u8 0, .int .u8 0, .int .u8 0, .int .u8 0, .int .u8 0, .int .u8 0, .int .u8 0, .int .u8 0, .int .u8 0, .int .u8 0, .int .u8 0] 138 .rw]) k =
    k (.tuple [], H ++ [.cells (.int .u8 (hexD ((n % 10000 / 100) / 10)).toNat :: .int .u8 (hexD ((n % 10000 / 100) % 10)).toNat :: .int .u8 (hexD ((n % 10000 % 100) / 10)).toNat :: .int .u8 (hexD ((n % 10000 % 100) % 10)).toNat :: [.int .u8 0, .int .u8 0, .int .u8 0, .int .u8 0, .int .u8 0, .int .u8 0, .int .u8 0, .int .u8 0, .int .u8 0, .int .u8 0, .int .u8 0, .int .u8 0, .int .u8 0, .int .u8 0, .int .u8 0, .int .u8 0, .int .u8 0, .int .u8 0, .int .u8 0, .int .u8 0]) 138 .rw], ⟨none, some H.length⟩) := by
  refine callK_eq ?_ k
  refine callK_start (n := 167) (rs := []) Tryd.func90 rfl rfl rfl ?_
  intro σ hl ha
  have h0 := ha 0 (by simp)
  have h1' := ha 1 (by simp)
  clear ha
  simp only [Option.getD_some, List.getElem?_cons_zero, List.getElem?_cons_succ] at h0 h1'
  have v0 : IntKind.u32.wrap (n : Int) = (n : Int) := wrap_u32 (by omega)
  have d1 : (n : Int).tmod 10000 = ((n % 10000 : Nat) : Int) := tm64 (by decide)
  have d2 : IntKind.u32.wrap ((n : Int).tdiv 10000) = ((n / 10000 : Nat) : Int) := t32d (by omega) (by decide)
  have e1 : IntKind.u32.wrap (((n % 10000 : Nat) : Int).tdiv 100) = ((n % 10000 / 100 : Nat) : Int) := t32d (by omega) (by decide)
  have e2 : ((n % 10000 : Nat) : Int).tmod 100 = ((n % 10000 % 100 : Nat) : Int) := tm64 (by decide)
  have e3 : IntKind.u32.wrap (((n % 10000 / 100 : Nat) : Int) * 2) = ((2 * (n % 10000 / 100) : Nat) : Int) := w2x (by omega)
  have e4 : IntKind.u32.wrap (((n % 10000 % 100 : Nat) : Int) * 2) = ((2 * (n % 10000 % 100) : Nat) : Int) := w2x (by omega)
  have e5 : IntKind.u32.wrap (((2 * (n % 10000 / 100) : Nat) : Int) + 1) = ((2 * (n % 10000 / 100) + 1 : Nat) : Int) := w2y (by omega)
  have e6 : IntKind.u32.wrap (((2 * (n % 10000 % 100) : Nat) : Int) + 1) = ((2 * (n % 10000 % 100) + 1 : Nat) : Int) := w2y (by omega)
  simp only [go_sem, simprocAttr, hl, h0, h1', v0, d1, d2, e1, e2, e3, e4, e5, e6]
  rw [go_loop]
  simp only [go_sem, simprocAttr, hl, h0, h1', v0, d1, d2, e1, e2, e3, e4, e5, e6]
  refine go_drawZ tFollows (by kernel_rfl) ?_
  simp only [go_sem, simprocAttr, hl, h0, h1', v0, d1, d2, e1, e2, e3, e4, e5, e6]
  rw [bindK_sm1 (by kernel_rfl) (show n % 10000 % 100 < 100 by omega)]
  simp only [go_sem, simprocAttr, hl, h0, h1', v0, d1, d2, e1, e2, e3, e4, e5, e6]
  rw [bindK_sm0 (by kernel_rfl) (show n % 10000 % 100 < 100 by omega)]
  simp only [go_sem, simprocAttr, hl, h0, h1', v0, d1, d2, e1, e2, e3, e4, e5, e6]
  refine ⟨(by kernel_rfl : effOk _ _ _ = true), ?_⟩
  try simp only [go_sem, simprocAttr, hl, h0, h1', v0, d1, d2, e1, e2, e3, e4, e5, e6]
  refine go_drawZ tFollows (by kernel_rfl) ?_
  simp only [go_sem, simprocAttr, hl, h0, h1', v0, d1, d2, e1, e2, e3, e4, e5, e6]
  rw [bindK_sm1 (by kernel_rfl) (show n % 10000 / 100 < 100 by omega)]
  simp only [go_sem, simprocAttr, hl, h0, h1', v0, d1, d2, e1, e2, e3, e4, e5, e6]
  rw [bindK_sm0 (by kernel_rfl) (show n % 10000 / 100 < 100 by omega)]
  simp only [go_sem, simprocAttr, hl, h0, h1', v0, d1, d2, e1, e2, e3, e4, e5, e6]
  refine ⟨(by kernel_rfl : effOk _ _ _ = true), ?_⟩
  try simp only [go_sem, simprocAttr, hl, h0, h1', v0, d1, d2, e1, e2, e3, e4, e5, e6]
  rw [leave_same rfl (by simp), low_sm (by omega)]

theorem dcL5 {n : Nat} (h1 : 10000 ≤ n) (h : n < 100000) : decP n = [hexD (n / 10000), hexD ((n % 10000 / 100) / 10), hexD ((n % 10000 / 100) % 10), hexD ((n % 10000 % 100) / 10), hexD ((n % 10000 % 100) % 10)] := by
  rw [decP_pair (by omega), decP_pair (by omega), decP_small (by omega)]
  simp only [List.cons_append, List.nil_append]
  exact cons_eq (congrArg hexD (by omega)) (cons_eq (congrArg hexD (by omega)) (cons_eq (congrArg hexD (by omega)) (cons_eq (congrArg hexD (by omega)) (cons_eq (congrArg hexD (by omega)) (rfl)))))
set_option maxRecDepth 20000 in
theorem fmtL5 (n : Nat) (H k) (h1 : 10000 ≤ n) (hn : n < 100000) : callK Tryd.prog 90 [.slice H.length 0 5 (.ex 24), .int .u64 (n : Nat)] (H ++ [.cells [.int .u8 0, .int .u8 0, .int .u8 0, .int .u8 0, .int .u8 0, .int .u8 0, .int .u8 0, .int .u8 0, .int .u8 0, .int .u8 0, .int .u8 0, .int .u8 0, .int .u8 0, .int .u8 0, .int .u8 0, .int .u8 0, .int .u8 0, .int .u8 0, .int .u8 0, .int .u8 0, .int .u8 0, .int .u8 0, .int .u8 0, .int .u8 0] 138 .rw]) k =
    k (.tuple [], H ++ [.cells (.int .u8 (hexD (n / 10000)).toNat :: .int .u8 (hexD ((n % 10000 / 100) / 10)).toNat :: .int .u8 (hexD ((n % 10000 / 100) % 10)).toNat :: .int .u8 (hexD ((n % 10000 % 100) / 10)).toNat :: .int .u8 (hexD ((n % 10000 % 100) % 10)).toNat :: [.int .u8 0, .int .u8 0, .int .u8 0, .int .u8 0, .int .u8 0, .int .u8 0, .int .u8 0, .int .u8 0, .int .u8 0, .int .u8 0, .int .u8 0, .int .u8 0, .int .u8 0, .int .u8 0, .int .u8 0, .int .u8 0, .int .u8 0, .int .u8 0, .int .u8 0]) 138 .rw], ⟨none, some H.length⟩) := by
  refine callK_eq ?_ k
  refine callK_start (n := 167) (rs := []) Tryd.func90 rfl rfl rfl ?_
  intro σ hl ha
  have h0 := ha 0 (by simp)
  have h1' := ha 1 (by simp)
  clear ha
  simp only [Option.getD_some, List.getElem?_cons_zero, List.getElem?_cons_succ] at h0 h1'
  have v0 : IntKind.u32.wrap (n : Int) = (n : Int) := wrap_u32 (by omega)
  have d1 : (n : Int).tmod 10000 = ((n % 10000 : Nat) : Int) := tm64 (by decide)
  have d2 : IntKind.u32.wrap ((n : Int).tdiv 10000) = ((n / 10000 : Nat) : Int) := t32d (by omega) (by decide)
  have e1 : IntKind.u32.wrap (((n % 10000 : Nat) : Int).tdiv 100) = ((n % 10000 / 100 : Nat) : Int) := t32d (by omega) (by decide)
  have e2 : ((n % 10000 : Nat) : Int).tmod 100 = ((n % 10000 % 100 : Nat) : Int) := tm64 (by decide)
  have e3 : IntKind.u32.wrap (((n % 10000 / 100 : Nat) : Int) * 2) = ((2 * (n % 10000 / 100) : Nat) : Int) := w2x (by omega)
  have e4 : IntKind.u32.wrap (((n % 10000 % 100 : Nat) : Int) * 2) = ((2 * (n % 10000 % 100) : Nat) : Int) := w2x (by omega)
  have e5 : IntKind.u32.wrap (((2 * (n % 10000 / 100) : Nat) : Int) + 1) = ((2 * (n % 10000 / 100) + 1 : Nat) : Int) := w2y (by omega)
  have e6 : IntKind.u32.wrap (((2 * (n % 10000 % 100) : Nat) : Int) + 1) = ((2 * (n % 10000 % 100) + 1 : Nat) : Int) := w2y (by omega)
  have g1 : IntKind.u8.wrap (IntKind.u32.wrap (48 + ((n / 10000 : Nat) : Int))) = ((hexD (n / 10000)).toNat : Int) := hexD_i (by omega)
  simp only [go_sem, simprocAttr, hl, h0, h1', v0, d1, d2, e1, e2, e3, e4, e5, e6, g1]
  rw [go_loop]
  simp only [go_sem, simprocAttr, hl, h0, h1', v0, d1, d2, e1, e2, e3, e4, e5, e6, g1]
  refine go_drawZ tFollows (by kernel_rfl) ?_
  simp only [go_sem, simprocAttr, hl, h0, h1', v0, d1, d2, e1, e2, e3, e4, e5, e6, g1]
  rw [bindK_sm1 (by kernel_rfl) (show n % 10000 % 100 < 100 by omega)]
  simp only [go_sem, simprocAttr, hl, h0, h1', v0, d1, d2, e1, e2, e3, e4, e5, e6, g1]
  rw [bindK_sm0 (by kernel_rfl) (show n % 10000 % 100 < 100 by omega)]
  simp only [go_sem, simprocAttr, hl, h0, h1', v0, d1, d2, e1, e2, e3, e4, e5, e6, g1]
  refine ⟨(by kernel_rfl : effOk _ _ _ = true), ?_⟩
  try simp only [go_sem, simprocAttr, hl, h0, h1', v0, d1, d2, e1, e2, e3, e4, e5, e6, g1]
  refine go_drawZ tFollows (by kernel_rfl) ?_
  simp only [go_sem, simprocAttr, hl, h0, h1', v0, d1, d2, e1, e2, e3, e4, e5, e6, g1]
  rw [bindK_sm1 (by kernel_rfl) (show n % 10000 / 100 < 100 by omega)]
  simp only [go_sem, simprocAttr, hl, h0, h1', v0, d1, d2, e1, e2, e3, e4, e5, e6, g1]
  rw [bindK_sm0 (by kernel_rfl) (show n % 10000 / 100 < 100 by omega)]
  simp only [go_sem, simprocAttr, hl, h0, h1', v0, d1, d2, e1, e2, e3, e4, e5, e6, g1]
  refine ⟨(by kernel_rfl : effOk _ _ _ = true), ?_⟩
  try simp only [go_sem, simprocAttr, hl, h0, h1', v0, d1, d2, e1, e2, e3, e4, e5, e6, g1]
  rw [leave_same rfl (by simp), low_sm (by omega)]

theorem dcL6 {n : Nat} (h1 : 100000 ≤ n) (h : n < 1000000) : decP n = [hexD ((n / 10000 % 100) / 10), hexD ((n / 10000 % 100) % 10), hexD ((n % 10000 / 100) / 10), hexD ((n % 10000 / 100) % 10), hexD ((n % 10000 % 100) / 10), hexD ((n % 10000 % 100) % 10)] := by
  rw [decP_pair (by omega), decP_pair (by omega), decP_two (by omega) (by omega)]
  simp only [List.cons_append, List.nil_append]
  exact cons_eq (congrArg hexD (by omega)) (cons_eq (congrArg hexD (by omega)) (cons_eq (congrArg hexD (by omega)) (cons_eq (congrArg hexD (by omega)) (cons_eq (congrArg hexD (by omega)) (cons_eq (congrArg hexD (by omega)) (rfl))))))
set_option maxRecDepth 20000 in
theorem fmtL6 (n : Nat) (H k) (h1 : 100000 ≤ n) (hn : n < 1000000) : callK Tryd.prog 90 [.slice H.length 0 6 (.ex 24), .int .u64 (n : Nat)] (H ++ [.cells [.int .u8 0, .int .u8 0, .int .u8 0, .int .u8 0, .int .u8 0, .int .u8 0, .int .u8 0, .int .u8 0, .int .u8 0, .int .u8 0, .int .u8 0, .int .u8 0, .int .u8 0, .int .u8 0, .int .u8 0, .int .u8 0, .int .u8 0, .int .u8 0, .int .u8 0, .int .u8 0, .int .u8 0, .int .u8 0, .int .u8 0, .int .u8 0] 138 .rw]) k =
    k (.tuple [], H ++ [.cells (.int .u8 (hexD ((n / 10000 % 100) / 10)).toNat :: .int .u8 (hexD ((n / 10000 % 100) % 10)).toNat :: .int .u8 (hexD ((n % 10000 / 100) / 10)).toNat :: .int .u8 (hexD ((n % 10000 / 100) % 10)).toNat :: .int .u8 (hexD ((n % 10000 % 100) / 10)).toNat :: .int .u8 (hexD ((n % 10000 % 100) % 10)).toNat :: [.int .u8 0, .int .u8 0, .int .u8 0, .int .u8 0, .int .u8 0, .int .u8 0, .int .u8 0, .int .u8 0, .int .u8 0, .int .u8 0, .int .u8 0, .int .u8 0, .int .u8 0, .int .u8 0, .int .u8 0, .int .u8 0, .int .u8 0, .int .u8 0]) 138 .rw], ⟨none, some H.length⟩) := by
  refine callK_eq ?_ k
  refine callK_start (n := 167) (rs := []) Tryd.func90 rfl rfl rfl ?_
  intro σ hl ha
  have h0 := ha 0 (by simp)
  have h1' := ha 1 (by simp)
  clear ha
  simp only [Option.getD_some, List.getElem?_cons_zero, List.getElem?_cons_succ] at h0 h1'
  have v0 : IntKind.u32.wrap (n : Int) = (n : Int) := wrap_u32 (by omega)
  have d1 : (n : Int).tmod 10000 = ((n % 10000 : Nat) : Int) := tm64 (by decide)
  have d2 : IntKind.u32.wrap ((n : Int).tdiv 10000) = ((n / 10000 : Nat) : Int) := t32d (by omega) (by decide)
  have e1 : IntKind.u32.wrap (((n % 10000 : Nat) : Int).tdiv 100) = ((n % 10000 / 100 : Nat) : Int) := t32d (by omega) (by decide)
  have e2 : ((n % 10000 : Nat) : Int).tmod 100 = ((n % 10000 % 100 : Nat) : Int) := tm64 (by decide)
  have e3 : IntKind.u32.wrap (((n % 10000 / 100 : Nat) : Int) * 2) = ((2 * (n % 10000 / 100) : Nat) : Int) := w2x (by omega)
  have e4 : IntKind.u32.wrap (((n % 10000 % 100 : Nat) : Int) * 2) = ((2 * (n % 10000 % 100) : Nat) : Int) := w2x (by omega)
  have e5 : IntKind.u32.wrap (((2 * (n % 10000 / 100) : Nat) : Int) + 1) = ((2 * (n % 10000 / 100) + 1 : Nat) : Int) := w2y (by omega)
  have e6 : IntKind.u32.wrap (((2 * (n % 10000 % 100) : Nat) : Int) + 1) = ((2 * (n % 10000 % 100) + 1 : Nat) : Int) := w2y (by omega)
  have f1 : ((n / 10000 : Nat) : Int).tmod 100 = ((n / 10000 % 100 : Nat) : Int) := tm64 (by decide)
  have f2 : IntKind.u32.wrap (((n / 10000 : Nat) : Int).tdiv 100) = ((n / 10000 / 100 : Nat) : Int) := t32d (by omega) (by decide)
  have f3 : IntKind.u32.wrap (((n / 10000 % 100 : Nat) : Int) * 2) = ((2 * (n / 10000 % 100) : Nat) : Int) := w2x (by omega)
  have f4 : IntKind.u32.wrap (((2 * (n / 10000 % 100) : Nat) : Int) + 1) = ((2 * (n / 10000 % 100) + 1 : Nat) : Int) := w2y (by omega)
  simp only [go_sem, simprocAttr, hl, h0, h1', v0, d1, d2, e1, e2, e3, e4, e5, e6, f1, f2, f3, f4]
  rw [go_loop]
  simp only [go_sem, simprocAttr, hl, h0, h1', v0, d1, d2, e1, e2, e3, e4, e5, e6, f1, f2, f3, f4]
  refine go_drawZ tFollows (by kernel_rfl) ?_
  simp only [go_sem, simprocAttr, hl, h0, h1', v0, d1, d2, e1, e2, e3, e4, e5, e6, f1, f2, f3, f4]
  rw [bindK_sm1 (by kernel_rfl) (show n % 10000 % 100 < 100 by omega)]
  simp only [go_sem, simprocAttr, hl, h0, h1', v0, d1, d2, e1, e2, e3, e4, e5, e6, f1, f2, f3, f4]
  rw [bindK_sm0 (by kernel_rfl) (show n % 10000 % 100 < 100 by omega)]
  simp only [go_sem, simprocAttr, hl, h0, h1', v0, d1, d2, e1, e2, e3, e4, e5, e6, f1, f2, f3, f4]
  refine ⟨(by kernel_rfl : effOk _ _ _ = true), ?_⟩
  try simp only [go_sem, simprocAttr, hl, h0, h1', v0, d1, d2, e1, e2, e3, e4, e5, e6, f1, f2, f3, f4]
  refine go_drawZ tFollows (by kernel_rfl) ?_
  simp only [go_sem, simprocAttr, hl, h0, h1', v0, d1, d2, e1, e2, e3, e4, e5, e6, f1, f2, f3, f4]
  rw [bindK_sm1 (by kernel_rfl) (show n % 10000 / 100 < 100 by omega)]
  simp only [go_sem, simprocAttr, hl, h0, h1', v0, d1, d2, e1, e2, e3, e4, e5, e6, f1, f2, f3, f4]
  rw [bindK_sm0 (by kernel_rfl) (show n % 10000 / 100 < 100 by omega)]
  simp only [go_sem, simprocAttr, hl, h0, h1', v0, d1, d2, e1, e2, e3, e4, e5, e6, f1, f2, f3, f4]
  refine ⟨(by kernel_rfl : effOk _ _ _ = true), ?_⟩
  try simp only [go_sem, simprocAttr, hl, h0, h1', v0, d1, d2, e1, e2, e3, e4, e5, e6, f1, f2, f3, f4]
  refine go_drawZ tFollows (by kernel_rfl) ?_
  simp only [go_sem, simprocAttr, hl, h0, h1', v0, d1, d2, e1, e2, e3, e4, e5, e6, f1, f2, f3, f4]
  rw [bindK_sm1 (by kernel_rfl) (show n / 10000 % 100 < 100 by omega)]
  simp only [go_sem, simprocAttr, hl, h0, h1', v0, d1, d2, e1, e2, e3, e4, e5, e6, f1, f2, f3, f4]
  rw [bindK_sm0 (by kernel_rfl) (show n / 10000 % 100 < 100 by omega)]
  simp only [go_sem, simprocAttr, hl, h0, h1', v0, d1, d2, e1, e2, e3, e4, e5, e6, f1, f2, f3, f4]
  refine ⟨(by kernel_rfl : effOk _ _ _ = true), ?_⟩
  try simp only [go_sem, simprocAttr, hl, h0, h1', v0, d1, d2, e1, e2, e3, e4, e5, e6, f1, f2, f3, f4]
  rw [leave_same rfl (by simp), low_sm (by omega)]

theorem dcL7 {n : Nat} (h1 : 1000000 ≤ n) (h : n < 10000000) : decP n = [hexD (n / 10000 / 100), hexD ((n / 10000 % 100) / 10), hexD ((n / 10000 % 100) % 10), hexD ((n % 10000 / 100) / 10), hexD ((n % 10000 / 100) % 10), hexD ((n % 10000 % 100) / 10), hexD ((n % 10000 % 100) % 10)] := by
  rw [decP_pair (by omega), decP_pair (by omega), decP_pair (by omega), decP_small (by omega)]
  simp only [List.cons_append, List.nil_append]
  exact cons_eq (congrArg hexD (by omega)) (cons_eq (congrArg hexD (by omega)) (cons_eq (congrArg hexD (by omega)) (cons_eq (congrArg hexD (by omega)) (cons_eq (congrArg hexD (by omega)) (cons_eq (congrArg hexD (by omega)) (cons_eq (congrArg hexD (by omega)) (rfl)))))))
set_option maxRecDepth 20000 in
theorem fmtL7 (n : Nat) (H k) (h1 : 1000000 ≤ n) (hn : n < 10000000) : callK Tryd.prog 90 [.slice H.length 0 7 (.ex 24), .int .u64 (n : Nat)] (H ++ [.cells [.int .u8 0, .int .u8 0, .int .u8 0, .int .u8 0, .int .u8 0, .int .u8 0, .int .u8 0, .int .u8 0, .int .u8 0, .int .u8 0, .int .u8 0, .int .u8 0, .int .u8 0, .int .u8 0, .int .u8 0, .int .u8 0, .int .u8 0, .int .u8 0, .int .u8 0, .int .u8 0, .int .u8 0, .int .u8 0, .int .u8 0, .int .u8 0] 138 .rw]) k =
    k (.tuple [], H ++ [.cells (.int .u8 (hexD (n / 10000 / 100)).toNat :: .int .u8 (hexD ((n / 10000 % 100) / 10)).toNat :: .int .u8 (hexD ((n / 10000 % 100) % 10)).toNat :: .int .u8 (hexD ((n % 10000 / 100) / 10)).toNat :: .int .u8 (hexD ((n % 10000 / 100) % 10)).toNat :: .int .u8 (hexD ((n % 10000 % 100) / 10)).toNat :: .int .u8 (hexD ((n % 10000 % 100) % 10)).toNat :: [.int .u8 0, .int .u8 0, .int .u8 0, .int .u8 0, .int .u8 0, .int .u8 0, .int .u8 0, .int .u8 0, .int .u8 0, .int .u8 0, .int .u8 0, .int .u8 0, .int .u8 0, .int .u8 0, .int .u8 0, .int .u8 0, .int .u8 0]) 138 .rw], ⟨none, some H.length⟩) := by
  refine callK_eq ?_ k
  refine callK_start (n := 167) (rs := []) Tryd.func90 rfl rfl rfl ?_
  intro σ hl ha
  have h0 := ha 0 (by simp)
  have h1' := ha 1 (by simp)
  clear ha
  simp only [Option.getD_some, List.getElem?_cons_zero, List.getElem?_cons_succ] at h0 h1'
  have v0 : IntKind.u32.wrap (n : Int) = (n : Int) := wrap_u32 (by omega)
  have d1 : (n : Int).tmod 10000 = ((n % 10000 : Nat) : Int) := tm64 (by decide)
  have d2 : IntKind.u32.wrap ((n : Int).tdiv 10000) = ((n / 10000 : Nat) : Int) := t32d (by omega) (by decide)
  have e1 : IntKind.u32.wrap (((n % 10000 : Nat) : Int).tdiv 100) = ((n % 10000 / 100 : Nat) : Int) := t32d (by omega) (by decide)
  have e2 : ((n % 10000 : Nat) : Int).tmod 100 = ((n % 10000 % 100 : Nat) : Int) := tm64 (by decide)
  have e3 : IntKind.u32.wrap (((n % 10000 / 100 : Nat) : Int) * 2) = ((2 * (n % 10000 / 100) : Nat) : Int) := w2x (by omega)
  have e4 : IntKind.u32.wrap (((n % 10000 % 100 : Nat) : Int) * 2) = ((2 * (n % 10000 % 100) : Nat) : Int) := w2x (by omega)
  have e5 : IntKind.u32.wrap (((2 * (n % 10000 / 100) : Nat) : Int) + 1) = ((2 * (n % 10000 / 100) + 1 : Nat) : Int) := w2y (by omega)
  have e6 : IntKind.u32.wrap (((2 * (n % 10000 % 100) : Nat) : Int) + 1) = ((2 * (n % 10000 % 100) + 1 : Nat) : Int) := w2y (by omega)
  have f1 : ((n / 10000 : Nat) : Int).tmod 100 = ((n / 10000 % 100 : Nat) : Int) := tm64 (by decide)
  have f2 : IntKind.u32.wrap (((n / 10000 : Nat) : Int).tdiv 100) = ((n / 10000 / 100 : Nat) : Int) := t32d (by omega) (by decide)
  have f3 : IntKind.u32.wrap (((n / 10000 % 100 : Nat) : Int) * 2) = ((2 * (n / 10000 % 100) : Nat) : Int) := w2x (by omega)
  have f4 : IntKind.u32.wrap (((2 * (n / 10000 % 100) : Nat) : Int) + 1) = ((2 * (n / 10000 % 100) + 1 : Nat) : Int) := w2y (by omega)
  have g1 : IntKind.u8.wrap (IntKind.u32.wrap (48 + ((n / 10000 / 100 : Nat) : Int))) = ((hexD (n / 10000 / 100)).toNat : Int) := hexD_i (by omega)
  simp only [go_sem, simprocAttr, hl, h0, h1', v0, d1, d2, e1, e2, e3, e4, e5, e6, f1, f2, f3, f4, g1]
  rw [go_loop]
  simp only [go_sem, simprocAttr, hl, h0, h1', v0, d1, d2, e1, e2, e3, e4, e5, e6, f1, f2, f3, f4, g1]
  refine go_drawZ tFollows (by kernel_rfl) ?_
  simp only [go_sem, simprocAttr, hl, h0, h1', v0, d1, d2, e1, e2, e3, e4, e5, e6, f1, f2, f3, f4, g1]
  rw [bindK_sm1 (by kernel_rfl) (show n % 10000 % 100 < 100 by omega)]
  simp only [go_sem, simprocAttr, hl, h0, h1', v0, d1, d2, e1, e2, e3, e4, e5, e6, f1, f2, f3, f4, g1]
  rw [bindK_sm0 (by kernel_rfl) (show n % 10000 % 100 < 100 by omega)]
  simp only [go_sem, simprocAttr, hl, h0, h1', v0, d1, d2, e1, e2, e3, e4, e5, e6, f1, f2, f3, f4, g1]
  refine ⟨(by kernel_rfl : effOk _ _ _ = true), ?_⟩
  try simp only [go_sem, simprocAttr, hl, h0, h1', v0, d1, d2, e1, e2, e3, e4, e5, e6, f1, f2, f3, f4, g1]
  refine go_drawZ tFollows (by kernel_rfl) ?_
  simp only [go_sem, simprocAttr, hl, h0, h1', v0, d1, d2, e1, e2, e3, e4, e5, e6, f1, f2, f3, f4, g1]
  rw [bindK_sm1 (by kernel_rfl) (show n % 10000 / 100 < 100 by omega)]
  simp only [go_sem, simprocAttr, hl, h0, h1', v0, d1, d2, e1, e2, e3, e4, e5, e6, f1, f2, f3, f4, g1]
  rw [bindK_sm0 (by kernel_rfl) (show n % 10000 / 100 < 100 by omega)]
  simp only [go_sem, simprocAttr, hl, h0, h1', v0, d1, d2, e1, e2, e3, e4, e5, e6, f1, f2, f3, f4, g1]
  refine ⟨(by kernel_rfl : effOk _ _ _ = true), ?_⟩
  try simp only [go_sem, simprocAttr, hl, h0, h1', v0, d1, d2, e1, e2, e3, e4, e5, e6, f1, f2, f3, f4, g1]
  refine go_drawZ tFollows (by kernel_rfl) ?_
  simp only [go_sem, simprocAttr, hl, h0, h1', v0, d1, d2, e1, e2, e3, e4, e5, e6, f1, f2, f3, f4, g1]
  rw [bindK_sm1 (by kernel_rfl) (show n / 10000 % 100 < 100 by omega)]
  simp only [go_sem, simprocAttr, hl, h0, h1', v0, d1, d2, e1, e2, e3, e4, e5, e6, f1, f2, f3, f4, g1]
  rw [bindK_sm0 (by kernel_rfl) (show n / 10000 % 100 < 100 by omega)]
  simp only [go_sem, simprocAttr, hl, h0, h1', v0, d1, d2, e1, e2, e3, e4, e5, e6, f1, f2, f3, f4, g1]
  refine ⟨(by kernel_rfl : effOk _ _ _ = true), ?_⟩
  try simp only [go_sem, simprocAttr, hl, h0, h1', v0, d1, d2, e1, e2, e3, e4, e5, e6, f1, f2, f3, f4, g1]
  rw [leave_same rfl (by simp), low_sm (by omega)]

theorem dcL8 {n : Nat} (h1 : 10000000 ≤ n) (h : n < 100000000) : decP n = [hexD ((n % 100000000 / 10000 / 100) / 10), hexD ((n % 100000000 / 10000 / 100) % 10), hexD ((n % 100000000 / 10000 % 100) / 10), hexD ((n % 100000000 / 10000 % 100) % 10), hexD ((n % 100000000 % 10000 / 100) / 10), hexD ((n % 100000000 % 10000 / 100) % 10), hexD ((n % 100000000 % 10000 % 100) / 10), hexD ((n % 100000000 % 10000 % 100) % 10)] := by
  rw [decP_pair (by omega), decP_pair (by omega), decP_pair (by omega), decP_two (by omega) (by omega)]
  simp only [List.cons_append, List.nil_append]
  exact cons_eq (congrArg hexD (by omega)) (cons_eq (congrArg hexD (by omega)) (cons_eq (congrArg hexD (by omega)) (cons_eq (congrArg hexD (by omega)) (cons_eq (congrArg hexD (by omega)) (cons_eq (congrArg hexD (by omega)) (cons_eq (congrArg hexD (by omega)) (cons_eq (congrArg hexD (by omega)) (rfl))))))))
set_option maxRecDepth 20000 in
theorem fmtL8 (n : Nat) (H k) (h1 : 10000000 ≤ n) (hn : n < 100000000) : callK Tryd.prog 90 [.slice H.length 0 8 (.ex 24), .int .u64 (n : Nat)] (H ++ [.cells [.int .u8 0, .int .u8 0, .int .u8 0, .int .u8 0, .int .u8 0, .int .u8 0, .int .u8 0, .int .u8 0, .int .u8 0, .int .u8 0, .int .u8 0, .int .u8 0, .int .u8 0, .int .u8 0, .int .u8 0, .int .u8 0, .int .u8 0, .int .u8 0, .int .u8 0, .int .u8 0, .int .u8 0, .int .u8 0, .int .u8 0, .int .u8 0] 138 .rw]) k =
    k (.tuple [], H ++ [.cells (.int .u8 (hexD ((n % 100000000 / 10000 / 100) / 10)).toNat :: .int .u8 (hexD ((n % 100000000 / 10000 / 100) % 10)).toNat :: .int .u8 (hexD ((n % 100000000 / 10000 % 100) / 10)).toNat :: .int .u8 (hexD ((n % 100000000 / 10000 % 100) % 10)).toNat :: .int .u8 (hexD ((n % 100000000 % 10000 / 100) / 10)).toNat :: .int .u8 (hexD ((n % 100000000 % 10000 / 100) % 10)).toNat :: .int .u8 (hexD ((n % 100000000 % 10000 % 100) / 10)).toNat :: .int .u8 (hexD ((n % 100000000 % 10000 % 100) % 10)).toNat :: [.int .u8 0, .int .u8 0, .int .u8 0, .int .u8 0, .int .u8 0, .int .u8 0, .int .u8 0, .int .u8 0, .int .u8 0, .int .u8 0, .int .u8 0, .int .u8 0, .int .u8 0, .int .u8 0, .int .u8 0, .int .u8 0]) 138 .rw], ⟨none, some H.length⟩) := by
  refine callK_eq ?_ k
  refine callK_start (n := 167) (rs := []) Tryd.func90 rfl rfl rfl ?_
  intro σ hl ha
  have h0 := ha 0 (by simp)
  have h1' := ha 1 (by simp)
  clear ha
  simp only [Option.getD_some, List.getElem?_cons_zero, List.getElem?_cons_succ] at h0 h1'
  have a1 : (n : Int).tmod 100000000 = ((n % 100000000 : Nat) : Int) := tm64 (by decide)
  have a2 : IntKind.u32.wrap ((n % 100000000 : Nat) : Int) = ((n % 100000000 : Nat) : Int) := wrap_u32 (by omega)
  have a3 : IntKind.u64.wrap ((n : Int).tdiv 100000000) = ((n / 100000000 : Nat) : Int) := t64d (by omega) (by decide)
  have a4 : IntKind.u32.wrap (((n % 100000000 : Nat) : Int).tdiv 10000) = ((n % 100000000 / 10000 : Nat) : Int) := t32d (by omega) (by decide)
  have a5 : ((n % 100000000 : Nat) : Int).tmod 10000 = ((n % 100000000 % 10000 : Nat) : Int) := tm64 (by decide)
  have b1 : IntKind.u32.wrap (((n % 100000000 % 10000 : Nat) : Int).tdiv 100) = ((n % 100000000 % 10000 / 100 : Nat) : Int) := t32d (by omega) (by decide)
  have b2 : ((n % 100000000 % 10000 : Nat) : Int).tmod 100 = ((n % 100000000 % 10000 % 100 : Nat) : Int) := tm64 (by decide)
  have b3 : IntKind.u32.wrap (((n % 100000000 % 10000 / 100 : Nat) : Int) * 2) = ((2 * (n % 100000000 % 10000 / 100) : Nat) : Int) := w2x (by omega)
  have b4 : IntKind.u32.wrap (((n % 100000000 % 10000 % 100 : Nat) : Int) * 2) = ((2 * (n % 100000000 % 10000 % 100) : Nat) : Int) := w2x (by omega)
  have b5 : IntKind.u32.wrap (((2 * (n % 100000000 % 10000 / 100) : Nat) : Int) + 1) = ((2 * (n % 100000000 % 10000 / 100) + 1 : Nat) : Int) := w2y (by omega)
  have b6 : IntKind.u32.wrap (((2 * (n % 100000000 % 10000 % 100) : Nat) : Int) + 1) = ((2 * (n % 100000000 % 10000 % 100) + 1 : Nat) : Int) := w2y (by omega)
  have c1 : IntKind.u32.wrap (((n % 100000000 / 10000 : Nat) : Int).tdiv 100) = ((n % 100000000 / 10000 / 100 : Nat) : Int) := t32d (by omega) (by decide)
  have c2 : ((n % 100000000 / 10000 : Nat) : Int).tmod 100 = ((n % 100000000 / 10000 % 100 : Nat) : Int) := tm64 (by decide)
  have c3 : IntKind.u32.wrap (((n % 100000000 / 10000 / 100 : Nat) : Int) * 2) = ((2 * (n % 100000000 / 10000 / 100) : Nat) : Int) := w2x (by omega)
  have c4 : IntKind.u32.wrap (((n % 100000000 / 10000 % 100 : Nat) : Int) * 2) = ((2 * (n % 100000000 / 10000 % 100) : Nat) : Int) := w2x (by omega)
  have c5 : IntKind.u32.wrap (((2 * (n % 100000000 / 10000 / 100) : Nat) : Int) + 1) = ((2 * (n % 100000000 / 10000 / 100) + 1 : Nat) : Int) := w2y (by omega)
  have c6 : IntKind.u32.wrap (((2 * (n % 100000000 / 10000 % 100) : Nat) : Int) + 1) = ((2 * (n % 100000000 / 10000 % 100) + 1 : Nat) : Int) := w2y (by omega)
  have v0 : IntKind.u32.wrap ((n / 100000000 : Nat) : Int) = ((n / 100000000 : Nat) : Int) := wrap_u32 (by omega)
  simp only [go_sem, simprocAttr, hl, h0, h1', a1, a2, a3, a4, a5, b1, b2, b3, b4, b5, b6, c1, c2, c3, c4, c5, c6, v0]
  rw [go_loop]
  simp only [go_sem, simprocAttr, hl, h0, h1', a1, a2, a3, a4, a5, b1, b2, b3, b4, b5, b6, c1, c2, c3, c4, c5, c6, v0]
  refine go_drawZ tFollows (by kernel_rfl) ?_
  simp only [go_sem, simprocAttr, hl, h0, h1', a1, a2, a3, a4, a5, b1, b2, b3, b4, b5, b6, c1, c2, c3, c4, c5, c6, v0]
  rw [bindK_sm1 (by kernel_rfl) (show n % 100000000 % 10000 % 100 < 100 by omega)]
  simp only [go_sem, simprocAttr, hl, h0, h1', a1, a2, a3, a4, a5, b1, b2, b3, b4, b5, b6, c1, c2, c3, c4, c5, c6, v0]
  rw [bindK_sm0 (by kernel_rfl) (show n % 100000000 % 10000 % 100 < 100 by omega)]
  simp only [go_sem, simprocAttr, hl, h0, h1', a1, a2, a3, a4, a5, b1, b2, b3, b4, b5, b6, c1, c2, c3, c4, c5, c6, v0]
  refine ⟨(by kernel_rfl : effOk _ _ _ = true), ?_⟩
  try simp only [go_sem, simprocAttr, hl, h0, h1', a1, a2, a3, a4, a5, b1, b2, b3, b4, b5, b6, c1, c2, c3, c4, c5, c6, v0]
  refine go_drawZ tFollows (by kernel_rfl) ?_
  simp only [go_sem, simprocAttr, hl, h0, h1', a1, a2, a3, a4, a5, b1, b2, b3, b4, b5, b6, c1, c2, c3, c4, c5, c6, v0]
  rw [bindK_sm1 (by kernel_rfl) (show n % 100000000 % 10000 / 100 < 100 by omega)]
  simp only [go_sem, simprocAttr, hl, h0, h1', a1, a2, a3, a4, a5, b1, b2, b3, b4, b5, b6, c1, c2, c3, c4, c5, c6, v0]
  rw [bindK_sm0 (by kernel_rfl) (show n % 100000000 % 10000 / 100 < 100 by omega)]
  simp only [go_sem, simprocAttr, hl, h0, h1', a1, a2, a3, a4, a5, b1, b2, b3, b4, b5, b6, c1, c2, c3, c4, c5, c6, v0]
  refine ⟨(by kernel_rfl : effOk _ _ _ = true), ?_⟩
  try simp only [go_sem, simprocAttr, hl, h0, h1', a1, a2, a3, a4, a5, b1, b2, b3, b4, b5, b6, c1, c2, c3, c4, c5, c6, v0]
  refine go_drawZ tFollows (by kernel_rfl) ?_
  simp only [go_sem, simprocAttr, hl, h0, h1', a1, a2, a3, a4, a5, b1, b2, b3, b4, b5, b6, c1, c2, c3, c4, c5, c6, v0]
  rw [bindK_sm1 (by kernel_rfl) (show n % 100000000 / 10000 % 100 < 100 by omega)]
  simp only [go_sem, simprocAttr, hl, h0, h1', a1, a2, a3, a4, a5, b1, b2, b3, b4, b5, b6, c1, c2, c3, c4, c5, c6, v0]
  rw [bindK_sm0 (by kernel_rfl) (show n % 100000000 / 10000 % 100 < 100 by omega)]
  simp only [go_sem, simprocAttr, hl, h0, h1', a1, a2, a3, a4, a5, b1, b2, b3, b4, b5, b6, c1, c2, c3, c4, c5, c6, v0]
  refine ⟨(by kernel_rfl : effOk _ _ _ = true), ?_⟩
  try simp only [go_sem, simprocAttr, hl, h0, h1', a1, a2, a3, a4, a5, b1, b2, b3, b4, b5, b6, c1, c2, c3, c4, c5, c6, v0]
  refine go_drawZ tFollows (by kernel_rfl) ?_
  simp only [go_sem, simprocAttr, hl, h0, h1', a1, a2, a3, a4, a5, b1, b2, b3, b4, b5, b6, c1, c2, c3, c4, c5, c6, v0]
  rw [bindK_sm1 (by kernel_rfl) (show n % 100000000 / 10000 / 100 < 100 by omega)]
  simp only [go_sem, simprocAttr, hl, h0, h1', a1, a2, a3, a4, a5, b1, b2, b3, b4, b5, b6, c1, c2, c3, c4, c5, c6, v0]
  rw [bindK_sm0 (by kernel_rfl) (show n % 100000000 / 10000 / 100 < 100 by omega)]
  simp only [go_sem, simprocAttr, hl, h0, h1', a1, a2, a3, a4, a5, b1, b2, b3, b4, b5, b6, c1, c2, c3, c4, c5, c6, v0]
  refine ⟨(by kernel_rfl : effOk _ _ _ = true), ?_⟩
  try simp only [go_sem, simprocAttr, hl, h0, h1', a1, a2, a3, a4, a5, b1, b2, b3, b4, b5, b6, c1, c2, c3, c4, c5, c6, v0]
  rw [go_loop]
  try simp only [go_sem, simprocAttr, hl, h0, h1', a1, a2, a3, a4, a5, b1, b2, b3, b4, b5, b6, c1, c2, c3, c4, c5, c6, v0]
  rw [leave_same rfl (by simp), low_sm (by omega)]

theorem dcL9 {n : Nat} (h1 : 100000000 ≤ n) (h : n < 1000000000) : decP n = [hexD (n / 100000000), hexD ((n % 100000000 / 10000 / 100) / 10), hexD ((n % 100000000 / 10000 / 100) % 10), hexD ((n % 100000000 / 10000 % 100) / 10), hexD ((n % 100000000 / 10000 % 100) % 10), hexD ((n % 100000000 % 10000 / 100) / 10), hexD ((n % 100000000 % 10000 / 100) % 10), hexD ((n % 100000000 % 10000 % 100) / 10), hexD ((n % 100000000 % 10000 % 100) % 10)] := by
  rw [decP_pair (by omega), decP_pair (by omega), decP_pair (by omega), decP_pair (by omega), decP_small (by omega)]
  simp only [List.cons_append, List.nil_append]
  exact cons_eq (congrArg hexD (by omega)) (cons_eq (congrArg hexD (by omega)) (cons_eq (congrArg hexD (by omega)) (cons_eq (congrArg hexD (by omega)) (cons_eq (congrArg hexD (by omega)) (cons_eq (congrArg hexD (by omega)) (cons_eq (congrArg hexD (by omega)) (cons_eq (congrArg hexD (by omega)) (cons_eq (congrArg hexD (by omega)) (rfl)))))))))
set_option maxRecDepth 20000 in
theorem fmtL9 (n : Nat) (H k) (h1 : 100000000 ≤ n) (hn : n < 1000000000) : callK Tryd.prog 90 [.slice H.length 0 9 (.ex 24), .int .u64 (n : Nat)] (H ++ [.cells [.int .u8 0, .int .u8 0, .int .u8 0, .int .u8 0, .int .u8 0, .int .u8 0, .int .u8 0, .int .u8 0, .int .u8 0, .int .u8 0, .int .u8 0, .int .u8 0, .int .u8 0, .int .u8 0, .int .u8 0, .int .u8 0, .int .u8 0, .int .u8 0, .int .u8 0, .int .u8 0, .int .u8 0, .int .u8 0, .int .u8 0, .int .u8 0] 138 .rw]) k =
    k (.tuple [], H ++ [.cells (.int .u8 (hexD (n / 100000000)).toNat :: .int .u8 (hexD ((n % 100000000 / 10000 / 100) / 10)).toNat :: .int .u8 (hexD ((n % 100000000 / 10000 / 100) % 10)).toNat :: .int .u8 (hexD ((n % 100000000 / 10000 % 100) / 10)).toNat :: .int .u8 (hexD ((n % 100000000 / 10000 % 100) % 10)).toNat :: .int .u8 (hexD ((n % 100000000 % 10000 / 100) / 10)).toNat :: .int .u8 (hexD ((n % 100000000 % 10000 / 100) % 10)).toNat :: .int .u8 (hexD ((n % 100000000 % 10000 % 100) / 10)).toNat :: .int .u8 (hexD ((n % 100000000 % 10000 % 100) % 10)).toNat :: [.int .u8 0, .int .u8 0, .int .u8 0, .int .u8 0, .int .u8 0, .int .u8 0, .int .u8 0, .int .u8 0, .int .u8 0, .int .u8 0, .int .u8 0, .int .u8 0, .int .u8 0, .int .u8 0, .int .u8 0]) 138 .rw], ⟨none, some H.length⟩) := by
  refine callK_eq ?_ k
  refine callK_start (n := 167) (rs := []) Tryd.func90 rfl rfl rfl ?_
  intro σ hl ha
  have h0 := ha 0 (by simp)
  have h1' := ha 1 (by simp)
  clear ha
  simp only [Option.getD_some, List.getElem?_cons_zero, List.getElem?_cons_succ] at h0 h1'
  have a1 : (n : Int).tmod 100000000 = ((n % 100000000 : Nat) : Int) := tm64 (by decide)
  have a2 : IntKind.u32.wrap ((n % 100000000 : Nat) : Int) = ((n % 100000000 : Nat) : Int) := wrap_u32 (by omega)
  have a3 : IntKind.u64.wrap ((n : Int).tdiv 100000000) = ((n / 100000000 : Nat) : Int) := t64d (by omega) (by decide)
  have a4 : IntKind.u32.wrap (((n % 100000000 : Nat) : Int).tdiv 10000) = ((n % 100000000 / 10000 : Nat) : Int) := t32d (by omega) (by decide)
  have a5 : ((n % 100000000 : Nat) : Int).tmod 10000 = ((n % 100000000 % 10000 : Nat) : Int) := tm64 (by decide)
  have b1 : IntKind.u32.wrap (((n % 100000000 % 10000 : Nat) : Int).tdiv 100) = ((n % 100000000 % 10000 / 100 : Nat) : Int) := t32d (by omega) (by decide)
  have b2 : ((n % 100000000 % 10000 : Nat) : Int).tmod 100 = ((n % 100000000 % 10000 % 100 : Nat) : Int) := tm64 (by decide)
  have b3 : IntKind.u32.wrap (((n % 100000000 % 10000 / 100 : Nat) : Int) * 2) = ((2 * (n % 100000000 % 10000 / 100) : Nat) : Int) := w2x (by omega)
  have b4 : IntKind.u32.wrap (((n % 100000000 % 10000 % 100 : Nat) : Int) * 2) = ((2 * (n % 100000000 % 10000 % 100) : Nat) : Int) := w2x (by omega)
  have b5 : IntKind.u32.wrap (((2 * (n % 100000000 % 10000 / 100) : Nat) : Int) + 1) = ((2 * (n % 100000000 % 10000 / 100) + 1 : Nat) : Int) := w2y (by omega)
  have b6 : IntKind.u32.wrap (((2 * (n % 100000000 % 10000 % 100) : Nat) : Int) + 1) = ((2 * (n % 100000000 % 10000 % 100) + 1 : Nat) : Int) := w2y (by omega)
  have c1 : IntKind.u32.wrap (((n % 100000000 / 10000 : Nat) : Int).tdiv 100) = ((n % 100000000 / 10000 / 100 : Nat) : Int) := t32d (by omega) (by decide)
  have c2 : ((n % 100000000 / 10000 : Nat) : Int).tmod 100 = ((n % 100000000 / 10000 % 100 : Nat) : Int) := tm64 (by decide)
  have c3 : IntKind.u32.wrap (((n % 100000000 / 10000 / 100 : Nat) : Int) * 2) = ((2 * (n % 100000000 / 10000 / 100) : Nat) : Int) := w2x (by omega)
  have c4 : IntKind.u32.wrap (((n % 100000000 / 10000 % 100 : Nat) : Int) * 2) = ((2 * (n % 100000000 / 10000 % 100) : Nat) : Int) := w2x (by omega)
  have c5 : IntKind.u32.wrap (((2 * (n % 100000000 / 10000 / 100) : Nat) : Int) + 1) = ((2 * (n % 100000000 / 10000 / 100) + 1 : Nat) : Int) := w2y (by omega)
  have c6 : IntKind.u32.wrap (((2 * (n % 100000000 / 10000 % 100) : Nat) : Int) + 1) = ((2 * (n % 100000000 / 10000 % 100) + 1 : Nat) : Int) := w2y (by omega)
  have v0 : IntKind.u32.wrap ((n / 100000000 : Nat) : Int) = ((n / 100000000 : Nat) : Int) := wrap_u32 (by omega)
  have g1 : IntKind.u8.wrap (IntKind.u32.wrap (48 + ((n / 100000000 : Nat) : Int))) = ((hexD (n / 100000000)).toNat : Int) := hexD_i (by omega)
  simp only [go_sem, simprocAttr, hl, h0, h1', a1, a2, a3, a4, a5, b1, b2, b3, b4, b5, b6, c1, c2, c3, c4, c5, c6, v0, g1]
  rw [go_loop]
  simp only [go_sem, simprocAttr, hl, h0, h1', a1, a2, a3, a4, a5, b1, b2, b3, b4, b5, b6, c1, c2, c3, c4, c5, c6, v0, g1]
  refine go_drawZ tFollows (by kernel_rfl) ?_
  simp only [go_sem, simprocAttr, hl, h0, h1', a1, a2, a3, a4, a5, b1, b2, b3, b4, b5, b6, c1, c2, c3, c4, c5, c6, v0, g1]
  rw [bindK_sm1 (by kernel_rfl) (show n % 100000000 % 10000 % 100 < 100 by omega)]
  simp only [go_sem, simprocAttr, hl, h0, h1', a1, a2, a3, a4, a5, b1, b2, b3, b4, b5, b6, c1, c2, c3, c4, c5, c6, v0, g1]
  rw [bindK_sm0 (by kernel_rfl) (show n % 100000000 % 10000 % 100 < 100 by omega)]
  simp only [go_sem, simprocAttr, hl, h0, h1', a1, a2, a3, a4, a5, b1, b2, b3, b4, b5, b6, c1, c2, c3, c4, c5, c6, v0, g1]
  refine ⟨(by kernel_rfl : effOk _ _ _ = true), ?_⟩
  try simp only [go_sem, simprocAttr, hl, h0, h1', a1, a2, a3, a4, a5, b1, b2, b3, b4, b5, b6, c1, c2, c3, c4, c5, c6, v0, g1]
  refine go_drawZ tFollows (by kernel_rfl) ?_
  simp only [go_sem, simprocAttr, hl, h0, h1', a1, a2, a3, a4, a5, b1, b2, b3, b4, b5, b6, c1, c2, c3, c4, c5, c6, v0, g1]
  rw [bindK_sm1 (by kernel_rfl) (show n % 100000000 % 10000 / 100 < 100 by omega)]
  simp only [go_sem, simprocAttr, hl, h0, h1', a1, a2, a3, a4, a5, b1, b2, b3, b4, b5, b6, c1, c2, c3, c4, c5, c6, v0, g1]
  rw [bindK_sm0 (by kernel_rfl) (show n % 100000000 % 10000 / 100 < 100 by omega)]
  simp only [go_sem, simprocAttr, hl, h0, h1', a1, a2, a3, a4, a5, b1, b2, b3, b4, b5, b6, c1, c2, c3, c4, c5, c6, v0, g1]
  refine ⟨(by kernel_rfl : effOk _ _ _ = true), ?_⟩
  try simp only [go_sem, simprocAttr, hl, h0, h1', a1, a2, a3, a4, a5, b1, b2, b3, b4, b5, b6, c1, c2, c3, c4, c5, c6, v0, g1]
  refine go_drawZ tFollows (by kernel_rfl) ?_
  simp only [go_sem, simprocAttr, hl, h0, h1', a1, a2, a3, a4, a5, b1, b2, b3, b4, b5, b6, c1, c2, c3, c4, c5, c6, v0, g1]
  rw [bindK_sm1 (by kernel_rfl) (show n % 100000000 / 10000 % 100 < 100 by omega)]
  simp only [go_sem, simprocAttr, hl, h0, h1', a1, a2, a3, a4, a5, b1, b2, b3, b4, b5, b6, c1, c2, c3, c4, c5, c6, v0, g1]
  rw [bindK_sm0 (by kernel_rfl) (show n % 100000000 / 10000 % 100 < 100 by omega)]
  simp only [go_sem, simprocAttr, hl, h0, h1', a1, a2, a3, a4, a5, b1, b2, b3, b4, b5, b6, c1, c2, c3, c4, c5, c6, v0, g1]
  refine ⟨(by kernel_rfl : effOk _ _ _ = true), ?_⟩
  try simp only [go_sem, simprocAttr, hl, h0, h1', a1, a2, a3, a4, a5, b1, b2, b3, b4, b5, b6, c1, c2, c3, c4, c5, c6, v0, g1]
  refine go_drawZ tFollows (by kernel_rfl) ?_
  simp only [go_sem, simprocAttr, hl, h0, h1', a1, a2, a3, a4, a5, b1, b2, b3, b4, b5, b6, c1, c2, c3, c4, c5, c6, v0, g1]
  rw [bindK_sm1 (by kernel_rfl) (show n % 100000000 / 10000 / 100 < 100 by omega)]
  simp only [go_sem, simprocAttr, hl, h0, h1', a1, a2, a3, a4, a5, b1, b2, b3, b4, b5, b6, c1, c2, c3, c4, c5, c6, v0, g1]
  rw [bindK_sm0 (by kernel_rfl) (show n % 100000000 / 10000 / 100 < 100 by omega)]
  simp only [go_sem, simprocAttr, hl, h0, h1', a1, a2, a3, a4, a5, b1, b2, b3, b4, b5, b6, c1, c2, c3, c4, c5, c6, v0, g1]
  refine ⟨(by kernel_rfl : effOk _ _ _ = true), ?_⟩
  try simp only [go_sem, simprocAttr, hl, h0, h1', a1, a2, a3, a4, a5, b1, b2, b3, b4, b5, b6, c1, c2, c3, c4, c5, c6, v0, g1]
  rw [go_loop]
  try simp only [go_sem, simprocAttr, hl, h0, h1', a1, a2, a3, a4, a5, b1, b2, b3, b4, b5, b6, c1, c2, c3, c4, c5, c6, v0, g1]
  rw [leave_same rfl (by simp), low_sm (by omega)]

theorem dcL10 {n : Nat} (h1 : 1000000000 ≤ n) (h : n < 4294967296) : decP n = [hexD ((n / 100000000 % 100) / 10), hexD ((n / 100000000 % 100) % 10), hexD ((n % 100000000 / 10000 / 100) / 10), hexD ((n % 100000000 / 10000 / 100) % 10), hexD ((n % 100000000 / 10000 % 100) / 10), hexD ((n % 100000000 / 10000 % 100) % 10), hexD ((n % 100000000 % 10000 / 100) / 10), hexD ((n % 100000000 % 10000 / 100) % 10), hexD ((n % 100000000 % 10000 % 100) / 10), hexD ((n % 100000000 % 10000 % 100) % 10)] := by
  rw [decP_pair (by omega), decP_pair (by omega), decP_pair (by omega), decP_pair (by omega), decP_two (by omega) (by omega)]
  simp only [List.cons_append, List.nil_append]
  exact cons_eq (congrArg hexD (by omega)) (cons_eq (congrArg hexD (by omega)) (cons_eq (congrArg hexD (by omega)) (cons_eq (congrArg hexD (by omega)) (cons_eq (congrArg hexD (by omega)) (cons_eq (congrArg hexD (by omega)) (cons_eq (congrArg hexD (by omega)) (cons_eq (congrArg hexD (by omega)) (cons_eq (congrArg hexD (by omega)) (cons_eq (congrArg hexD (by omega)) (rfl))))))))))
set_option maxRecDepth 20000 in
theorem fmtL10 (n : Nat) (H k) (h1 : 1000000000 ≤ n) (hn : n < 4294967296) : callK Tryd.prog 90 [.slice H.length 0 10 (.ex 24), .int .u64 (n : Nat)] (H ++ [.cells [.int .u8 0, .int .u8 0, .int .u8 0, .int .u8 0, .int .u8 0, .int .u8 0, .int .u8 0, .int .u8 0, .int .u8 0, .int .u8 0, .int .u8 0, .int .u8 0, .int .u8 0, .int .u8 0, .int .u8 0, .int .u8 0, .int .u8 0, .int .u8 0, .int .u8 0, .int .u8 0, .int .u8 0, .int .u8 0, .int .u8 0, .int .u8 0] 138 .rw]) k =
    k (.tuple [], H ++ [.cells (.int .u8 (hexD ((n / 100000000 % 100) / 10)).toNat :: .int .u8 (hexD ((n / 100000000 % 100) % 10)).toNat :: .int .u8 (hexD ((n % 100000000 / 10000 / 100) / 10)).toNat :: .int .u8 (hexD ((n % 100000000 / 10000 / 100) % 10)).toNat :: .int .u8 (hexD ((n % 100000000 / 10000 % 100) / 10)).toNat :: .int .u8 (hexD ((n % 100000000 / 10000 % 100) % 10)).toNat :: .int .u8 (hexD ((n % 100000000 % 10000 / 100) / 10)).toNat :: .int .u8 (hexD ((n % 100000000 % 10000 / 100) % 10)).toNat :: .int .u8 (hexD ((n % 100000000 % 10000 % 100) / 10)).toNat :: .int .u8 (hexD ((n % 100000000 % 10000 % 100) % 10)).toNat :: [.int .u8 0, .int .u8 0, .int .u8 0, .int .u8 0, .int .u8 0, .int .u8 0, .int .u8 0, .int .u8 0, .int .u8 0, .int .u8 0, .int .u8 0, .int .u8 0, .int .u8 0, .int .u8 0]) 138 .rw], ⟨none, some H.length⟩) := by
  refine callK_eq ?_ k
  refine callK_start (n := 167) (rs := []) Tryd.func90 rfl rfl rfl ?_
  intro σ hl ha
  have h0 := ha 0 (by simp)
  have h1' := ha 1 (by simp)
  clear ha
  simp only [Option.getD_some, List.getElem?_cons_zero, List.getElem?_cons_succ] at h0 h1'
  have a1 : (n : Int).tmod 100000000 = ((n % 100000000 : Nat) : Int) := tm64 (by decide)
  have a2 : IntKind.u32.wrap ((n % 100000000 : Nat) : Int) = ((n % 100000000 : Nat) : Int) := wrap_u32 (by omega)
  have a3 : IntKind.u64.wrap ((n : Int).tdiv 100000000) = ((n / 100000000 : Nat) : Int) := t64d (by omega) (by decide)
  have a4 : IntKind.u32.wrap (((n % 100000000 : Nat) : Int).tdiv 10000) = ((n % 100000000 / 10000 : Nat) : Int) := t32d (by omega) (by decide)
  have a5 : ((n % 100000000 : Nat) : Int).tmod 10000 = ((n % 100000000 % 10000 : Nat) : Int) := tm64 (by decide)
  have b1 : IntKind.u32.wrap (((n % 100000000 % 10000 : Nat) : Int).tdiv 100) = ((n % 100000000 % 10000 / 100 : Nat) : Int) := t32d (by omega) (by decide)
  have b2 : ((n % 100000000 % 10000 : Nat) : Int).tmod 100 = ((n % 100000000 % 10000 % 100 : Nat) : Int) := tm64 (by decide)
  have b3 : IntKind.u32.wrap (((n % 100000000 % 10000 / 100 : Nat) : Int) * 2) = ((2 * (n % 100000000 % 10000 / 100) : Nat) : Int) := w2x (by omega)
  have b4 : IntKind.u32.wrap (((n % 100000000 % 10000 % 100 : Nat) : Int) * 2) = ((2 * (n % 100000000 % 10000 % 100) : Nat) : Int) := w2x (by omega)
  have b5 : IntKind.u32.wrap (((2 * (n % 100000000 % 10000 / 100) : Nat) : Int) + 1) = ((2 * (n % 100000000 % 10000 / 100) + 1 : Nat) : Int) := w2y (by omega)
  have b6 : IntKind.u32.wrap (((2 * (n % 100000000 % 10000 % 100) : Nat) : Int) + 1) = ((2 * (n % 100000000 % 10000 % 100) + 1 : Nat) : Int) := w2y (by omega)
  have c1 : IntKind.u32.wrap (((n % 100000000 / 10000 : Nat) : Int).tdiv 100) = ((n % 100000000 / 10000 / 100 : Nat) : Int) := t32d (by omega) (by decide)
  have c2 : ((n % 100000000 / 10000 : Nat) : Int).tmod 100 = ((n % 100000000 / 10000 % 100 : Nat) : Int) := tm64 (by decide)
  have c3 : IntKind.u32.wrap (((n % 100000000 / 10000 / 100 : Nat) : Int) * 2) = ((2 * (n % 100000000 / 10000 / 100) : Nat) : Int) := w2x (by omega)
  have c4 : IntKind.u32.wrap (((n % 100000000 / 10000 % 100 : Nat) : Int) * 2) = ((2 * (n % 100000000 / 10000 % 100) : Nat) : Int) := w2x (by omega)
  have c5 : IntKind.u32.wrap (((2 * (n % 100000000 / 10000 / 100) : Nat) : Int) + 1) = ((2 * (n % 100000000 / 10000 / 100) + 1 : Nat) : Int) := w2y (by omega)
  have c6 : IntKind.u32.wrap (((2 * (n % 100000000 / 10000 % 100) : Nat) : Int) + 1) = ((2 * (n % 100000000 / 10000 % 100) + 1 : Nat) : Int) := w2y (by omega)
  have v0 : IntKind.u32.wrap ((n / 100000000 : Nat) : Int) = ((n / 100000000 : Nat) : Int) := wrap_u32 (by omega)
  have f1 : ((n / 100000000 : Nat) : Int).tmod 100 = ((n / 100000000 % 100 : Nat) : Int) := tm64 (by decide)
  have f2 : IntKind.u32.wrap (((n / 100000000 : Nat) : Int).tdiv 100) = ((n / 100000000 / 100 : Nat) : Int) := t32d (by omega) (by decide)
  have f3 : IntKind.u32.wrap (((n / 100000000 % 100 : Nat) : Int) * 2) = ((2 * (n / 100000000 % 100) : Nat) : Int) := w2x (by omega)
  have f4 : IntKind.u32.wrap (((2 * (n / 100000000 % 100) : Nat) : Int) + 1) = ((2 * (n / 100000000 % 100) + 1 : Nat) : Int) := w2y (by omega)
  simp only [go_sem, simprocAttr, hl, h0, h1', a1, a2, a3, a4, a5, b1, b2, b3, b4, b5, b6, c1, c2, c3, c4, c5, c6, v0, f1, f2, f3, f4]
  rw [go_loop]
  simp only [go_sem, simprocAttr, hl, h0, h1', a1, a2, a3, a4, a5, b1, b2, b3, b4, b5, b6, c1, c2, c3, c4, c5, c6, v0, f1, f2, f3, f4]
  refine go_drawZ tFollows (by kernel_rfl) ?_
  simp only [go_sem, simprocAttr, hl, h0, h1', a1, a2, a3, a4, a5, b1, b2, b3, b4, b5, b6, c1, c2, c3, c4, c5, c6, v0, f1, f2, f3, f4]
  rw [bindK_sm1 (by kernel_rfl) (show n % 100000000 % 10000 % 100 < 100 by omega)]
  simp only [go_sem, simprocAttr, hl, h0, h1', a1, a2, a3, a4, a5, b1, b2, b3, b4, b5, b6, c1, c2, c3, c4, c5, c6, v0, f1, f2, f3, f4]
  rw [bindK_sm0 (by kernel_rfl) (show n % 100000000 % 10000 % 100 < 100 by omega)]
  simp only [go_sem, simprocAttr, hl, h0, h1', a1, a2, a3, a4, a5, b1, b2, b3, b4, b5, b6, c1, c2, c3, c4, c5, c6, v0, f1, f2, f3, f4]
  refine ⟨(by kernel_rfl : effOk _ _ _ = true), ?_⟩
  try simp only [go_sem, simprocAttr, hl, h0, h1', a1, a2, a3, a4, a5, b1, b2, b3, b4, b5, b6, c1, c2, c3, c4, c5, c6, v0, f1, f2, f3, f4]
  refine go_drawZ tFollows (by kernel_rfl) ?_
  simp only [go_sem, simprocAttr, hl, h0, h1', a1, a2, a3, a4, a5, b1, b2, b3, b4, b5, b6, c1, c2, c3, c4, c5, c6, v0, f1, f2, f3, f4]
  rw [bindK_sm1 (by kernel_rfl) (show n % 100000000 % 10000 / 100 < 100 by omega)]
  simp only [go_sem, simprocAttr, hl, h0, h1', a1, a2, a3, a4, a5, b1, b2, b3, b4, b5, b6, c1, c2, c3, c4, c5, c6, v0, f1, f2, f3, f4]
  rw [bindK_sm0 (by kernel_rfl) (show n % 100000000 % 10000 / 100 < 100 by omega)]
  simp only [go_sem, simprocAttr, hl, h0, h1', a1, a2, a3, a4, a5, b1, b2, b3, b4, b5, b6, c1, c2, c3, c4, c5, c6, v0, f1, f2, f3, f4]
  refine ⟨(by kernel_rfl : effOk _ _ _ = true), ?_⟩
  try simp only [go_sem, simprocAttr, hl, h0, h1', a1, a2, a3, a4, a5, b1, b2, b3, b4, b5, b6, c1, c2, c3, c4, c5, c6, v0, f1, f2, f3, f4]
  refine go_drawZ tFollows (by kernel_rfl) ?_
  simp only [go_sem, simprocAttr, hl, h0, h1', a1, a2, a3, a4, a5, b1, b2, b3, b4, b5, b6, c1, c2, c3, c4, c5, c6, v0, f1, f2, f3, f4]
  rw [bindK_sm1 (by kernel_rfl) (show n % 100000000 / 10000 % 100 < 100 by omega)]
  simp only [go_sem, simprocAttr, hl, h0, h1', a1, a2, a3, a4, a5, b1, b2, b3, b4, b5, b6, c1, c2, c3, c4, c5, c6, v0, f1, f2, f3, f4]
  rw [bindK_sm0 (by kernel_rfl) (show n % 100000000 / 10000 % 100 < 100 by omega)]
  simp only [go_sem, simprocAttr, hl, h0, h1', a1, a2, a3, a4, a5, b1, b2, b3, b4, b5, b6, c1, c2, c3, c4, c5, c6, v0, f1, f2, f3, f4]
  refine ⟨(by kernel_rfl : effOk _ _ _ = true), ?_⟩
  try simp only [go_sem, simprocAttr, hl, h0, h1', a1, a2, a3, a4, a5, b1, b2, b3, b4, b5, b6, c1, c2, c3, c4, c5, c6, v0, f1, f2, f3, f4]
  refine go_drawZ tFollows (by kernel_rfl) ?_
  simp only [go_sem, simprocAttr, hl, h0, h1', a1, a2, a3, a4, a5, b1, b2, b3, b4, b5, b6, c1, c2, c3, c4, c5, c6, v0, f1, f2, f3, f4]
  rw [bindK_sm1 (by kernel_rfl) (show n % 100000000 / 10000 / 100 < 100 by omega)]
  simp only [go_sem, simprocAttr, hl, h0, h1', a1, a2, a3, a4, a5, b1, b2, b3, b4, b5, b6, c1, c2, c3, c4, c5, c6, v0, f1, f2, f3, f4]
  rw [bindK_sm0 (by kernel_rfl) (show n % 100000000 / 10000 / 100 < 100 by omega)]
  simp only [go_sem, simprocAttr, hl, h0, h1', a1, a2, a3, a4, a5, b1, b2, b3, b4, b5, b6, c1, c2, c3, c4, c5, c6, v0, f1, f2, f3, f4]
  refine ⟨(by kernel_rfl : effOk _ _ _ = true), ?_⟩
  try simp only [go_sem, simprocAttr, hl, h0, h1', a1, a2, a3, a4, a5, b1, b2, b3, b4, b5, b6, c1, c2, c3, c4, c5, c6, v0, f1, f2, f3, f4]
  rw [go_loop]
  try simp only [go_sem, simprocAttr, hl, h0, h1', a1, a2, a3, a4, a5, b1, b2, b3, b4, b5, b6, c1, c2, c3, c4, c5, c6, v0, f1, f2, f3, f4]
  refine go_drawZ tFollows (by kernel_rfl) ?_
  simp only [go_sem, simprocAttr, hl, h0, h1', a1, a2, a3, a4, a5, b1, b2, b3, b4, b5, b6, c1, c2, c3, c4, c5, c6, v0, f1, f2, f3, f4]
  rw [bindK_sm1 (by kernel_rfl) (show n / 100000000 % 100 < 100 by omega)]
  simp only [go_sem, simprocAttr, hl, h0, h1', a1, a2, a3, a4, a5, b1, b2, b3, b4, b5, b6, c1, c2, c3, c4, c5, c6, v0, f1, f2, f3, f4]
  rw [bindK_sm0 (by kernel_rfl) (show n / 100000000 % 100 < 100 by omega)]
  simp only [go_sem, simprocAttr, hl, h0, h1', a1, a2, a3, a4, a5, b1, b2, b3, b4, b5, b6, c1, c2, c3, c4, c5, c6, v0, f1, f2, f3, f4]
  refine ⟨(by kernel_rfl : effOk _ _ _ = true), ?_⟩
  try simp only [go_sem, simprocAttr, hl, h0, h1', a1, a2, a3, a4, a5, b1, b2, b3, b4, b5, b6, c1, c2, c3, c4, c5, c6, v0, f1, f2, f3, f4]
  rw [leave_same rfl (by simp), low_sm (by omega)]


set_option maxRecDepth 20000 in
theorem fmtM3 (n : Nat) (H k) (h1 : 100 ≤ n) (hn : n < 1000) : callK Tryd.prog 90 [.slice H.length 1 3 (.ex 23), .int .u64 (n : Nat)] (H ++ [.cells [.int .u8 0, .int .u8 0, .int .u8 0, .int .u8 0, .int .u8 0, .int .u8 0, .int .u8 0, .int .u8 0, .int .u8 0, .int .u8 0, .int .u8 0, .int .u8 0, .int .u8 0, .int .u8 0, .int .u8 0, .int .u8 0, .int .u8 0, .int .u8 0, .int .u8 0, .int .u8 0, .int .u8 0, .int .u8 0, .int .u8 0, .int .u8 0] 138 .rw]) k =
    k (.tuple [], H ++ [.cells (.int .u8 0 :: .int .u8 (hexD (n / 100)).toNat :: .int .u8 (hexD ((n % 100) / 10)).toNat :: .int .u8 (hexD ((n % 100) % 10)).toNat :: [.int .u8 0, .int .u8 0, .int .u8 0, .int .u8 0, .int .u8 0, .int .u8 0, .int .u8 0, .int .u8 0, .int .u8 0, .int .u8 0, .int .u8 0, .int .u8 0, .int .u8 0, .int .u8 0, .int .u8 0, .int .u8 0, .int .u8 0, .int .u8 0, .int .u8 0, .int .u8 0]) 138 .rw], ⟨none, some H.length⟩) := by
  refine callK_eq ?_ k
  refine callK_start (n := 167) (rs := []) Tryd.func90 rfl rfl rfl ?_
  intro σ hl ha
  have h0 := ha 0 (by simp)
  have h1' := ha 1 (by simp)
  clear ha
  simp only [Option.getD_some, List.getElem?_cons_zero, List.getElem?_cons_succ] at h0 h1'
  have v0 : IntKind.u32.wrap (n : Int) = (n : Int) := wrap_u32 (by omega)
  have f1 : (n : Int).tmod 100 = ((n % 100 : Nat) : Int) := tm64 (by decide)
  have f2 : IntKind.u32.wrap ((n : Int).tdiv 100) = ((n / 100 : Nat) : Int) := t32d (by omega) (by decide)
  have f3 : IntKind.u32.wrap (((n % 100 : Nat) : Int) * 2) = ((2 * (n % 100) : Nat) : Int) := w2x (by omega)
  have f4 : IntKind.u32.wrap (((2 * (n % 100) : Nat) : Int) + 1) = ((2 * (n % 100) + 1 : Nat) : Int) := w2y (by omega)
  have g1 : IntKind.u8.wrap (IntKind.u32.wrap (48 + ((n / 100 : Nat) : Int))) = ((hexD (n / 100)).toNat : Int) := hexD_i (by omega)
  simp only [go_sem, simprocAttr, hl, h0, h1', v0, f1, f2, f3, f4, g1]
  rw [go_loop]
  simp only [go_sem, simprocAttr, hl, h0, h1', v0, f1, f2, f3, f4, g1]
  refine go_drawZ tFollows (by kernel_rfl) ?_
  simp only [go_sem, simprocAttr, hl, h0, h1', v0, f1, f2, f3, f4, g1]
  rw [bindK_sm1 (by kernel_rfl) (show n % 100 < 100 by omega)]
  simp only [go_sem, simprocAttr, hl, h0, h1', v0, f1, f2, f3, f4, g1]
  rw [bindK_sm0 (by kernel_rfl) (show n % 100 < 100 by omega)]
  simp only [go_sem, simprocAttr, hl, h0, h1', v0, f1, f2, f3, f4, g1]
  refine ⟨(by kernel_rfl : effOk _ _ _ = true), ?_⟩
  try simp only [go_sem, simprocAttr, hl, h0, h1', v0, f1, f2, f3, f4, g1]
  rw [leave_same rfl (by simp), low_sm (by omega)]

set_option maxRecDepth 20000 in
theorem fmtM4 (n : Nat) (H k) (h1 : 1000 ≤ n) (hn : n < 10000) : callK Tryd.prog 90 [.slice H.length 1 4 (.ex 23), .int .u64 (n : Nat)] (H ++ [.cells [.int .u8 0, .int .u8 0, .int .u8 0, .int .u8 0, .int .u8 0, .int .u8 0, .int .u8 0, .int .u8 0, .int .u8 0, .int .u8 0, .int .u8 0, .int .u8 0, .int .u8 0, .int .u8 0, .int .u8 0, .int .u8 0, .int .u8 0, .int .u8 0, .int .u8 0, .int .u8 0, .int .u8 0, .int .u8 0, .int .u8 0, .int .u8 0] 138 .rw]) k =
    k (.tuple [], H ++ [.cells (.int .u8 0 :: .int .u8 (hexD ((n % 10000 / 100) / 10)).toNat :: .int .u8 (hexD ((n % 10000 / 100) % 10)).toNat :: .int .u8 (hexD ((n % 10000 % 100) / 10)).toNat :: .int .u8 (hexD ((n % 10000 % 100) % 10)).toNat :: [.int .u8 0, .int .u8 0, .int .u8 0, .int .u8 0, .int .u8 0, .int .u8 0, .int .u8 0, .int .u8 0, .int .u8 0, .int .u8 0, .int .u8 0, .int .u8 0, .int .u8 0, .int .u8 0, .int .u8 0, .int .u8 0, .int .u8 0, .int .u8 0, .int .u8 0]) 138 .rw], ⟨none, some H.length⟩) := by
  refine callK_eq ?_ k
  refine callK_start (n := 167) (rs := []) Tryd.func90 rfl rfl rfl ?_
  intro σ hl ha
  have h0 := ha 0 (by simp)
  have h1' := ha 1 (by simp)
  clear ha
  simp only [Option.getD_some, List.getElem?_cons_zero, List.getElem?_cons_succ] at h0 h1'
  have v0 : IntKind.u32.wrap (n : Int) = (n : Int) := wrap_u32 (by omega)
  have d1 : (n : Int).tmod 10000 = ((n % 10000 : Nat) : Int) := tm64 (by decide)
  have d2 : IntKind.u32.wrap ((n : Int).tdiv 10000) = ((n / 10000 : Nat) : Int) := t32d (by omega) (by decide)
  have e1 : IntKind.u32.wrap (((n % 10000 : Nat) : Int).tdiv 100) = ((n % 10000 / 100 : Nat) : Int) := t32d (by omega) (by decide)
  have e2 : ((n % 10000 : Nat) : Int).tmod 100 = ((n % 10000 % 100 : Nat) : Int) := tm64 (by decide)
  have e3 : IntKind.u32.wrap (((n % 10000 / 100 : Nat) : Int) * 2) = ((2 * (n % 10000 / 100) : Nat) : Int) := w2x (by omega)
  have e4 : IntKind.u32.wrap (((n % 10000 % 100 : Nat) : Int) * 2) = ((2 * (n % 10000 % 100) : Nat) : Int) := w2x (by omega)
  have e5 : IntKind.u32.wrap (((2 * (n % 10000 / 100) : Nat) : Int) + 1) = ((2 * (n % 10000 / 100) + 1 : Nat) : Int) := w2y (by omega)
  have e6 : IntKind.u32.wrap (((2 * (n % 10000 % 100) : Nat) : Int) + 1) = ((2 * (n % 10000 % 100) + 1 : Nat) : Int) := w2y (by omega)
  simp only [go_sem, simprocAttr, hl, h0, h1', v0, d1, d2, e1, e2, e3, e4, e5, e6]
  rw [go_loop]
  simp only [go_sem, simprocAttr, hl, h0, h1', v0, d1, d2, e1, e2, e3, e4, e5, e6]
  refine go_drawZ tFollows (by kernel_rfl) ?_
  simp only [go_sem, simprocAttr, hl, h0, h1', v0, d1, d2, e1, e2, e3, e4, e5, e6]
  rw [bindK_sm1 (by kernel_rfl) (show n % 10000 % 100 < 100 by omega)]
  simp only [go_sem, simprocAttr, hl, h0, h1', v0, d1, d2, e1, e2, e3, e4, e5, e6]
  rw [bindK_sm0 (by kernel_rfl) (show n % 10000 % 100 < 100 by omega)]
  simp only [go_sem, simprocAttr, hl, h0, h1', v0, d1, d2, e1, e2, e3, e4, e5, e6]
  refine ⟨(by kernel_rfl : effOk _ _ _ = true), ?_⟩
  try simp only [go_sem, simprocAttr, hl, h0, h1', v0, d1, d2, e1, e2, e3, e4, e5, e6]
  refine go_drawZ tFollows (by kernel_rfl) ?_
  simp only [go_sem, simprocAttr, hl, h0, h1', v0, d1, d2, e1, e2, e3, e4, e5, e6]
  rw [bindK_sm1 (by kernel_rfl) (show n % 10000 / 100 < 100 by omega)]
  simp only [go_sem, simprocAttr, hl, h0, h1', v0, d1, d2, e1, e2, e3, e4, e5, e6]
  rw [bindK_sm0 (by kernel_rfl) (show n % 10000 / 100 < 100 by omega)]
  simp only [go_sem, simprocAttr, hl, h0, h1', v0, d1, d2, e1, e2, e3, e4, e5, e6]
  refine ⟨(by kernel_rfl : effOk _ _ _ = true), ?_⟩
  try simp only [go_sem, simprocAttr, hl, h0, h1', v0, d1, d2, e1, e2, e3, e4, e5, e6]
  rw [leave_same rfl (by simp), low_sm (by omega)]

set_option maxRecDepth 20000 in
theorem fmtM5 (n : Nat) (H k) (h1 : 10000 ≤ n) (hn : n < 100000) : callK Tryd.prog 90 [.slice H.length 1 5 (.ex 23), .int .u64 (n : Nat)] (H ++ [.cells [.int .u8 0, .int .u8 0, .int .u8 0, .int .u8 0, .int .u8 0, .int .u8 0, .int .u8 0, .int .u8 0, .int .u8 0, .int .u8 0, .int .u8 0, .int .u8 0, .int .u8 0, .int .u8 0, .int .u8 0, .int .u8 0, .int .u8 0, .int .u8 0, .int .u8 0, .int .u8 0, .int .u8 0, .int .u8 0, .int .u8 0, .int .u8 0] 138 .rw]) k =
    k (.tuple [], H ++ [.cells (.int .u8 0 :: .int .u8 (hexD (n / 10000)).toNat :: .int .u8 (hexD ((n % 10000 / 100) / 10)).toNat :: .int .u8 (hexD ((n % 10000 / 100) % 10)).toNat :: .int .u8 (hexD ((n % 10000 % 100) / 10)).toNat :: .int .u8 (hexD ((n % 10000 % 100) % 10)).toNat :: [.int .u8 0, .int .u8 0, .int .u8 0, .int .u8 0, .int .u8 0, .int .u8 0, .int .u8 0, .int .u8 0, .int .u8 0, .int .u8 0, .int .u8 0, .int .u8 0, .int .u8 0, .int .u8 0, .int .u8 0, .int .u8 0, .int .u8 0, .int .u8 0]) 138 .rw], ⟨none, some H.length⟩) := by
  refine callK_eq ?_ k
  refine callK_start (n := 167) (rs := []) Tryd.func90 rfl rfl rfl ?_
  intro σ hl ha
  have h0 := ha 0 (by simp)
  have h1' := ha 1 (by simp)
  clear ha
  simp only [Option.getD_some, List.getElem?_cons_zero, List.getElem?_cons_succ] at h0 h1'
  have v0 : IntKind.u32.wrap (n : Int) = (n : Int) := wrap_u32 (by omega)
  have d1 : (n : Int).tmod 10000 = ((n % 10000 : Nat) : Int) := tm64 (by decide)
  have d2 : IntKind.u32.wrap ((n : Int).tdiv 10000) = ((n / 10000 : Nat) : Int) := t32d (by omega) (by decide)
  have e1 : IntKind.u32.wrap (((n % 10000 : Nat) : Int).tdiv 100) = ((n % 10000 / 100 : Nat) : Int) := t32d (by omega) (by decide)
  have e2 : ((n % 10000 : Nat) : Int).tmod 100 = ((n % 10000 % 100 : Nat) : Int) := tm64 (by decide)
  have e3 : IntKind.u32.wrap (((n % 10000 / 100 : Nat) : Int) * 2) = ((2 * (n % 10000 / 100) : Nat) : Int) := w2x (by omega)
  have e4 : IntKind.u32.wrap (((n % 10000 % 100 : Nat) : Int) * 2) = ((2 * (n % 10000 % 100) : Nat) : Int) := w2x (by omega)
  have e5 : IntKind.u32.wrap (((2 * (n % 10000 / 100) : Nat) : Int) + 1) = ((2 * (n % 10000 / 100) + 1 : Nat) : Int) := w2y (by omega)
  have e6 : IntKind.u32.wrap (((2 * (n % 10000 % 100) : Nat) : Int) + 1) = ((2 * (n % 10000 % 100) + 1 : Nat) : Int) := w2y (by omega)
  have g1 : IntKind.u8.wrap (IntKind.u32.wrap (48 + ((n / 10000 : Nat) : Int))) = ((hexD (n / 10000)).toNat : Int) := hexD_i (by omega)
  simp only [go_sem, simprocAttr, hl, h0, h1', v0, d1, d2, e1, e2, e3, e4, e5, e6, g1]
  rw [go_loop]
  simp only [go_sem, simprocAttr, hl, h0, h1', v0, d1, d2, e1, e2, e3, e4, e5, e6, g1]
  refine go_drawZ tFollows (by kernel_rfl) ?_
  simp only [go_sem, simprocAttr, hl, h0, h1', v0, d1, d2, e1, e2, e3, e4, e5, e6, g1]
  rw [bindK_sm1 (by kernel_rfl) (show n % 10000 % 100 < 100 by omega)]
  simp only [go_sem, simprocAttr, hl, h0, h1', v0, d1, d2, e1, e2, e3, e4, e5, e6, g1]
  rw [bindK_sm0 (by kernel_rfl) (show n % 10000 % 100 < 100 by omega)]
  simp only [go_sem, simprocAttr, hl, h0, h1', v0, d1, d2, e1, e2, e3, e4, e5, e6, g1]
  refine ⟨(by kernel_rfl : effOk _ _ _ = true), ?_⟩
  try simp only [go_sem, simprocAttr, hl, h0, h1', v0, d1, d2, e1, e2, e3, e4, e5, e6, g1]
  refine go_drawZ tFollows (by kernel_rfl) ?_
  simp only [go_sem, simprocAttr, hl, h0, h1', v0, d1, d2, e1, e2, e3, e4, e5, e6, g1]
  rw [bindK_sm1 (by kernel_rfl) (show n % 10000 / 100 < 100 by omega)]
  simp only [go_sem, simprocAttr, hl, h0, h1', v0, d1, d2, e1, e2, e3, e4, e5, e6, g1]
  rw [bindK_sm0 (by kernel_rfl) (show n % 10000 / 100 < 100 by omega)]
  simp only [go_sem, simprocAttr, hl, h0, h1', v0, d1, d2, e1, e2, e3, e4, e5, e6, g1]
  refine ⟨(by kernel_rfl : effOk _ _ _ = true), ?_⟩
  try simp only [go_sem, simprocAttr, hl, h0, h1', v0, d1, d2, e1, e2, e3, e4, e5, e6, g1]
  rw [leave_same rfl (by simp), low_sm (by omega)]


end Go.Proofs.YtgkpgpdkolpfkaaDoor.V
