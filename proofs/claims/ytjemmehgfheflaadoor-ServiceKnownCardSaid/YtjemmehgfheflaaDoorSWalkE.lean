/- Package strconv's Itoa at small numbers, as 'V' runs it. No conditions. -/
import Derived.Test.YtjemmehgfheflaaDoorSWalkD
namespace Go.Proofs.YtjemmehgfheflaaDoor.V
open Go
set_option linter.unusedSimpArgs false
set_option linter.unusedVariables false
attribute [local irreducible] go goOps goD opK callK callT stepK leaveTo nextK

theorem sh_r {kd : IntKind} {a b : Int} (h : decide (b < 0) = false) : evShift .shr kd a b = some (.int kd (a.fdiv (2 ^ (min b.toNat kd.bits)))) := by
  have : ¬ b < 0 := by simpa using h
  simp only [evShift]; rw [if_neg this]
theorem sh_l {kd : IntKind} {a b : Int} (h : decide (b < 0) = false) : evShift .shl kd a b = some (.int kd (kd.wrap (a * 2 ^ (min b.toNat kd.bits)))) := by
  have : ¬ b < 0 := by simpa using h
  simp only [evShift]; rw [if_neg this]
theorem bits_i64 : IntKind.bits .i64 = 64 := rfl
theorem bits_u64 : IntKind.bits .u64 = 64 := rfl
theorem bits_u8 : IntKind.bits .u8 = 8 := rfl
theorem bits_u16 : IntKind.bits .u16 = 16 := rfl
theorem bits_u32 : IntKind.bits .u32 = 32 := rfl
theorem wrapl_i64 {n : Nat} (h : decide (n < 9223372036854775808) = true) : IntKind.i64.wrap (no_index (@OfNat.ofNat Int n instOfNat)) = @OfNat.ofNat Int n instOfNat := by
  have h : n < 9223372036854775808 := of_decide_eq_true h
  show IntKind.i64.wrap (n : Int) = (n : Int)
  exact wrap_i64 (by omega)
theorem wrapl_u64 {n : Nat} (h : decide (n < 18446744073709551616) = true) : IntKind.u64.wrap (no_index (@OfNat.ofNat Int n instOfNat)) = @OfNat.ofNat Int n instOfNat := by
  have h : n < 18446744073709551616 := of_decide_eq_true h
  show IntKind.u64.wrap (n : Int) = (n : Int)
  exact wrap_u64 (by omega)
theorem wrapl_u32 {n : Nat} (h : decide (n < 4294967296) = true) : IntKind.u32.wrap (no_index (@OfNat.ofNat Int n instOfNat)) = @OfNat.ofNat Int n instOfNat := by
  have h : n < 4294967296 := of_decide_eq_true h
  show IntKind.u32.wrap (n : Int) = (n : Int)
  exact wrap_u32 (by omega)
theorem wrapl_u16 {n : Nat} (h : decide (n < 65536) = true) : IntKind.u16.wrap (no_index (@OfNat.ofNat Int n instOfNat)) = @OfNat.ofNat Int n instOfNat := by
  have h : n < 65536 := of_decide_eq_true h
  show IntKind.u16.wrap (n : Int) = (n : Int)
  exact wrap_u16 (by omega)
theorem wrapl_u8 {n : Nat} (h : decide (n < 256) = true) : IntKind.u8.wrap (no_index (@OfNat.ofNat Int n instOfNat)) = @OfNat.ofNat Int n instOfNat := by
  have h : n < 256 := of_decide_eq_true h
  show IntKind.u8.wrap (n : Int) = (n : Int)
  exact wrap_u8 (by omega)
theorem wrapl_i32 {n : Nat} (h : decide (n < 2147483648) = true) : IntKind.i32.wrap (no_index (@OfNat.ofNat Int n instOfNat)) = @OfNat.ofNat Int n instOfNat := by
  have h : n < 2147483648 := of_decide_eq_true h
  show IntKind.i32.wrap (n : Int) = (n : Int)
  exact wrap_i32 (by omega)
attribute [go_sem] wrapl_i64 wrapl_u64 wrapl_u32 wrapl_u16 wrapl_u8 wrapl_i32
attribute [go_sem] sh_r sh_l bits_i64 bits_u64 bits_u8 bits_u16 bits_u32

/-- How many bits a byte takes. -/
def len8 : List UInt8 := [0,1,2,2,3,3,3,3,4,4,4,4,4,4,4,4,5,5,5,5,5,5,5,5,5,5,5,5,5,5,5,5,6,6,6,6,6,6,6,6,6,6,6,6,6,6,6,6,6,6,6,6,6,6,6,6,6,6,6,6,6,6,6,6,7,7,7,7,7,7,7,7,7,7,7,7,7,7,7,7,7,7,7,7,7,7,7,7,7,7,7,7,7,7,7,7,7,7,7,7,7,7,7,7,7,7,7,7,7,7,7,7,7,7,7,7,7,7,7,7,7,7,7,7,7,7,7,7] ++ List.replicate 128 8
def bl8 (c : Nat) : Nat := ((len8[c]?).getD 0).toNat
def bl (n : Nat) : Nat := if n < 256 then bl8 n else 8 + bl8 (n / 256)
theorem bl8_at {c : Nat} (h : c < 256) : len8[c]? = some (UInt8.ofNat (bl8 c)) ∧ bl8 c ≤ 8 := by
  have : ∀ c : Fin 256, len8[c.val]? = some (UInt8.ofNat (bl8 c.val)) ∧ bl8 c.val ≤ 8 := by decide +kernel
  exact this ⟨c, h⟩

theorem bindK_len8 {L : List UInt8} {n : Nat} {f : UInt8 → Prop} (hL : L = len8) (h : n < 256) : bindK (L[n]?) f = f (UInt8.ofNat (bl8 n)) := by
  subst hL
  rw [(bl8_at h).1, bindK_some]
theorem ofNat_le {n m : Nat} (h : n ≤ m) (hm : m < 256) : (UInt8.ofNat n).toNat = n := by
  have : n < 256 := by omega
  exact UInt8.toNat_ofNat_of_lt' (by simpa using this)

set_option maxRecDepth 20000 in
theorem len75 (n : Nat) (H k) (hn : n < 65536) : callK Tryd.prog 75 [.int .u64 (n : Nat)] H k = k (.int .i64 (bl n : Nat), H, z0) := by
  refine callK_eq (r := (.int .i64 (bl n : Nat), H, z0)) ?_ k
  refine callK_start (n := 25) (rs := [.tmp 2]) Tryd.func75 rfl rfl rfl ?_
  intro σ hl ha
  have h0 := ha 0 (by simp)
  clear ha
  simp only [Option.getD_some, List.getElem?_cons_zero, List.getElem?_cons_succ] at h0
  have g1 : decide ((n : Int) ≥ 4294967296) = false := by simp; omega
  have g2 : decide ((n : Int) ≥ 65536) = false := by simp; omega
  by_cases h : n < 256
  · have g3 : decide ((n : Int) ≥ 256) = false := by simp; omega
    have w1 : IntKind.u8.wrap (n : Int) = (n : Int) := by rw [wrap_u8 (by omega)]
    have hb := (bl8_at h).2
    have hv := ofNat_le hb (by decide)
    have w2 : IntKind.i64.wrap (bl8 n : Int) = (bl8 n : Int) := by rw [wrap_i64 (by omega)]
    have w3 : IntKind.i64.wrap (0 + (bl8 n : Int)) = (bl8 n : Int) := by rw [wrap_i64 (by omega)]; omega
    simp only [go_sem, simprocAttr, hl, h0, g1, g2, g3, w1]
    rw [bindK_len8 (by kernel_rfl) h]
    simp only [go_sem, simprocAttr, hl, h0, hv, w2, w3]
    simp only [bl, h, if_true]
  · have g3 : decide ((n : Int) ≥ 256) = true := by simp; omega
    have w1 : IntKind.u8.wrap ((n : Int).fdiv (2 ^ min 8 64)) = ((n / 256 : Nat) : Int) := by
      have : (2 : Int) ^ min 8 64 = 256 := by decide
      rw [this, Int.fdiv_eq_ediv_of_nonneg _ (by omega), wrap_u8 (by omega)]; omega
    have hlt : n / 256 < 256 := by omega
    have hb := (bl8_at hlt).2
    have hv := ofNat_le hb (by decide)
    have w2 : IntKind.i64.wrap (bl8 (n / 256) : Int) = (bl8 (n / 256) : Int) := by rw [wrap_i64 (by omega)]
    have w3 : IntKind.i64.wrap (8 + (bl8 (n / 256) : Int)) = ((8 + bl8 (n / 256) : Nat) : Int) := by rw [wrap_i64 (by omega)]; omega
    simp only [go_sem, simprocAttr, hl, h0, g1, g2, g3, w1]
    rw [bindK_len8 (by kernel_rfl) hlt]
    simp only [go_sem, simprocAttr, hl, h0, hv, w2, w3]
    simp only [bl, h, if_false]

/-- A number's digits, counted as strconv does. -/
def lg (n : Nat) : Nat := bl n * 78913 / 262144
set_option maxRecDepth 20000 in
theorem log74 (b : Nat) (H k) (hb : b ≤ 64) : callK Tryd.prog 74 [.int .i64 (b : Nat)] H k = k (.int .i64 (b * 78913 / 262144 : Nat), H, z0) := by
  refine callK_eq (r := (.int .i64 (b * 78913 / 262144 : Nat), H, z0)) ?_ k
  refine callK_start (n := 6) (rs := [.tmp 2]) Tryd.func74 rfl rfl rfl ?_
  intro σ hl ha
  have h0 := ha 0 (by simp)
  clear ha
  simp only [Option.getD_some, List.getElem?_cons_zero, List.getElem?_cons_succ] at h0
  have w1 : IntKind.i64.wrap ((b : Int) * 78913) = ((b * 78913 : Nat) : Int) := by rw [wrap_i64 (by omega)]; omega
  have w2 : ((b * 78913 : Nat) : Int).fdiv (2 ^ min 18 64) = ((b * 78913 / 262144 : Nat) : Int) := by
    have : (2 : Int) ^ min 18 64 = 262144 := by decide
    rw [this, Int.fdiv_eq_ediv_of_nonneg _ (by omega)]; omega
  simp only [go_sem, simprocAttr, hl, h0, w1, w2]
set_option maxRecDepth 20000 in
theorem bool76 (b : Bool) (H k) : callK Tryd.prog 76 [.bool b] H k = k (.int .i64 (if b = true then 1 else 0), H, z0) := by
  refine callK_eq (r := (.int .i64 (if b = true then 1 else 0), H, z0)) ?_ k
  refine callK_start (n := 4) (rs := [.tmp 2]) Tryd.func76 rfl rfl rfl ?_
  intro σ hl ha
  have h0 := ha 0 (by simp)
  clear ha
  simp only [Option.getD_some, List.getElem?_cons_zero, List.getElem?_cons_succ] at h0
  cases b
  · simp only [go_sem, simprocAttr, hl, h0]
  · simp only [go_sem, simprocAttr, hl, h0]

theorem bl8_range : ∀ {c : Nat}, c < 256 → c < 2 ^ bl8 c ∧ (c ≠ 0 → 2 ^ bl8 c ≤ 2 * c) := by
  intro c h
  have : ∀ c : Fin 256, c.val < 2 ^ bl8 c.val ∧ (c.val ≠ 0 → 2 ^ bl8 c.val ≤ 2 * c.val) := by decide +kernel
  exact this ⟨c, h⟩
theorem lg_le {n : Nat} (h : n < 65536) : bl n ≤ 16 ∧ lg n ≤ 4 := by
  have : bl n ≤ 16 := by
    unfold bl
    split
    · have := (bl8_at ‹_›).2; omega
    · have := (bl8_at (c := n / 256) (by omega)).2; omega
  exact ⟨this, by unfold lg; omega⟩
theorem lg_cases {n : Nat} (h : n < 65536) (h1 : 100 ≤ n) : (lg n = 2 ∧ n < 1000) ∨ (lg n = 3 ∧ 100 ≤ n ∧ n < 10000 ∧ 512 ≤ n) ∨ (lg n = 4 ∧ 1000 ≤ n ∧ 8192 ≤ n) := by
  unfold lg bl
  split
  · rename_i h256
    have hr := bl8_range h256
    have h8 := (bl8_at h256).2
    generalize bl8 n = v at *
    have hv : v = 0 ∨ v = 1 ∨ v = 2 ∨ v = 3 ∨ v = 4 ∨ v = 5 ∨ v = 6 ∨ v = 7 ∨ v = 8 := by omega
    rcases hv with rfl | rfl | rfl | rfl | rfl | rfl | rfl | rfl | rfl <;> simp at hr ⊢ <;> omega
  · have hc : n / 256 < 256 := by omega
    have hr := bl8_range hc
    have h8 := (bl8_at hc).2
    generalize bl8 (n / 256) = v at *
    have hv : v = 0 ∨ v = 1 ∨ v = 2 ∨ v = 3 ∨ v = 4 ∨ v = 5 ∨ v = 6 ∨ v = 7 ∨ v = 8 := by omega
    rcases hv with rfl | rfl | rfl | rfl | rfl | rfl | rfl | rfl | rfl <;> simp at hr ⊢ <;> omega

/-- The table of powers, as it is laid. -/
def pow10c : List AV := [.int .u64 1, .int .u64 10, .int .u64 100, .int .u64 1000, .int .u64 10000, .int .u64 100000, .int .u64 1000000, .int .u64 10000000, .int .u64 100000000, .int .u64 1000000000, .int .u64 10000000000, .int .u64 100000000000, .int .u64 1000000000000, .int .u64 10000000000000, .int .u64 100000000000000, .int .u64 1000000000000000, .int .u64 10000000000000000, .int .u64 100000000000000000, .int .u64 1000000000000000000, .int .u64 10000000000000000000]
/-- The table lies in the heap where the program has it. -/
def Tb (H : Hp) : Prop := ∃ e k, H[1]? = some (.cells pow10c e k)
theorem Tb.old {H : Hp} (h : Tb H) (l : Hp) : Tb (H ++ l) := by
  obtain ⟨e, k, h⟩ := h
  exact ⟨e, k, hp_old h⟩
theorem ix99 {i : Nat} (h : i < 20) : evIndexAddr Tryd.prog 99 (.ptr 1 0) (.int .i64 (i : Nat)) = some (.ptr 1 i) := by
  simp only [evIndexAddr, tsh_99]
  rw [if_pos ⟨by omega, by omega⟩]
  simp
def digs (n : Nat) : Nat := if n < 1000 then 3 else if n < 10000 then 4 else 5
set_option maxRecDepth 20000 in
theorem num67 (n : Nat) (H k) (ht : Tb H) (h1 : 100 ≤ n) (hn : n < 65536) : callK Tryd.prog 67 [.int .u64 (n : Nat)] H k = k (.int .i64 (digs n : Nat), H, z0) := by
  refine callK_eq (r := (.int .i64 (digs n : Nat), H, z0)) ?_ k
  refine callK_start (n := 15) (rs := [.tmp 2]) Tryd.func67 rfl rfl rfl ?_
  intro σ hl ha
  have h0 := ha 0 (by simp)
  clear ha
  simp only [Option.getD_some, List.getElem?_cons_zero, List.getElem?_cons_succ] at h0
  obtain ⟨te, kd, ht⟩ := ht
  have c1 := fun H k => len75 n H k hn
  have c2 := fun H k => log74 (bl n) H k (by have := (lg_le hn).1; omega)
  have c3 := fun b H k => bool76 b H k
  obtain ⟨e, h⟩ | ⟨e, h, h', h''⟩ | ⟨e, h, h'⟩ := lg_cases hn h1
  · unfold lg at e
    have hld : ∀ e k, ldC 2 1 false (.cells pow10c e k) = some (.int .u64 100) := fun _ _ => rfl
    have hg : decide ((n : Int) ≥ 100) = true := by simp; omega
    have ix : evIndexAddr Tryd.prog 99 (.ptr 1 0) (.int .i64 2) = some (.ptr 1 2) := ix99 (i := 2) (by decide)
    rw [e] at c2
    simp only [go_sem, simprocAttr, hl, h0, c1, c2, ix, ht, hld, hg, c3, digs, h]
  · unfold lg at e
    have hld : ∀ e k, ldC 3 1 false (.cells pow10c e k) = some (.int .u64 1000) := fun _ _ => rfl
    have ix : evIndexAddr Tryd.prog 99 (.ptr 1 0) (.int .i64 3) = some (.ptr 1 3) := ix99 (i := 3) (by decide)
    rw [e] at c2
    by_cases hg : n < 1000
    · have hg' : decide ((n : Int) ≥ 1000) = false := by simp; omega
      simp only [go_sem, simprocAttr, hl, h0, c1, c2, ix, ht, hld, hg', c3, digs, hg]
    · have hg' : decide ((n : Int) ≥ 1000) = true := by simp; omega
      simp only [go_sem, simprocAttr, hl, h0, c1, c2, ix, ht, hld, hg', c3, digs, hg, h']
  · unfold lg at e
    have hld : ∀ e k, ldC 4 1 false (.cells pow10c e k) = some (.int .u64 10000) := fun _ _ => rfl
    have ix : evIndexAddr Tryd.prog 99 (.ptr 1 0) (.int .i64 4) = some (.ptr 1 4) := ix99 (i := 4) (by decide)
    rw [e] at c2
    have h10 : ¬ n < 1000 := by omega
    by_cases hg : n < 10000
    · have hg' : decide ((n : Int) ≥ 10000) = false := by simp; omega
      simp only [go_sem, simprocAttr, hl, h0, c1, c2, ix, ht, hld, hg', c3, digs, hg, h10]
    · have hg' : decide ((n : Int) ≥ 10000) = true := by simp; omega
      simp only [go_sem, simprocAttr, hl, h0, c1, c2, ix, ht, hld, hg', c3, digs, hg, h10]

theorem bind_ixs {P : Program} {t : TypeId} {b o n : Nat} {c : Cap} {kd : IntKind} {i : Int} {f : AV → Prop} (h : (match tsh P t with | some (.slice _ _ _) => true | _ => false) = true) :
    bindK (evIndexAddr P t (.slice b o n c) (.int kd i)) f = bindK (tsh P t) fun sh => (0 ≤ i ∧ i < n) ∧ f (.ptr b (o + i.toNat * shZ sh)) := by
  split at h
  · rename_i e z w he
    simp only [evIndexAddr, he, bindK_ite, bindK_some, shZ]
  · cases h
def shA : Sh → Nat × Nat
  | .array l _ z => (l, z)
  | _ => (0, 0)
theorem shA_a {l e z : Nat} : shA (.array l e z) = (l, z) := rfl
theorem bind_ixa {P : Program} {t : TypeId} {b o : Nat} {kd : IntKind} {i : Int} {f : AV → Prop} (h : (match tsh P t with | some (.array _ _ _) => true | _ => false) = true) :
    bindK (evIndexAddr P t (.ptr b o) (.int kd i)) f = bindK (tsh P t) fun sh => (0 ≤ i ∧ i < (shA sh).1) ∧ f (.ptr b (o + i.toNat * (shA sh).2)) := by
  split at h
  · rename_i e z w he
    simp only [evIndexAddr, he, bindK_ite, bindK_some, shA]
  · cases h
attribute [go_sem ↓] bind_ixs bind_ixa
attribute [go_sem] shA_a
theorem bytesOf_n : evConv.bytesOf [] = some [] := rfl
theorem bytesOf_c {b : UInt8} {r : List AV} : evConv.bytesOf (.int .u8 (b.toNat : Int) :: r) = (evConv.bytesOf r).map (b :: ·) := by
  show (evConv.bytesOf r).map (UInt8.ofNat ((b.toNat : Int)).toNat :: ·) = _
  simp
attribute [go_sem] bytesOf_n bytesOf_c
theorem leave_same {n : Nat} {v : AV} {H : Hp} {w : Option Nat} (hv : flat v = true) (h : H.length = n) : leave n v H ⟨none, w⟩ = (v, H, ⟨none, low n w⟩) := by
  unfold leave
  have hlo : low n none = none := rfl
  simp only [hlo, hv, and_self, if_true]
  rw [List.take_of_length_le (by omega)]

theorem and_ww {a : Nat} : Ef.and ⟨none, some a⟩ ⟨none, some a⟩ = ⟨none, some a⟩ := by simp [Ef.and, omin]
attribute [go_sem] and_ww

/-- Two digits each, up to 99. -/
def smalls : List UInt8 := (List.range 100).flatMap fun q => [hexD (q / 10), hexD (q % 10)]
theorem smalls_at {q : Nat} (h : q < 100) : smalls[2 * q]? = some (hexD (q / 10)) ∧ smalls[2 * q + 1]? = some (hexD (q % 10)) := by
  have : ∀ q : Fin 100, smalls[2 * q.val]? = some (hexD (q.val / 10)) ∧ smalls[2 * q.val + 1]? = some (hexD (q.val % 10)) := by decide +kernel
  exact this ⟨q, h⟩
theorem bindK_sm0 {L : List UInt8} {q : Nat} {f : UInt8 → Prop} (hL : L = smalls) (h : q < 100) : bindK (L[2 * q]?) f = f (hexD (q / 10)) := by
  subst hL
  rw [(smalls_at h).1, bindK_some]
theorem bindK_sm1 {L : List UInt8} {q : Nat} {f : UInt8 → Prop} (hL : L = smalls) (h : q < 100) : bindK (L[2 * q + 1]?) f = f (hexD (q % 10)) := by
  subst hL
  rw [(smalls_at h).2, bindK_some]
theorem hexD_n {q : Nat} (h : q < 10) : (hexD q).toNat = 48 + q := by
  have : ∀ q : Fin 10, (hexD q.val).toNat = 48 + q.val := by decide
  exact this ⟨q, h⟩
theorem hexD_i {q : Nat} (h : q < 10) : IntKind.u8.wrap (IntKind.u32.wrap (48 + (q : Int))) = ((hexD q).toNat : Int) := by
  rw [hexD_n h, wrap_u32 (by omega), wrap_u8 (by omega)]; omega
theorem dec3 {n : Nat} (h1 : 100 ≤ n) (h : n < 1000) : decP n = [hexD (n / 100), hexD (n % 100 / 10), hexD (n % 100 % 10)] := by
  rw [decP_big (by omega), decP_big (by omega), decP_small (by omega)]
  have e1 : n / 10 / 10 = n / 100 := by omega
  have e2 : n / 10 % 10 = n % 100 / 10 := by omega
  have e3 : n % 10 = n % 100 % 10 := by omega
  rw [e1, e2, e3]; rfl

set_option maxRecDepth 20000 in
theorem fmt3 (n : Nat) (H k) (h1 : 100 ≤ n) (hn : n < 1000) : callK Tryd.prog 68 [.slice H.length 1 3 (.ex 23), .int .u64 (n : Nat)] (H ++ [.cells [.int .u8 0, .int .u8 0, .int .u8 0, .int .u8 0, .int .u8 0, .int .u8 0, .int .u8 0, .int .u8 0, .int .u8 0, .int .u8 0, .int .u8 0, .int .u8 0, .int .u8 0, .int .u8 0, .int .u8 0, .int .u8 0, .int .u8 0, .int .u8 0, .int .u8 0, .int .u8 0, .int .u8 0, .int .u8 0, .int .u8 0, .int .u8 0] 86 .rw]) k =
    k (.tuple [], H ++ [.cells (.int .u8 0 :: .int .u8 (hexD (n / 100)).toNat :: .int .u8 (hexD (n % 100 / 10)).toNat :: .int .u8 (hexD (n % 100 % 10)).toNat :: [.int .u8 0, .int .u8 0, .int .u8 0, .int .u8 0, .int .u8 0, .int .u8 0, .int .u8 0, .int .u8 0, .int .u8 0, .int .u8 0, .int .u8 0, .int .u8 0, .int .u8 0, .int .u8 0, .int .u8 0, .int .u8 0, .int .u8 0, .int .u8 0, .int .u8 0, .int .u8 0]) 86 .rw], ⟨none, some H.length⟩) := by
  refine callK_eq ?_ k
  refine callK_start (n := 167) (rs := []) Tryd.func68 rfl rfl rfl ?_
  intro σ hl ha
  have h0 := ha 0 (by simp)
  have h1' := ha 1 (by simp)
  clear ha
  simp only [Option.getD_some, List.getElem?_cons_zero, List.getElem?_cons_succ] at h0 h1'
  simp only [go_sem, simprocAttr, hl, h0, h1']
  refine go_rounds (fun _ st => ∃ σ, st = ⟨σ, H ++ [.cells [.int .u8 0, .int .u8 0, .int .u8 0, .int .u8 0, .int .u8 0, .int .u8 0, .int .u8 0, .int .u8 0, .int .u8 0, .int .u8 0, .int .u8 0, .int .u8 0, .int .u8 0, .int .u8 0, .int .u8 0, .int .u8 0, .int .u8 0, .int .u8 0, .int .u8 0, .int .u8 0, .int .u8 0, .int .u8 0, .int .u8 0, .int .u8 0] 86 .rw], z0⟩ ∧ σ.length = 167 ∧ fr σ 0 = .slice H.length 1 3 (.ex 23) ∧ fr σ 1 = .int .u64 (n : Nat) ∧ fr σ 4 = .int .i64 3) 0
    ⟨_, rfl, by simp only [go_sem, simprocAttr, hl, h0, h1']⟩ ?_
  rintro m _ ⟨σ, rfl, hl, h0, h1', h4⟩
  have w0 : IntKind.u32.wrap (n : Int) = (n : Int) := wrap_u32 (by omega)
  have w1 : (n : Int).tmod 100 = ((n % 100 : Nat) : Int) := by rw [Int.tmod_eq_emod_of_nonneg (by omega)]; omega
  have w2 : IntKind.u32.wrap (((n % 100 : Nat) : Int) * 2) = ((2 * (n % 100) : Nat) : Int) := by rw [wrap_u32 (by omega)]; omega
  have w3 : IntKind.u32.wrap ((n : Int).tdiv 100) = ((n / 100 : Nat) : Int) := by rw [Int.tdiv_eq_ediv_of_nonneg (by omega), wrap_u32 (by omega)]; omega
  have w4 : IntKind.u32.wrap (((2 * (n % 100) : Nat) : Int) + 1) = ((2 * (n % 100) + 1 : Nat) : Int) := by rw [wrap_u32 (by omega)]; omega
  have w5 := hexD_i (q := n / 100) (by omega)
  simp only [go_sem, simprocAttr, hl, h0, h1', h4, w0, w1, w2, w3]
  refine go_drawZ tFollows (by kernel_rfl) ?_
  simp only [go_sem, simprocAttr, hl, h0, h1', h4, w4]
  rw [bindK_sm1 (by kernel_rfl) (show n % 100 < 100 by omega)]
  simp only [go_sem, simprocAttr, hl, h0, h1', h4, w4]
  rw [bindK_sm0 (by kernel_rfl) (show n % 100 < 100 by omega)]
  simp only [go_sem, simprocAttr, hl, h0, h1', h4, w4]
  refine ⟨(by kernel_rfl : effOk _ _ = true), ?_⟩
  simp only [go_sem, simprocAttr, hl, h0, h1', h4, w5]
  rw [leave_same rfl (by simp), low_sm (by omega)]

theorem dec4 {n : Nat} (h1 : 1000 ≤ n) (h : n < 10000) : decP n = [hexD ((n % 10000) / 100 / 10), hexD ((n % 10000) / 100 % 10), hexD ((n % 10000) % 100 / 10), hexD ((n % 10000) % 100 % 10)] := by
  rw [decP_big (by omega), decP_big (by omega), decP_big (by omega), decP_small (by omega)]
  simp only [List.cons_append, List.nil_append]
  have e0 : n / 10 / 10 / 10 = (n % 10000) / 100 / 10 := by omega
  have e1 : n / 10 / 10 % 10 = (n % 10000) / 100 % 10 := by omega
  have e2 : n / 10 % 10 = (n % 10000) % 100 / 10 := by omega
  have e3 : n % 10 = (n % 10000) % 100 % 10 := by omega
  rw [e0, e1, e2, e3]

set_option maxRecDepth 20000 in
theorem fmt4 (n : Nat) (H k) (h1 : 1000 ≤ n) (hn : n < 10000) : callK Tryd.prog 68 [.slice H.length 1 4 (.ex 23), .int .u64 (n : Nat)] (H ++ [.cells [.int .u8 0, .int .u8 0, .int .u8 0, .int .u8 0, .int .u8 0, .int .u8 0, .int .u8 0, .int .u8 0, .int .u8 0, .int .u8 0, .int .u8 0, .int .u8 0, .int .u8 0, .int .u8 0, .int .u8 0, .int .u8 0, .int .u8 0, .int .u8 0, .int .u8 0, .int .u8 0, .int .u8 0, .int .u8 0, .int .u8 0, .int .u8 0] 86 .rw]) k =
    k (.tuple [], H ++ [.cells (.int .u8 0 :: .int .u8 (hexD ((n % 10000) / 100 / 10)).toNat :: .int .u8 (hexD ((n % 10000) / 100 % 10)).toNat :: .int .u8 (hexD ((n % 10000) % 100 / 10)).toNat :: .int .u8 (hexD ((n % 10000) % 100 % 10)).toNat :: [.int .u8 0, .int .u8 0, .int .u8 0, .int .u8 0, .int .u8 0, .int .u8 0, .int .u8 0, .int .u8 0, .int .u8 0, .int .u8 0, .int .u8 0, .int .u8 0, .int .u8 0, .int .u8 0, .int .u8 0, .int .u8 0, .int .u8 0, .int .u8 0, .int .u8 0]) 86 .rw], ⟨none, some H.length⟩) := by
  refine callK_eq ?_ k
  refine callK_start (n := 167) (rs := []) Tryd.func68 rfl rfl rfl ?_
  intro σ hl ha
  have h0 := ha 0 (by simp)
  have h1' := ha 1 (by simp)
  clear ha
  simp only [Option.getD_some, List.getElem?_cons_zero, List.getElem?_cons_succ] at h0 h1'
  simp only [go_sem, simprocAttr, hl, h0, h1']
  refine go_rounds (fun _ st => ∃ σ, st = ⟨σ, H ++ [.cells [.int .u8 0, .int .u8 0, .int .u8 0, .int .u8 0, .int .u8 0, .int .u8 0, .int .u8 0, .int .u8 0, .int .u8 0, .int .u8 0, .int .u8 0, .int .u8 0, .int .u8 0, .int .u8 0, .int .u8 0, .int .u8 0, .int .u8 0, .int .u8 0, .int .u8 0, .int .u8 0, .int .u8 0, .int .u8 0, .int .u8 0, .int .u8 0] 86 .rw], z0⟩ ∧ σ.length = 167 ∧ fr σ 0 = .slice H.length 1 4 (.ex 23) ∧ fr σ 1 = .int .u64 (n : Nat) ∧ fr σ 4 = .int .i64 4) 0
    ⟨_, rfl, by simp only [go_sem, simprocAttr, hl, h0, h1']⟩ ?_
  rintro m _ ⟨σ, rfl, hl, h0, h1', h4⟩
  have w0 : IntKind.u32.wrap (n : Int) = (n : Int) := wrap_u32 (by omega)
  have w1 : (n : Int).tmod 10000 = ((n % 10000 : Nat) : Int) := by rw [Int.tmod_eq_emod_of_nonneg (by omega)]; omega
  have w2 : IntKind.u32.wrap ((n : Int).tdiv 10000) = ((n / 10000 : Nat) : Int) := by rw [Int.tdiv_eq_ediv_of_nonneg (by omega), wrap_u32 (by omega)]; omega
  have w3 : IntKind.u32.wrap (((n % 10000 : Nat) : Int).tdiv 100) = ((n % 10000 / 100 : Nat) : Int) := by rw [Int.tdiv_eq_ediv_of_nonneg (by omega), wrap_u32 (by omega)]; omega
  have w4 : IntKind.u32.wrap (((n % 10000 / 100 : Nat) : Int) * 2) = ((2 * (n % 10000 / 100) : Nat) : Int) := by rw [wrap_u32 (by omega)]; omega
  have w5 : ((n % 10000 : Nat) : Int).tmod 100 = ((n % 10000 % 100 : Nat) : Int) := by rw [Int.tmod_eq_emod_of_nonneg (by omega)]; omega
  have w6 : IntKind.u32.wrap (((n % 10000 % 100 : Nat) : Int) * 2) = ((2 * (n % 10000 % 100) : Nat) : Int) := by rw [wrap_u32 (by omega)]; omega
  have w7 : IntKind.u32.wrap (((2 * (n % 10000 / 100) : Nat) : Int) + 1) = ((2 * (n % 10000 / 100) + 1 : Nat) : Int) := by rw [wrap_u32 (by omega)]; omega
  have w8 : IntKind.u32.wrap (((2 * (n % 10000 % 100) : Nat) : Int) + 1) = ((2 * (n % 10000 % 100) + 1 : Nat) : Int) := by rw [wrap_u32 (by omega)]; omega
  have w9 := hexD_i (q := n / 10000) (by omega)
  simp only [go_sem, simprocAttr, hl, h0, h1', h4, w0, w1, w2, w3, w4, w5, w6]
  refine go_drawZ tFollows (by kernel_rfl) ?_
  simp only [go_sem, simprocAttr, hl, h0, h1', h4, w8]
  rw [bindK_sm1 (by kernel_rfl) (show n % 10000 % 100 < 100 by omega)]
  simp only [go_sem, simprocAttr, hl, h0, h1', h4]
  rw [bindK_sm0 (by kernel_rfl) (show n % 10000 % 100 < 100 by omega)]
  simp only [go_sem, simprocAttr, hl, h0, h1', h4]
  refine ⟨(by kernel_rfl : effOk _ _ = true), ?_⟩
  refine go_drawZ tFollows (by kernel_rfl) ?_
  simp only [go_sem, simprocAttr, hl, h0, h1', h4, w7]
  rw [bindK_sm1 (by kernel_rfl) (show n % 10000 / 100 < 100 by omega)]
  simp only [go_sem, simprocAttr, hl, h0, h1', h4]
  rw [bindK_sm0 (by kernel_rfl) (show n % 10000 / 100 < 100 by omega)]
  simp only [go_sem, simprocAttr, hl, h0, h1', h4]
  refine ⟨(by kernel_rfl : effOk _ _ = true), ?_⟩
  try simp only [go_sem, simprocAttr, hl, h0, h1', w9]
  rw [leave_same rfl (by simp), low_sm (by omega)]

theorem dec5 {n : Nat} (h1 : 10000 ≤ n) (h : n < 100000) : decP n = [hexD (n / 10000), hexD ((n % 10000) / 100 / 10), hexD ((n % 10000) / 100 % 10), hexD ((n % 10000) % 100 / 10), hexD ((n % 10000) % 100 % 10)] := by
  rw [decP_big (by omega), decP_big (by omega), decP_big (by omega), decP_big (by omega), decP_small (by omega)]
  simp only [List.cons_append, List.nil_append]
  have e9 : n / 10 / 10 / 10 / 10 = n / 10000 := by omega
  have e0 : n / 10 / 10 / 10 % 10 = (n % 10000) / 100 / 10 := by omega
  have e1 : n / 10 / 10 % 10 = (n % 10000) / 100 % 10 := by omega
  have e2 : n / 10 % 10 = (n % 10000) % 100 / 10 := by omega
  have e3 : n % 10 = (n % 10000) % 100 % 10 := by omega
  rw [e9, e0, e1, e2, e3]

set_option maxRecDepth 20000 in
theorem fmt5 (n : Nat) (H k) (h1 : 10000 ≤ n) (hn : n < 65536) : callK Tryd.prog 68 [.slice H.length 1 5 (.ex 23), .int .u64 (n : Nat)] (H ++ [.cells [.int .u8 0, .int .u8 0, .int .u8 0, .int .u8 0, .int .u8 0, .int .u8 0, .int .u8 0, .int .u8 0, .int .u8 0, .int .u8 0, .int .u8 0, .int .u8 0, .int .u8 0, .int .u8 0, .int .u8 0, .int .u8 0, .int .u8 0, .int .u8 0, .int .u8 0, .int .u8 0, .int .u8 0, .int .u8 0, .int .u8 0, .int .u8 0] 86 .rw]) k =
    k (.tuple [], H ++ [.cells (.int .u8 0 :: .int .u8 (hexD (n / 10000)).toNat :: .int .u8 (hexD ((n % 10000) / 100 / 10)).toNat :: .int .u8 (hexD ((n % 10000) / 100 % 10)).toNat :: .int .u8 (hexD ((n % 10000) % 100 / 10)).toNat :: .int .u8 (hexD ((n % 10000) % 100 % 10)).toNat :: [.int .u8 0, .int .u8 0, .int .u8 0, .int .u8 0, .int .u8 0, .int .u8 0, .int .u8 0, .int .u8 0, .int .u8 0, .int .u8 0, .int .u8 0, .int .u8 0, .int .u8 0, .int .u8 0, .int .u8 0, .int .u8 0, .int .u8 0, .int .u8 0]) 86 .rw], ⟨none, some H.length⟩) := by
  refine callK_eq ?_ k
  refine callK_start (n := 167) (rs := []) Tryd.func68 rfl rfl rfl ?_
  intro σ hl ha
  have h0 := ha 0 (by simp)
  have h1' := ha 1 (by simp)
  clear ha
  simp only [Option.getD_some, List.getElem?_cons_zero, List.getElem?_cons_succ] at h0 h1'
  simp only [go_sem, simprocAttr, hl, h0, h1']
  refine go_rounds (fun _ st => ∃ σ, st = ⟨σ, H ++ [.cells [.int .u8 0, .int .u8 0, .int .u8 0, .int .u8 0, .int .u8 0, .int .u8 0, .int .u8 0, .int .u8 0, .int .u8 0, .int .u8 0, .int .u8 0, .int .u8 0, .int .u8 0, .int .u8 0, .int .u8 0, .int .u8 0, .int .u8 0, .int .u8 0, .int .u8 0, .int .u8 0, .int .u8 0, .int .u8 0, .int .u8 0, .int .u8 0] 86 .rw], z0⟩ ∧ σ.length = 167 ∧ fr σ 0 = .slice H.length 1 5 (.ex 23) ∧ fr σ 1 = .int .u64 (n : Nat) ∧ fr σ 4 = .int .i64 5) 0
    ⟨_, rfl, by simp only [go_sem, simprocAttr, hl, h0, h1']⟩ ?_
  rintro m _ ⟨σ, rfl, hl, h0, h1', h4⟩
  have w0 : IntKind.u32.wrap (n : Int) = (n : Int) := wrap_u32 (by omega)
  have w1 : (n : Int).tmod 10000 = ((n % 10000 : Nat) : Int) := by rw [Int.tmod_eq_emod_of_nonneg (by omega)]; omega
  have w2 : IntKind.u32.wrap ((n : Int).tdiv 10000) = ((n / 10000 : Nat) : Int) := by rw [Int.tdiv_eq_ediv_of_nonneg (by omega), wrap_u32 (by omega)]; omega
  have w3 : IntKind.u32.wrap (((n % 10000 : Nat) : Int).tdiv 100) = ((n % 10000 / 100 : Nat) : Int) := by rw [Int.tdiv_eq_ediv_of_nonneg (by omega), wrap_u32 (by omega)]; omega
  have w4 : IntKind.u32.wrap (((n % 10000 / 100 : Nat) : Int) * 2) = ((2 * (n % 10000 / 100) : Nat) : Int) := by rw [wrap_u32 (by omega)]; omega
  have w5 : ((n % 10000 : Nat) : Int).tmod 100 = ((n % 10000 % 100 : Nat) : Int) := by rw [Int.tmod_eq_emod_of_nonneg (by omega)]; omega
  have w6 : IntKind.u32.wrap (((n % 10000 % 100 : Nat) : Int) * 2) = ((2 * (n % 10000 % 100) : Nat) : Int) := by rw [wrap_u32 (by omega)]; omega
  have w7 : IntKind.u32.wrap (((2 * (n % 10000 / 100) : Nat) : Int) + 1) = ((2 * (n % 10000 / 100) + 1 : Nat) : Int) := by rw [wrap_u32 (by omega)]; omega
  have w8 : IntKind.u32.wrap (((2 * (n % 10000 % 100) : Nat) : Int) + 1) = ((2 * (n % 10000 % 100) + 1 : Nat) : Int) := by rw [wrap_u32 (by omega)]; omega
  have w9 := hexD_i (q := n / 10000) (by omega)
  simp only [go_sem, simprocAttr, hl, h0, h1', h4, w0, w1, w2, w3, w4, w5, w6]
  refine go_drawZ tFollows (by kernel_rfl) ?_
  simp only [go_sem, simprocAttr, hl, h0, h1', h4, w8]
  rw [bindK_sm1 (by kernel_rfl) (show n % 10000 % 100 < 100 by omega)]
  simp only [go_sem, simprocAttr, hl, h0, h1', h4]
  rw [bindK_sm0 (by kernel_rfl) (show n % 10000 % 100 < 100 by omega)]
  simp only [go_sem, simprocAttr, hl, h0, h1', h4]
  refine ⟨(by kernel_rfl : effOk _ _ = true), ?_⟩
  refine go_drawZ tFollows (by kernel_rfl) ?_
  simp only [go_sem, simprocAttr, hl, h0, h1', h4, w7]
  rw [bindK_sm1 (by kernel_rfl) (show n % 10000 / 100 < 100 by omega)]
  simp only [go_sem, simprocAttr, hl, h0, h1', h4]
  rw [bindK_sm0 (by kernel_rfl) (show n % 10000 / 100 < 100 by omega)]
  simp only [go_sem, simprocAttr, hl, h0, h1', h4]
  refine ⟨(by kernel_rfl : effOk _ _ = true), ?_⟩
  try simp only [go_sem, simprocAttr, hl, h0, h1', w9]
  rw [leave_same rfl (by simp), low_sm (by omega)]

end Go.Proofs.YtjemmehgfheflaaDoor.V
