/- Numbers to the base 16, as 'V' runs package strconv's. No conditions. -/
import Derived.Test.YtgkpgpdkolpfkaaDoorWRefNum
namespace Go.Proofs.YtgkpgpdkolpfkaaDoor.V
open Go
set_option linter.unusedSimpArgs false
set_option linter.unusedVariables false
attribute [local irreducible] go goOps goD opK callK callT stepK leaveTo nextK

/-- The table of places of bits, as it is laid. -/
def deB64c : List AV := [.int .u8 0, .int .u8 1, .int .u8 56, .int .u8 2, .int .u8 57, .int .u8 49, .int .u8 28, .int .u8 3, .int .u8 61, .int .u8 58, .int .u8 42, .int .u8 50, .int .u8 38, .int .u8 29, .int .u8 17, .int .u8 4, .int .u8 62, .int .u8 47, .int .u8 59, .int .u8 36, .int .u8 45, .int .u8 43, .int .u8 51, .int .u8 22, .int .u8 53, .int .u8 39, .int .u8 33, .int .u8 30, .int .u8 24, .int .u8 18, .int .u8 12, .int .u8 5, .int .u8 63, .int .u8 55, .int .u8 48, .int .u8 27, .int .u8 60, .int .u8 41, .int .u8 37, .int .u8 16, .int .u8 46, .int .u8 35, .int .u8 44, .int .u8 21, .int .u8 52, .int .u8 32, .int .u8 23, .int .u8 11, .int .u8 54, .int .u8 26, .int .u8 40, .int .u8 15, .int .u8 34, .int .u8 20, .int .u8 31, .int .u8 10, .int .u8 25, .int .u8 14, .int .u8 19, .int .u8 9, .int .u8 13, .int .u8 8, .int .u8 7, .int .u8 6]
def Db (H : Hp) : Prop := ∃ e k, H[6]? = some (.cells deB64c e k)
theorem Db.old {H : Hp} (h : Db H) (l : Hp) : Db (H ++ l) := by
  obtain ⟨e, k, h⟩ := h
  exact ⟨e, k, hp_old h⟩
theorem ixB {i : Int} (h : 0 ≤ i ∧ i < 64) : evIndexAddr Tryd.prog 173 (.ptr 6 0) (.int .u64 i) = some (.ptr 6 i.toNat) := by
  simp only [evIndexAddr, tsh_173]
  rw [if_pos ⟨by omega, by omega⟩]
  simp
set_option maxRecDepth 20000 in
theorem tz64_16 (H k) (ht : Db H) : callK Tryd.prog 117 [.int .u64 16] H k = k (.int .i64 4, H, z0) := by
  obtain ⟨et, kt, ht⟩ := ht
  refine callK_eq (r := (.int .i64 4, H, z0)) ?_ k
  refine callK_start (n := 14) (rs := [.tmp 2]) Tryd.func117 rfl rfl rfl ?_
  intro σ hl ha
  have h0 := ha 0 (by simp)
  clear ha
  simp only [Option.getD_some, List.getElem?_cons_zero, List.getElem?_cons_succ] at h0
  have a1 : evInt .and .u64 16 (IntKind.u64.wrap (-16)) = some (.int .u64 16) := rfl
  have a2 : IntKind.u64.wrap 4573923408821661840 = 4573923408821661840 := rfl
  have a3 : Int.fdiv 4573923408821661840 (2 ^ min 58 64) = 15 := rfl
  have a4 := ixB (i := 15) (by decide)
  have a5 : ∀ (e : TypeId) (k : Kd), ldC 15 1 false (.cells deB64c e k) = some (.int .u8 4) := by intro e k; rw [ldC_f]; rfl
  simp only [go_sem, simprocAttr, hl, h0, ht, a1, a2, a3, a4, a5]

set_option maxRecDepth 20000 in
theorem tz_16 (H k) (ht : Db H) : callK Tryd.prog 106 [.int .u64 16] H k = k (.int .i64 4, H, z0) := by
  refine callK_eq (r := (.int .i64 4, H, z0)) ?_ k
  refine callK_start (n := 8) (rs := [.tmp 2]) Tryd.func106 rfl rfl rfl ?_
  intro σ hl ha
  have h0 := ha 0 (by simp)
  clear ha
  simp only [Option.getD_some, List.getElem?_cons_zero, List.getElem?_cons_succ] at h0
  have hf := fun k => tz64_16 H k ht
  simp only [go_sem, simprocAttr, hl, h0, hf]
set_option maxRecDepth 20000 in
theorem pow2_16 (H k) : callK Tryd.prog 105 [.int .i64 16] H k = k (.bool true, H, z0) := by
  refine callK_eq (r := (.bool true, H, z0)) ?_ k
  refine callK_start (n := 8) (rs := [.tmp 2]) Tryd.func105 rfl rfl rfl ?_
  intro σ hl ha
  have h0 := ha 0 (by simp)
  clear ha
  simp only [Option.getD_some, List.getElem?_cons_zero, List.getElem?_cons_succ] at h0
  have a1 : evInt .and .i64 16 15 = some (.int .i64 0) := rfl
  simp only [go_sem, simprocAttr, hl, h0, a1]
theorem hexN_pow : ∀ (k n : Nat), n < 16 ^ (k + 1) → (hexN n).length ≤ k + 1
  | 0, n, h => by rw [hexN_small (by simpa using h)]; simp
  | k + 1, n, h => by
    by_cases h0 : n < 16
    · rw [hexN_small h0]; simp
    · rw [hexN_big h0, List.length_append]
      have : n / 16 < 16 ^ (k + 1) := by
        rw [Nat.div_lt_iff_lt_mul (by omega)]
        rw [Nat.pow_succ] at h; exact h
      have := hexN_pow k (n / 16) this
      simp; omega
/-- The row of 65 bytes, the last of them written. -/
def z65 (l : List UInt8) : List AV := u8s (List.replicate (65 - l.length) 0 ++ l)
theorem hexD_str {n : Nat} (h : n < 16) : ([48, 49, 50, 51, 52, 53, 54, 55, 56, 57, 97, 98, 99, 100, 101, 102, 103, 104, 105, 106, 107, 108, 109, 110, 111, 112, 113, 114, 115, 116, 117, 118, 119, 120, 121, 122] : List UInt8)[n]? = some (hexD n) := by
  have : ∀ n : Fin 16, ([48, 49, 50, 51, 52, 53, 54, 55, 56, 57, 97, 98, 99, 100, 101, 102, 103, 104, 105, 106, 107, 108, 109, 110, 111, 112, 113, 114, 115, 116, 117, 118, 119, 120, 121, 122] : List UInt8)[n.val]? = some (hexD n.val) := by decide
  exact this ⟨n, h⟩
theorem z65_put {l : List UInt8} {c : UInt8} (h : l.length < 65) : splice (z65 l) (64 - l.length) [.int .u8 c.toNat] = z65 (c :: l) := by
  unfold z65
  rw [u8s_st (c := 0) (by rw [List.getElem?_append_left (by simp; omega), List.getElem?_replicate_of_lt (by omega)])]
  congr 1
  obtain ⟨m, hm⟩ : ∃ m, 65 - l.length = m + 1 := ⟨64 - l.length, by omega⟩
  have hm2 : 64 - l.length = m := by omega
  have hm3 : 65 - (c :: l).length = m := by simp; omega
  rw [hm3, hm, hm2, List.replicate_succ', List.append_assoc]
  rw [List.set_append_right _ _ (by simp)]
  simp
theorem z65_len (l : List UInt8) (h : l.length ≤ 65) : (z65 l).length = 65 := by simp [z65, u8s]; omega
theorem z65_tail (l : List UInt8) (h : l.length ≤ 65) : (z65 l).drop (65 - l.length) = u8s l := by
  unfold z65
  rw [drop_u8s, List.drop_append_of_le_length (by simp), List.drop_eq_nil_of_le (by simp), List.nil_append]
set_option maxRecDepth 20000 in
set_option maxHeartbeats 1000000 in
theorem fmt_bits16 (n : Nat) (H k) (ht : Db H) (hn : n < 4294967296) : callK Tryd.prog 91 [.nils, .int .u64 (n : Nat), .int .i64 16, .bool false, .bool false] H k = k (.tuple [.nils, .str (hexN n)], H, z0) := by
  refine callK_eq (r := (.tuple [.nils, .str (hexN n)], H, z0)) ?_ k
  refine callK_start (n := 102) (rs := [.tmp 10, .tmp 11]) Tryd.func91 rfl rfl rfl ?_
  intro σ hl ha
  have h0 := ha 0 (by simp)
  have h1 := ha 1 (by simp)
  have h2 := ha 2 (by simp)
  have h3 := ha 3 (by simp)
  have h4 := ha 4 (by simp)
  clear ha
  simp only [Option.getD_some, List.getElem?_cons_zero, List.getElem?_cons_succ] at h0 h1 h2 h3 h4
  have hp := fun H k => pow2_16 H k
  have htz := fun (x : ABlk) k => tz_16 (H ++ [x]) k (ht.old [x])
  simp only [go_sem, simprocAttr, hl, h0, h1, h2, h3, h4, hp, htz]
  have hz : z65 [] = (List.replicate 65 (AV.int .u8 0)) := by simp [z65, u8s]
  refine go_rounds (fun m st => ∃ σ acc e, m < 4294967296 ∧ hexN n = hexN m ++ acc ∧ acc.length + (hexN m).length ≤ 60 ∧ st = ⟨σ, H ++ [.cells (z65 acc) 157 .rw], e⟩ ∧ clean H.length e ∧ σ.length = 102 ∧ fr σ 0 = .nils ∧ fr σ 10 = .nils ∧ fr σ 1 = .int .u64 (m : Nat) ∧ fr σ 3 = .bool false ∧ fr σ 4 = .bool false ∧ fr σ 12 = .ptr H.length 0 ∧ fr σ 13 = .int .i64 ((65 - acc.length : Nat)) ∧ fr σ 14 = .int .u64 4 ∧ fr σ 15 = .int .u64 16 ∧ fr σ 16 = .int .u64 15) n
    ⟨_, [], _, hn, by simp, ?_, rfl, ⟨rfl, rfl⟩, by simp only [go_sem, simprocAttr, hl], by simp only [go_sem, simprocAttr, hl, h0], by simp only [go_sem, simprocAttr, hl], by simp only [go_sem, simprocAttr, hl, h1], by simp only [go_sem, simprocAttr, hl, h3], by simp only [go_sem, simprocAttr, hl, h4], by simp only [go_sem, simprocAttr, hl], by simp only [go_sem, simprocAttr, hl], by simp only [go_sem, simprocAttr, hl], by simp only [go_sem, simprocAttr, hl], by simp only [go_sem, simprocAttr, hl]⟩ ?_
  · have := hexN_pow 8 n (by omega); simp; omega
  clear hl h0 h1 h2 h3 h4
  rintro m _ ⟨σ, acc, e, hm, hd, hal, rfl, he, hl, h0, h10, h1, h3, h4, h12, h13, h14, h15, h16⟩
  have hacc : acc.length ≤ 60 := by omega
  have hpos : 1 ≤ (hexN m).length := by
    unfold hexN; split <;> simp
  have wi : IntKind.i64.wrap (((65 - acc.length : Nat) : Int) - 1) = ((64 - acc.length : Nat) : Int) := by rw [wrap_i64 (by omega)]; omega
  have hzl := z65_len acc (by omega)
  have dlt : 64 - acc.length < 65 := by omega
  have dlt2 : decide (64 - acc.length < 65) = true := by simpa using dlt
  by_cases hge : 16 ≤ m
  · have g1 : decide ((m : Int) ≥ 16) = true := by simp; omega
    have a1 : evInt .and .u64 (m : Int) 15 = some (.int .u64 ((m % 16 : Nat) : Int)) := by
      have : (BitVec.ofInt 64 (m : Int) &&& BitVec.ofInt 64 15).toNat = m % 16 := by
        rw [BitVec.toNat_and, BitVec.ofInt_natCast]
        simp only [BitVec.toNat_ofNat]
        rw [Nat.mod_eq_of_lt (show m < 2 ^ 64 by omega)]
        exact Nat.and_two_pow_sub_one_eq_mod m 4
      show some (AV.int .u64 (IntKind.u64.wrap ((BitVec.ofInt 64 (m : Int) &&& BitVec.ofInt 64 15).toNat : Int))) = _
      rw [this, wrap_u64 (by omega)]
    have a2 : (m : Int).fdiv (2 ^ min 4 64) = ((m / 16 : Nat) : Int) := by
      have : (2 : Int) ^ min 4 64 = 16 := by decide
      rw [this, Int.fdiv_eq_ediv_of_nonneg _ (by omega)]; omega
    have hx := hexD_str (n := m % 16) (by omega)
    have hx2 : m % 16 < 36 := by omega
    have hput := z65_put (l := acc) (c := hexD (m % 16)) (by omega)
    have hbig := hexN_big (n := m) (by omega)
    simp only [go_sem, simprocAttr, hl, h0, h1, h3, h4, h12, h13, h14, h15, h16, g1, wi, a1, a2, hx, hx2, hput, hzl, dlt, dlt2]
    exact ⟨by omega, by omega, m / 16, by omega, _, hexD (m % 16) :: acc, _, by omega, by rw [hd, hbig, List.append_assoc]; rfl, by rw [hbig] at hal; simp at hal ⊢; omega, rfl, by simp only [go_sem, simprocAttr, he], by simp only [go_sem, simprocAttr, hl], by simp only [go_sem, simprocAttr, hl, h0], by simp only [go_sem, simprocAttr, hl, h10], by simp only [go_sem, simprocAttr, hl], by simp only [go_sem, simprocAttr, hl, h3], by simp only [go_sem, simprocAttr, hl, h4], by simp only [go_sem, simprocAttr, hl, h12], by simp only [go_sem, simprocAttr, hl], by simp only [go_sem, simprocAttr, hl, h14], by simp only [go_sem, simprocAttr, hl, h15], by simp only [go_sem, simprocAttr, hl, h16]⟩
  · have g1 : decide ((m : Int) ≥ 16) = false := by simp; omega
    have hx := hexD_str (n := m) (by omega)
    have hx2 : m < 36 := by omega
    have hput := z65_put (l := acc) (c := hexD m) (by omega)
    have hsm := hexN_small (n := m) (by omega)
    have hzl2 := z65_len (hexD m :: acc) (by simp; omega)
    have htl := z65_tail (hexD m :: acc) (by simp; omega)
    have hfin : hexD m :: acc = hexN n := by rw [hd, hsm]; rfl
    simp only [go_sem, simprocAttr, hl, h0, h1, h3, h4, h12, h13, h14, h15, h16, g1, wi, hx, hx2, hput, hzl, dlt, dlt2]
    refine ⟨by omega, by omega, by omega, ?_⟩
    have hrd : ∀ (e : TypeId) (k : Kd), rdC (if 65 = 64 - acc.length then 0 else 64 - acc.length) (65 - (64 - acc.length)) (.cells (z65 (hexD m :: acc)) e k) = some (u8s (hexN n)) := by
      intro e k
      rw [if_neg (by omega), rdC_c, if_pos (by rw [hzl2]; omega), show 64 - acc.length = 65 - (hexD m :: acc).length by simp, htl, hfin]
      rw [List.take_of_length_le (by rw [u8s_len, ← hfin]; simp; omega)]
    simp only [go_sem, simprocAttr, hl, hrd, conv_u8s, h10]
    exact leave_flat rfl (clean_and he (by simp [clean, low]))

set_option maxRecDepth 20000 in
theorem fmt_hex_i (n : Nat) (H k) (ht : Db H) (hn : n < 4294967296) : callK Tryd.prog 70 [.int .u64 (n : Nat), .int .i64 16] H k = k (.str (hexN n), H, z0) := by
  refine callK_eq (r := (.str (hexN n), H, z0)) ?_ k
  refine callK_start (n := 32) (rs := [.tmp 4]) Tryd.func70 rfl rfl rfl ?_
  intro σ hl ha
  have h0 := ha 0 (by simp)
  have h1 := ha 1 (by simp)
  clear ha
  simp only [Option.getD_some, List.getElem?_cons_zero, List.getElem?_cons_succ] at h0 h1
  have hf := fun k => fmt_bits16 n H k ht hn
  simp only [go_sem, simprocAttr, hl, h0, h1, hf]
set_option maxRecDepth 20000 in
theorem fmt_hex (n : Nat) (H k) (ht : Db H) (hn : n < 4294967296) : callK Tryd.prog 32 [.int .u64 (n : Nat), .int .i64 16] H k = k (.str (hexN n), H, z0) := by
  refine callK_eq (r := (.str (hexN n), H, z0)) ?_ k
  refine callK_start (n := 8) (rs := [.tmp 4]) Tryd.func32 rfl rfl rfl ?_
  intro σ hl ha
  have h0 := ha 0 (by simp)
  have h1 := ha 1 (by simp)
  clear ha
  simp only [Option.getD_some, List.getElem?_cons_zero, List.getElem?_cons_succ] at h0 h1
  have hf := fun k => fmt_hex_i n H k ht hn
  simp only [go_sem, simprocAttr, hl, h0, h1, hf]
end Go.Proofs.YtgkpgpdkolpfkaaDoor.V
