/- Escapes of texts, as 'V' runs the program's functions. Printed by gen_esc.py. No conditions. -/
import Derived.Test.YtgkpgpdkolpfkaaDoorWBld
namespace Go.Proofs.YtgkpgpdkolpfkaaDoor.V
open Go
set_option linter.unusedSimpArgs false
set_option linter.unusedVariables false
attribute [local irreducible] go goOps goD opK callK callT stepK leaveTo nextK

/-- A byte of a text, escaped. -/
def escB (q : Bool) (c : UInt8) : List UInt8 :=
  if c.toNat = 34 ∨ c.toNat = 92 then [92, c]
  else if c.toNat = 46 ∨ c.toNat = 59 ∨ c.toNat = 40 ∨ c.toNat = 41 ∨ c.toNat = 64 ∨ c.toNat = 36 then (if q = true then [c] else [92, c])
  else if (32 < c.toNat ∧ c.toNat < 127) ∨ (c.toNat = 32 ∧ q = true) then [c]
  else [92, UInt8.ofNat (48 + c.toNat / 100), UInt8.ofNat (48 + c.toNat / 10 % 10), UInt8.ofNat (48 + c.toNat % 10)]
def escS (q : Bool) (s : List UInt8) : List UInt8 := s.flatMap (escB q)
theorem escB_len (q : Bool) (c : UInt8) : (escB q c).length ≤ 4 := by
  unfold escB; split
  · simp
  split
  · split <;> simp
  split <;> simp
theorem escS_snoc {q : Bool} {s : List UInt8} {i : Nat} {c : UInt8} (h : s[i]? = some c) : escS q (s.take (i + 1)) = escS q (s.take i) ++ escB q c := by
  rw [take_snoc h]; simp [escS]
theorem escS_len (q : Bool) : ∀ (s : List UInt8), (escS q s).length ≤ 4 * s.length
  | [] => by simp [escS]
  | c :: s => by
    have := escS_len q s
    have h := escB_len q c
    have e : escS q (c :: s) = escB q c ++ escS q s := rfl
    rw [e, List.length_append, List.length_cons]; omega

theorem Bld.more {n : Nat} {T : Hp} {j : Nat} {bs : List UInt8} (h : Bld n T j bs) (l : Hp) : Bld n (T ++ l) j bs := by
  obtain ⟨p, v, hj, hp, hv⟩ := h
  refine ⟨p, v, get_app hj, hp, ?_⟩
  obtain h | ⟨q, m, rfl, hm⟩ := hv
  · exact .inl h
  · exact .inr ⟨q, m, rfl, get_app hm⟩
theorem Bld.lt {n : Nat} {T : Hp} {j : Nat} {bs : List UInt8} (h : Bld n T j bs) : j < T.length := by
  obtain ⟨p, v, hj, hp, hv⟩ := h
  exact lt_of_get hj

set_option maxRecDepth 20000 in
theorem b_write (H T : Hp) (j q : Nat) (bs s : List UInt8) (hb : Bld H.length T j bs) (hq : T[q]? = some (.cells (u8s s) 5 .rw)) (hqj : j ≠ q) (hs : 0 < s.length) (hf : fits (bs.length + s.length) 1 = true) :
    ∃ T' e, Bld H.length T' j (bs ++ s) ∧ Keep T j T' ∧ Cl H.length j e ∧ ∀ k, callK Tryd.prog 74 [.ptr (H.length + j) 0, .slice (H.length + q) 0 s.length (.ex s.length)] (H ++ T) k = k (.tuple [.int .i64 s.length, .nili], H ++ T', e) := by
  obtain ⟨p, v, hj, hp, hv⟩ := hb
  have hlt := lt_of_get hj
  obtain ⟨e1, he1, hck⟩ := b_check H T j p v hj hp hv.scl
  have hj1 : (T.set j (.cells [.ptr (H.length + j) 0, v] 78 .rw))[j]? = some (.cells [.ptr (H.length + j) 0, v] 78 .rw) := by rw [List.getElem?_set_self hlt]
  have hq1 : (T.set j (.cells [.ptr (H.length + j) 0, v] 78 .rw))[q]? = some (.cells (u8s s) 5 .rw) := by rw [List.getElem?_set_ne hqj]; exact hq
  have hv1 := hv.set (x := .cells [.ptr (H.length + j) 0, v] 78 .rw) hj
  obtain ⟨v', T2, e2, happ, hlen, hcl, hkeep, hbuf⟩ := hv1.app s hf
  obtain ⟨m, hvm, hm⟩ := hbuf.pos (by simp; omega)
  have hj2 := hkeep j _ hj1 rfl
  have hlt2 := lt_of_get hj2
  have hfl : flat v' = false := by rw [hvm]; simp only [flat]
  have hsc := hbuf.scl
  have hvc : vcells v' = [v'] := by rw [hvm]; rfl
  have hc0 : clean H.length e1 := by
    obtain rfl | h := he1
    · exact ⟨rfl, rfl⟩
    · exact h.cln
  have hcl3 : Cl H.length j ((e1.and e2).and ⟨some (H.length + j), some (H.length + j)⟩) := .andr (clean_and hc0 hcl) ⟨_, rfl, by omega, by omega, by simp [low]⟩
  obtain ⟨e', hE, hleave⟩ := hcl3.leave (m := H.length + T.length) (by omega)
  refine ⟨T2.set j (.cells [.ptr (H.length + j) 0, v'] 78 .rw), e', ⟨_, v', by rw [List.getElem?_set_self hlt2], .inr rfl, hbuf.set hj2⟩, ⟨by simp at hlen ⊢; omega, fun i x hi hx hf => ?_⟩, hE, fun k => ?_⟩
  · rw [List.getElem?_set_ne (Ne.symm hi)]
    exact hkeep i x (by rw [List.getElem?_set_ne (Ne.symm hi)]; exact hx) hf
  have hrd := fun (e : TypeId) (k : Kd) => rdC_u8s (s := s) (e := e) (k := k) (n := s.length) rfl
  refine callK_eq ?_ k
  refine callK_start (n := 19) (rs := [.tmp 4, .tmp 5]) Tryd.func74 rfl rfl rfl ?_
  intro σ hl ha
  have h0 := ha 0 (by simp)
  have h1 := ha 1 (by simp)
  clear ha
  simp only [Option.getD_some, List.getElem?_cons_zero, List.getElem?_cons_succ] at h0 h1
  have d1 : decide (j < T.length) = true := by simpa using hlt
  have d2 : decide (j < T2.length) = true := by simpa using hlt2
  simp only [go_sem, simprocAttr, hl, h0, h1, hck, d1, d2, hj1, hj2, hq1, hrd, Nat.mul_one, happ, hvc, hsc, hfl]
  exact hleave _ _
theorem b_wlit (H T : Hp) (j : Nat) (bs : List UInt8) (c : UInt8) (n : Int) (hn : n = c.toNat) (hb : Bld H.length T j bs) (hf : fits (bs.length + 1) 1 = true) :
    ∃ T' e, Bld H.length T' j (bs ++ [c]) ∧ Keep T j T' ∧ Cl H.length j e ∧ ∀ k, callK Tryd.prog 37 [.ptr (H.length + j) 0, .int .u8 n] (H ++ T) k = k (.nili, H ++ T', e) := by
  subst hn
  exact b_wbyte H T j bs c hb hf
theorem bslice4 (a b c d : Int) (H : Hp) : evBuildSlice Tryd.prog 31 4 [(0, .int .u8 a), (1, .int .u8 b), (2, .int .u8 c), (3, .int .u8 d)] H = some (.slice H.length 0 4 (.ex 4), H ++ [.cells [.int .u8 a, .int .u8 b, .int .u8 c, .int .u8 d] 5 .rw]) := by
  simp only [evBuildSlice, tsh_31, tzero_5, Option.bind_some]
  rfl
theorem dg_a {n : Nat} (h : n < 256) : IntKind.u8.wrap (48 + IntKind.u8.wrap ((n : Int).tdiv 100)) = ((UInt8.ofNat (48 + n / 100)).toNat : Int) := by
  have e : (n : Int).tdiv 100 = ((n / 100 : Nat) : Int) := rfl
  rw [e, show IntKind.u8.wrap ((n / 100 : Nat) : Int) = ((n / 100 : Nat) : Int) from wrap_u8 (by omega), ofNat_le (m := 255) (by omega) (by omega), wrap_u8 (by omega)]; omega
theorem dg_b {n : Nat} (h : n < 256) : IntKind.u8.wrap (48 + (IntKind.u8.wrap ((n : Int).tdiv 10)).tmod 10) = ((UInt8.ofNat (48 + n / 10 % 10)).toNat : Int) := by
  have e : (n : Int).tdiv 10 = ((n / 10 : Nat) : Int) := rfl
  rw [e, show IntKind.u8.wrap ((n / 10 : Nat) : Int) = ((n / 10 : Nat) : Int) from wrap_u8 (by omega)]
  have e : ((n / 10 : Nat) : Int).tmod 10 = ((n / 10 % 10 : Nat) : Int) := rfl
  rw [e, ofNat_le (m := 255) (by omega) (by omega), wrap_u8 (by omega)]; omega
theorem dg_c {n : Nat} (h : n < 256) : IntKind.u8.wrap (48 + (n : Int).tmod 10) = ((UInt8.ofNat (48 + n % 10)).toNat : Int) := by
  have e : (n : Int).tmod 10 = ((n % 10 : Nat) : Int) := rfl
  rw [e, ofNat_le (m := 255) (by omega) (by omega), wrap_u8 (by omega)]; omega

set_option maxRecDepth 20000 in
set_option maxHeartbeats 2000000 in
theorem name_Escape (s : List UInt8) (q : Bool) (H k) (hs : s.length ≤ 1000000) : callK Tryd.prog 36 [.str s, .bool q] H k = k (.str (escS q s), H, z0) := by
  refine callK_eq (r := (.str (escS q s), H, z0)) ?_ k
  refine callK_start (n := 63) (rs := [.tmp 4]) Tryd.func36 rfl rfl rfl ?_
  intro σ hl ha
  have h0 := ha 0 (by simp)
  have h1 := ha 1 (by simp)
  clear ha
  simp only [Option.getD_some, List.getElem?_cons_zero, List.getElem?_cons_succ] at h0 h1
  have hb0 : Bld H.length [.cells [.nilp, .nils] 78 .rw] 0 (escS q (s.take 0)) := ⟨_, _, rfl, .inl rfl, .inl ⟨rfl, rfl⟩⟩
  simp only [go_sem, simprocAttr, hl, h0, h1]
  refine go_rounds (fun n st => ∃ σ i T e, n + i = s.length ∧ st = ⟨σ, H ++ T, e⟩ ∧ Bld H.length T 0 (escS q (s.take i)) ∧ clean H.length e ∧ σ.length = 63 ∧ fr σ 0 = .str s ∧ fr σ 1 = .bool q ∧ fr σ 5 = .ptr H.length 0 ∧ fr σ 10 = .int .i64 s.length ∧ fr σ 11 = .int .i64 (i : Nat)) s.length
    ⟨_, 0, _, _, rfl, rfl, hb0, ⟨rfl, rfl⟩, by simp only [go_sem, simprocAttr, hl], by simp only [go_sem, simprocAttr, hl, h0], by simp only [go_sem, simprocAttr, hl, h1], by simp only [go_sem, simprocAttr, hl], by simp only [go_sem, simprocAttr, hl], by simp only [go_sem, simprocAttr, hl]⟩ ?_
  rintro n _ ⟨σ, i, T, e, hn, rfl, hb, he, hl, h0, h1, h5, h10, h11⟩
  by_cases hlt : i < s.length
  · obtain ⟨c, hc⟩ : ∃ c, s[i]? = some c := ⟨_, List.getElem?_eq_getElem hlt⟩
    have hcl := c.toNat_lt
    have hw := wrap_succ (show i < 9223372036854775807 by omega)
    have hsn := escS_snoc (q := q) hc
    have hbl : (escS q (s.take i)).length ≤ 4000000 := by
      have := escS_len q (s.take i)
      rw [List.length_take] at this; omega
    have hT := hb.lt
    generalize hB : escS q (s.take i) = B at *
    by_cases q34 : c.toNat = 34
    · have hE : escB q c = [92, c] := by unfold escB; exact if_pos (by omega)
      have g46 : ((c.toNat : Int) == 46) = false := by simp; omega
      have g59 : ((c.toNat : Int) == 59) = false := by simp; omega
      have g40 : ((c.toNat : Int) == 40) = false := by simp; omega
      have g41 : ((c.toNat : Int) == 41) = false := by simp; omega
      have g64 : ((c.toNat : Int) == 64) = false := by simp; omega
      have g36 : ((c.toNat : Int) == 36) = false := by simp; omega
      have g34 : ((c.toNat : Int) == 34) = true := by simp; omega
      have g92 : ((c.toNat : Int) == 92) = false := by simp; omega
      obtain ⟨T1, e1, b1, k1, c1, r1⟩ := b_wlit H T 0 (B) 92 92 rfl hb (by simp only [fits, decide_eq_true_eq, List.length_append, List.length_cons, List.length_nil] at *; omega)
      have c1 := c1.cln
      simp only [Nat.add_zero] at r1
      obtain ⟨T2, e2, b2, k2, c2, r2⟩ := b_wlit H T1 0 (B ++ [92]) c c.toNat rfl b1 (by simp only [fits, decide_eq_true_eq, List.length_append, List.length_cons, List.length_nil] at *; omega)
      have c2 := c2.cln
      simp only [Nat.add_zero] at r2
      simp only [go_sem, simprocAttr, hl, h0, h1, h5, h10, h11, hc, hlt, hw, bslice4, g46, g59, g40, g41, g64, g36, g34, g92, r1, r2]
      refine ⟨n - 1, by omega, _, i + 1, T2, _, by omega, rfl, ?_, by simp only [go_sem, simprocAttr, he, c1, c2], by simp only [go_sem, simprocAttr, hl], by simp only [go_sem, simprocAttr, hl, h0], by simp only [go_sem, simprocAttr, hl, h1], by simp only [go_sem, simprocAttr, hl, h5], by simp only [go_sem, simprocAttr, hl, h10], by simp only [go_sem, simprocAttr, hl]⟩
      rw [hsn, hE]; simpa [List.append_assoc] using b2
    by_cases q92 : c.toNat = 92
    · have hE : escB q c = [92, c] := by unfold escB; exact if_pos (by omega)
      have g46 : ((c.toNat : Int) == 46) = false := by simp; omega
      have g59 : ((c.toNat : Int) == 59) = false := by simp; omega
      have g40 : ((c.toNat : Int) == 40) = false := by simp; omega
      have g41 : ((c.toNat : Int) == 41) = false := by simp; omega
      have g64 : ((c.toNat : Int) == 64) = false := by simp; omega
      have g36 : ((c.toNat : Int) == 36) = false := by simp; omega
      have g34 : ((c.toNat : Int) == 34) = false := by simp; omega
      have g92 : ((c.toNat : Int) == 92) = true := by simp; omega
      obtain ⟨T1, e1, b1, k1, c1, r1⟩ := b_wlit H T 0 (B) 92 92 rfl hb (by simp only [fits, decide_eq_true_eq, List.length_append, List.length_cons, List.length_nil] at *; omega)
      have c1 := c1.cln
      simp only [Nat.add_zero] at r1
      obtain ⟨T2, e2, b2, k2, c2, r2⟩ := b_wlit H T1 0 (B ++ [92]) c c.toNat rfl b1 (by simp only [fits, decide_eq_true_eq, List.length_append, List.length_cons, List.length_nil] at *; omega)
      have c2 := c2.cln
      simp only [Nat.add_zero] at r2
      simp only [go_sem, simprocAttr, hl, h0, h1, h5, h10, h11, hc, hlt, hw, bslice4, g46, g59, g40, g41, g64, g36, g34, g92, r1, r2]
      refine ⟨n - 1, by omega, _, i + 1, T2, _, by omega, rfl, ?_, by simp only [go_sem, simprocAttr, he, c1, c2], by simp only [go_sem, simprocAttr, hl], by simp only [go_sem, simprocAttr, hl, h0], by simp only [go_sem, simprocAttr, hl, h1], by simp only [go_sem, simprocAttr, hl, h5], by simp only [go_sem, simprocAttr, hl, h10], by simp only [go_sem, simprocAttr, hl]⟩
      rw [hsn, hE]; simpa [List.append_assoc] using b2
    by_cases q46 : c.toNat = 46
    · have hE : escB q c = if q = true then [c] else [92, c] := by unfold escB; rw [if_neg (by omega), if_pos (by omega)]
      have g46 : ((c.toNat : Int) == 46) = true := by simp; omega
      have g59 : ((c.toNat : Int) == 59) = false := by simp; omega
      have g40 : ((c.toNat : Int) == 40) = false := by simp; omega
      have g41 : ((c.toNat : Int) == 41) = false := by simp; omega
      have g64 : ((c.toNat : Int) == 64) = false := by simp; omega
      have g36 : ((c.toNat : Int) == 36) = false := by simp; omega
      have g34 : ((c.toNat : Int) == 34) = false := by simp; omega
      have g92 : ((c.toNat : Int) == 92) = false := by simp; omega
      cases q
      · rw [if_neg (by simp)] at hE
        obtain ⟨T1, e1, b1, k1, c1, r1⟩ := b_wlit H T 0 (B) 92 92 rfl hb (by simp only [fits, decide_eq_true_eq, List.length_append, List.length_cons, List.length_nil] at *; omega)
        have c1 := c1.cln
        simp only [Nat.add_zero] at r1
        obtain ⟨T2, e2, b2, k2, c2, r2⟩ := b_wlit H T1 0 (B ++ [92]) c c.toNat rfl b1 (by simp only [fits, decide_eq_true_eq, List.length_append, List.length_cons, List.length_nil] at *; omega)
        have c2 := c2.cln
        simp only [Nat.add_zero] at r2
        simp only [go_sem, simprocAttr, hl, h0, h1, h5, h10, h11, hc, hlt, hw, bslice4, g46, g59, g40, g41, g64, g36, g34, g92, r1, r2]
        refine ⟨n - 1, by omega, _, i + 1, T2, _, by omega, rfl, ?_, by simp only [go_sem, simprocAttr, he, c1, c2], by simp only [go_sem, simprocAttr, hl], by simp only [go_sem, simprocAttr, hl, h0], by simp only [go_sem, simprocAttr, hl, h1], by simp only [go_sem, simprocAttr, hl, h5], by simp only [go_sem, simprocAttr, hl, h10], by simp only [go_sem, simprocAttr, hl]⟩
        rw [hsn, hE]; simpa [List.append_assoc] using b2
      · rw [if_pos rfl] at hE
        obtain ⟨T1, e1, b1, k1, c1, r1⟩ := b_wlit H T 0 (B) c c.toNat rfl hb (by simp only [fits, decide_eq_true_eq, List.length_append, List.length_cons, List.length_nil] at *; omega)
        have c1 := c1.cln
        simp only [Nat.add_zero] at r1
        simp only [go_sem, simprocAttr, hl, h0, h1, h5, h10, h11, hc, hlt, hw, bslice4, g46, g59, g40, g41, g64, g36, g34, g92, r1]
        refine ⟨n - 1, by omega, _, i + 1, T1, _, by omega, rfl, ?_, by simp only [go_sem, simprocAttr, he, c1], by simp only [go_sem, simprocAttr, hl], by simp only [go_sem, simprocAttr, hl, h0], by simp only [go_sem, simprocAttr, hl, h1], by simp only [go_sem, simprocAttr, hl, h5], by simp only [go_sem, simprocAttr, hl, h10], by simp only [go_sem, simprocAttr, hl]⟩
        rw [hsn, hE]; simpa [List.append_assoc] using b1
    by_cases q59 : c.toNat = 59
    · have hE : escB q c = if q = true then [c] else [92, c] := by unfold escB; rw [if_neg (by omega), if_pos (by omega)]
      have g46 : ((c.toNat : Int) == 46) = false := by simp; omega
      have g59 : ((c.toNat : Int) == 59) = true := by simp; omega
      have g40 : ((c.toNat : Int) == 40) = false := by simp; omega
      have g41 : ((c.toNat : Int) == 41) = false := by simp; omega
      have g64 : ((c.toNat : Int) == 64) = false := by simp; omega
      have g36 : ((c.toNat : Int) == 36) = false := by simp; omega
      have g34 : ((c.toNat : Int) == 34) = false := by simp; omega
      have g92 : ((c.toNat : Int) == 92) = false := by simp; omega
      cases q
      · rw [if_neg (by simp)] at hE
        obtain ⟨T1, e1, b1, k1, c1, r1⟩ := b_wlit H T 0 (B) 92 92 rfl hb (by simp only [fits, decide_eq_true_eq, List.length_append, List.length_cons, List.length_nil] at *; omega)
        have c1 := c1.cln
        simp only [Nat.add_zero] at r1
        obtain ⟨T2, e2, b2, k2, c2, r2⟩ := b_wlit H T1 0 (B ++ [92]) c c.toNat rfl b1 (by simp only [fits, decide_eq_true_eq, List.length_append, List.length_cons, List.length_nil] at *; omega)
        have c2 := c2.cln
        simp only [Nat.add_zero] at r2
        simp only [go_sem, simprocAttr, hl, h0, h1, h5, h10, h11, hc, hlt, hw, bslice4, g46, g59, g40, g41, g64, g36, g34, g92, r1, r2]
        refine ⟨n - 1, by omega, _, i + 1, T2, _, by omega, rfl, ?_, by simp only [go_sem, simprocAttr, he, c1, c2], by simp only [go_sem, simprocAttr, hl], by simp only [go_sem, simprocAttr, hl, h0], by simp only [go_sem, simprocAttr, hl, h1], by simp only [go_sem, simprocAttr, hl, h5], by simp only [go_sem, simprocAttr, hl, h10], by simp only [go_sem, simprocAttr, hl]⟩
        rw [hsn, hE]; simpa [List.append_assoc] using b2
      · rw [if_pos rfl] at hE
        obtain ⟨T1, e1, b1, k1, c1, r1⟩ := b_wlit H T 0 (B) c c.toNat rfl hb (by simp only [fits, decide_eq_true_eq, List.length_append, List.length_cons, List.length_nil] at *; omega)
        have c1 := c1.cln
        simp only [Nat.add_zero] at r1
        simp only [go_sem, simprocAttr, hl, h0, h1, h5, h10, h11, hc, hlt, hw, bslice4, g46, g59, g40, g41, g64, g36, g34, g92, r1]
        refine ⟨n - 1, by omega, _, i + 1, T1, _, by omega, rfl, ?_, by simp only [go_sem, simprocAttr, he, c1], by simp only [go_sem, simprocAttr, hl], by simp only [go_sem, simprocAttr, hl, h0], by simp only [go_sem, simprocAttr, hl, h1], by simp only [go_sem, simprocAttr, hl, h5], by simp only [go_sem, simprocAttr, hl, h10], by simp only [go_sem, simprocAttr, hl]⟩
        rw [hsn, hE]; simpa [List.append_assoc] using b1
    by_cases q40 : c.toNat = 40
    · have hE : escB q c = if q = true then [c] else [92, c] := by unfold escB; rw [if_neg (by omega), if_pos (by omega)]
      have g46 : ((c.toNat : Int) == 46) = false := by simp; omega
      have g59 : ((c.toNat : Int) == 59) = false := by simp; omega
      have g40 : ((c.toNat : Int) == 40) = true := by simp; omega
      have g41 : ((c.toNat : Int) == 41) = false := by simp; omega
      have g64 : ((c.toNat : Int) == 64) = false := by simp; omega
      have g36 : ((c.toNat : Int) == 36) = false := by simp; omega
      have g34 : ((c.toNat : Int) == 34) = false := by simp; omega
      have g92 : ((c.toNat : Int) == 92) = false := by simp; omega
      cases q
      · rw [if_neg (by simp)] at hE
        obtain ⟨T1, e1, b1, k1, c1, r1⟩ := b_wlit H T 0 (B) 92 92 rfl hb (by simp only [fits, decide_eq_true_eq, List.length_append, List.length_cons, List.length_nil] at *; omega)
        have c1 := c1.cln
        simp only [Nat.add_zero] at r1
        obtain ⟨T2, e2, b2, k2, c2, r2⟩ := b_wlit H T1 0 (B ++ [92]) c c.toNat rfl b1 (by simp only [fits, decide_eq_true_eq, List.length_append, List.length_cons, List.length_nil] at *; omega)
        have c2 := c2.cln
        simp only [Nat.add_zero] at r2
        simp only [go_sem, simprocAttr, hl, h0, h1, h5, h10, h11, hc, hlt, hw, bslice4, g46, g59, g40, g41, g64, g36, g34, g92, r1, r2]
        refine ⟨n - 1, by omega, _, i + 1, T2, _, by omega, rfl, ?_, by simp only [go_sem, simprocAttr, he, c1, c2], by simp only [go_sem, simprocAttr, hl], by simp only [go_sem, simprocAttr, hl, h0], by simp only [go_sem, simprocAttr, hl, h1], by simp only [go_sem, simprocAttr, hl, h5], by simp only [go_sem, simprocAttr, hl, h10], by simp only [go_sem, simprocAttr, hl]⟩
        rw [hsn, hE]; simpa [List.append_assoc] using b2
      · rw [if_pos rfl] at hE
        obtain ⟨T1, e1, b1, k1, c1, r1⟩ := b_wlit H T 0 (B) c c.toNat rfl hb (by simp only [fits, decide_eq_true_eq, List.length_append, List.length_cons, List.length_nil] at *; omega)
        have c1 := c1.cln
        simp only [Nat.add_zero] at r1
        simp only [go_sem, simprocAttr, hl, h0, h1, h5, h10, h11, hc, hlt, hw, bslice4, g46, g59, g40, g41, g64, g36, g34, g92, r1]
        refine ⟨n - 1, by omega, _, i + 1, T1, _, by omega, rfl, ?_, by simp only [go_sem, simprocAttr, he, c1], by simp only [go_sem, simprocAttr, hl], by simp only [go_sem, simprocAttr, hl, h0], by simp only [go_sem, simprocAttr, hl, h1], by simp only [go_sem, simprocAttr, hl, h5], by simp only [go_sem, simprocAttr, hl, h10], by simp only [go_sem, simprocAttr, hl]⟩
        rw [hsn, hE]; simpa [List.append_assoc] using b1
    by_cases q41 : c.toNat = 41
    · have hE : escB q c = if q = true then [c] else [92, c] := by unfold escB; rw [if_neg (by omega), if_pos (by omega)]
      have g46 : ((c.toNat : Int) == 46) = false := by simp; omega
      have g59 : ((c.toNat : Int) == 59) = false := by simp; omega
      have g40 : ((c.toNat : Int) == 40) = false := by simp; omega
      have g41 : ((c.toNat : Int) == 41) = true := by simp; omega
      have g64 : ((c.toNat : Int) == 64) = false := by simp; omega
      have g36 : ((c.toNat : Int) == 36) = false := by simp; omega
      have g34 : ((c.toNat : Int) == 34) = false := by simp; omega
      have g92 : ((c.toNat : Int) == 92) = false := by simp; omega
      cases q
      · rw [if_neg (by simp)] at hE
        obtain ⟨T1, e1, b1, k1, c1, r1⟩ := b_wlit H T 0 (B) 92 92 rfl hb (by simp only [fits, decide_eq_true_eq, List.length_append, List.length_cons, List.length_nil] at *; omega)
        have c1 := c1.cln
        simp only [Nat.add_zero] at r1
        obtain ⟨T2, e2, b2, k2, c2, r2⟩ := b_wlit H T1 0 (B ++ [92]) c c.toNat rfl b1 (by simp only [fits, decide_eq_true_eq, List.length_append, List.length_cons, List.length_nil] at *; omega)
        have c2 := c2.cln
        simp only [Nat.add_zero] at r2
        simp only [go_sem, simprocAttr, hl, h0, h1, h5, h10, h11, hc, hlt, hw, bslice4, g46, g59, g40, g41, g64, g36, g34, g92, r1, r2]
        refine ⟨n - 1, by omega, _, i + 1, T2, _, by omega, rfl, ?_, by simp only [go_sem, simprocAttr, he, c1, c2], by simp only [go_sem, simprocAttr, hl], by simp only [go_sem, simprocAttr, hl, h0], by simp only [go_sem, simprocAttr, hl, h1], by simp only [go_sem, simprocAttr, hl, h5], by simp only [go_sem, simprocAttr, hl, h10], by simp only [go_sem, simprocAttr, hl]⟩
        rw [hsn, hE]; simpa [List.append_assoc] using b2
      · rw [if_pos rfl] at hE
        obtain ⟨T1, e1, b1, k1, c1, r1⟩ := b_wlit H T 0 (B) c c.toNat rfl hb (by simp only [fits, decide_eq_true_eq, List.length_append, List.length_cons, List.length_nil] at *; omega)
        have c1 := c1.cln
        simp only [Nat.add_zero] at r1
        simp only [go_sem, simprocAttr, hl, h0, h1, h5, h10, h11, hc, hlt, hw, bslice4, g46, g59, g40, g41, g64, g36, g34, g92, r1]
        refine ⟨n - 1, by omega, _, i + 1, T1, _, by omega, rfl, ?_, by simp only [go_sem, simprocAttr, he, c1], by simp only [go_sem, simprocAttr, hl], by simp only [go_sem, simprocAttr, hl, h0], by simp only [go_sem, simprocAttr, hl, h1], by simp only [go_sem, simprocAttr, hl, h5], by simp only [go_sem, simprocAttr, hl, h10], by simp only [go_sem, simprocAttr, hl]⟩
        rw [hsn, hE]; simpa [List.append_assoc] using b1
    by_cases q64 : c.toNat = 64
    · have hE : escB q c = if q = true then [c] else [92, c] := by unfold escB; rw [if_neg (by omega), if_pos (by omega)]
      have g46 : ((c.toNat : Int) == 46) = false := by simp; omega
      have g59 : ((c.toNat : Int) == 59) = false := by simp; omega
      have g40 : ((c.toNat : Int) == 40) = false := by simp; omega
      have g41 : ((c.toNat : Int) == 41) = false := by simp; omega
      have g64 : ((c.toNat : Int) == 64) = true := by simp; omega
      have g36 : ((c.toNat : Int) == 36) = false := by simp; omega
      have g34 : ((c.toNat : Int) == 34) = false := by simp; omega
      have g92 : ((c.toNat : Int) == 92) = false := by simp; omega
      cases q
      · rw [if_neg (by simp)] at hE
        obtain ⟨T1, e1, b1, k1, c1, r1⟩ := b_wlit H T 0 (B) 92 92 rfl hb (by simp only [fits, decide_eq_true_eq, List.length_append, List.length_cons, List.length_nil] at *; omega)
        have c1 := c1.cln
        simp only [Nat.add_zero] at r1
        obtain ⟨T2, e2, b2, k2, c2, r2⟩ := b_wlit H T1 0 (B ++ [92]) c c.toNat rfl b1 (by simp only [fits, decide_eq_true_eq, List.length_append, List.length_cons, List.length_nil] at *; omega)
        have c2 := c2.cln
        simp only [Nat.add_zero] at r2
        simp only [go_sem, simprocAttr, hl, h0, h1, h5, h10, h11, hc, hlt, hw, bslice4, g46, g59, g40, g41, g64, g36, g34, g92, r1, r2]
        refine ⟨n - 1, by omega, _, i + 1, T2, _, by omega, rfl, ?_, by simp only [go_sem, simprocAttr, he, c1, c2], by simp only [go_sem, simprocAttr, hl], by simp only [go_sem, simprocAttr, hl, h0], by simp only [go_sem, simprocAttr, hl, h1], by simp only [go_sem, simprocAttr, hl, h5], by simp only [go_sem, simprocAttr, hl, h10], by simp only [go_sem, simprocAttr, hl]⟩
        rw [hsn, hE]; simpa [List.append_assoc] using b2
      · rw [if_pos rfl] at hE
        obtain ⟨T1, e1, b1, k1, c1, r1⟩ := b_wlit H T 0 (B) c c.toNat rfl hb (by simp only [fits, decide_eq_true_eq, List.length_append, List.length_cons, List.length_nil] at *; omega)
        have c1 := c1.cln
        simp only [Nat.add_zero] at r1
        simp only [go_sem, simprocAttr, hl, h0, h1, h5, h10, h11, hc, hlt, hw, bslice4, g46, g59, g40, g41, g64, g36, g34, g92, r1]
        refine ⟨n - 1, by omega, _, i + 1, T1, _, by omega, rfl, ?_, by simp only [go_sem, simprocAttr, he, c1], by simp only [go_sem, simprocAttr, hl], by simp only [go_sem, simprocAttr, hl, h0], by simp only [go_sem, simprocAttr, hl, h1], by simp only [go_sem, simprocAttr, hl, h5], by simp only [go_sem, simprocAttr, hl, h10], by simp only [go_sem, simprocAttr, hl]⟩
        rw [hsn, hE]; simpa [List.append_assoc] using b1
    by_cases q36 : c.toNat = 36
    · have hE : escB q c = if q = true then [c] else [92, c] := by unfold escB; rw [if_neg (by omega), if_pos (by omega)]
      have g46 : ((c.toNat : Int) == 46) = false := by simp; omega
      have g59 : ((c.toNat : Int) == 59) = false := by simp; omega
      have g40 : ((c.toNat : Int) == 40) = false := by simp; omega
      have g41 : ((c.toNat : Int) == 41) = false := by simp; omega
      have g64 : ((c.toNat : Int) == 64) = false := by simp; omega
      have g36 : ((c.toNat : Int) == 36) = true := by simp; omega
      have g34 : ((c.toNat : Int) == 34) = false := by simp; omega
      have g92 : ((c.toNat : Int) == 92) = false := by simp; omega
      cases q
      · rw [if_neg (by simp)] at hE
        obtain ⟨T1, e1, b1, k1, c1, r1⟩ := b_wlit H T 0 (B) 92 92 rfl hb (by simp only [fits, decide_eq_true_eq, List.length_append, List.length_cons, List.length_nil] at *; omega)
        have c1 := c1.cln
        simp only [Nat.add_zero] at r1
        obtain ⟨T2, e2, b2, k2, c2, r2⟩ := b_wlit H T1 0 (B ++ [92]) c c.toNat rfl b1 (by simp only [fits, decide_eq_true_eq, List.length_append, List.length_cons, List.length_nil] at *; omega)
        have c2 := c2.cln
        simp only [Nat.add_zero] at r2
        simp only [go_sem, simprocAttr, hl, h0, h1, h5, h10, h11, hc, hlt, hw, bslice4, g46, g59, g40, g41, g64, g36, g34, g92, r1, r2]
        refine ⟨n - 1, by omega, _, i + 1, T2, _, by omega, rfl, ?_, by simp only [go_sem, simprocAttr, he, c1, c2], by simp only [go_sem, simprocAttr, hl], by simp only [go_sem, simprocAttr, hl, h0], by simp only [go_sem, simprocAttr, hl, h1], by simp only [go_sem, simprocAttr, hl, h5], by simp only [go_sem, simprocAttr, hl, h10], by simp only [go_sem, simprocAttr, hl]⟩
        rw [hsn, hE]; simpa [List.append_assoc] using b2
      · rw [if_pos rfl] at hE
        obtain ⟨T1, e1, b1, k1, c1, r1⟩ := b_wlit H T 0 (B) c c.toNat rfl hb (by simp only [fits, decide_eq_true_eq, List.length_append, List.length_cons, List.length_nil] at *; omega)
        have c1 := c1.cln
        simp only [Nat.add_zero] at r1
        simp only [go_sem, simprocAttr, hl, h0, h1, h5, h10, h11, hc, hlt, hw, bslice4, g46, g59, g40, g41, g64, g36, g34, g92, r1]
        refine ⟨n - 1, by omega, _, i + 1, T1, _, by omega, rfl, ?_, by simp only [go_sem, simprocAttr, he, c1], by simp only [go_sem, simprocAttr, hl], by simp only [go_sem, simprocAttr, hl, h0], by simp only [go_sem, simprocAttr, hl, h1], by simp only [go_sem, simprocAttr, hl, h5], by simp only [go_sem, simprocAttr, hl, h10], by simp only [go_sem, simprocAttr, hl]⟩
        rw [hsn, hE]; simpa [List.append_assoc] using b1
    have g46 : ((c.toNat : Int) == 46) = false := by simp; omega
    have g59 : ((c.toNat : Int) == 59) = false := by simp; omega
    have g40 : ((c.toNat : Int) == 40) = false := by simp; omega
    have g41 : ((c.toNat : Int) == 41) = false := by simp; omega
    have g64 : ((c.toNat : Int) == 64) = false := by simp; omega
    have g36 : ((c.toNat : Int) == 36) = false := by simp; omega
    have g34 : ((c.toNat : Int) == 34) = false := by simp; omega
    have g92 : ((c.toNat : Int) == 92) = false := by simp; omega
    have hE : escB q c = if (32 < c.toNat ∧ c.toNat < 127) ∨ (c.toNat = 32 ∧ q = true) then [c] else [92, UInt8.ofNat (48 + c.toNat / 100), UInt8.ofNat (48 + c.toNat / 10 % 10), UInt8.ofNat (48 + c.toNat % 10)] := by unfold escB; rw [if_neg (by omega), if_neg (by omega)]
    by_cases hp : 32 < c.toNat ∧ c.toNat < 127
    · rw [if_pos (.inl hp)] at hE
      have p0 : decide ((c.toNat : Int) > 32) = true := by simp; omega
      have p1 : decide ((c.toNat : Int) < 127) = true := by simp; omega
      have p2 : ((c.toNat : Int) == 32) = false := by simp; omega
      obtain ⟨T1, e1, b1, k1, c1, r1⟩ := b_wlit H T 0 (B) c c.toNat rfl hb (by simp only [fits, decide_eq_true_eq, List.length_append, List.length_cons, List.length_nil] at *; omega)
      have c1 := c1.cln
      simp only [Nat.add_zero] at r1
      simp only [go_sem, simprocAttr, hl, h0, h1, h5, h10, h11, hc, hlt, hw, bslice4, g46, g59, g40, g41, g64, g36, g34, g92, p0, p1, p2, r1]
      refine ⟨n - 1, by omega, _, i + 1, T1, _, by omega, rfl, ?_, by simp only [go_sem, simprocAttr, he, c1], by simp only [go_sem, simprocAttr, hl], by simp only [go_sem, simprocAttr, hl, h0], by simp only [go_sem, simprocAttr, hl, h1], by simp only [go_sem, simprocAttr, hl, h5], by simp only [go_sem, simprocAttr, hl, h10], by simp only [go_sem, simprocAttr, hl]⟩
      rw [hsn, hE]; simpa [List.append_assoc] using b1
    by_cases hz : c.toNat = 32
    · have p0 : decide ((c.toNat : Int) > 32) = false := by simp; omega
      have p1 : decide ((c.toNat : Int) < 127) = true := by simp; omega
      have p2 : ((c.toNat : Int) == 32) = true := by simp; omega
      cases q
      · rw [if_neg (by simp; omega)] at hE
        have hb' := hb.more [.cells (u8s [92, UInt8.ofNat (48 + c.toNat / 100), UInt8.ofNat (48 + c.toNat / 10 % 10), UInt8.ofNat (48 + c.toNat % 10)]) 5 .rw]
        obtain ⟨T1, e1, b1, k1, c1, r1⟩ := b_write H (T ++ [.cells (u8s [92, UInt8.ofNat (48 + c.toNat / 100), UInt8.ofNat (48 + c.toNat / 10 % 10), UInt8.ofNat (48 + c.toNat % 10)]) 5 .rw]) 0 T.length (B) [92, UInt8.ofNat (48 + c.toNat / 100), UInt8.ofNat (48 + c.toNat / 10 % 10), UInt8.ofNat (48 + c.toNat % 10)] hb' (by simp) (by omega) (by simp) (by simp only [fits, decide_eq_true_eq, List.length_append, List.length_cons, List.length_nil] at *; omega)
        simp only [u8s, List.map_cons, List.map_nil, List.length_cons, List.length_nil, ← dg_a hcl, ← dg_b hcl, ← dg_c hcl] at r1
        have r1 : ∀ k, callK Tryd.prog 74 [.ptr (H.length + 0) 0, .slice (H.length + T.length) 0 4 (.ex 4)] (H ++ (T ++ [.cells [.int .u8 92, .int .u8 (IntKind.u8.wrap (48 + IntKind.u8.wrap ((c.toNat : Int).tdiv 100))), .int .u8 (IntKind.u8.wrap (48 + (IntKind.u8.wrap ((c.toNat : Int).tdiv 10)).tmod 10)), .int .u8 (IntKind.u8.wrap (48 + (c.toNat : Int).tmod 10))] 5 .rw])) k = k (.tuple [.int .i64 4, .nili], H ++ T1, e1) := r1
        have c1 := c1.cln
        simp only [Nat.add_zero] at r1
        simp only [go_sem, simprocAttr, hl, h0, h1, h5, h10, h11, hc, hlt, hw, bslice4, g46, g59, g40, g41, g64, g36, g34, g92, p0, p1, p2, r1]
        refine ⟨n - 1, by omega, _, i + 1, T1, _, by omega, rfl, ?_, by simp only [go_sem, simprocAttr, he, c1], by simp only [go_sem, simprocAttr, hl], by simp only [go_sem, simprocAttr, hl, h0], by simp only [go_sem, simprocAttr, hl, h1], by simp only [go_sem, simprocAttr, hl, h5], by simp only [go_sem, simprocAttr, hl, h10], by simp only [go_sem, simprocAttr, hl]⟩
        rw [hsn, hE]; simpa [List.append_assoc] using b1
      · rw [if_pos (.inr ⟨hz, rfl⟩)] at hE
        obtain ⟨T1, e1, b1, k1, c1, r1⟩ := b_wlit H T 0 (B) c c.toNat rfl hb (by simp only [fits, decide_eq_true_eq, List.length_append, List.length_cons, List.length_nil] at *; omega)
        have c1 := c1.cln
        simp only [Nat.add_zero] at r1
        simp only [go_sem, simprocAttr, hl, h0, h1, h5, h10, h11, hc, hlt, hw, bslice4, g46, g59, g40, g41, g64, g36, g34, g92, p0, p1, p2, r1]
        refine ⟨n - 1, by omega, _, i + 1, T1, _, by omega, rfl, ?_, by simp only [go_sem, simprocAttr, he, c1], by simp only [go_sem, simprocAttr, hl], by simp only [go_sem, simprocAttr, hl, h0], by simp only [go_sem, simprocAttr, hl, h1], by simp only [go_sem, simprocAttr, hl, h5], by simp only [go_sem, simprocAttr, hl, h10], by simp only [go_sem, simprocAttr, hl]⟩
        rw [hsn, hE]; simpa [List.append_assoc] using b1
    rw [if_neg (by omega)] at hE
    by_cases hlo : c.toNat < 32
    · have p0 : decide ((c.toNat : Int) > 32) = false := by simp; omega
      have p1 : decide ((c.toNat : Int) < 127) = true := by simp; omega
      have p2 : ((c.toNat : Int) == 32) = false := by simp; omega
      have hb' := hb.more [.cells (u8s [92, UInt8.ofNat (48 + c.toNat / 100), UInt8.ofNat (48 + c.toNat / 10 % 10), UInt8.ofNat (48 + c.toNat % 10)]) 5 .rw]
      obtain ⟨T1, e1, b1, k1, c1, r1⟩ := b_write H (T ++ [.cells (u8s [92, UInt8.ofNat (48 + c.toNat / 100), UInt8.ofNat (48 + c.toNat / 10 % 10), UInt8.ofNat (48 + c.toNat % 10)]) 5 .rw]) 0 T.length (B) [92, UInt8.ofNat (48 + c.toNat / 100), UInt8.ofNat (48 + c.toNat / 10 % 10), UInt8.ofNat (48 + c.toNat % 10)] hb' (by simp) (by omega) (by simp) (by simp only [fits, decide_eq_true_eq, List.length_append, List.length_cons, List.length_nil] at *; omega)
      simp only [u8s, List.map_cons, List.map_nil, List.length_cons, List.length_nil, ← dg_a hcl, ← dg_b hcl, ← dg_c hcl] at r1
      have r1 : ∀ k, callK Tryd.prog 74 [.ptr (H.length + 0) 0, .slice (H.length + T.length) 0 4 (.ex 4)] (H ++ (T ++ [.cells [.int .u8 92, .int .u8 (IntKind.u8.wrap (48 + IntKind.u8.wrap ((c.toNat : Int).tdiv 100))), .int .u8 (IntKind.u8.wrap (48 + (IntKind.u8.wrap ((c.toNat : Int).tdiv 10)).tmod 10)), .int .u8 (IntKind.u8.wrap (48 + (c.toNat : Int).tmod 10))] 5 .rw])) k = k (.tuple [.int .i64 4, .nili], H ++ T1, e1) := r1
      have c1 := c1.cln
      simp only [Nat.add_zero] at r1
      simp only [go_sem, simprocAttr, hl, h0, h1, h5, h10, h11, hc, hlt, hw, bslice4, g46, g59, g40, g41, g64, g36, g34, g92, p0, p1, p2, r1]
      refine ⟨n - 1, by omega, _, i + 1, T1, _, by omega, rfl, ?_, by simp only [go_sem, simprocAttr, he, c1], by simp only [go_sem, simprocAttr, hl], by simp only [go_sem, simprocAttr, hl, h0], by simp only [go_sem, simprocAttr, hl, h1], by simp only [go_sem, simprocAttr, hl, h5], by simp only [go_sem, simprocAttr, hl, h10], by simp only [go_sem, simprocAttr, hl]⟩
      rw [hsn, hE]; simpa [List.append_assoc] using b1
    · have p0 : decide ((c.toNat : Int) > 32) = true := by simp; omega
      have p1 : decide ((c.toNat : Int) < 127) = false := by simp; omega
      have p2 : ((c.toNat : Int) == 32) = false := by simp; omega
      have hb' := hb.more [.cells (u8s [92, UInt8.ofNat (48 + c.toNat / 100), UInt8.ofNat (48 + c.toNat / 10 % 10), UInt8.ofNat (48 + c.toNat % 10)]) 5 .rw]
      obtain ⟨T1, e1, b1, k1, c1, r1⟩ := b_write H (T ++ [.cells (u8s [92, UInt8.ofNat (48 + c.toNat / 100), UInt8.ofNat (48 + c.toNat / 10 % 10), UInt8.ofNat (48 + c.toNat % 10)]) 5 .rw]) 0 T.length (B) [92, UInt8.ofNat (48 + c.toNat / 100), UInt8.ofNat (48 + c.toNat / 10 % 10), UInt8.ofNat (48 + c.toNat % 10)] hb' (by simp) (by omega) (by simp) (by simp only [fits, decide_eq_true_eq, List.length_append, List.length_cons, List.length_nil] at *; omega)
      simp only [u8s, List.map_cons, List.map_nil, List.length_cons, List.length_nil, ← dg_a hcl, ← dg_b hcl, ← dg_c hcl] at r1
      have r1 : ∀ k, callK Tryd.prog 74 [.ptr (H.length + 0) 0, .slice (H.length + T.length) 0 4 (.ex 4)] (H ++ (T ++ [.cells [.int .u8 92, .int .u8 (IntKind.u8.wrap (48 + IntKind.u8.wrap ((c.toNat : Int).tdiv 100))), .int .u8 (IntKind.u8.wrap (48 + (IntKind.u8.wrap ((c.toNat : Int).tdiv 10)).tmod 10)), .int .u8 (IntKind.u8.wrap (48 + (c.toNat : Int).tmod 10))] 5 .rw])) k = k (.tuple [.int .i64 4, .nili], H ++ T1, e1) := r1
      have c1 := c1.cln
      simp only [Nat.add_zero] at r1
      simp only [go_sem, simprocAttr, hl, h0, h1, h5, h10, h11, hc, hlt, hw, bslice4, g46, g59, g40, g41, g64, g36, g34, g92, p0, p1, p2, r1]
      refine ⟨n - 1, by omega, _, i + 1, T1, _, by omega, rfl, ?_, by simp only [go_sem, simprocAttr, he, c1], by simp only [go_sem, simprocAttr, hl], by simp only [go_sem, simprocAttr, hl, h0], by simp only [go_sem, simprocAttr, hl, h1], by simp only [go_sem, simprocAttr, hl, h5], by simp only [go_sem, simprocAttr, hl, h10], by simp only [go_sem, simprocAttr, hl]⟩
      rw [hsn, hE]; simpa [List.append_assoc] using b1
  · have hi : i = s.length := by omega
    subst hi
    rw [List.take_length] at hb
    obtain ⟨T1, e1, c1, r1⟩ := b_string H T 0 _ hb (by have := escS_len q s; omega)
    simp only [Nat.add_zero] at r1
    simp only [go_sem, simprocAttr, hl, h0, h1, h5, h10, h11, hlt, r1]
    exact leave_flat rfl (clean_and he c1)
end Go.Proofs.YtgkpgpdkolpfkaaDoor.V
