/- The service chapter: the closure that writes bytes as digits, as 'V' runs it. No conditions. -/
import Derived.Test.YtjemmehgfheflaaDoorSWalkF
namespace Go.Proofs.YtjemmehgfheflaaDoor.V
open Go
set_option linter.unusedSimpArgs false
set_option linter.unusedVariables false
attribute [local irreducible] go goOps goD opK callK callT stepK leaveTo nextK

theorem hexD_shr (c : UInt8) : ((c.toNat : Int).fdiv (2 ^ min 4 8)).toNat = c.toNat / 16 := by
  have : (2 : Int) ^ min 4 8 = 16 := by decide
  rw [this, Int.fdiv_eq_ediv_of_nonneg _ (by omega)]; omega
theorem hexD_and (c : UInt8) : IntKind.u8.wrap (BitVec.ofInt 8 (c.toNat : Int) &&& BitVec.ofInt 8 15).toNat = ((c.toNat % 16 : Nat) : Int) := by
  have : ∀ c : Fin 256, IntKind.u8.wrap (BitVec.ofInt 8 ((c.val : Nat) : Int) &&& BitVec.ofInt 8 15).toNat = ((c.val % 16 : Nat) : Int) := by decide +kernel
  exact this ⟨c.toNat, c.toNat_lt⟩
/-- What a hexadecimal piece adds. -/
def hexw (head s : List UInt8) : List UInt8 := if s = [] then [] else head ++ hexP s

/-- A block that holds the method value. -/
def Put (n : Nat) (T : Hp) (i j : Nat) : Prop := T[i]? = some (.cells [.func (.func 34) [.ptr (n + j) 0] []] 62 .rw)
theorem Put.keep {n : Nat} {T T' : Hp} {i j : Nat} (h : Put n T i j) (hk : Keep T j T') (hij : i ≠ j) : Put n T' i j := hk.2 i _ hij h rfl

set_option maxRecDepth 20000 in
theorem hexw35 (H T : Hp) (i j : Nat) (bs head s : List UInt8) (hb : Bld H.length T j bs) (hp : Put H.length T i j) (hij : i ≠ j) (hh : 0 < head.length) (hs : 0 < s.length) (hf : bs.length + head.length + 2 * s.length ≤ 1000000000) :
    ∃ T' e, Bld H.length T' j (bs ++ (head ++ hexP s)) ∧ Keep T j T' ∧ Cl H.length j e ∧ ∀ k, callK Tryd.prog 35 [.str head, .str s, .ptr (H.length + i) 0, .ptr (H.length + j) 0] (H ++ T) k = k (.tuple [], H ++ T', e) := by
  have hjlt : j < T.length := by obtain ⟨p, v, hj, _⟩ := hb; exact lt_of_get hj
  have hilt : i < T.length := lt_of_get hp
  refine (fun h : ∃ r : {r : Hp × Ef // Bld H.length r.1 j (bs ++ (head ++ hexP s)) ∧ Keep T j r.1 ∧ Cl H.length j r.2}, ∀ k, callK Tryd.prog 35 [.str head, .str s, .ptr (H.length + i) 0, .ptr (H.length + j) 0] (H ++ T) k = k (.tuple [], H ++ r.1.1, r.1.2) => ?_) (callK_ex (fun r : {r : Hp × Ef // Bld H.length r.1 j (bs ++ (head ++ hexP s)) ∧ Keep T j r.1 ∧ Cl H.length j r.2} => (.tuple [], H ++ r.1.1, r.1.2)) ?_)
  · obtain ⟨⟨⟨T', e⟩, h1, h2, h3⟩, hr⟩ := h
    exact ⟨T', e, h1, h2, h3, hr⟩
  obtain ⟨T1, e1, b1, k1, c1, r1⟩ := wstr34 H T j bs head hb hh (by simp only [fits, decide_eq_true_eq]; omega)
  refine callK_start (n := 30) (rs := []) Tryd.func35 rfl rfl rfl ?_
  intro σ hl ha
  have h0 := ha 0 (by simp)
  have h1 := ha 1 (by simp)
  have h2 := ha 2 (by simp)
  have h3 := ha 3 (by simp)
  clear ha
  simp only [Option.getD_some, List.getElem?_cons_zero, List.getElem?_cons_succ] at h0 h1 h2 h3
  have hne : (s == []) = false := by cases s <;> simp_all
  have hp' : T[i]? = some (.cells [.func (.func 34) [.ptr (H.length + j) 0] []] 62 .rw) := hp
  simp only [go_sem, simprocAttr, hl, h0, h1, h2, h3, hne, hp', r1]
  refine go_rounds (fun n st => ∃ σ q T' e, n + q = s.length ∧ st = ⟨σ, H ++ T', e⟩ ∧ Bld H.length T' j (bs ++ (head ++ hexP (s.take q))) ∧ Keep T j T' ∧ Cl H.length j e ∧ σ.length = 30 ∧ fr σ 1 = .str s ∧ fr σ 3 = .ptr (H.length + j) 0 ∧ fr σ 13 = .int .i64 s.length ∧ fr σ 14 = .int .i64 (q : Nat)) s.length
    ⟨_, 0, T1, _, rfl, rfl, by simpa [hexP] using b1, k1, c1, by simp only [go_sem, simprocAttr, hl, h1, h3]⟩ ?_
  rintro n _ ⟨σ, q, T2, e2, hq, rfl, b2, k2, c2, hl, h1, h3, h13, h14⟩
  by_cases hlt : q < s.length
  · obtain ⟨c, hc⟩ : ∃ c, s[q]? = some c := ⟨_, List.getElem?_eq_getElem hlt⟩
    have hw := wrap_succ (show q < 9223372036854775807 by omega)
    have hx := hexP_snoc hc
    have hl2 : (hexP (s.take q)).length = 2 * q := by rw [hexP_len, List.length_take]; omega
    have hc' := c.toNat_lt
    obtain ⟨T3, e3, b3, k3, c3, r3⟩ := wbyte36 H T2 j _ (hexD (c.toNat / 16)) b2 (by simp only [fits, decide_eq_true_eq, List.length_append, hl2]; omega)
    obtain ⟨T4, e4, b4, k4, c4, r4⟩ := wbyte36 H T3 j _ (hexD (c.toNat % 16)) b3 (by simp only [fits, decide_eq_true_eq, List.length_append, List.length_cons, List.length_nil, hl2]; omega)
    have s1 := hexD_shr c
    have s0 : (0 : Int) ≤ (c.toNat : Int).fdiv (2 ^ min 4 8) := by
      have : (2 : Int) ^ min 4 8 = 16 := by decide
      rw [this, Int.fdiv_eq_ediv_of_nonneg _ (by omega)]; omega
    have s2 : evInt .and .u8 (c.toNat : Int) 15 = some (.int .u8 ((c.toNat % 16 : Nat) : Int)) := by
      rw [i_and]; rw [show IntKind.u8.bits = 8 from rfl, hexD_and c]
    have d1 := hexD_at (n := c.toNat / 16) (by omega)
    have d2 := hexD_at (n := c.toNat % 16) (by omega)
    have hxx : bs ++ (head ++ hexP (s.take (q + 1))) = bs ++ (head ++ hexP (s.take q)) ++ [hexD (c.toNat / 16)] ++ [hexD (c.toNat % 16)] := by
      rw [hx]; simp [twoP]
    simp only [go_sem, simprocAttr, hl, h1, h3, h13, h14, hlt, hc, hw, s0, s1, s2, d1, d2, r3, r4]
    exact ⟨n - 1, by omega, _, q + 1, T4, _, by omega, rfl, by rw [hxx]; exact b4, (k2.trans k3).trans k4, (c2.andl c3.cln).andl c4.cln, by simp only [go_sem, simprocAttr, hl, h1, h3, h13]⟩
  · have : s.take q = s := List.take_of_length_le (by omega)
    rw [this] at b2
    obtain ⟨e', hE, hleave⟩ := c2.leave (m := H.length + T.length) (by omega)
    simp only [go_sem, simprocAttr, hl, h1, h3, h13, h14, hlt]
    exact ⟨⟨(T2, e'), by simpa using b2, k2, hE⟩, hleave _ _⟩

set_option maxRecDepth 20000 in
theorem hexw35n (H : Hp) (k) (head : List UInt8) (p q : AV) : callK Tryd.prog 35 [.str head, .str [], p, q] H k = k (.tuple [], H, z0) := by
  refine callK_eq ?_ k
  refine callK_start (n := 30) (rs := []) Tryd.func35 rfl rfl rfl ?_
  intro σ hl ha
  have h1 := ha 1 (by simp)
  clear ha
  simp only [Option.getD_some, List.getElem?_cons_zero, List.getElem?_cons_succ] at h1
  simp only [go_sem, simprocAttr, hl, h1]
theorem hexw_any (H T : Hp) (i j : Nat) (bs head s : List UInt8) (hb : Bld H.length T j bs) (hp : Put H.length T i j) (hij : i ≠ j) (hh : 0 < head.length) (hf : bs.length + head.length + 2 * s.length ≤ 1000000000) :
    ∃ T' e, Bld H.length T' j (bs ++ hexw head s) ∧ Keep T j T' ∧ clean H.length e ∧ ∀ k, callK Tryd.prog 35 [.str head, .str s, .ptr (H.length + i) 0, .ptr (H.length + j) 0] (H ++ T) k = k (.tuple [], H ++ T', e) := by
  by_cases hs : s = []
  · subst hs
    exact ⟨T, z0, by simpa [hexw] using hb, Keep.refl T j, ⟨rfl, rfl⟩, fun k => hexw35n _ k head _ _⟩
  · obtain ⟨T', e, h1, h2, h3, h4⟩ := hexw35 H T i j bs head s hb hp hij hh (by cases s <;> simp_all) hf
    exact ⟨T', e, by simpa [hexw, hs] using h1, h2, h3.cln, h4⟩
theorem Bld.more {n : Nat} {T : Hp} {j : Nat} {bs : List UInt8} (h : Bld n T j bs) (l : Hp) : Bld n (T ++ l) j bs := by
  obtain ⟨p, v, hj, hp, hv⟩ := h
  refine ⟨p, v, get_app hj, hp, ?_⟩
  obtain h | ⟨q, m, rfl, hm⟩ := hv
  · exact .inl h
  · exact .inr ⟨q, m, rfl, get_app hm⟩
theorem Keep.more (T : Hp) (j : Nat) (l : Hp) : Keep T j (T ++ l) := ⟨by simp, fun i x _ h _ => get_app h⟩
theorem Put.more {n : Nat} {T : Hp} {i j : Nat} (h : Put n T i j) (l : Hp) : Put n (T ++ l) i j := get_app h
theorem Cl.loud {n j : Nat} {e : Ef} (h : Cl n j e) (v : AV) (H1 H2 : Hp) : quiet (v, H1, e) H2 = false := by
  obtain ⟨x, h1, _⟩ := h
  simp [quiet, h1]

/-- A number after its colon. -/
def numP (n : Int) : List UInt8 := 58 :: decP n.toNat
def byteP (c : UInt8) : List UInt8 := if safeP c = true then [c] else 37 :: twoP c
def textP (t : List UInt8) : List UInt8 := t.flatMap byteP
def svcH (s : Svc) : List UInt8 := (if s.dg = true then [32, 117, 61] else [32, 116, 61]) ++ s.label
def svcN (s : Svc) : List UInt8 := [s.port, s.prio, s.weight].flatMap numP
def svcP (s : Svc) : List UInt8 := svcH s ++ svcN s ++ 58 :: textP s.text
/-- A meta's text. -/
def toldP (a b c : List UInt8) (ss : List Svc) : List UInt8 := a ++ hexw [32, 52, 61] b ++ hexw [32, 54, 61] c ++ ss.flatMap svcP
theorem byteP_len (c : UInt8) : (byteP c).length ≤ 3 := by unfold byteP; split <;> simp [twoP]
theorem textP_len (t : List UInt8) : (textP t).length ≤ 3 * t.length := by
  induction t with
  | nil => simp [textP]
  | cons c t ih =>
    have := byteP_len c
    show (byteP c ++ textP t).length ≤ _
    rw [List.length_append, List.length_cons]; omega
/-- What bounds a meta that may be told. -/
def Small (a b c : List UInt8) (ss : List Svc) : Prop := (a.length ≤ 5000 ∧ b.length ≤ 5000 ∧ c.length ≤ 5000 ∧ ss.length ≤ 500) ∧ 0 < a.length ∧ ∀ s ∈ ss, (0 < s.label.length ∧ s.label.length ≤ 5000) ∧ s.text.length ≤ 5000 ∧ (0 ≤ s.port ∧ s.port < 65536) ∧ (0 ≤ s.prio ∧ s.prio < 65536) ∧ (0 ≤ s.weight ∧ s.weight < 65536)
theorem numP_len {n : Int} (h : 0 ≤ n ∧ n < 65536) : (numP n).length ≤ 6 := by
  have := decP_len n.toNat (by omega)
  unfold numP; rw [List.length_cons]; omega
theorem svcP_len {a b c : List UInt8} {ss : List Svc} (h : Small a b c ss) {s : Svc} (hs : s ∈ ss) : (svcP s).length ≤ 21000 := by
  obtain ⟨⟨_, h1⟩, h2, h3, h4, h5⟩ := h.2.2 s hs
  have := textP_len s.text
  have := numP_len h3
  have := numP_len h4
  have := numP_len h5
  have : (svcH s).length ≤ 5003 := by unfold svcH; rw [List.length_append]; split <;> simp <;> omega
  unfold svcP svcN
  simp only [List.length_append, List.flatMap_cons, List.flatMap_nil, List.length_cons, List.length_nil]
  omega
theorem flat_len {α : Type} {l : List α} {f : α → List UInt8} {m : Nat} (h : ∀ x ∈ l, (f x).length ≤ m) : (l.flatMap f).length ≤ l.length * m := by
  induction l with
  | nil => simp
  | cons x l ih =>
    have h1 := h x (by simp)
    have h2 := ih (fun y hy => h y (by simp [hy]))
    rw [List.flatMap_cons, List.length_append, List.length_cons, Nat.add_mul]; omega
theorem hexw_len (h s : List UInt8) : (hexw h s).length ≤ h.length + 2 * s.length := by
  unfold hexw
  split
  · simp
  · rw [List.length_append, hexP_len]; exact Nat.le_refl _

theorem head_len {a b c : List UInt8} {ss : List Svc} (h : Small a b c ss) : (a ++ hexw [32, 52, 61] b ++ hexw [32, 54, 61] c).length ≤ 30000 := by
  have h1 := hexw_len [32, 52, 61] b
  have h2 := hexw_len [32, 54, 61] c
  obtain ⟨⟨h3, h4, h5, _⟩, _⟩ := h
  simp only [List.length_append, List.length_cons, List.length_nil] at *
  omega
/-- So much at most is written before the i-th service's end. -/
theorem told_len {a b c : List UInt8} {ss : List Svc} (h : Small a b c ss) (i : Nat) : ((ss.take i).flatMap svcP).length ≤ 10500000 := by
  have h1 := flat_len (l := ss.take i) (f := svcP) (m := 21000) (fun s hs => svcP_len h (List.mem_of_mem_take hs))
  have h2 : (ss.take i).length ≤ 500 := by rw [List.length_take]; have := h.1.2.2.2; omega
  have : (ss.take i).length * 21000 ≤ 500 * 21000 := Nat.mul_le_mul_right _ h2
  omega
theorem flat_snoc {α : Type} {l : List α} {f : α → List UInt8} {i : Nat} {a : α} (h : l[i]? = some a) : (l.take (i + 1)).flatMap f = (l.take i).flatMap f ++ f a := by
  rw [take_snoc h]; simp
end Go.Proofs.YtjemmehgfheflaaDoor.V
