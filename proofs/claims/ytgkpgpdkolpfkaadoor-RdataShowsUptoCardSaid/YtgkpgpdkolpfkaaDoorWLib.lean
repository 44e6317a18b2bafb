/- What walks share: growing rows, marks of what is written, numbers. No conditions. -/
import Derived.Test.YtgkpgpdkolpfkaaDoorVTab
import Derived.Test.YtgkpgpdkolpfkaaDoorVLaid
namespace Go.Proofs.YtgkpgpdkolpfkaaDoor.V
open Go
set_option linter.unusedSimpArgs false
set_option linter.unusedVariables false

/-- A digit to the base 16. -/
def hexD (n : Nat) : UInt8 := if n < 10 then UInt8.ofNat (48 + n) else UInt8.ofNat (87 + n)
def twoP (c : UInt8) : List UInt8 := [hexD (c.toNat / 16), hexD (c.toNat % 16)]
def hexP (s : List UInt8) : List UInt8 := s.flatMap twoP
/-- A number's digits. -/
def decP (n : Nat) : List UInt8 := if n < 10 then [hexD n] else decP (n / 10) ++ [hexD (n % 10)]
termination_by n
decreasing_by omega
theorem hexD_at {n : Nat} (h : n < 16) : ([48, 49, 50, 51, 52, 53, 54, 55, 56, 57, 97, 98, 99, 100, 101, 102] : List UInt8)[n]? = some (hexD n) := by
  have : ∀ n : Fin 16, ([48, 49, 50, 51, 52, 53, 54, 55, 56, 57, 97, 98, 99, 100, 101, 102] : List UInt8)[n.val]? = some (hexD n.val) := by decide
  exact this ⟨n, h⟩
theorem hexD_sl {n : Nat} (h : n < 16) : ((([48, 49, 50, 51, 52, 53, 54, 55, 56, 57, 97, 98, 99, 100, 101, 102] : List UInt8).drop n).take 1) = [hexD n] := by
  have : ∀ n : Fin 16, ((([48, 49, 50, 51, 52, 53, 54, 55, 56, 57, 97, 98, 99, 100, 101, 102] : List UInt8).drop n.val).take 1) = [hexD n.val] := by decide
  exact this ⟨n, h⟩
theorem decP_len : ∀ (n : Nat), n < 100000 → (decP n).length ≤ 5 := by
  intro n h
  unfold decP
  split
  · simp
  rw [List.length_append]
  unfold decP
  split
  · simp
  rw [List.length_append]
  unfold decP
  split
  · simp
  rw [List.length_append]
  unfold decP
  split
  · simp
  rw [List.length_append]
  unfold decP
  rw [if_pos (by omega)]
  simp
theorem hexP_len (s : List UInt8) : (hexP s).length = 2 * s.length := by
  induction s with
  | nil => rfl
  | cons c s ih => show (twoP c ++ hexP s).length = _; rw [List.length_append, ih, List.length_cons]; show 2 + _ = _; omega
theorem take_snoc {α : Type} {l : List α} {i : Nat} {a : α} (h : l[i]? = some a) : l.take (i + 1) = l.take i ++ [a] := by
  rw [List.take_add_one, h]; rfl
theorem hexP_snoc {s : List UInt8} {i : Nat} {c : UInt8} (h : s[i]? = some c) : hexP (s.take (i + 1)) = hexP (s.take i) ++ twoP c := by
  rw [take_snoc h]; simp [hexP]
/-- All so far, and one more. -/
theorem all_take_succ {s : List UInt8} {i : Nat} {c : UInt8} {p : UInt8 → Bool} (h : s[i]? = some c) (ha : (s.take i).all p = true) (hc : p c = true) : (s.take (i + 1)).all p = true := by
  rw [take_snoc h, List.all_append, ha]; simp [hc]
theorem all_not {s : List UInt8} {i : Nat} {c : UInt8} {p : UInt8 → Bool} (h : s[i]? = some c) (hc : p c = false) : s.all p = false := by
  rw [List.all_eq_false]
  exact ⟨c, List.mem_of_getElem? h, by simp [hc]⟩
/-- What no builder grows. -/
def fixd : ABlk → Bool
  | .cells _ e (.op _ _) => !(e == 5)
  | .dead => false
  | _ => true
def Keep (T : Hp) (j : Nat) (T' : Hp) : Prop := T.length ≤ T'.length ∧ ∀ (i : Nat) x, i ≠ j → T[i]? = some x → fixd x = true → T'[i]? = some x
theorem Keep.refl (T : Hp) (j : Nat) : Keep T j T := ⟨Nat.le_refl _, fun i x _ h _ => h⟩
theorem Keep.trans {T T' T'' : Hp} {j : Nat} (h : Keep T j T') (h' : Keep T' j T'') : Keep T j T'' :=
  ⟨Nat.le_trans h.1 h'.1, fun i x hi hx hf => h'.2 i x hi (h.2 i x hi hx hf) hf⟩
/-- What was written: an address at the j-th new block or below, all of it new. -/
def Cl (n j : Nat) (e : Ef) : Prop := ∃ x, e.es = some x ∧ n ≤ x ∧ x ≤ n + j ∧ low n e.ws = none
theorem Cl.cln {n j : Nat} {e : Ef} (h : Cl n j e) : clean n e := by
  obtain ⟨x, h1, h2, h3, h4⟩ := h
  exact ⟨by rw [h1]; simp [low, h2], h4⟩
theorem omin_some {x : Nat} {o : Option Nat} {n : Nat} (hx : n ≤ x) (ho : low n o = none) : ∃ y, omin (some x) o = some y ∧ n ≤ y ∧ y ≤ x := by
  cases o with
  | none => exact ⟨x, rfl, hx, Nat.le_refl _⟩
  | some z =>
    refine ⟨min x z, rfl, ?_, Nat.min_le_left _ _⟩
    have : n ≤ z := by rw [low_w] at ho; exact ho
    omega
theorem omin_comm (a b : Option Nat) : omin a b = omin b a := by
  cases a <;> cases b <;> simp [omin, Nat.min_comm]
theorem Cl.andl {n j : Nat} {a b : Ef} (h : Cl n j a) (h' : clean n b) : Cl n j (a.and b) := by
  obtain ⟨x, h1, h2, h3, h4⟩ := h
  obtain ⟨y, y1, y2, y3⟩ := omin_some (o := b.es) h2 h'.1
  exact ⟨y, by show omin a.es b.es = _; rw [h1, y1], y2, by omega, low_omin h4 h'.2⟩
theorem Cl.andr {n j : Nat} {a b : Ef} (h : clean n a) (h' : Cl n j b) : Cl n j (a.and b) := by
  obtain ⟨x, h1, h2, h3, h4⟩ := h'
  obtain ⟨y, y1, y2, y3⟩ := omin_some (o := a.es) h2 h.1
  exact ⟨y, by show omin a.es b.es = _; rw [omin_comm, h1, y1], y2, by omega, low_omin h.2 h4⟩
theorem low_low {n m : Nat} {o : Option Nat} (h : low n o = none) : low n (low m o) = none := by
  cases o with
  | none => rfl
  | some x =>
    rw [low_w] at h
    by_cases hm : m ≤ x
    · simp [low, hm]
    · simp [low, hm, h]
/-- What is written there stays when the call is left. -/
theorem Cl.leave {n j m : Nat} {e : Ef} (h : Cl n j e) (hj : n + j < m) : ∃ e', Cl n j e' ∧ ∀ v H, leave m v H e = (v, H, e') := by
  obtain ⟨x, h1, h2, h3, h4⟩ := h
  have h5 : low m e.es = some x := by
    have : ¬ m ≤ x := by omega
    rw [h1]; simp [low, this]
  refine ⟨⟨low m e.es, low m e.ws⟩, ⟨x, h5, h2, h3, low_low h4⟩, fun v H => ?_⟩
  unfold V.leave
  rw [if_neg (by rw [h5]; simp)]
theorem lt_of_get {T : Hp} {j : Nat} {x : ABlk} (h : T[j]? = some x) : j < T.length := (List.getElem?_eq_some_iff.1 h).1
theorem set_get {T : Hp} {j : Nat} {x : ABlk} (h : T[j]? = some x) : T.set j x = T := by
  apply List.ext_getElem?
  intro i
  by_cases hi : j = i
  · subst hi; rw [List.getElem?_set_self (lt_of_get h), h]
  · rw [List.getElem?_set_ne hi]
theorem lse {T l : Hp} {j : Nat} {v : ABlk} : (T.set j v ++ l)[T.length]? = l[0]? := by
  rw [List.getElem?_append_right (by simp)]; simp
attribute [go_sem] lse
theorem low_sm {n m : Nat} (h : m < n) : low n (some m) = some m := by
  have : ¬ n ≤ m := by omega
  simp [low, this]
theorem leave_st {n : Nat} {v : AV} {H : Hp} {e : Ef} {x : Nat} (h : low n e.es = some x) : leave n v H e = (v, H, ⟨some x, low n e.ws⟩) := by
  unfold leave; rw [if_neg (by rw [h]; simp), h]
theorem get_app {T l : Hp} {i : Nat} {x : ABlk} (h : T[i]? = some x) : (T ++ l)[i]? = some x := hp_old h
theorem sh_r {kd : IntKind} {a b : Int} (h : decide (b < 0) = false) : evShift .shr kd a b = some (.int kd (a.fdiv (2 ^ (min b.toNat kd.bits)))) := by
  have : ¬ b < 0 := by simpa using h
  simp only [evShift]; rw [if_neg this]
theorem sh_l {kd : IntKind} {a b : Int} (h : decide (b < 0) = false) : evShift .shl kd a b = some (.int kd (kd.wrap (a * 2 ^ (min b.toNat kd.bits)))) := by
  have : ¬ b < 0 := by simpa using h
  simp only [evShift]; rw [if_neg this]
theorem bits_i64 : IntKind.bits .i64 = 64 := rfl
theorem bits_u64 : IntKind.bits .u64 = 64 := rfl
theorem bits_u8 : IntKind.bits .u8 = 8 := rfl
theorem bits_u16 : IntKind.bits .u16 = 16 := rfl
theorem bits_u32 : IntKind.bits .u32 = 32 := rfl
theorem wrapl_i64 {n : Nat} (h : decide (n < 9223372036854775808) = true) : IntKind.i64.wrap (no_index (@OfNat.ofNat Int n instOfNat)) = @OfNat.ofNat Int n instOfNat := by
  have h : n < 9223372036854775808 := of_decide_eq_true h
  show IntKind.i64.wrap (n : Int) = (n : Int)
  exact wrap_i64 (by omega)
theorem wrapl_u64 {n : Nat} (h : decide (n < 18446744073709551616) = true) : IntKind.u64.wrap (no_index (@OfNat.ofNat Int n instOfNat)) = @OfNat.ofNat Int n instOfNat := by
  have h : n < 18446744073709551616 := of_decide_eq_true h
  show IntKind.u64.wrap (n : Int) = (n : Int)
  exact wrap_u64 (by omega)
theorem wrapl_u32 {n : Nat} (h : decide (n < 4294967296) = true) : IntKind.u32.wrap (no_index (@OfNat.ofNat Int n instOfNat)) = @OfNat.ofNat Int n instOfNat := by
  have h : n < 4294967296 := of_decide_eq_true h
  show IntKind.u32.wrap (n : Int) = (n : Int)
  exact wrap_u32 (by omega)
theorem wrapl_u16 {n : Nat} (h : decide (n < 65536) = true) : IntKind.u16.wrap (no_index (@OfNat.ofNat Int n instOfNat)) = @OfNat.ofNat Int n instOfNat := by
  have h : n < 65536 := of_decide_eq_true h
  show IntKind.u16.wrap (n : Int) = (n : Int)
  exact wrap_u16 (by omega)
theorem wrapl_u8 {n : Nat} (h : decide (n < 256) = true) : IntKind.u8.wrap (no_index (@OfNat.ofNat Int n instOfNat)) = @OfNat.ofNat Int n instOfNat := by
  have h : n < 256 := of_decide_eq_true h
  show IntKind.u8.wrap (n : Int) = (n : Int)
  exact wrap_u8 (by omega)
theorem wrapl_i32 {n : Nat} (h : decide (n < 2147483648) = true) : IntKind.i32.wrap (no_index (@OfNat.ofNat Int n instOfNat)) = @OfNat.ofNat Int n instOfNat := by
  have h : n < 2147483648 := of_decide_eq_true h
  show IntKind.i32.wrap (n : Int) = (n : Int)
  exact wrap_i32 (by omega)
attribute [go_sem] wrapl_i64 wrapl_u64 wrapl_u32 wrapl_u16 wrapl_u8 wrapl_i32
attribute [go_sem] sh_r sh_l bits_i64 bits_u64 bits_u8 bits_u16 bits_u32

theorem ofNat_le {n m : Nat} (h : n ≤ m) (hm : m < 256) : (UInt8.ofNat n).toNat = n := by
  have : n < 256 := by omega
  exact UInt8.toNat_ofNat_of_lt' (by simpa using this)
theorem bind_ixs {P : Program} {t : TypeId} {b o n : Nat} {c : Cap} {kd : IntKind} {i : Int} {f : AV → Prop} (h : (match tsh P t with | some (.slice _ _ _) => true | _ => false) = true) :
    bindK (evIndexAddr P t (.slice b o n c) (.int kd i)) f = bindK (tsh P t) fun sh => (0 ≤ i ∧ i < n) ∧ f (.ptr b (o + i.toNat * shZ sh)) := by
  split at h
  · rename_i e z w he
    simp only [evIndexAddr, he, bindK_ite, bindK_some, shZ]
  · cases h
theorem bind_ixa {P : Program} {t : TypeId} {b o : Nat} {kd : IntKind} {i : Int} {f : AV → Prop} (h : (match tsh P t with | some (.array _ _ _) => true | _ => false) = true) :
    bindK (evIndexAddr P t (.ptr b o) (.int kd i)) f = bindK (tsh P t) fun sh => (0 ≤ i ∧ i < (shA sh).1) ∧ f (.ptr b (o + i.toNat * (shA sh).2)) := by
  split at h
  · rename_i e z w he
    simp only [evIndexAddr, he, bindK_ite, bindK_some, shA]
  · cases h
attribute [go_sem ↓] bind_ixs bind_ixa
theorem bytesOf_n : evConv.bytesOf [] = some [] := rfl
theorem bytesOf_c {b : UInt8} {r : List AV} : evConv.bytesOf (.int .u8 (b.toNat : Int) :: r) = (evConv.bytesOf r).map (b :: ·) := by
  show (evConv.bytesOf r).map (UInt8.ofNat ((b.toNat : Int)).toNat :: ·) = _
  simp
attribute [go_sem] bytesOf_n bytesOf_c
theorem leave_same {n : Nat} {v : AV} {H : Hp} {w : Option Nat} (hv : flat v = true) (h : H.length = n) : leave n v H ⟨none, w⟩ = (v, H, ⟨none, low n w⟩) := by
  unfold leave
  have hlo : low n none = none := rfl
  simp only [hlo, hv, and_self, if_true]
  rw [List.take_of_length_le (by omega)]
theorem and_ww {a : Nat} : Ef.and ⟨none, some a⟩ ⟨none, some a⟩ = ⟨none, some a⟩ := by simp [Ef.and, omin]
attribute [go_sem] and_ww
theorem str_eq {a b : List UInt8} {H : Hp} (h : a = b) : (AV.str a, H, z0) = (AV.str b, H, z0) := by rw [h]
theorem callK_exP {α : Type} {P : Program} {f : FuncId} {args : List AV} {H : Hp} (p : α → Prop) (g : α → AV × Hp × Ef) (h : callK P f args H (fun q => ∃ b, p b ∧ q = g b)) : ∃ b, p b ∧ ∀ k, callK P f args H k = k (g b) := by
  obtain ⟨r, hr⟩ := callK_ex (fun r : {b : α // p b} => g r.1) (callK_mono h (fun q ⟨b, hb, hq⟩ => ⟨⟨b, hb⟩, hq⟩))
  exact ⟨r.1, r.2, hr⟩
/-- What holds where a piece of code ends, whichever way it took. -/
def cutQ (P : Program) (Q : Ex → St → Prop) (k : List It) (I : St → Prop) : Ex → St → Prop
  | .normal, s => I s
  | .exit i, s => leaveTo P Q i k s
  | ex, s => contQ P Q k ex s
section
variable {P : Program} {Q : Ex → St → Prop} {k : List It} {σ : List AV} {H : Hp} {e : Ef} {I : St → Prop}
theorem cutQ_n : cutQ P Q k I .normal ⟨σ, H, e⟩ = I ⟨σ, H, e⟩ := rfl
theorem cutQ_e {i : Nat} : cutQ P Q k I (.exit i) ⟨σ, H, e⟩ = leaveTo P Q i k ⟨σ, H, e⟩ := rfl
theorem cutQ_r : cutQ P Q k I .ret ⟨σ, H, e⟩ = Q .ret ⟨σ, H, e⟩ := contQ_ret k _
attribute [go_sem ↓] cutQ_n cutQ_e cutQ_r
theorem go_cut {c : Code} {s : St} (I : St → Prop) (h : go P (cutQ P Q k I) [.code c] s) (h2 : ∀ s, I s → go P Q k s) : go P Q (.code c :: k) s := by
  refine goCode_mono (Q := cutQ P Q k I) h (fun ex s hq => ?_)
  cases ex with
  | normal => exact h2 s hq
  | exit i => exact hq
  | goto l => exact hq
  | ret => exact hq
theorem condK_cut {b : Bool} {a a' : Code} {s : St} (I : St → Prop) (h : b = true → go P (cutQ P Q k I) [.code a] s) (h' : b = false → go P (cutQ P Q k I) [.code a'] s) (h2 : ∀ s, I s → go P Q k s) :
    condK (some (.bool b)) (go P Q (.code a :: k) s) (go P Q (.code a' :: k) s) :=
  condK_split (fun hb => go_cut I (h hb) h2) (fun hb => go_cut I (h' hb) h2)
end
attribute [local irreducible] go goOps goD opK callK callT stepK leaveTo nextK
theorem vcells_fn {f : Fn} {a b : List AV} : vcells (.func f a b) = [.func f a b] := rfl
theorem add_ok {a b : List UInt8} {m n : Nat} (ha : a.length ≤ m) (hb : b.length ≤ n) (h : m + n ≤ 9223372036854775807) : evStr .add a b = some (.str (a ++ b)) := by
  rw [s_add, if_pos (by show _ ≤ 9223372036854775807; omega)]
theorem u8_beq (a b : UInt8) : ((a.toNat : Int) == (b.toNat : Int)) = decide (a = b) := by
  rw [Bool.eq_iff_iff]; simp only [beq_iff_eq, decide_eq_true_eq]
  constructor
  · intro h; exact UInt8.toNat.inj (by omega)
  · rintro rfl; rfl
theorem quiet_g1 {v : AV} {H : Hp} {x : ABlk} {e : Ef} : quiet (v, H ++ [x], e) H = false := by simp [quiet]
theorem quiet_g2 {v : AV} {H T : Hp} {x : ABlk} {e : Ef} : quiet (v, H ++ (T ++ [x]), e) (H ++ T) = false := by simp [quiet]
theorem quiet_g3 {v : AV} {H T : Hp} {x y : ABlk} {e : Ef} : quiet (v, H ++ y :: (T ++ [x]), e) (H ++ y :: T) = false := by simp [quiet]
attribute [go_sem] quiet_g1 quiet_g2 quiet_g3
/-- What append grew: nothing, or a row of its own, z cells an element. -/
def GBuf (n : Nat) (T : Hp) (v : AV) (e z len : Nat) (cs : List AV) : Prop := (v = .nils ∧ cs = [] ∧ len = 0) ∨ (0 < len ∧ cs.length = len * z ∧ ∃ m, v = .slice (n + m) 0 len (.op 0) ∧ T[m]? = some (.cells cs e (.op 0 false)))
theorem GBuf.scl {n : Nat} {T : Hp} {v : AV} {e z len : Nat} {cs : List AV} (h : GBuf n T v e z len cs) : scal v = true := by
  obtain ⟨rfl, _⟩ | ⟨_, _, m, rfl, _⟩ := h <;> rfl
theorem GBuf.more {n : Nat} {T : Hp} {v : AV} {e z len : Nat} {cs : List AV} (h : GBuf n T v e z len cs) (l : Hp) : GBuf n (T ++ l) v e z len cs := by
  obtain h | ⟨h1, h2, m, rfl, hm⟩ := h
  · exact .inl h
  · exact .inr ⟨h1, h2, m, rfl, get_app hm⟩
theorem GBuf.set {n : Nat} {T : Hp} {v : AV} {e z len : Nat} {cs : List AV} (h : GBuf n T v e z len cs) {j : Nat} {c : List AV} {e' : TypeId} {x : ABlk} (hj : T[j]? = some (.cells c e' .rw)) : GBuf n (T.set j x) v e z len cs := by
  obtain h | ⟨h1, h2, m, rfl, hm⟩ := h
  · exact .inl h
  · refine .inr ⟨h1, h2, m, rfl, ?_⟩
    have : j ≠ m := by rintro rfl; rw [hj] at hm; cases hm
    rw [List.getElem?_set_ne this]; exact hm
/-- What append grew: whatever is of another kind stays. -/
theorem GBuf.app2 {P : Program} {H T : Hp} {v : AV} {e z b len : Nat} {cs : List AV} (h : GBuf H.length T v e z len cs) (hz : decide (0 < z) = true) (hk : zok P e z = true) (xs : List AV) (q : Nat) (hq : 0 < q) (hx : xs.length = q * z) (hsc : xs.all V.scal = true) (hf : fits (len + q) b = true) :
    ∃ v' T2 e2, (∀ kk, stepK (appTo P (.slice e z b) v (xs, q) (H ++ T)) kk = kk (v', H ++ T2, e2)) ∧ T2.length = T.length + 1 ∧ clean H.length e2 ∧ (∀ (i : Nat) x, T[i]? = some x → (∀ c fz st, x ≠ .cells c e (.op fz st)) → T2[i]? = some x) ∧ GBuf H.length T2 v' e z (len + q) (cs ++ xs) ∧ flat v' = false ∧ vcells v' = [v'] ∧ ∀ v e, quiet (v, H ++ T2, e) (H ++ T) = false := by
  have hz' : 0 < z := by simpa using hz
  obtain ⟨rfl, rfl, rfl⟩ | ⟨hpos, hcl, m, rfl, hm⟩ := h
  · refine ⟨.slice (H.length + T.length) 0 q (.op 0), T ++ [.cells xs e (.op 0 false)], z0, fun kk => ?_, by simp, ⟨rfl, rfl⟩, fun i x hx _ => get_app hx, .inr ⟨by omega, by simpa using hx, T.length, by simp, by simp⟩, by simp only [flat], rfl, fun v e => by simp [quiet]⟩
    rw [appTo_nils hz hk]
    have hd : decide (q = 0) = false := by simp; omega
    have hf : fits q b = true := by simpa using hf
    simp only [hd, guardK_ft, hf, true_and, List.length_append, List.append_assoc]
  · have hlt := lt_of_get hm
    have hg : (H ++ T)[H.length + m]? = some (.cells cs e (.op 0 false)) := by rw [hp_new, hm]
    refine ⟨.slice (H.length + T.length) 0 (len + q) (.op 0), T.set m .dead ++ [.cells (cs ++ xs) e (.op 0 false)], ⟨none, some (H.length + m)⟩, fun kk => ?_, by simp, by simp [clean, low], fun i x hx hf => ?_, .inr ⟨by omega, by rw [List.length_append, hcl, hx, Nat.add_mul], T.length, rfl, by simp⟩, by simp only [flat], rfl, fun v e => by simp [quiet]⟩
    · rw [appTo_op hz hk, hg]
      simp only [bindK_some, appO_c]
      have hqz : 0 < q * z := Nat.mul_pos hq hz'
      have hd : decide (0 + (len + q) * z ≤ cs.length) = false := by
        rw [hcl, Nat.add_mul]; simp; omega
      have ht : (List.drop 0 cs).take (len * z) ++ xs = cs ++ xs := by
        rw [List.drop_zero, List.take_of_length_le (by rw [hcl]; exact Nat.le_refl _)]
      have hle : 0 + len * z ≤ cs.length := by rw [hcl]; omega
      rw [hd, guardK_ft]
      simp only [ht, hf, hsc, hle, hp_set, List.length_append, List.append_assoc, Nat.sub_self, Nat.zero_le, true_and, and_true, Nat.zero_mul]
    · have hne : m ≠ i := by
        rintro rfl
        rw [hm] at hx; cases hx; exact absurd rfl (hf _ _ _)
      rw [get_app (x := x)]
      rw [List.getElem?_set_ne hne]; exact hx
theorem drop_at {α : Type} {s : List α} {i : Nat} {c : α} (h : s[i]? = some c) : s.drop i = c :: s.drop (i + 1) := by
  obtain ⟨hi, rfl⟩ := List.getElem?_eq_some_iff.1 h
  exact List.drop_eq_getElem_cons hi
/-- Texts as cells. -/
def strs (R : List (List UInt8)) : List AV := R.map .str
attribute [go_sem] Nat.mul_one
theorem strs_len {R : List (List UInt8)} : (strs R).length = R.length := by simp [strs]
theorem rep_str : ∀ n, rep [.str []] n = List.replicate n (AV.str [])
  | 0 => rfl
  | n + 1 => by rw [rep, rep_str n]; rfl
theorem strs_snoc {A : List (List UInt8)} {k : Nat} {q : List UInt8} (h : A[k]? = some q) : strs (A.take k) ++ [.str q] = strs (A.take (k + 1)) := by
  rw [take_snoc h]; simp [strs]
theorem strs_at {A : List (List UInt8)} {i : Nat} {p : List UInt8} (h : A[i]? = some p) : (strs A)[i]? = some (.str p) := by simp [strs, h]
theorem strs_ld {A : List (List UInt8)} {i : Nat} {p : List UInt8} (h : A[i]? = some p) (e : TypeId) (k : Kd) : ldC i 1 false (.cells (strs A) e k) = some (.str p) := by
  rw [ldC_f]; exact strs_at h
end Go.Proofs.YtgkpgpdkolpfkaaDoor.V
