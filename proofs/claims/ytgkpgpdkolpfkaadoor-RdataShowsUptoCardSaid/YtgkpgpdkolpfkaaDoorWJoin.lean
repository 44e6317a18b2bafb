/- Package strings' Builder that has grown ahead; Join: as 'V' runs them. No conditions. -/
import Derived.Test.YtgkpgpdkolpfkaaDoorWTextN
namespace Go.Proofs.YtgkpgpdkolpfkaaDoor.V
open Go
set_option linter.unusedSimpArgs false
set_option linter.unusedVariables false
attribute [local irreducible] go goOps goD opK callK callT stepK leaveTo nextK

/-- A builder in the j-th new block that has grown and holds nothing. -/
def Bld0 (n : Nat) (T : Hp) (j : Nat) : Prop := ∃ m, T[j]? = some (.cells [.ptr (n + j) 0, .slice (n + m) 0 0 (.op 0)] 78 .rw) ∧ T[m]? = some (.cells [] 5 (.op 0 false))
set_option maxRecDepth 20000 in
theorem b_grow_i (H T : Hp) (j n : Nat) (hj : T[j]? = some (.cells [.ptr (H.length + j) 0, .nils] 78 .rw)) (hn : 0 < n) (hn2 : n ≤ 1099511627776) :
    ∃ T' e, Bld0 H.length T' j ∧ Keep T j T' ∧ Cl H.length j e ∧ ∀ k, callK Tryd.prog 93 [.ptr (H.length + j) 0, .int .i64 (n : Nat)] (H ++ T) k = k (.tuple [], H ++ T', e) := by
  have hlt := lt_of_get hj
  have hcl0 : Cl H.length j (Ef.and ⟨none, some (H.length + T.length)⟩ ⟨some (H.length + j), some (H.length + j)⟩) := .andr (by simp [clean, low]) ⟨_, rfl, by omega, by omega, by simp [low]⟩
  obtain ⟨e', hE, hleave⟩ := hcl0.leave (m := H.length + T.length) (by omega)
  refine ⟨T.set j (.cells [.ptr (H.length + j) 0, .slice (H.length + T.length) 0 0 (.op 0)] 78 .rw) ++ [.cells [] 5 (.op 0 false)], e', ⟨T.length, ?_, by simp⟩, ⟨by simp, fun i x hi hx hf => get_app (by rw [List.getElem?_set_ne (Ne.symm hi)]; exact hx)⟩, hE, fun k => ?_⟩
  · exact get_app (by rw [List.getElem?_set_self hlt])
  refine callK_eq ?_ k
  refine callK_start (n := 30) (rs := []) Tryd.func93 rfl rfl rfl ?_
  intro σ hl ha
  have h0 := ha 0 (by simp)
  have h1 := ha 1 (by simp)
  clear ha
  simp only [Option.getD_some, List.getElem?_cons_zero, List.getElem?_cons_succ] at h0 h1
  have hd : decide (j < T.length) = true := by simpa using hlt
  have hj1 : (T ++ [.cells [] 5 (.op 0 false)])[j]? = some (.cells [.ptr (H.length + j) 0, .nils] 78 .rw) := get_app hj
  have w0 : IntKind.i64.wrap (0 + (n : Int)) = (n : Int) := by rw [Int.zero_add, wrap_i64 (by omega)]
  have hcap : evCap Tryd.prog 31 .nils = some (.int .i64 0) := by simp only [evCap, tsh_31]
  have hlen0 : ∀ H', evLen Tryd.prog 31 .nils H' = some (.int .i64 0) := by intro H'; simp only [evLen, tsh_31]
  have hcp : evCopy Tryd.prog 31 (.slice (H.length + T.length) 0 0 (.op 0)) .nils (H ++ (T ++ [.cells [] 5 (.op 0 false)])) = some (.int .i64 0, H ++ (T ++ [.cells [] 5 (.op 0 false)]), ⟨none, some (H.length + T.length)⟩) := by
    have hg : (H ++ (T ++ [.cells [] 5 (.op 0 false)]))[H.length + T.length]? = some (.cells [] 5 (.op 0 false)) := by rw [hp_new]; simp
    have hs := set_get hg
    simp only [evCopy, tsh_31, appended, Option.bind_some]
    simp only [wr, hg]
    simp [splice, canWr, hs, flats]
  simp only [go_sem, simprocAttr, hl, h0, h1]
  refine go_drawZ tFollows (by kernel_rfl) ?_
  simp only [go_sem, simprocAttr, hl, h0, h1, hj, hj1, hd, w0, hcap, hlen0, hcp]
  refine ⟨by omega, (by kernel_rfl : effOk _ _ _ = true), ?_⟩
  exact hleave _ _

set_option maxRecDepth 20000 in
theorem b_grow (H T : Hp) (j n : Nat) (hj : T[j]? = some (.cells [.nilp, .nils] 78 .rw)) (hn : 0 < n) (hn2 : n ≤ 1099511627776) :
    ∃ T' e, Bld0 H.length T' j ∧ Keep T j T' ∧ Cl H.length j e ∧ ∀ k, callK Tryd.prog 72 [.ptr (H.length + j) 0, .int .i64 (n : Nat)] (H ++ T) k = k (.tuple [], H ++ T', e) := by
  have hlt := lt_of_get hj
  obtain ⟨e1, he1, hck⟩ := b_check H T j _ _ hj (.inl rfl) rfl
  have hj1 : (T.set j (.cells [.ptr (H.length + j) 0, .nils] 78 .rw))[j]? = some (.cells [.ptr (H.length + j) 0, .nils] 78 .rw) := by rw [List.getElem?_set_self hlt]
  obtain ⟨T', e2, hb, hk, hc, hg⟩ := b_grow_i H _ j n hj1 hn hn2
  have hc0 : clean H.length e1 := by
    obtain rfl | h := he1
    · exact ⟨rfl, rfl⟩
    · exact h.cln
  obtain ⟨e', hE, hleave⟩ := (Cl.andr hc0 hc).leave (m := H.length + T.length) (by omega)
  refine ⟨T', e', hb, ⟨by have := hk.1; simpa using this, fun i x hi hx hf => hk.2 i x hi (by rw [List.getElem?_set_ne (Ne.symm hi)]; exact hx) hf⟩, hE, fun k => ?_⟩
  refine callK_eq ?_ k
  refine callK_start (n := 25) (rs := []) Tryd.func72 rfl rfl rfl ?_
  intro σ hl ha
  have h0 := ha 0 (by simp)
  have h1 := ha 1 (by simp)
  clear ha
  simp only [Option.getD_some, List.getElem?_cons_zero, List.getElem?_cons_succ] at h0 h1
  have hd : decide (j < T.length) = true := by simpa using hlt
  have hcap : evCap Tryd.prog 31 .nils = some (.int .i64 0) := by simp only [evCap, tsh_31]
  have hlen0 : ∀ H', evLen Tryd.prog 31 .nils H' = some (.int .i64 0) := by intro H'; simp only [evLen, tsh_31]
  have g0 : decide ((n : Int) < 0) = false := by simp
  have g1 : decide ((0 : Int) < (n : Int)) = true := by simp; omega
  simp only [go_sem, simprocAttr, hl, h0, h1, hck, g0]
  refine go_drawZ tFollows (by kernel_rfl) ?_
  simp only [go_sem, simprocAttr, hl, h0, h1, hj1, hd, hcap, hlen0, g1, hg]
  exact hleave _ _

set_option maxRecDepth 20000 in
theorem b_wstr0 (H T : Hp) (j : Nat) (s : List UInt8) (hb : Bld0 H.length T j) (hs : 0 < s.length) (hf : fits s.length 1 = true) :
    ∃ T' e, Bld H.length T' j s ∧ Keep T j T' ∧ Cl H.length j e ∧ ∀ k, callK Tryd.prog 69 [.ptr (H.length + j) 0, .str s] (H ++ T) k = k (.tuple [.int .i64 s.length, .nili], H ++ T', e) := by
  obtain ⟨m, hj, hm⟩ := hb
  have hlt := lt_of_get hj
  have hltm := lt_of_get hm
  have hjm : j ≠ m := by
    rintro rfl
    rw [hj] at hm
    injection hm with h; injection h with h _ _; cases h
  obtain ⟨e1, he1, hck⟩ := b_check H T j _ _ hj (.inr rfl) rfl
  rw [set_get hj] at hck
  have hg : (H ++ T)[H.length + m]? = some (.cells [] 5 (.op 0 false)) := by rw [hp_new, hm]
  have happ : ∀ kk, stepK (appTo Tryd.prog (.slice 5 1 1) (.slice (H.length + m) 0 0 (.op 0)) (u8s s, s.length) (H ++ T)) kk = kk (.slice (H.length + T.length) 0 s.length (.op 0), H ++ (T.set m .dead ++ [.cells (u8s s) 5 (.op 0 false)]), ⟨none, some (H.length + m)⟩) := by
    intro kk
    rw [appTo_op (by decide) zok_31, hg]
    simp only [bindK_some, appO_c]
    have hd : decide (0 + (0 + s.length) * 1 ≤ ([] : List AV).length) = false := by
      apply decide_eq_false; intro h; simp only [List.length_nil] at h; omega
    have hf' : fits (0 + s.length) 1 = true := by simpa using hf
    rw [hd, guardK_ft]
    simp only [hf, hf', u8s_scal, hp_set, List.length_append, List.append_assoc, Nat.sub_self, Nat.zero_le, true_and, and_true, Nat.mul_one, Nat.zero_add, Nat.le_refl, List.drop_nil, List.take_nil, List.nil_append]
  simp only [u8s] at happ
  have hj2 : (T.set m .dead ++ [.cells (u8s s) 5 (.op 0 false)])[j]? = some (.cells [.ptr (H.length + j) 0, .slice (H.length + m) 0 0 (.op 0)] 78 .rw) := get_app (by rw [List.getElem?_set_ne (Ne.symm hjm)]; exact hj)
  have hlt2 := lt_of_get hj2
  have hc0 : clean H.length e1 := by
    obtain rfl | h := he1
    · exact ⟨rfl, rfl⟩
    · exact h.cln
  have hcl3 : Cl H.length j ((e1.and ⟨none, some (H.length + m)⟩).and ⟨some (H.length + j), some (H.length + j)⟩) := .andr (clean_and hc0 (by simp [clean, low])) ⟨_, rfl, by omega, by omega, by simp [low]⟩
  obtain ⟨e', hE, hleave⟩ := hcl3.leave (m := H.length + T.length) (by omega)
  refine ⟨(T.set m .dead ++ [ABlk.cells (u8s s) 5 (.op 0 false)]).set j (.cells [.ptr (H.length + j) 0, .slice (H.length + T.length) 0 s.length (.op 0)] 78 .rw), e', ⟨_, _, by rw [List.getElem?_set_self hlt2], .inr rfl, .inr ⟨hs, T.length, rfl, ?_⟩⟩, ⟨by simp, fun i x hi hx hf => ?_⟩, hE, fun k => ?_⟩
  · rw [List.getElem?_set_ne (by omega)]
    rw [List.getElem?_append_right (by simp)]; simp
  · rw [List.getElem?_set_ne (Ne.symm hi)]
    have hne : m ≠ i := by
      rintro rfl
      rw [hm] at hx; cases hx; cases hf
    exact get_app (by rw [List.getElem?_set_ne hne]; exact hx)
  refine callK_eq ?_ k
  refine callK_start (n := 19) (rs := [.tmp 4, .tmp 5]) Tryd.func69 rfl rfl rfl ?_
  intro σ hl ha
  have h0 := ha 0 (by simp)
  have h1 := ha 1 (by simp)
  clear ha
  simp only [Option.getD_some, List.getElem?_cons_zero, List.getElem?_cons_succ] at h0 h1
  have d1 : decide (j < T.length) = true := by simpa using hlt
  have d2 : decide (j < (T.set m .dead ++ [ABlk.cells (u8s s) 5 (.op 0 false)]).length) = true := by simpa using hlt2
  generalize hT2 : (T.set m .dead ++ [ABlk.cells (u8s s) 5 (.op 0 false)]) = T2 at *
  have hT2' : (T.set m .dead ++ [ABlk.cells (s.map fun b => AV.int .u8 (b.toNat : Int)) 5 (.op 0 false)]) = T2 := hT2
  rw [hT2'] at happ
  generalize hv : AV.slice (H.length + m) 0 0 (.op 0) = v at *
  have hvs : scal v = true := by rw [← hv]; rfl
  simp only [go_sem, simprocAttr, hl, h0, h1, hck, d1, d2, hj, hj2, happ, hvs]
  exact hleave _ _
/-- A row of texts that is handed in. -/
def Sv (H : Hp) (v : AV) (L : List (List UInt8)) : Prop := ∃ b c e k, v = .slice b 0 L.length c ∧ H[b]? = some (.cells (strs L) e k) ∧ (c = .ex L.length ∨ (c = .op 0 ∧ e = 9 ∧ ∃ fz st, k = .op fz st)) ∧ 0 < L.length
def joinS (sep : List UInt8) : List (List UInt8) → List UInt8
  | [] => []
  | x :: r => x ++ r.flatMap (sep ++ ·)
def totS (L : List (List UInt8)) : Nat := (L.map List.length).sum
theorem totS_snoc {L : List (List UInt8)} {i : Nat} {x : List UInt8} (h : L[i]? = some x) : totS (L.take (i + 1)) = totS (L.take i) + x.length := by
  rw [take_snoc h]; simp [totS]
theorem totS_take (L : List (List UInt8)) (i : Nat) : totS (L.take i) ≤ totS L := by
  have : totS L = totS (L.take i) + totS (L.drop i) := by
    conv => lhs; rw [← List.take_append_drop i L]
    simp only [totS, List.map_append, List.sum_append]
  omega
theorem joinS_len (sep x : List UInt8) (r : List (List UInt8)) : (x ++ r.flatMap (sep ++ ·)).length = x.length + (r.length * sep.length + totS r) := by
  induction r with
  | nil => simp [totS]
  | cons y r ih =>
    have e1 : (y :: r).flatMap (sep ++ ·) = (sep ++ y) ++ r.flatMap (sep ++ ·) := rfl
    have e2 : totS (y :: r) = y.length + totS r := by simp [totS]
    rw [List.length_append] at ih ⊢
    rw [e1, e2, List.length_append, List.length_append, List.length_cons, Nat.succ_mul]; omega

set_option maxRecDepth 20000 in
set_option maxHeartbeats 1000000 in
theorem s_Join (sep : List UInt8) (L : List (List UInt8)) (v : AV) (H k) (hv : Sv H v L) (hsep : 0 < sep.length) (hse2 : sep.length ≤ 1000) (hL : L.length ≤ 16777216) (hx : ∀ x ∈ L, 0 < x.length) (ht : totS L ≤ 4294967296) :
    callK Tryd.prog 34 [v, .str sep] H k = k (.str (joinS sep L), H, z0) := by
  obtain ⟨b, c, et, kd, rfl, hb, hc, hpos⟩ := hv
  refine callK_eq (r := (.str (joinS sep L), H, z0)) ?_ k
  refine callK_start (n := 75) (rs := [.tmp 4]) Tryd.func34 rfl rfl rfl ?_
  intro σ hl ha
  have h0 := ha 0 (by simp)
  have h1 := ha 1 (by simp)
  clear ha
  simp only [Option.getD_some, List.getElem?_cons_zero, List.getElem?_cons_succ] at h0 h1
  obtain ⟨x0, R, hLR⟩ : ∃ x r, L = x :: r := by cases L with | nil => cases hpos | cons x r => exact ⟨x, r, rfl⟩
  have hx0 := hx x0 (by rw [hLR]; simp)
  have hl0 : L[0]? = some x0 := by rw [hLR]; rfl
  have hld0 := strs_ld hl0
  obtain ⟨n, hn⟩ : ∃ n, L.length = n := ⟨_, rfl⟩
  have hRn : R.length = n - 1 := by rw [← hn, hLR]; simp
  have g0 : ((n : Int) == 0) = false := by simp; omega
  have d0 : decide (0 < n) = true := by simp; omega
  rw [hn] at h0 hc hL
  by_cases h1n : n = 1
  · have hR0 : R = [] := by cases R with | nil => rfl | cons _ _ => simp at hRn; omega
    have hj : joinS sep L = x0 := by rw [hLR, hR0]; simp [joinS]
    subst h1n
    simp only [go_sem, simprocAttr, hl, h0, h1, hb, hld0, hj]
  have g1 : ((n : Int) == 1) = false := by simp; omega
  have g2 : decide ((sep.length : Int) > 0) = true := by simp; omega
  have w1 : IntKind.i64.wrap ((n : Int) - 1) = ((n - 1 : Nat) : Int) := by rw [wrap_i64 (by omega)]; omega
  have hdv : 9223372036854775807 / 16777216 ≤ 9223372036854775807 / (n - 1) := Nat.div_le_div_left (by omega) (by omega)
  have hdv2 : 9223372036854775807 / (n - 1) ≤ 9223372036854775807 := Nat.div_le_self _ _
  have w2 : IntKind.i64.wrap ((9223372036854775807 : Int).tdiv ((n - 1 : Nat) : Int)) = ((9223372036854775807 / (n - 1) : Nat) : Int) := by
    have e : (9223372036854775807 : Int).tdiv ((n - 1 : Nat) : Int) = ((9223372036854775807 / (n - 1) : Nat) : Int) := rfl
    rw [e, wrap_i64 (by omega)]
  have z1 : (((n - 1 : Nat) : Int) == 0) = false := by simp; omega
  have g3 : (9223372036854775807 / (n - 1) ≤ sep.length) = False := by
    apply eq_false; intro h
    have : 9223372036854775807 / 16777216 = 549755813887 := by decide
    omega
  have hmul : sep.length * (n - 1) ≤ 1000 * 16777216 := Nat.mul_le_mul hse2 (by omega)
  have w3 : IntKind.i64.wrap ((sep.length : Int) * ((n - 1 : Nat) : Int)) = ((sep.length * (n - 1) : Nat) : Int) := by
    rw [show (sep.length : Int) * ((n - 1 : Nat) : Int) = ((sep.length * (n - 1) : Nat) : Int) by push_cast; rfl, wrap_i64 (by omega)]
  have w4 : IntKind.i64.wrap (0 + ((sep.length * (n - 1) : Nat) : Int)) = ((sep.length * (n - 1) : Nat) : Int) := by rw [Int.zero_add, wrap_i64 (by omega)]
  generalize hM : sep.length * (n - 1) = M at *
  simp only [go_sem, simprocAttr, hl, h0, h1, g0, g1, g2, w1, w2, z1, g3, w3, w4, hn]
  refine go_rounds (fun m st => ∃ σ i, m + i = n ∧ st = ⟨σ, H, z0⟩ ∧ σ.length = 75 ∧ fr σ 0 = .slice b 0 n c ∧ fr σ 1 = .str sep ∧ fr σ 5 = .int .i64 ((M + totS (L.take i) : Nat)) ∧ fr σ 39 = .slice b 0 n c ∧ fr σ 40 = .int .i64 (n : Nat) ∧ fr σ 41 = .int .i64 (i : Nat)) n
    ⟨_, 0, rfl, rfl, by simp only [go_sem, simprocAttr, hl], by simp only [go_sem, simprocAttr, hl, h0], by simp only [go_sem, simprocAttr, hl, h1], by simp only [go_sem, simprocAttr, hl]; rfl, by simp only [go_sem, simprocAttr, hl], by simp only [go_sem, simprocAttr, hl], by simp only [go_sem, simprocAttr, hl]⟩ ?_
  rintro m _ ⟨σ, i, hi, rfl, hl, h0, h1, h5, h39, h40, h41⟩
  have htk := totS_take L i
  by_cases hlt : i < n
  · obtain ⟨x, hxi⟩ : ∃ x, L[i]? = some x := ⟨_, List.getElem?_eq_getElem (by omega)⟩
    have hld := strs_ld hxi
    have hsn := totS_snoc hxi
    have hxl : x.length ≤ 4294967296 := by
      have h := totS_take L (i + 1)
      rw [hsn] at h; omega
    generalize hS : M + totS (L.take i) = S at *
    have hS2 : S ≤ 9223372036854775807 - 4294967296 := by omega
    have ws : IntKind.i64.wrap (9223372036854775807 - (S : Int)) = ((9223372036854775807 - S : Nat) : Int) := by rw [wrap_i64 (by omega)]; omega
    have gs : (9223372036854775807 - S < x.length) = False := by apply eq_false; omega
    have wa : IntKind.i64.wrap ((S : Int) + (x.length : Int)) = ((S + x.length : Nat) : Int) := by rw [wrap_i64 (by omega)]; omega
    have hw := wrap_succ (show i < 9223372036854775807 by omega)
    simp only [go_sem, simprocAttr, hl, h0, h1, h5, h39, h40, h41, hlt, hb, hld, ws, gs, wa, hw]
    refine ⟨m - 1, by omega, _, i + 1, by omega, rfl, by simp only [go_sem, simprocAttr, hl], by simp only [go_sem, simprocAttr, hl, h0], by simp only [go_sem, simprocAttr, hl, h1], ?_, by simp only [go_sem, simprocAttr, hl, h39], by simp only [go_sem, simprocAttr, hl, h40], by simp only [go_sem, simprocAttr, hl]⟩
    simp only [go_sem, simprocAttr, hl]
    rw [hsn, ← hS]; congr 2; omega
  have hin : i = n := by omega
  subst hin
  rw [show L.take i = L by rw [← hn, List.take_length]] at h5
  obtain ⟨T1, e1, b1, k1, c1, r1⟩ := b_grow H [.cells [.nilp, .nils] 78 .rw] 0 (M + totS L) rfl (by have : 0 < sep.length * (i - 1) := Nat.mul_pos hsep (by omega); omega) (by omega)
  obtain ⟨T2, e2, b2, k2, c2, r2⟩ := b_wstr0 H T1 0 x0 b1 hx0 (by
    have := totS_take L 1
    rw [hLR] at this
    simp [totS] at this
    have h2 : totS L = x0.length + totS R := by rw [hLR]; simp [totS]
    simp only [fits, decide_eq_true_eq]; omega)
  have c1 := c1.cln
  have c2 := c2.cln
  simp only [Nat.add_zero] at r1 r2
  obtain ⟨c', hsl, hc'⟩ : ∃ c', (∀ (H' : Hp) (kk : AV × Hp × Ef → Prop), slK Tryd.prog 64 (.slice b 0 i c) (some (.int .i64 1)) none none (H ++ H') kk = kk (.slice b 1 (i - 1) c', H ++ H', z0)) ∧ True := by
    obtain rfl | ⟨rfl, rfl, fz, st, rfl⟩ := hc
    · refine ⟨.ex (i - 1), fun H' kk => ?_, trivial⟩
      simp only [go_sem, simprocAttr]
      rw [if_neg h1n]
      exact propext ⟨fun h => h.2, fun h => ⟨by omega, h⟩⟩
    · refine ⟨.op 1, fun H' kk => ?_, trivial⟩
      have hb' : (H ++ H')[b]? = some (.cells (strs L) 9 (.op fz st)) := hp_old hb
      rw [slK_op (by rw [tsh_64]; rfl), tsh_64, bindK_some, hb', bindK_some, knC_c, if_pos ⟨rfl, by decide, rfl⟩, bindK_some, bnd_ln]
      have e1 : decide (((1 : Int).toNat = 0 ∨ (1 : Int).toNat < ((strs L).length - 0) / 1)) = true := by rw [strs_len, hn]; simp; omega
      simp only [e1, guardK_tt]
      exact propext ⟨fun h => h.2, fun h => ⟨⟨by omega, by omega⟩, h⟩⟩
  have hbo : ∀ T : Hp, (H ++ T)[b]? = some (.cells (strs L) et kd) := fun T => hp_old hb
  simp only [go_sem, simprocAttr, hl, h0, h1, h5, h39, h40, h41, hlt, hb, hbo, hld0, r1, r2, d0, hsl]
  refine ⟨by omega, ?_⟩
  refine go_rounds (fun m st => ∃ σ j T e, m + j = i - 1 ∧ st = ⟨σ, H ++ T, e⟩ ∧ Bld H.length T 0 (x0 ++ (R.take j).flatMap (sep ++ ·)) ∧ clean H.length e ∧ σ.length = 75 ∧ fr σ 1 = .str sep ∧ fr σ 8 = .ptr H.length 0 ∧ fr σ 63 = .slice b 1 (i - 1) c' ∧ fr σ 64 = .int .i64 ((i - 1 : Nat)) ∧ fr σ 65 = .int .i64 (j : Nat)) (i - 1)
    ⟨_, 0, _, _, rfl, rfl, by simpa using b2, by simp only [go_sem, simprocAttr, c1, c2], by simp only [go_sem, simprocAttr, hl], by simp only [go_sem, simprocAttr, hl, h1], by simp only [go_sem, simprocAttr, hl], by simp only [go_sem, simprocAttr, hl], by simp only [go_sem, simprocAttr, hl], by simp only [go_sem, simprocAttr, hl]⟩ ?_
  rintro m _ ⟨σ, j, T, e, hj, rfl, hbl, he, hl, h1, h8, h63, h64, h65⟩
  have hlen : ∀ j, (x0 ++ (R.take j).flatMap (sep ++ ·)).length ≤ 30000000000 := by
    intro j
    rw [joinS_len]
    have h2 : totS L = x0.length + totS R := by rw [hLR]; simp [totS]
    have h3 := totS_take R j
    have h4 : (R.take j).length * sep.length ≤ 16777216 * 1000 := Nat.mul_le_mul (by rw [List.length_take]; omega) hse2
    omega
  by_cases hlt2 : j < i - 1
  · obtain ⟨x, hxi⟩ : ∃ x, R[j]? = some x := ⟨_, List.getElem?_eq_getElem (by omega)⟩
    have hxm := hx x (by rw [hLR]; exact List.mem_cons_of_mem _ (List.mem_of_getElem? hxi))
    have hl1 : L[1 + j]? = some x := by rw [hLR, Nat.add_comm, List.getElem?_cons_succ]; exact hxi
    have hld := strs_ld hl1
    have hw := wrap_succ (show j < 9223372036854775807 by omega)
    have hsn : (R.take (j + 1)).flatMap (sep ++ ·) = (R.take j).flatMap (sep ++ ·) ++ (sep ++ x) := by rw [take_snoc hxi]; simp
    have hl2 := hlen j
    have hxl : x.length ≤ 30000000000 := by
      have h := hlen (j + 1)
      rw [hsn] at h
      simp only [List.length_append] at h; omega
    obtain ⟨T3, e3, b3, k3, c3, r3⟩ := b_wstr H T 0 _ sep hbl hsep (by simp only [fits, decide_eq_true_eq]; omega)
    obtain ⟨T4, e4, b4, k4, c4, r4⟩ := b_wstr H T3 0 _ x b3 hxm (by simp only [fits, decide_eq_true_eq]; rw [List.length_append]; omega)
    have c3 := c3.cln
    have c4 := c4.cln
    simp only [Nat.add_zero] at r3 r4
    simp only [go_sem, simprocAttr, hl, h1, h8, h63, h64, h65, hlt2, hbo, hld, r3, r4, hw]
    refine ⟨m - 1, by omega, _, j + 1, T4, _, by omega, rfl, ?_, by simp only [go_sem, simprocAttr, he, c3, c4], by simp only [go_sem, simprocAttr, hl], by simp only [go_sem, simprocAttr, hl, h1], by simp only [go_sem, simprocAttr, hl, h8], by simp only [go_sem, simprocAttr, hl, h63], by simp only [go_sem, simprocAttr, hl, h64], by simp only [go_sem, simprocAttr, hl]⟩
    rw [hsn]; simpa [List.append_assoc] using b4
  · have hji : j = i - 1 := by omega
    have hfin : x0 ++ (R.take j).flatMap (sep ++ ·) = joinS sep L := by rw [hji, ← hRn, List.take_length, hLR]; rfl
    have hl2 := hlen j
    rw [hfin] at hbl hl2
    obtain ⟨T3, e3, c3, r3⟩ := b_string H T 0 _ hbl (by omega)
    simp only [Nat.add_zero] at r3
    simp only [go_sem, simprocAttr, hl, h1, h8, h63, h64, h65, hlt2, r3]
    exact leave_flat rfl (clean_and he c3)
end Go.Proofs.YtgkpgpdkolpfkaaDoor.V
