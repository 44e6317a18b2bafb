/- Joined by mkclaim.py: WJoin WRefEsc WNum WNumB WNumC WRefNum WHex WData WCheck WCheckB WCheckC WCheckD WShow WPut. No conditions. -/
import Derived.Test.YtgkpgpdkolpfkaaGreatDoorJ3
set_option linter.unusedSimpArgs false
set_option linter.unusedVariables false
namespace Go.Proofs.YtgkpgpdkolpfkaaGreatDoor.V
open Go
attribute [local irreducible] go goOps goD opK callK callT stepK leaveTo nextK

def Bld0 (n : Nat) (T : Hp) (j : Nat) : Prop := ∃ m, T[j]? = some (.cells [.ptr (n + j) 0, .slice (n + m) 0 0 (.op 0)] 54 .rw) ∧ T[m]? = some (.cells [] 5 (.op 0 false))
set_option maxRecDepth 20000 in
theorem b_grow_i (H T : Hp) (j n : Nat) (hj : T[j]? = some (.cells [.ptr (H.length + j) 0, .nils] 54 .rw)) (hn : 0 < n) (hn2 : n ≤ 1099511627776) :
    ∃ T' e, Bld0 H.length T' j ∧ Keep T j T' ∧ Cl H.length j e ∧ ∀ k, callK Tryz.prog 60 [.ptr (H.length + j) 0, .int .i64 (n : Nat)] (H ++ T) k = k (.tuple [], H ++ T', e) := by
  have hlt := lt_of_get hj
  have hcl0 : Cl H.length j (Ef.and ⟨none, some (H.length + T.length)⟩ ⟨some (H.length + j), some (H.length + j)⟩) := .andr (by simp [clean, low]) ⟨_, rfl, by omega, by omega, by simp [low]⟩
  obtain ⟨e', hE, hleave⟩ := hcl0.leave (m := H.length + T.length) (by omega)
  refine ⟨T.set j (.cells [.ptr (H.length + j) 0, .slice (H.length + T.length) 0 0 (.op 0)] 54 .rw) ++ [.cells [] 5 (.op 0 false)], e', ⟨T.length, ?_, by simp⟩, ⟨by simp, fun i x hi hx hf => get_app (by rw [List.getElem?_set_ne (Ne.symm hi)]; exact hx)⟩, hE, fun k => ?_⟩
  · exact get_app (by rw [List.getElem?_set_self hlt])
  refine callK_eq ?_ k
  refine callK_start (n := 30) (rs := []) Tryz.func60 rfl rfl rfl ?_
  intro σ hl ha
  have h0 := ha 0 (by simp)
  have h1 := ha 1 (by simp)
  clear ha
  simp only [Option.getD_some, List.getElem?_cons_zero, List.getElem?_cons_succ] at h0 h1
  have hd : decide (j < T.length) = true := by simpa using hlt
  have hj1 : (T ++ [.cells [] 5 (.op 0 false)])[j]? = some (.cells [.ptr (H.length + j) 0, .nils] 54 .rw) := get_app hj
  have w0 : IntKind.i64.wrap (0 + (n : Int)) = (n : Int) := by rw [Int.zero_add, wrap_i64 (by omega)]
  have hcap : evCap Tryz.prog 52 .nils = some (.int .i64 0) := by simp only [evCap, tsh_52]
  have hlen0 : ∀ H', evLen Tryz.prog 52 .nils H' = some (.int .i64 0) := by intro H'; simp only [evLen, tsh_52]
  have hcp : evCopy Tryz.prog 52 (.slice (H.length + T.length) 0 0 (.op 0)) .nils (H ++ (T ++ [.cells [] 5 (.op 0 false)])) = some (.int .i64 0, H ++ (T ++ [.cells [] 5 (.op 0 false)]), ⟨none, some (H.length + T.length)⟩) := by
    have hg : (H ++ (T ++ [.cells [] 5 (.op 0 false)]))[H.length + T.length]? = some (.cells [] 5 (.op 0 false)) := by rw [hp_new]; simp
    have hs := set_get hg
    simp only [evCopy, tsh_52, appended, Option.bind_some]
    simp only [wr, hg]
    simp [splice, canWr, hs, flats]
  simp only [go_sem, simprocAttr, hl, h0, h1]
  refine go_drawZ tFollows (by kernel_rfl) ?_
  simp only [go_sem, simprocAttr, hl, h0, h1, hj, hj1, hd, w0, hcap, hlen0, hcp]
  refine ⟨by omega, (by kernel_rfl : effOk _ _ _ = true), ?_⟩
  exact hleave _ _

set_option maxRecDepth 20000 in
theorem b_grow (H T : Hp) (j n : Nat) (hj : T[j]? = some (.cells [.nilp, .nils] 54 .rw)) (hn : 0 < n) (hn2 : n ≤ 1099511627776) :
    ∃ T' e, Bld0 H.length T' j ∧ Keep T j T' ∧ Cl H.length j e ∧ ∀ k, callK Tryz.prog 35 [.ptr (H.length + j) 0, .int .i64 (n : Nat)] (H ++ T) k = k (.tuple [], H ++ T', e) := by
  have hlt := lt_of_get hj
  obtain ⟨e1, he1, hck⟩ := b_check H T j _ _ hj (.inl rfl) rfl
  have hj1 : (T.set j (.cells [.ptr (H.length + j) 0, .nils] 54 .rw))[j]? = some (.cells [.ptr (H.length + j) 0, .nils] 54 .rw) := by rw [List.getElem?_set_self hlt]
  obtain ⟨T', e2, hb, hk, hc, hg⟩ := b_grow_i H _ j n hj1 hn hn2
  have hc0 : clean H.length e1 := by
    obtain rfl | h := he1
    · exact ⟨rfl, rfl⟩
    · exact h.cln
  obtain ⟨e', hE, hleave⟩ := (Cl.andr hc0 hc).leave (m := H.length + T.length) (by omega)
  refine ⟨T', e', hb, ⟨by have := hk.1; simpa using this, fun i x hi hx hf => hk.2 i x hi (by rw [List.getElem?_set_ne (Ne.symm hi)]; exact hx) hf⟩, hE, fun k => ?_⟩
  refine callK_eq ?_ k
  refine callK_start (n := 25) (rs := []) Tryz.func35 rfl rfl rfl ?_
  intro σ hl ha
  have h0 := ha 0 (by simp)
  have h1 := ha 1 (by simp)
  clear ha
  simp only [Option.getD_some, List.getElem?_cons_zero, List.getElem?_cons_succ] at h0 h1
  have hd : decide (j < T.length) = true := by simpa using hlt
  have hcap : evCap Tryz.prog 52 .nils = some (.int .i64 0) := by simp only [evCap, tsh_52]
  have hlen0 : ∀ H', evLen Tryz.prog 52 .nils H' = some (.int .i64 0) := by intro H'; simp only [evLen, tsh_52]
  have g0 : decide ((n : Int) < 0) = false := by simp
  have g1 : decide ((0 : Int) < (n : Int)) = true := by simp; omega
  simp only [go_sem, simprocAttr, hl, h0, h1, hck, g0]
  refine go_drawZ tFollows (by kernel_rfl) ?_
  simp only [go_sem, simprocAttr, hl, h0, h1, hj1, hd, hcap, hlen0, g1, hg]
  exact hleave _ _

set_option maxRecDepth 20000 in
theorem b_wstr0 (H T : Hp) (j : Nat) (s : List UInt8) (hb : Bld0 H.length T j) (hs : 0 < s.length) (hf : fits s.length 1 = true) :
    ∃ T' e, Bld H.length T' j s ∧ Keep T j T' ∧ Cl H.length j e ∧ ∀ k, callK Tryz.prog 32 [.ptr (H.length + j) 0, .str s] (H ++ T) k = k (.tuple [.int .i64 s.length, .nili], H ++ T', e) := by
  obtain ⟨m, hj, hm⟩ := hb
  have hlt := lt_of_get hj
  have hltm := lt_of_get hm
  have hjm : j ≠ m := by
    rintro rfl
    rw [hj] at hm
    injection hm with h; injection h with h _ _; cases h
  obtain ⟨e1, he1, hck⟩ := b_check H T j _ _ hj (.inr rfl) rfl
  rw [set_get hj] at hck
  have hg : (H ++ T)[H.length + m]? = some (.cells [] 5 (.op 0 false)) := by rw [hp_new, hm]
  have happ : ∀ kk, stepK (appTo Tryz.prog (.slice 5 1 1) (.slice (H.length + m) 0 0 (.op 0)) (u8s s, s.length) (H ++ T)) kk = kk (.slice (H.length + T.length) 0 s.length (.op 0), H ++ (T.set m .dead ++ [.cells (u8s s) 5 (.op 0 false)]), ⟨none, some (H.length + m)⟩) := by
    intro kk
    rw [appTo_op (by decide) zok_52, hg]
    simp only [bindK_some, appO_c]
    have hd : decide (0 + (0 + s.length) * 1 ≤ ([] : List AV).length) = false := by
      apply decide_eq_false; intro h; simp only [List.length_nil] at h; omega
    have hf' : fits (0 + s.length) 1 = true := by simpa using hf
    rw [hd, guardK_ft]
    simp only [hf, hf', u8s_scal, hp_set, List.length_append, List.append_assoc, Nat.sub_self, Nat.zero_le, true_and, and_true, Nat.mul_one, Nat.zero_add, Nat.le_refl, List.drop_nil, List.take_nil, List.nil_append]
  simp only [u8s] at happ
  have hj2 : (T.set m .dead ++ [.cells (u8s s) 5 (.op 0 false)])[j]? = some (.cells [.ptr (H.length + j) 0, .slice (H.length + m) 0 0 (.op 0)] 54 .rw) := get_app (by rw [List.getElem?_set_ne (Ne.symm hjm)]; exact hj)
  have hlt2 := lt_of_get hj2
  have hc0 : clean H.length e1 := by
    obtain rfl | h := he1
    · exact ⟨rfl, rfl⟩
    · exact h.cln
  have hcl3 : Cl H.length j ((e1.and ⟨none, some (H.length + m)⟩).and ⟨some (H.length + j), some (H.length + j)⟩) := .andr (clean_and hc0 (by simp [clean, low])) ⟨_, rfl, by omega, by omega, by simp [low]⟩
  obtain ⟨e', hE, hleave⟩ := hcl3.leave (m := H.length + T.length) (by omega)
  refine ⟨(T.set m .dead ++ [ABlk.cells (u8s s) 5 (.op 0 false)]).set j (.cells [.ptr (H.length + j) 0, .slice (H.length + T.length) 0 s.length (.op 0)] 54 .rw), e', ⟨_, _, by rw [List.getElem?_set_self hlt2], .inr rfl, .inr ⟨hs, T.length, rfl, ?_⟩⟩, ⟨by simp, fun i x hi hx hf => ?_⟩, hE, fun k => ?_⟩
  · rw [List.getElem?_set_ne (by omega)]
    rw [List.getElem?_append_right (by simp)]; simp
  · rw [List.getElem?_set_ne (Ne.symm hi)]
    have hne : m ≠ i := by
      rintro rfl
      rw [hm] at hx; cases hx; cases hf
    exact get_app (by rw [List.getElem?_set_ne hne]; exact hx)
  refine callK_eq ?_ k
  refine callK_start (n := 19) (rs := [.tmp 4, .tmp 5]) Tryz.func32 rfl rfl rfl ?_
  intro σ hl ha
  have h0 := ha 0 (by simp)
  have h1 := ha 1 (by simp)
  clear ha
  simp only [Option.getD_some, List.getElem?_cons_zero, List.getElem?_cons_succ] at h0 h1
  have d1 : decide (j < T.length) = true := by simpa using hlt
  have d2 : decide (j < (T.set m .dead ++ [ABlk.cells (u8s s) 5 (.op 0 false)]).length) = true := by simpa using hlt2
  generalize hT2 : (T.set m .dead ++ [ABlk.cells (u8s s) 5 (.op 0 false)]) = T2 at *
  have hT2' : (T.set m .dead ++ [ABlk.cells (s.map fun b => AV.int .u8 (b.toNat : Int)) 5 (.op 0 false)]) = T2 := hT2
  rw [hT2'] at happ
  generalize hv : AV.slice (H.length + m) 0 0 (.op 0) = v at *
  have hvs : scal v = true := by rw [← hv]; rfl
  simp only [go_sem, simprocAttr, hl, h0, h1, hck, d1, d2, hj, hj2, happ, hvs]
  exact hleave _ _
def Sv (H : Hp) (v : AV) (L : List (List UInt8)) : Prop := ∃ b c e k, v = .slice b 0 L.length c ∧ H[b]? = some (.cells (strs L) e k) ∧ (c = .ex L.length ∨ (c = .op 0 ∧ e = 9 ∧ ∃ fz st, k = .op fz st)) ∧ 0 < L.length
def joinS (sep : List UInt8) : List (List UInt8) → List UInt8
  | [] => []
  | x :: r => x ++ r.flatMap (sep ++ ·)
def totS (L : List (List UInt8)) : Nat := (L.map List.length).sum
theorem totS_snoc {L : List (List UInt8)} {i : Nat} {x : List UInt8} (h : L[i]? = some x) : totS (L.take (i + 1)) = totS (L.take i) + x.length := by
  rw [take_snoc h]; simp [totS]
theorem totS_take (L : List (List UInt8)) (i : Nat) : totS (L.take i) ≤ totS L := by
  have : totS L = totS (L.take i) + totS (L.drop i) := by
    conv => lhs; rw [← List.take_append_drop i L]
    simp only [totS, List.map_append, List.sum_append]
  omega
theorem joinS_len (sep x : List UInt8) (r : List (List UInt8)) : (x ++ r.flatMap (sep ++ ·)).length = x.length + (r.length * sep.length + totS r) := by
  induction r with
  | nil => simp [totS]
  | cons y r ih =>
    have e1 : (y :: r).flatMap (sep ++ ·) = (sep ++ y) ++ r.flatMap (sep ++ ·) := rfl
    have e2 : totS (y :: r) = y.length + totS r := by simp [totS]
    rw [List.length_append] at ih ⊢
    rw [e1, e2, List.length_append, List.length_append, List.length_cons, Nat.succ_mul]; omega

set_option maxRecDepth 20000 in
set_option maxHeartbeats 1000000 in
theorem s_Join (sep : List UInt8) (L : List (List UInt8)) (v : AV) (H k) (hv : Sv H v L) (hsep : 0 < sep.length) (hse2 : sep.length ≤ 1000) (hL : L.length ≤ 16777216) (hx : ∀ x ∈ L, 0 < x.length) (ht : totS L ≤ 4294967296) :
    callK Tryz.prog 13 [v, .str sep] H k = k (.str (joinS sep L), H, z0) := by
  obtain ⟨b, c, et, kd, rfl, hb, hc, hpos⟩ := hv
  refine callK_eq (r := (.str (joinS sep L), H, z0)) ?_ k
  refine callK_start (n := 75) (rs := [.tmp 4]) Tryz.func13 rfl rfl rfl ?_
  intro σ hl ha
  have h0 := ha 0 (by simp)
  have h1 := ha 1 (by simp)
  clear ha
  simp only [Option.getD_some, List.getElem?_cons_zero, List.getElem?_cons_succ] at h0 h1
  obtain ⟨x0, R, hLR⟩ : ∃ x r, L = x :: r := by cases L with | nil => cases hpos | cons x r => exact ⟨x, r, rfl⟩
  have hx0 := hx x0 (by rw [hLR]; simp)
  have hl0 : L[0]? = some x0 := by rw [hLR]; rfl
  have hld0 := strs_ld hl0
  obtain ⟨n, hn⟩ : ∃ n, L.length = n := ⟨_, rfl⟩
  have hRn : R.length = n - 1 := by rw [← hn, hLR]; simp
  have g0 : ((n : Int) == 0) = false := by simp; omega
  have d0 : decide (0 < n) = true := by simp; omega
  rw [hn] at h0 hc hL
  by_cases h1n : n = 1
  · have hR0 : R = [] := by cases R with | nil => rfl | cons _ _ => simp at hRn; omega
    have hj : joinS sep L = x0 := by rw [hLR, hR0]; simp [joinS]
    subst h1n
    simp only [go_sem, simprocAttr, hl, h0, h1, hb, hld0, hj]
  have g1 : ((n : Int) == 1) = false := by simp; omega
  have g2 : decide ((sep.length : Int) > 0) = true := by simp; omega
  have w1 : IntKind.i64.wrap ((n : Int) - 1) = ((n - 1 : Nat) : Int) := by rw [wrap_i64 (by omega)]; omega
  have hdv : 9223372036854775807 / 16777216 ≤ 9223372036854775807 / (n - 1) := Nat.div_le_div_left (by omega) (by omega)
  have hdv2 : 9223372036854775807 / (n - 1) ≤ 9223372036854775807 := Nat.div_le_self _ _
  have w2 : IntKind.i64.wrap ((9223372036854775807 : Int).tdiv ((n - 1 : Nat) : Int)) = ((9223372036854775807 / (n - 1) : Nat) : Int) := by
    have e : (9223372036854775807 : Int).tdiv ((n - 1 : Nat) : Int) = ((9223372036854775807 / (n - 1) : Nat) : Int) := rfl
    rw [e, wrap_i64 (by omega)]
  have z1 : (((n - 1 : Nat) : Int) == 0) = false := by simp; omega
  have g3 : (9223372036854775807 / (n - 1) ≤ sep.length) = False := by
    apply eq_false; intro h
    have : 9223372036854775807 / 16777216 = 549755813887 := by decide
    omega
  have hmul : sep.length * (n - 1) ≤ 1000 * 16777216 := Nat.mul_le_mul hse2 (by omega)
  have w3 : IntKind.i64.wrap ((sep.length : Int) * ((n - 1 : Nat) : Int)) = ((sep.length * (n - 1) : Nat) : Int) := by
    rw [show (sep.length : Int) * ((n - 1 : Nat) : Int) = ((sep.length * (n - 1) : Nat) : Int) by push_cast; rfl, wrap_i64 (by omega)]
  have w4 : IntKind.i64.wrap (0 + ((sep.length * (n - 1) : Nat) : Int)) = ((sep.length * (n - 1) : Nat) : Int) := by rw [Int.zero_add, wrap_i64 (by omega)]
  generalize hM : sep.length * (n - 1) = M at *
  simp only [go_sem, simprocAttr, hl, h0, h1, g0, g1, g2, w1, w2, z1, g3, w3, w4, hn]
  refine go_rounds (fun m st => ∃ σ i, m + i = n ∧ st = ⟨σ, H, z0⟩ ∧ σ.length = 75 ∧ fr σ 0 = .slice b 0 n c ∧ fr σ 1 = .str sep ∧ fr σ 5 = .int .i64 ((M + totS (L.take i) : Nat)) ∧ fr σ 39 = .slice b 0 n c ∧ fr σ 40 = .int .i64 (n : Nat) ∧ fr σ 41 = .int .i64 (i : Nat)) n
    ⟨_, 0, rfl, rfl, by simp only [go_sem, simprocAttr, hl], by simp only [go_sem, simprocAttr, hl, h0], by simp only [go_sem, simprocAttr, hl, h1], by simp only [go_sem, simprocAttr, hl]; rfl, by simp only [go_sem, simprocAttr, hl], by simp only [go_sem, simprocAttr, hl], by simp only [go_sem, simprocAttr, hl]⟩ ?_
  rintro m _ ⟨σ, i, hi, rfl, hl, h0, h1, h5, h39, h40, h41⟩
  have htk := totS_take L i
  by_cases hlt : i < n
  · obtain ⟨x, hxi⟩ : ∃ x, L[i]? = some x := ⟨_, List.getElem?_eq_getElem (by omega)⟩
    have hld := strs_ld hxi
    have hsn := totS_snoc hxi
    have hxl : x.length ≤ 4294967296 := by
      have h := totS_take L (i + 1)
      rw [hsn] at h; omega
    generalize hS : M + totS (L.take i) = S at *
    have hS2 : S ≤ 9223372036854775807 - 4294967296 := by omega
    have ws : IntKind.i64.wrap (9223372036854775807 - (S : Int)) = ((9223372036854775807 - S : Nat) : Int) := by rw [wrap_i64 (by omega)]; omega
    have gs : (9223372036854775807 - S < x.length) = False := by apply eq_false; omega
    have wa : IntKind.i64.wrap ((S : Int) + (x.length : Int)) = ((S + x.length : Nat) : Int) := by rw [wrap_i64 (by omega)]; omega
    have hw := wrap_succ (show i < 9223372036854775807 by omega)
    simp only [go_sem, simprocAttr, hl, h0, h1, h5, h39, h40, h41, hlt, hb, hld, ws, gs, wa, hw]
    refine ⟨m - 1, by omega, _, i + 1, by omega, rfl, by simp only [go_sem, simprocAttr, hl], by simp only [go_sem, simprocAttr, hl, h0], by simp only [go_sem, simprocAttr, hl, h1], ?_, by simp only [go_sem, simprocAttr, hl, h39], by simp only [go_sem, simprocAttr, hl, h40], by simp only [go_sem, simprocAttr, hl]⟩
    simp only [go_sem, simprocAttr, hl]
    rw [hsn, ← hS]; congr 2; omega
  have hin : i = n := by omega
  subst hin
  rw [show L.take i = L by rw [← hn, List.take_length]] at h5
  obtain ⟨T1, e1, b1, k1, c1, r1⟩ := b_grow H [.cells [.nilp, .nils] 54 .rw] 0 (M + totS L) rfl (by have : 0 < sep.length * (i - 1) := Nat.mul_pos hsep (by omega); omega) (by omega)
  obtain ⟨T2, e2, b2, k2, c2, r2⟩ := b_wstr0 H T1 0 x0 b1 hx0 (by
    have := totS_take L 1
    rw [hLR] at this
    simp [totS] at this
    have h2 : totS L = x0.length + totS R := by rw [hLR]; simp [totS]
    simp only [fits, decide_eq_true_eq]; omega)
  have c1 := c1.cln
  have c2 := c2.cln
  simp only [Nat.add_zero] at r1 r2
  obtain ⟨c', hsl, hc'⟩ : ∃ c', (∀ (H' : Hp) (kk : AV × Hp × Ef → Prop), slK Tryz.prog 38 (.slice b 0 i c) (some (.int .i64 1)) none none (H ++ H') kk = kk (.slice b 1 (i - 1) c', H ++ H', z0)) ∧ True := by
    obtain rfl | ⟨rfl, rfl, fz, st, rfl⟩ := hc
    · refine ⟨.ex (i - 1), fun H' kk => ?_, trivial⟩
      simp only [go_sem, simprocAttr]
      rw [if_neg h1n]
      exact propext ⟨fun h => h.2, fun h => ⟨by omega, h⟩⟩
    · refine ⟨.op 1, fun H' kk => ?_, trivial⟩
      have hb' : (H ++ H')[b]? = some (.cells (strs L) 9 (.op fz st)) := hp_old hb
      rw [slK_op (by rw [tsh_38]; rfl), tsh_38, bindK_some, hb', bindK_some, knC_c, if_pos ⟨rfl, by decide, rfl⟩, bindK_some, bnd_ln]
      have e1 : decide (((1 : Int).toNat = 0 ∨ (1 : Int).toNat < ((strs L).length - 0) / 1)) = true := by rw [strs_len, hn]; simp; omega
      simp only [e1, guardK_tt]
      exact propext ⟨fun h => h.2, fun h => ⟨⟨by omega, by omega⟩, h⟩⟩
  have hbo : ∀ T : Hp, (H ++ T)[b]? = some (.cells (strs L) et kd) := fun T => hp_old hb
  simp only [go_sem, simprocAttr, hl, h0, h1, h5, h39, h40, h41, hlt, hb, hbo, hld0, r1, r2, d0, hsl]
  refine ⟨by omega, ?_⟩
  refine go_rounds (fun m st => ∃ σ j T e, m + j = i - 1 ∧ st = ⟨σ, H ++ T, e⟩ ∧ Bld H.length T 0 (x0 ++ (R.take j).flatMap (sep ++ ·)) ∧ clean H.length e ∧ σ.length = 75 ∧ fr σ 1 = .str sep ∧ fr σ 8 = .ptr H.length 0 ∧ fr σ 63 = .slice b 1 (i - 1) c' ∧ fr σ 64 = .int .i64 ((i - 1 : Nat)) ∧ fr σ 65 = .int .i64 (j : Nat)) (i - 1)
    ⟨_, 0, _, _, rfl, rfl, by simpa using b2, by simp only [go_sem, simprocAttr, c1, c2], by simp only [go_sem, simprocAttr, hl], by simp only [go_sem, simprocAttr, hl, h1], by simp only [go_sem, simprocAttr, hl], by simp only [go_sem, simprocAttr, hl], by simp only [go_sem, simprocAttr, hl], by simp only [go_sem, simprocAttr, hl]⟩ ?_
  rintro m _ ⟨σ, j, T, e, hj, rfl, hbl, he, hl, h1, h8, h63, h64, h65⟩
  have hlen : ∀ j, (x0 ++ (R.take j).flatMap (sep ++ ·)).length ≤ 30000000000 := by
    intro j
    rw [joinS_len]
    have h2 : totS L = x0.length + totS R := by rw [hLR]; simp [totS]
    have h3 := totS_take R j
    have h4 : (R.take j).length * sep.length ≤ 16777216 * 1000 := Nat.mul_le_mul (by rw [List.length_take]; omega) hse2
    omega
  by_cases hlt2 : j < i - 1
  · obtain ⟨x, hxi⟩ : ∃ x, R[j]? = some x := ⟨_, List.getElem?_eq_getElem (by omega)⟩
    have hxm := hx x (by rw [hLR]; exact List.mem_cons_of_mem _ (List.mem_of_getElem? hxi))
    have hl1 : L[1 + j]? = some x := by rw [hLR, Nat.add_comm, List.getElem?_cons_succ]; exact hxi
    have hld := strs_ld hl1
    have hw := wrap_succ (show j < 9223372036854775807 by omega)
    have hsn : (R.take (j + 1)).flatMap (sep ++ ·) = (R.take j).flatMap (sep ++ ·) ++ (sep ++ x) := by rw [take_snoc hxi]; simp
    have hl2 := hlen j
    have hxl : x.length ≤ 30000000000 := by
      have h := hlen (j + 1)
      rw [hsn] at h
      simp only [List.length_append] at h; omega
    obtain ⟨T3, e3, b3, k3, c3, r3⟩ := b_wstr H T 0 _ sep hbl hsep (by simp only [fits, decide_eq_true_eq]; omega)
    obtain ⟨T4, e4, b4, k4, c4, r4⟩ := b_wstr H T3 0 _ x b3 hxm (by simp only [fits, decide_eq_true_eq]; rw [List.length_append]; omega)
    have c3 := c3.cln
    have c4 := c4.cln
    simp only [Nat.add_zero] at r3 r4
    simp only [go_sem, simprocAttr, hl, h1, h8, h63, h64, h65, hlt2, hbo, hld, r3, r4, hw]
    refine ⟨m - 1, by omega, _, j + 1, T4, _, by omega, rfl, ?_, by simp only [go_sem, simprocAttr, he, c3, c4], by simp only [go_sem, simprocAttr, hl], by simp only [go_sem, simprocAttr, hl, h1], by simp only [go_sem, simprocAttr, hl, h8], by simp only [go_sem, simprocAttr, hl, h63], by simp only [go_sem, simprocAttr, hl, h64], by simp only [go_sem, simprocAttr, hl]⟩
    rw [hsn]; simpa [List.append_assoc] using b4
  · have hji : j = i - 1 := by omega
    have hfin : x0 ++ (R.take j).flatMap (sep ++ ·) = joinS sep L := by rw [hji, ← hRn, List.take_length, hLR]; rfl
    have hl2 := hlen j
    rw [hfin] at hbl hl2
    obtain ⟨T3, e3, c3, r3⟩ := b_string H T 0 _ hbl (by omega)
    simp only [Nat.add_zero] at r3
    simp only [go_sem, simprocAttr, hl, h1, h8, h63, h64, h65, hlt2, r3]
    exact leave_flat rfl (clean_and he c3)
end Go.Proofs.YtgkpgpdkolpfkaaGreatDoor.V
namespace Go.Proofs.YtgkpgpdkolpfkaaGreatDoor.V
open Go
attribute [local irreducible] go goOps goD opK callK callT stepK leaveTo nextK

theorem bslice1 (a : Int) (H : Hp) : evBuildSlice Tryz.prog 52 1 [(0, .int .u8 a)] H = some (.slice H.length 0 1 (.ex 1), H ++ [.cells [.int .u8 a] 5 .rw]) := by
  simp only [evBuildSlice, tsh_52, tzero_5, Option.bind_some]
  rfl
theorem Buf.more {n : Nat} {T : Hp} {v : AV} {bs : List UInt8} (h : Buf n T v bs) (l : Hp) : Buf n (T ++ l) v bs := by
  obtain h | ⟨q, m, rfl, hm⟩ := h
  · exact .inl h
  · exact .inr ⟨q, m, rfl, get_app hm⟩
theorem Buf.rd {H T : Hp} {v : AV} {bs : List UInt8} (h : Buf H.length T v bs) : Rd (H ++ T) v bs := by
  obtain h | ⟨q, m, rfl, hm⟩ := h
  · exact .inl h
  · exact .inr ⟨_, _, _, [], [], 5, .op 0 false, rfl, rfl, by rw [hp_new, hm]; simp, .inr ⟨rfl, rfl, 0, false, rfl⟩⟩

end Go.Proofs.YtgkpgpdkolpfkaaGreatDoor.V
namespace Go.Proofs.YtgkpgpdkolpfkaaGreatDoor.V
open Go
attribute [local irreducible] go goOps goD opK callK callT stepK leaveTo nextK

def len8 : List UInt8 := [0,1,2,2,3,3,3,3,4,4,4,4,4,4,4,4,5,5,5,5,5,5,5,5,5,5,5,5,5,5,5,5,6,6,6,6,6,6,6,6,6,6,6,6,6,6,6,6,6,6,6,6,6,6,6,6,6,6,6,6,6,6,6,6,7,7,7,7,7,7,7,7,7,7,7,7,7,7,7,7,7,7,7,7,7,7,7,7,7,7,7,7,7,7,7,7,7,7,7,7,7,7,7,7,7,7,7,7,7,7,7,7,7,7,7,7,7,7,7,7,7,7,7,7,7,7,7,7] ++ List.replicate 128 8
def bl8 (c : Nat) : Nat := ((len8[c]?).getD 0).toNat
theorem bl8_at {c : Nat} (h : c < 256) : len8[c]? = some (UInt8.ofNat (bl8 c)) ∧ bl8 c ≤ 8 := by
  have : ∀ c : Fin 256, len8[c.val]? = some (UInt8.ofNat (bl8 c.val)) ∧ bl8 c.val ≤ 8 := by decide +kernel
  exact this ⟨c, h⟩

theorem bindK_len8 {L : List UInt8} {n : Nat} {f : UInt8 → Prop} (hL : L = len8) (h : n < 256) : bindK (L[n]?) f = f (UInt8.ofNat (bl8 n)) := by
  subst hL
  rw [(bl8_at h).1, bindK_some]
set_option maxRecDepth 20000 in
theorem num_log (b : Nat) (H k) (hb : b ≤ 64) : callK Tryz.prog 80 [.int .i64 (b : Nat)] H k = k (.int .i64 (b * 78913 / 262144 : Nat), H, z0) := by
  refine callK_eq (r := (.int .i64 (b * 78913 / 262144 : Nat), H, z0)) ?_ k
  refine callK_start (n := 6) (rs := [.tmp 2]) Tryz.func80 rfl rfl rfl ?_
  intro σ hl ha
  have h0 := ha 0 (by simp)
  clear ha
  simp only [Option.getD_some, List.getElem?_cons_zero, List.getElem?_cons_succ] at h0
  have w1 : IntKind.i64.wrap ((b : Int) * 78913) = ((b * 78913 : Nat) : Int) := by rw [wrap_i64 (by omega)]; omega
  have w2 : ((b * 78913 : Nat) : Int).fdiv (2 ^ min 18 64) = ((b * 78913 / 262144 : Nat) : Int) := by
    have : (2 : Int) ^ min 18 64 = 262144 := by decide
    rw [this, Int.fdiv_eq_ediv_of_nonneg _ (by omega)]; omega
  simp only [go_sem, simprocAttr, hl, h0, w1, w2]
set_option maxRecDepth 20000 in
theorem num_bool (b : Bool) (H k) : callK Tryz.prog 82 [.bool b] H k = k (.int .i64 (if b = true then 1 else 0), H, z0) := by
  refine callK_eq (r := (.int .i64 (if b = true then 1 else 0), H, z0)) ?_ k
  refine callK_start (n := 4) (rs := [.tmp 2]) Tryz.func82 rfl rfl rfl ?_
  intro σ hl ha
  have h0 := ha 0 (by simp)
  clear ha
  simp only [Option.getD_some, List.getElem?_cons_zero, List.getElem?_cons_succ] at h0
  cases b
  · simp only [go_sem, simprocAttr, hl, h0]
  · simp only [go_sem, simprocAttr, hl, h0]

theorem bl8_range : ∀ {c : Nat}, c < 256 → c < 2 ^ bl8 c ∧ (c ≠ 0 → 2 ^ bl8 c ≤ 2 * c) := by
  intro c h
  have : ∀ c : Fin 256, c.val < 2 ^ bl8 c.val ∧ (c.val ≠ 0 → 2 ^ bl8 c.val ≤ 2 * c.val) := by decide +kernel
  exact this ⟨c, h⟩
def pow10c : List AV := [.int .u64 1, .int .u64 10, .int .u64 100, .int .u64 1000, .int .u64 10000, .int .u64 100000, .int .u64 1000000, .int .u64 10000000, .int .u64 100000000, .int .u64 1000000000, .int .u64 10000000000, .int .u64 100000000000, .int .u64 1000000000000, .int .u64 10000000000000, .int .u64 100000000000000, .int .u64 1000000000000000, .int .u64 10000000000000000, .int .u64 100000000000000000, .int .u64 1000000000000000000, .int .u64 10000000000000000000]
def Tb (H : Hp) : Prop := ∃ e k, H[1]? = some (.cells pow10c e k)
theorem Tb.old {H : Hp} (h : Tb H) (l : Hp) : Tb (H ++ l) := by
  obtain ⟨e, k, h⟩ := h
  exact ⟨e, k, hp_old h⟩
theorem ix99 {i : Nat} (h : i < 20) : evIndexAddr Tryz.prog 134 (.ptr 1 0) (.int .i64 (i : Nat)) = some (.ptr 1 i) := by
  simp only [evIndexAddr, tsh_134]
  rw [if_pos ⟨by omega, by omega⟩]
  simp
def smalls : List UInt8 := (List.range 100).flatMap fun q => [hexD (q / 10), hexD (q % 10)]
theorem smalls_at {q : Nat} (h : q < 100) : smalls[2 * q]? = some (hexD (q / 10)) ∧ smalls[2 * q + 1]? = some (hexD (q % 10)) := by
  have : ∀ q : Fin 100, smalls[2 * q.val]? = some (hexD (q.val / 10)) ∧ smalls[2 * q.val + 1]? = some (hexD (q.val % 10)) := by decide +kernel
  exact this ⟨q, h⟩
theorem bindK_sm0 {L : List UInt8} {q : Nat} {f : UInt8 → Prop} (hL : L = smalls) (h : q < 100) : bindK (L[2 * q]?) f = f (hexD (q / 10)) := by
  subst hL
  rw [(smalls_at h).1, bindK_some]
theorem bindK_sm1 {L : List UInt8} {q : Nat} {f : UInt8 → Prop} (hL : L = smalls) (h : q < 100) : bindK (L[2 * q + 1]?) f = f (hexD (q % 10)) := by
  subst hL
  rw [(smalls_at h).2, bindK_some]
theorem hexD_n {q : Nat} (h : q < 10) : (hexD q).toNat = 48 + q := by
  have : ∀ q : Fin 10, (hexD q.val).toNat = 48 + q.val := by decide
  exact this ⟨q, h⟩
theorem hexD_i {q : Nat} (h : q < 10) : IntKind.u8.wrap (IntKind.u32.wrap (48 + (q : Int))) = ((hexD q).toNat : Int) := by
  rw [hexD_n h, wrap_u32 (by omega), wrap_u8 (by omega)]; omega
theorem dig36_sl {n : Nat} (h : n < 10) : ((([48, 49, 50, 51, 52, 53, 54, 55, 56, 57, 97, 98, 99, 100, 101, 102, 103, 104, 105, 106, 107, 108, 109, 110, 111, 112, 113, 114, 115, 116, 117, 118, 119, 120, 121, 122] : List UInt8).drop n).take 1) = [hexD n] := by
  have : ∀ n : Fin 10, ((([48, 49, 50, 51, 52, 53, 54, 55, 56, 57, 97, 98, 99, 100, 101, 102, 103, 104, 105, 106, 107, 108, 109, 110, 111, 112, 113, 114, 115, 116, 117, 118, 119, 120, 121, 122] : List UInt8).drop n.val).take 1) = [hexD n.val] := by decide
  exact this ⟨n, h⟩
theorem smalls_sl {L : List UInt8} {n : Nat} (hL : L = smalls) (h : n < 100) : (L.drop (2 * n)).take 2 = [hexD (n / 10), hexD (n % 10)] := by
  subst hL
  have : ∀ n : Fin 100, (smalls.drop (2 * n.val)).take 2 = [hexD (n.val / 10), hexD (n.val % 10)] := by decide +kernel
  exact this ⟨n, h⟩
theorem smalls_le {L : List UInt8} {n : Nat} (hL : L = smalls) (h : n < 100) : 2 * n + 2 ≤ L.length := by
  subst hL
  have : smalls.length = 200 := by decide +kernel
  omega
theorem decP_small {n : Nat} (h : n < 10) : decP n = [hexD n] := by unfold decP; rw [if_pos h]
theorem decP_big {n : Nat} (h : ¬ n < 10) : decP n = decP (n / 10) ++ [hexD (n % 10)] := by rw [decP]; rw [if_neg h]
set_option maxRecDepth 20000 in
theorem str_small (n : Nat) (H k) (hn : n < 100) : callK Tryz.prog 55 [.int .i64 (n : Nat)] H k = k (.str (decP n), H, z0) := by
  refine callK_eq (r := (.str (decP n), H, z0)) ?_ k
  refine callK_start (n := 15) (rs := [.tmp 2]) Tryz.func55 rfl rfl rfl ?_
  intro σ hl ha
  have h0 := ha 0 (by simp)
  clear ha
  simp only [Option.getD_some, List.getElem?_cons_zero, List.getElem?_cons_succ] at h0
  by_cases h10 : n < 10
  · have g : decide ((n : Int) < 10) = true := by simp; omega
    have q3 : IntKind.i64.wrap ((n : Int) + 1) = ((n + 1 : Nat) : Int) := by rw [wrap_i64 (by omega)]; omega
    have s1 := dig36_sl (n := n) (by omega)
    have d1 : n + 1 - n = 1 := by omega
    simp only [go_sem, simprocAttr, hl, h0, g, q3, s1, d1]
    exact ⟨by omega, by rw [decP_small h10]⟩
  · have g : decide ((n : Int) < 10) = false := by simp; omega
    have q1 : IntKind.i64.wrap ((n : Int) * 2) = ((2 * n : Nat) : Int) := by rw [wrap_i64 (by omega)]; omega
    have q3 : IntKind.i64.wrap (((2 * n : Nat) : Int) + 2) = ((2 * n + 2 : Nat) : Int) := by rw [wrap_i64 (by omega)]; omega
    have d1 : 2 * n + 2 - 2 * n = 2 := by omega
    simp only [go_sem, simprocAttr, hl, h0, g, q1, q3, d1]
    refine ⟨?_, str_eq ?_⟩
    · first | exact smalls_le (by kernel_rfl) hn | exact Int.ofNat_le.2 (smalls_le (by kernel_rfl) hn)
    · rw [smalls_sl (by kernel_rfl) hn, decP_big h10, decP_small (by omega)]
      rfl

end Go.Proofs.YtgkpgpdkolpfkaaGreatDoor.V
namespace Go.Proofs.YtgkpgpdkolpfkaaGreatDoor.V
open Go
attribute [local irreducible] go goOps goD opK callK callT stepK leaveTo nextK

theorem decP_two {n : Nat} (h : 10 ≤ n) (h' : n < 100) : decP n = [hexD (n / 10), hexD (n % 10)] := by rw [decP_big (by omega), decP_small (by omega)]; rfl
theorem decP_pair {n : Nat} (h : 100 ≤ n) : decP n = decP (n / 100) ++ [hexD (n % 100 / 10), hexD (n % 10)] := by
  rw [decP_big (show ¬ n < 10 by omega), decP_big (show ¬ n / 10 < 10 by omega), List.append_assoc, Nat.div_div_eq_div_mul]
  have : n / 10 % 10 = n % 100 / 10 := by omega
  rw [this]; rfl
theorem cons_eq {a b : UInt8} {s t : List UInt8} (h : a = b) (h' : s = t) : a :: s = b :: t := by rw [h, h']
theorem tm64 {x c : Nat} (hc : 0 < c) : (x : Int).tmod (c : Int) = ((x % c : Nat) : Int) := by rw [Int.tmod_eq_emod_of_nonneg (by omega)]; omega
theorem t32d {x c : Nat} (hx : x < 4294967296) (hc : 0 < c) : IntKind.u32.wrap ((x : Int).tdiv (c : Int)) = ((x / c : Nat) : Int) := by
  have : x / c ≤ x := Nat.div_le_self x c
  have e : (x : Int) / (c : Int) = ((x / c : Nat) : Int) := (Int.natCast_ediv x c).symm
  rw [Int.tdiv_eq_ediv_of_nonneg (by omega), e]
  generalize x / c = y at *
  rw [wrap_u32 (by omega)]
theorem t64d {x c : Nat} (hx : x < 18446744073709551616) (hc : 0 < c) : IntKind.u64.wrap ((x : Int).tdiv (c : Int)) = ((x / c : Nat) : Int) := by
  have : x / c ≤ x := Nat.div_le_self x c
  have e : (x : Int) / (c : Int) = ((x / c : Nat) : Int) := (Int.natCast_ediv x c).symm
  rw [Int.tdiv_eq_ediv_of_nonneg (by omega), e]
  generalize x / c = y at *
  rw [wrap_u64 (by omega)]
theorem w2x {x : Nat} (hx : x < 100) : IntKind.u32.wrap ((x : Int) * 2) = ((2 * x : Nat) : Int) := by rw [wrap_u32 (by omega)]; omega
theorem w2y {x : Nat} (hx : x < 100) : IntKind.u32.wrap (((2 * x : Nat) : Int) + 1) = ((2 * x + 1 : Nat) : Int) := by rw [wrap_u32 (by omega)]; omega

theorem dcL3 {n : Nat} (h1 : 100 ≤ n) (h : n < 1000) : decP n = [hexD (n / 100), hexD ((n % 100) / 10), hexD ((n % 100) % 10)] := by
  rw [decP_pair (by omega), decP_small (by omega)]
  simp only [List.cons_append, List.nil_append]
  exact cons_eq (congrArg hexD (by omega)) (cons_eq (congrArg hexD (by omega)) (cons_eq (congrArg hexD (by omega)) (rfl)))
set_option maxRecDepth 20000 in
theorem fmtL3 (n : Nat) (H k) (h1 : 100 ≤ n) (hn : n < 1000) : callK Tryz.prog 57 [.slice H.length 0 3 (.ex 24), .int .u64 (n : Nat)] (H ++ [.cells [.int .u8 0, .int .u8 0, .int .u8 0, .int .u8 0, .int .u8 0, .int .u8 0, .int .u8 0, .int .u8 0, .int .u8 0, .int .u8 0, .int .u8 0, .int .u8 0, .int .u8 0, .int .u8 0, .int .u8 0, .int .u8 0, .int .u8 0, .int .u8 0, .int .u8 0, .int .u8 0, .int .u8 0, .int .u8 0, .int .u8 0, .int .u8 0] 107 .rw]) k =
    k (.tuple [], H ++ [.cells (.int .u8 (hexD (n / 100)).toNat :: .int .u8 (hexD ((n % 100) / 10)).toNat :: .int .u8 (hexD ((n % 100) % 10)).toNat :: [.int .u8 0, .int .u8 0, .int .u8 0, .int .u8 0, .int .u8 0, .int .u8 0, .int .u8 0, .int .u8 0, .int .u8 0, .int .u8 0, .int .u8 0, .int .u8 0, .int .u8 0, .int .u8 0, .int .u8 0, .int .u8 0, .int .u8 0, .int .u8 0, .int .u8 0, .int .u8 0, .int .u8 0]) 107 .rw], ⟨none, some H.length⟩) := by
  refine callK_eq ?_ k
  refine callK_start (n := 167) (rs := []) Tryz.func57 rfl rfl rfl ?_
  intro σ hl ha
  have h0 := ha 0 (by simp)
  have h1' := ha 1 (by simp)
  clear ha
  simp only [Option.getD_some, List.getElem?_cons_zero, List.getElem?_cons_succ] at h0 h1'
  have v0 : IntKind.u32.wrap (n : Int) = (n : Int) := wrap_u32 (by omega)
  have f1 : (n : Int).tmod 100 = ((n % 100 : Nat) : Int) := tm64 (by decide)
  have f2 : IntKind.u32.wrap ((n : Int).tdiv 100) = ((n / 100 : Nat) : Int) := t32d (by omega) (by decide)
  have f3 : IntKind.u32.wrap (((n % 100 : Nat) : Int) * 2) = ((2 * (n % 100) : Nat) : Int) := w2x (by omega)
  have f4 : IntKind.u32.wrap (((2 * (n % 100) : Nat) : Int) + 1) = ((2 * (n % 100) + 1 : Nat) : Int) := w2y (by omega)
  have g1 : IntKind.u8.wrap (IntKind.u32.wrap (48 + ((n / 100 : Nat) : Int))) = ((hexD (n / 100)).toNat : Int) := hexD_i (by omega)
  simp only [go_sem, simprocAttr, hl, h0, h1', v0, f1, f2, f3, f4, g1]
  rw [go_loop]
  simp only [go_sem, simprocAttr, hl, h0, h1', v0, f1, f2, f3, f4, g1]
  refine go_drawZ tFollows (by kernel_rfl) ?_
  simp only [go_sem, simprocAttr, hl, h0, h1', v0, f1, f2, f3, f4, g1]
  rw [bindK_sm1 (by kernel_rfl) (show n % 100 < 100 by omega)]
  simp only [go_sem, simprocAttr, hl, h0, h1', v0, f1, f2, f3, f4, g1]
  rw [bindK_sm0 (by kernel_rfl) (show n % 100 < 100 by omega)]
  simp only [go_sem, simprocAttr, hl, h0, h1', v0, f1, f2, f3, f4, g1]
  refine ⟨(by kernel_rfl : effOk _ _ _ = true), ?_⟩
  try simp only [go_sem, simprocAttr, hl, h0, h1', v0, f1, f2, f3, f4, g1]
  rw [leave_same rfl (by simp), low_sm (by omega)]

theorem dcL4 {n : Nat} (h1 : 1000 ≤ n) (h : n < 10000) : decP n = [hexD ((n % 10000 / 100) / 10), hexD ((n % 10000 / 100) % 10), hexD ((n % 10000 % 100) / 10), hexD ((n % 10000 % 100) % 10)] := by
  rw [decP_pair (by omega), decP_two (by omega) (by omega)]
  simp only [List.cons_append, List.nil_append]
  exact cons_eq (congrArg hexD (by omega)) (cons_eq (congrArg hexD (by omega)) (cons_eq (congrArg hexD (by omega)) (cons_eq (congrArg hexD (by omega)) (rfl))))
set_option maxRecDepth 20000 in
theorem fmtL4 (n : Nat) (H k) (h1 : 1000 ≤ n) (hn : n < 10000) : callK Tryz.prog 57 [.slice H.length 0 4 (.ex 24), .int .u64 (n : Nat)] (H ++ [.cells [.int .u8 0, .int .u8 0, .int .u8 0, .int .u8 0, .int .u8 0, .int .u8 0, .int .u8 0, .int .u8 0, .int .u8 0, .int .u8 0, .int .u8 0, .int .u8 0, .int .u8 0, .int .u8 0, .int .u8 0, .int .u8 0, .int .u8 0, .int .u8 0, .int .u8 0, .int .u8 0, .int .u8 0, .int .u8 0, .int .u8 0, .int .u8 0] 107 .rw]) k =
    k (.tuple [], H ++ [.cells (.int .u8 (hexD ((n % 10000 / 100) / 10)).toNat :: .int .u8 (hexD ((n % 10000 / 100) % 10)).toNat :: .int .u8 (hexD ((n % 10000 % 100) / 10)).toNat :: .int .u8 (hexD ((n % 10000 % 100) % 10)).toNat :: [.int .u8 0, .int .u8 0, .int .u8 0, .int .u8 0, .int .u8 0, .int .u8 0, .int .u8 0, .int .u8 0, .int .u8 0, .int .u8 0, .int .u8 0, .int .u8 0, .int .u8 0, .int .u8 0, .int .u8 0, .int .u8 0, .int .u8 0, .int .u8 0, .int .u8 0, .int .u8 0]) 107 .rw], ⟨none, some H.length⟩) := by
  refine callK_eq ?_ k
  refine callK_start (n := 167) (rs := []) Tryz.func57 rfl rfl rfl ?_
  intro σ hl ha
  have h0 := ha 0 (by simp)
  have h1' := ha 1 (by simp)
  clear ha
  simp only [Option.getD_some, List.getElem?_cons_zero, List.getElem?_cons_succ] at h0 h1'
  have v0 : IntKind.u32.wrap (n : Int) = (n : Int) := wrap_u32 (by omega)
  have d1 : (n : Int).tmod 10000 = ((n % 10000 : Nat) : Int) := tm64 (by decide)
  have d2 : IntKind.u32.wrap ((n : Int).tdiv 10000) = ((n / 10000 : Nat) : Int) := t32d (by omega) (by decide)
  have e1 : IntKind.u32.wrap (((n % 10000 : Nat) : Int).tdiv 100) = ((n % 10000 / 100 : Nat) : Int) := t32d (by omega) (by decide)
  have e2 : ((n % 10000 : Nat) : Int).tmod 100 = ((n % 10000 % 100 : Nat) : Int) := tm64 (by decide)
  have e3 : IntKind.u32.wrap (((n % 10000 / 100 : Nat) : Int) * 2) = ((2 * (n % 10000 / 100) : Nat) : Int) := w2x (by omega)
  have e4 : IntKind.u32.wrap (((n % 10000 % 100 : Nat) : Int) * 2) = ((2 * (n % 10000 % 100) : Nat) : Int) := w2x (by omega)
  have e5 : IntKind.u32.wrap (((2 * (n % 10000 / 100) : Nat) : Int) + 1) = ((2 * (n % 10000 / 100) + 1 : Nat) : Int) := w2y (by omega)
  have e6 : IntKind.u32.wrap (((2 * (n % 10000 % 100) : Nat) : Int) + 1) = ((2 * (n % 10000 % 100) + 1 : Nat) : Int) := w2y (by omega)
  simp only [go_sem, simprocAttr, hl, h0, h1', v0, d1, d2, e1, e2, e3, e4, e5, e6]
  rw [go_loop]
  simp only [go_sem, simprocAttr, hl, h0, h1', v0, d1, d2, e1, e2, e3, e4, e5, e6]
  refine go_drawZ tFollows (by kernel_rfl) ?_
  simp only [go_sem, simprocAttr, hl, h0, h1', v0, d1, d2, e1, e2, e3, e4, e5, e6]
  rw [bindK_sm1 (by kernel_rfl) (show n % 10000 % 100 < 100 by omega)]
  simp only [go_sem, simprocAttr, hl, h0, h1', v0, d1, d2, e1, e2, e3, e4, e5, e6]
  rw [bindK_sm0 (by kernel_rfl) (show n % 10000 % 100 < 100 by omega)]
  simp only [go_sem, simprocAttr, hl, h0, h1', v0, d1, d2, e1, e2, e3, e4, e5, e6]
  refine ⟨(by kernel_rfl : effOk _ _ _ = true), ?_⟩
  try simp only [go_sem, simprocAttr, hl, h0, h1', v0, d1, d2, e1, e2, e3, e4, e5, e6]
  refine go_drawZ tFollows (by kernel_rfl) ?_
  simp only [go_sem, simprocAttr, hl, h0, h1', v0, d1, d2, e1, e2, e3, e4, e5, e6]
  rw [bindK_sm1 (by kernel_rfl) (show n % 10000 / 100 < 100 by omega)]
  simp only [go_sem, simprocAttr, hl, h0, h1', v0, d1, d2, e1, e2, e3, e4, e5, e6]
  rw [bindK_sm0 (by kernel_rfl) (show n % 10000 / 100 < 100 by omega)]
  simp only [go_sem, simprocAttr, hl, h0, h1', v0, d1, d2, e1, e2, e3, e4, e5, e6]
  refine ⟨(by kernel_rfl : effOk _ _ _ = true), ?_⟩
  try simp only [go_sem, simprocAttr, hl, h0, h1', v0, d1, d2, e1, e2, e3, e4, e5, e6]
  rw [leave_same rfl (by simp), low_sm (by omega)]

theorem dcL5 {n : Nat} (h1 : 10000 ≤ n) (h : n < 100000) : decP n = [hexD (n / 10000), hexD ((n % 10000 / 100) / 10), hexD ((n % 10000 / 100) % 10), hexD ((n % 10000 % 100) / 10), hexD ((n % 10000 % 100) % 10)] := by
  rw [decP_pair (by omega), decP_pair (by omega), decP_small (by omega)]
  simp only [List.cons_append, List.nil_append]
  exact cons_eq (congrArg hexD (by omega)) (cons_eq (congrArg hexD (by omega)) (cons_eq (congrArg hexD (by omega)) (cons_eq (congrArg hexD (by omega)) (cons_eq (congrArg hexD (by omega)) (rfl)))))
set_option maxRecDepth 20000 in
theorem fmtL5 (n : Nat) (H k) (h1 : 10000 ≤ n) (hn : n < 100000) : callK Tryz.prog 57 [.slice H.length 0 5 (.ex 24), .int .u64 (n : Nat)] (H ++ [.cells [.int .u8 0, .int .u8 0, .int .u8 0, .int .u8 0, .int .u8 0, .int .u8 0, .int .u8 0, .int .u8 0, .int .u8 0, .int .u8 0, .int .u8 0, .int .u8 0, .int .u8 0, .int .u8 0, .int .u8 0, .int .u8 0, .int .u8 0, .int .u8 0, .int .u8 0, .int .u8 0, .int .u8 0, .int .u8 0, .int .u8 0, .int .u8 0] 107 .rw]) k =
    k (.tuple [], H ++ [.cells (.int .u8 (hexD (n / 10000)).toNat :: .int .u8 (hexD ((n % 10000 / 100) / 10)).toNat :: .int .u8 (hexD ((n % 10000 / 100) % 10)).toNat :: .int .u8 (hexD ((n % 10000 % 100) / 10)).toNat :: .int .u8 (hexD ((n % 10000 % 100) % 10)).toNat :: [.int .u8 0, .int .u8 0, .int .u8 0, .int .u8 0, .int .u8 0, .int .u8 0, .int .u8 0, .int .u8 0, .int .u8 0, .int .u8 0, .int .u8 0, .int .u8 0, .int .u8 0, .int .u8 0, .int .u8 0, .int .u8 0, .int .u8 0, .int .u8 0, .int .u8 0]) 107 .rw], ⟨none, some H.length⟩) := by
  refine callK_eq ?_ k
  refine callK_start (n := 167) (rs := []) Tryz.func57 rfl rfl rfl ?_
  intro σ hl ha
  have h0 := ha 0 (by simp)
  have h1' := ha 1 (by simp)
  clear ha
  simp only [Option.getD_some, List.getElem?_cons_zero, List.getElem?_cons_succ] at h0 h1'
  have v0 : IntKind.u32.wrap (n : Int) = (n : Int) := wrap_u32 (by omega)
  have d1 : (n : Int).tmod 10000 = ((n % 10000 : Nat) : Int) := tm64 (by decide)
  have d2 : IntKind.u32.wrap ((n : Int).tdiv 10000) = ((n / 10000 : Nat) : Int) := t32d (by omega) (by decide)
  have e1 : IntKind.u32.wrap (((n % 10000 : Nat) : Int).tdiv 100) = ((n % 10000 / 100 : Nat) : Int) := t32d (by omega) (by decide)
  have e2 : ((n % 10000 : Nat) : Int).tmod 100 = ((n % 10000 % 100 : Nat) : Int) := tm64 (by decide)
  have e3 : IntKind.u32.wrap (((n % 10000 / 100 : Nat) : Int) * 2) = ((2 * (n % 10000 / 100) : Nat) : Int) := w2x (by omega)
  have e4 : IntKind.u32.wrap (((n % 10000 % 100 : Nat) : Int) * 2) = ((2 * (n % 10000 % 100) : Nat) : Int) := w2x (by omega)
  have e5 : IntKind.u32.wrap (((2 * (n % 10000 / 100) : Nat) : Int) + 1) = ((2 * (n % 10000 / 100) + 1 : Nat) : Int) := w2y (by omega)
  have e6 : IntKind.u32.wrap (((2 * (n % 10000 % 100) : Nat) : Int) + 1) = ((2 * (n % 10000 % 100) + 1 : Nat) : Int) := w2y (by omega)
  have g1 : IntKind.u8.wrap (IntKind.u32.wrap (48 + ((n / 10000 : Nat) : Int))) = ((hexD (n / 10000)).toNat : Int) := hexD_i (by omega)
  simp only [go_sem, simprocAttr, hl, h0, h1', v0, d1, d2, e1, e2, e3, e4, e5, e6, g1]
  rw [go_loop]
  simp only [go_sem, simprocAttr, hl, h0, h1', v0, d1, d2, e1, e2, e3, e4, e5, e6, g1]
  refine go_drawZ tFollows (by kernel_rfl) ?_
  simp only [go_sem, simprocAttr, hl, h0, h1', v0, d1, d2, e1, e2, e3, e4, e5, e6, g1]
  rw [bindK_sm1 (by kernel_rfl) (show n % 10000 % 100 < 100 by omega)]
  simp only [go_sem, simprocAttr, hl, h0, h1', v0, d1, d2, e1, e2, e3, e4, e5, e6, g1]
  rw [bindK_sm0 (by kernel_rfl) (show n % 10000 % 100 < 100 by omega)]
  simp only [go_sem, simprocAttr, hl, h0, h1', v0, d1, d2, e1, e2, e3, e4, e5, e6, g1]
  refine ⟨(by kernel_rfl : effOk _ _ _ = true), ?_⟩
  try simp only [go_sem, simprocAttr, hl, h0, h1', v0, d1, d2, e1, e2, e3, e4, e5, e6, g1]
  refine go_drawZ tFollows (by kernel_rfl) ?_
  simp only [go_sem, simprocAttr, hl, h0, h1', v0, d1, d2, e1, e2, e3, e4, e5, e6, g1]
  rw [bindK_sm1 (by kernel_rfl) (show n % 10000 / 100 < 100 by omega)]
  simp only [go_sem, simprocAttr, hl, h0, h1', v0, d1, d2, e1, e2, e3, e4, e5, e6, g1]
  rw [bindK_sm0 (by kernel_rfl) (show n % 10000 / 100 < 100 by omega)]
  simp only [go_sem, simprocAttr, hl, h0, h1', v0, d1, d2, e1, e2, e3, e4, e5, e6, g1]
  refine ⟨(by kernel_rfl : effOk _ _ _ = true), ?_⟩
  try simp only [go_sem, simprocAttr, hl, h0, h1', v0, d1, d2, e1, e2, e3, e4, e5, e6, g1]
  rw [leave_same rfl (by simp), low_sm (by omega)]

theorem dcL6 {n : Nat} (h1 : 100000 ≤ n) (h : n < 1000000) : decP n = [hexD ((n / 10000 % 100) / 10), hexD ((n / 10000 % 100) % 10), hexD ((n % 10000 / 100) / 10), hexD ((n % 10000 / 100) % 10), hexD ((n % 10000 % 100) / 10), hexD ((n % 10000 % 100) % 10)] := by
  rw [decP_pair (by omega), decP_pair (by omega), decP_two (by omega) (by omega)]
  simp only [List.cons_append, List.nil_append]
  exact cons_eq (congrArg hexD (by omega)) (cons_eq (congrArg hexD (by omega)) (cons_eq (congrArg hexD (by omega)) (cons_eq (congrArg hexD (by omega)) (cons_eq (congrArg hexD (by omega)) (cons_eq (congrArg hexD (by omega)) (rfl))))))
set_option maxRecDepth 20000 in
theorem fmtL6 (n : Nat) (H k) (h1 : 100000 ≤ n) (hn : n < 1000000) : callK Tryz.prog 57 [.slice H.length 0 6 (.ex 24), .int .u64 (n : Nat)] (H ++ [.cells [.int .u8 0, .int .u8 0, .int .u8 0, .int .u8 0, .int .u8 0, .int .u8 0, .int .u8 0, .int .u8 0, .int .u8 0, .int .u8 0, .int .u8 0, .int .u8 0, .int .u8 0, .int .u8 0, .int .u8 0, .int .u8 0, .int .u8 0, .int .u8 0, .int .u8 0, .int .u8 0, .int .u8 0, .int .u8 0, .int .u8 0, .int .u8 0] 107 .rw]) k =
    k (.tuple [], H ++ [.cells (.int .u8 (hexD ((n / 10000 % 100) / 10)).toNat :: .int .u8 (hexD ((n / 10000 % 100) % 10)).toNat :: .int .u8 (hexD ((n % 10000 / 100) / 10)).toNat :: .int .u8 (hexD ((n % 10000 / 100) % 10)).toNat :: .int .u8 (hexD ((n % 10000 % 100) / 10)).toNat :: .int .u8 (hexD ((n % 10000 % 100) % 10)).toNat :: [.int .u8 0, .int .u8 0, .int .u8 0, .int .u8 0, .int .u8 0, .int .u8 0, .int .u8 0, .int .u8 0, .int .u8 0, .int .u8 0, .int .u8 0, .int .u8 0, .int .u8 0, .int .u8 0, .int .u8 0, .int .u8 0, .int .u8 0, .int .u8 0]) 107 .rw], ⟨none, some H.length⟩) := by
  refine callK_eq ?_ k
  refine callK_start (n := 167) (rs := []) Tryz.func57 rfl rfl rfl ?_
  intro σ hl ha
  have h0 := ha 0 (by simp)
  have h1' := ha 1 (by simp)
  clear ha
  simp only [Option.getD_some, List.getElem?_cons_zero, List.getElem?_cons_succ] at h0 h1'
  have v0 : IntKind.u32.wrap (n : Int) = (n : Int) := wrap_u32 (by omega)
  have d1 : (n : Int).tmod 10000 = ((n % 10000 : Nat) : Int) := tm64 (by decide)
  have d2 : IntKind.u32.wrap ((n : Int).tdiv 10000) = ((n / 10000 : Nat) : Int) := t32d (by omega) (by decide)
  have e1 : IntKind.u32.wrap (((n % 10000 : Nat) : Int).tdiv 100) = ((n % 10000 / 100 : Nat) : Int) := t32d (by omega) (by decide)
  have e2 : ((n % 10000 : Nat) : Int).tmod 100 = ((n % 10000 % 100 : Nat) : Int) := tm64 (by decide)
  have e3 : IntKind.u32.wrap (((n % 10000 / 100 : Nat) : Int) * 2) = ((2 * (n % 10000 / 100) : Nat) : Int) := w2x (by omega)
  have e4 : IntKind.u32.wrap (((n % 10000 % 100 : Nat) : Int) * 2) = ((2 * (n % 10000 % 100) : Nat) : Int) := w2x (by omega)
  have e5 : IntKind.u32.wrap (((2 * (n % 10000 / 100) : Nat) : Int) + 1) = ((2 * (n % 10000 / 100) + 1 : Nat) : Int) := w2y (by omega)
  have e6 : IntKind.u32.wrap (((2 * (n % 10000 % 100) : Nat) : Int) + 1) = ((2 * (n % 10000 % 100) + 1 : Nat) : Int) := w2y (by omega)
  have f1 : ((n / 10000 : Nat) : Int).tmod 100 = ((n / 10000 % 100 : Nat) : Int) := tm64 (by decide)
  have f2 : IntKind.u32.wrap (((n / 10000 : Nat) : Int).tdiv 100) = ((n / 10000 / 100 : Nat) : Int) := t32d (by omega) (by decide)
  have f3 : IntKind.u32.wrap (((n / 10000 % 100 : Nat) : Int) * 2) = ((2 * (n / 10000 % 100) : Nat) : Int) := w2x (by omega)
  have f4 : IntKind.u32.wrap (((2 * (n / 10000 % 100) : Nat) : Int) + 1) = ((2 * (n / 10000 % 100) + 1 : Nat) : Int) := w2y (by omega)
  simp only [go_sem, simprocAttr, hl, h0, h1', v0, d1, d2, e1, e2, e3, e4, e5, e6, f1, f2, f3, f4]
  rw [go_loop]
  simp only [go_sem, simprocAttr, hl, h0, h1', v0, d1, d2, e1, e2, e3, e4, e5, e6, f1, f2, f3, f4]
  refine go_drawZ tFollows (by kernel_rfl) ?_
  simp only [go_sem, simprocAttr, hl, h0, h1', v0, d1, d2, e1, e2, e3, e4, e5, e6, f1, f2, f3, f4]
  rw [bindK_sm1 (by kernel_rfl) (show n % 10000 % 100 < 100 by omega)]
  simp only [go_sem, simprocAttr, hl, h0, h1', v0, d1, d2, e1, e2, e3, e4, e5, e6, f1, f2, f3, f4]
  rw [bindK_sm0 (by kernel_rfl) (show n % 10000 % 100 < 100 by omega)]
  simp only [go_sem, simprocAttr, hl, h0, h1', v0, d1, d2, e1, e2, e3, e4, e5, e6, f1, f2, f3, f4]
  refine ⟨(by kernel_rfl : effOk _ _ _ = true), ?_⟩
  try simp only [go_sem, simprocAttr, hl, h0, h1', v0, d1, d2, e1, e2, e3, e4, e5, e6, f1, f2, f3, f4]
  refine go_drawZ tFollows (by kernel_rfl) ?_
  simp only [go_sem, simprocAttr, hl, h0, h1', v0, d1, d2, e1, e2, e3, e4, e5, e6, f1, f2, f3, f4]
  rw [bindK_sm1 (by kernel_rfl) (show n % 10000 / 100 < 100 by omega)]
  simp only [go_sem, simprocAttr, hl, h0, h1', v0, d1, d2, e1, e2, e3, e4, e5, e6, f1, f2, f3, f4]
  rw [bindK_sm0 (by kernel_rfl) (show n % 10000 / 100 < 100 by omega)]
  simp only [go_sem, simprocAttr, hl, h0, h1', v0, d1, d2, e1, e2, e3, e4, e5, e6, f1, f2, f3, f4]
  refine ⟨(by kernel_rfl : effOk _ _ _ = true), ?_⟩
  try simp only [go_sem, simprocAttr, hl, h0, h1', v0, d1, d2, e1, e2, e3, e4, e5, e6, f1, f2, f3, f4]
  refine go_drawZ tFollows (by kernel_rfl) ?_
  simp only [go_sem, simprocAttr, hl, h0, h1', v0, d1, d2, e1, e2, e3, e4, e5, e6, f1, f2, f3, f4]
  rw [bindK_sm1 (by kernel_rfl) (show n / 10000 % 100 < 100 by omega)]
  simp only [go_sem, simprocAttr, hl, h0, h1', v0, d1, d2, e1, e2, e3, e4, e5, e6, f1, f2, f3, f4]
  rw [bindK_sm0 (by kernel_rfl) (show n / 10000 % 100 < 100 by omega)]
  simp only [go_sem, simprocAttr, hl, h0, h1', v0, d1, d2, e1, e2, e3, e4, e5, e6, f1, f2, f3, f4]
  refine ⟨(by kernel_rfl : effOk _ _ _ = true), ?_⟩
  try simp only [go_sem, simprocAttr, hl, h0, h1', v0, d1, d2, e1, e2, e3, e4, e5, e6, f1, f2, f3, f4]
  rw [leave_same rfl (by simp), low_sm (by omega)]

theorem dcL7 {n : Nat} (h1 : 1000000 ≤ n) (h : n < 10000000) : decP n = [hexD (n / 10000 / 100), hexD ((n / 10000 % 100) / 10), hexD ((n / 10000 % 100) % 10), hexD ((n % 10000 / 100) / 10), hexD ((n % 10000 / 100) % 10), hexD ((n % 10000 % 100) / 10), hexD ((n % 10000 % 100) % 10)] := by
  rw [decP_pair (by omega), decP_pair (by omega), decP_pair (by omega), decP_small (by omega)]
  simp only [List.cons_append, List.nil_append]
  exact cons_eq (congrArg hexD (by omega)) (cons_eq (congrArg hexD (by omega)) (cons_eq (congrArg hexD (by omega)) (cons_eq (congrArg hexD (by omega)) (cons_eq (congrArg hexD (by omega)) (cons_eq (congrArg hexD (by omega)) (cons_eq (congrArg hexD (by omega)) (rfl)))))))
set_option maxRecDepth 20000 in
theorem fmtL7 (n : Nat) (H k) (h1 : 1000000 ≤ n) (hn : n < 10000000) : callK Tryz.prog 57 [.slice H.length 0 7 (.ex 24), .int .u64 (n : Nat)] (H ++ [.cells [.int .u8 0, .int .u8 0, .int .u8 0, .int .u8 0, .int .u8 0, .int .u8 0, .int .u8 0, .int .u8 0, .int .u8 0, .int .u8 0, .int .u8 0, .int .u8 0, .int .u8 0, .int .u8 0, .int .u8 0, .int .u8 0, .int .u8 0, .int .u8 0, .int .u8 0, .int .u8 0, .int .u8 0, .int .u8 0, .int .u8 0, .int .u8 0] 107 .rw]) k =
    k (.tuple [], H ++ [.cells (.int .u8 (hexD (n / 10000 / 100)).toNat :: .int .u8 (hexD ((n / 10000 % 100) / 10)).toNat :: .int .u8 (hexD ((n / 10000 % 100) % 10)).toNat :: .int .u8 (hexD ((n % 10000 / 100) / 10)).toNat :: .int .u8 (hexD ((n % 10000 / 100) % 10)).toNat :: .int .u8 (hexD ((n % 10000 % 100) / 10)).toNat :: .int .u8 (hexD ((n % 10000 % 100) % 10)).toNat :: [.int .u8 0, .int .u8 0, .int .u8 0, .int .u8 0, .int .u8 0, .int .u8 0, .int .u8 0, .int .u8 0, .int .u8 0, .int .u8 0, .int .u8 0, .int .u8 0, .int .u8 0, .int .u8 0, .int .u8 0, .int .u8 0, .int .u8 0]) 107 .rw], ⟨none, some H.length⟩) := by
  refine callK_eq ?_ k
  refine callK_start (n := 167) (rs := []) Tryz.func57 rfl rfl rfl ?_
  intro σ hl ha
  have h0 := ha 0 (by simp)
  have h1' := ha 1 (by simp)
  clear ha
  simp only [Option.getD_some, List.getElem?_cons_zero, List.getElem?_cons_succ] at h0 h1'
  have v0 : IntKind.u32.wrap (n : Int) = (n : Int) := wrap_u32 (by omega)
  have d1 : (n : Int).tmod 10000 = ((n % 10000 : Nat) : Int) := tm64 (by decide)
  have d2 : IntKind.u32.wrap ((n : Int).tdiv 10000) = ((n / 10000 : Nat) : Int) := t32d (by omega) (by decide)
  have e1 : IntKind.u32.wrap (((n % 10000 : Nat) : Int).tdiv 100) = ((n % 10000 / 100 : Nat) : Int) := t32d (by omega) (by decide)
  have e2 : ((n % 10000 : Nat) : Int).tmod 100 = ((n % 10000 % 100 : Nat) : Int) := tm64 (by decide)
  have e3 : IntKind.u32.wrap (((n % 10000 / 100 : Nat) : Int) * 2) = ((2 * (n % 10000 / 100) : Nat) : Int) := w2x (by omega)
  have e4 : IntKind.u32.wrap (((n % 10000 % 100 : Nat) : Int) * 2) = ((2 * (n % 10000 % 100) : Nat) : Int) := w2x (by omega)
  have e5 : IntKind.u32.wrap (((2 * (n % 10000 / 100) : Nat) : Int) + 1) = ((2 * (n % 10000 / 100) + 1 : Nat) : Int) := w2y (by omega)
  have e6 : IntKind.u32.wrap (((2 * (n % 10000 % 100) : Nat) : Int) + 1) = ((2 * (n % 10000 % 100) + 1 : Nat) : Int) := w2y (by omega)
  have f1 : ((n / 10000 : Nat) : Int).tmod 100 = ((n / 10000 % 100 : Nat) : Int) := tm64 (by decide)
  have f2 : IntKind.u32.wrap (((n / 10000 : Nat) : Int).tdiv 100) = ((n / 10000 / 100 : Nat) : Int) := t32d (by omega) (by decide)
  have f3 : IntKind.u32.wrap (((n / 10000 % 100 : Nat) : Int) * 2) = ((2 * (n / 10000 % 100) : Nat) : Int) := w2x (by omega)
  have f4 : IntKind.u32.wrap (((2 * (n / 10000 % 100) : Nat) : Int) + 1) = ((2 * (n / 10000 % 100) + 1 : Nat) : Int) := w2y (by omega)
  have g1 : IntKind.u8.wrap (IntKind.u32.wrap (48 + ((n / 10000 / 100 : Nat) : Int))) = ((hexD (n / 10000 / 100)).toNat : Int) := hexD_i (by omega)
  simp only [go_sem, simprocAttr, hl, h0, h1', v0, d1, d2, e1, e2, e3, e4, e5, e6, f1, f2, f3, f4, g1]
  rw [go_loop]
  simp only [go_sem, simprocAttr, hl, h0, h1', v0, d1, d2, e1, e2, e3, e4, e5, e6, f1, f2, f3, f4, g1]
  refine go_drawZ tFollows (by kernel_rfl) ?_
  simp only [go_sem, simprocAttr, hl, h0, h1', v0, d1, d2, e1, e2, e3, e4, e5, e6, f1, f2, f3, f4, g1]
  rw [bindK_sm1 (by kernel_rfl) (show n % 10000 % 100 < 100 by omega)]
  simp only [go_sem, simprocAttr, hl, h0, h1', v0, d1, d2, e1, e2, e3, e4, e5, e6, f1, f2, f3, f4, g1]
  rw [bindK_sm0 (by kernel_rfl) (show n % 10000 % 100 < 100 by omega)]
  simp only [go_sem, simprocAttr, hl, h0, h1', v0, d1, d2, e1, e2, e3, e4, e5, e6, f1, f2, f3, f4, g1]
  refine ⟨(by kernel_rfl : effOk _ _ _ = true), ?_⟩
  try simp only [go_sem, simprocAttr, hl, h0, h1', v0, d1, d2, e1, e2, e3, e4, e5, e6, f1, f2, f3, f4, g1]
  refine go_drawZ tFollows (by kernel_rfl) ?_
  simp only [go_sem, simprocAttr, hl, h0, h1', v0, d1, d2, e1, e2, e3, e4, e5, e6, f1, f2, f3, f4, g1]
  rw [bindK_sm1 (by kernel_rfl) (show n % 10000 / 100 < 100 by omega)]
  simp only [go_sem, simprocAttr, hl, h0, h1', v0, d1, d2, e1, e2, e3, e4, e5, e6, f1, f2, f3, f4, g1]
  rw [bindK_sm0 (by kernel_rfl) (show n % 10000 / 100 < 100 by omega)]
  simp only [go_sem, simprocAttr, hl, h0, h1', v0, d1, d2, e1, e2, e3, e4, e5, e6, f1, f2, f3, f4, g1]
  refine ⟨(by kernel_rfl : effOk _ _ _ = true), ?_⟩
  try simp only [go_sem, simprocAttr, hl, h0, h1', v0, d1, d2, e1, e2, e3, e4, e5, e6, f1, f2, f3, f4, g1]
  refine go_drawZ tFollows (by kernel_rfl) ?_
  simp only [go_sem, simprocAttr, hl, h0, h1', v0, d1, d2, e1, e2, e3, e4, e5, e6, f1, f2, f3, f4, g1]
  rw [bindK_sm1 (by kernel_rfl) (show n / 10000 % 100 < 100 by omega)]
  simp only [go_sem, simprocAttr, hl, h0, h1', v0, d1, d2, e1, e2, e3, e4, e5, e6, f1, f2, f3, f4, g1]
  rw [bindK_sm0 (by kernel_rfl) (show n / 10000 % 100 < 100 by omega)]
  simp only [go_sem, simprocAttr, hl, h0, h1', v0, d1, d2, e1, e2, e3, e4, e5, e6, f1, f2, f3, f4, g1]
  refine ⟨(by kernel_rfl : effOk _ _ _ = true), ?_⟩
  try simp only [go_sem, simprocAttr, hl, h0, h1', v0, d1, d2, e1, e2, e3, e4, e5, e6, f1, f2, f3, f4, g1]
  rw [leave_same rfl (by simp), low_sm (by omega)]

theorem dcL8 {n : Nat} (h1 : 10000000 ≤ n) (h : n < 100000000) : decP n = [hexD ((n % 100000000 / 10000 / 100) / 10), hexD ((n % 100000000 / 10000 / 100) % 10), hexD ((n % 100000000 / 10000 % 100) / 10), hexD ((n % 100000000 / 10000 % 100) % 10), hexD ((n % 100000000 % 10000 / 100) / 10), hexD ((n % 100000000 % 10000 / 100) % 10), hexD ((n % 100000000 % 10000 % 100) / 10), hexD ((n % 100000000 % 10000 % 100) % 10)] := by
  rw [decP_pair (by omega), decP_pair (by omega), decP_pair (by omega), decP_two (by omega) (by omega)]
  simp only [List.cons_append, List.nil_append]
  exact cons_eq (congrArg hexD (by omega)) (cons_eq (congrArg hexD (by omega)) (cons_eq (congrArg hexD (by omega)) (cons_eq (congrArg hexD (by omega)) (cons_eq (congrArg hexD (by omega)) (cons_eq (congrArg hexD (by omega)) (cons_eq (congrArg hexD (by omega)) (cons_eq (congrArg hexD (by omega)) (rfl))))))))
set_option maxRecDepth 20000 in
theorem fmtL8 (n : Nat) (H k) (h1 : 10000000 ≤ n) (hn : n < 100000000) : callK Tryz.prog 57 [.slice H.length 0 8 (.ex 24), .int .u64 (n : Nat)] (H ++ [.cells [.int .u8 0, .int .u8 0, .int .u8 0, .int .u8 0, .int .u8 0, .int .u8 0, .int .u8 0, .int .u8 0, .int .u8 0, .int .u8 0, .int .u8 0, .int .u8 0, .int .u8 0, .int .u8 0, .int .u8 0, .int .u8 0, .int .u8 0, .int .u8 0, .int .u8 0, .int .u8 0, .int .u8 0, .int .u8 0, .int .u8 0, .int .u8 0] 107 .rw]) k =
    k (.tuple [], H ++ [.cells (.int .u8 (hexD ((n % 100000000 / 10000 / 100) / 10)).toNat :: .int .u8 (hexD ((n % 100000000 / 10000 / 100) % 10)).toNat :: .int .u8 (hexD ((n % 100000000 / 10000 % 100) / 10)).toNat :: .int .u8 (hexD ((n % 100000000 / 10000 % 100) % 10)).toNat :: .int .u8 (hexD ((n % 100000000 % 10000 / 100) / 10)).toNat :: .int .u8 (hexD ((n % 100000000 % 10000 / 100) % 10)).toNat :: .int .u8 (hexD ((n % 100000000 % 10000 % 100) / 10)).toNat :: .int .u8 (hexD ((n % 100000000 % 10000 % 100) % 10)).toNat :: [.int .u8 0, .int .u8 0, .int .u8 0, .int .u8 0, .int .u8 0, .int .u8 0, .int .u8 0, .int .u8 0, .int .u8 0, .int .u8 0, .int .u8 0, .int .u8 0, .int .u8 0, .int .u8 0, .int .u8 0, .int .u8 0]) 107 .rw], ⟨none, some H.length⟩) := by
  refine callK_eq ?_ k
  refine callK_start (n := 167) (rs := []) Tryz.func57 rfl rfl rfl ?_
  intro σ hl ha
  have h0 := ha 0 (by simp)
  have h1' := ha 1 (by simp)
  clear ha
  simp only [Option.getD_some, List.getElem?_cons_zero, List.getElem?_cons_succ] at h0 h1'
  have a1 : (n : Int).tmod 100000000 = ((n % 100000000 : Nat) : Int) := tm64 (by decide)
  have a2 : IntKind.u32.wrap ((n % 100000000 : Nat) : Int) = ((n % 100000000 : Nat) : Int) := wrap_u32 (by omega)
  have a3 : IntKind.u64.wrap ((n : Int).tdiv 100000000) = ((n / 100000000 : Nat) : Int) := t64d (by omega) (by decide)
  have a4 : IntKind.u32.wrap (((n % 100000000 : Nat) : Int).tdiv 10000) = ((n % 100000000 / 10000 : Nat) : Int) := t32d (by omega) (by decide)
  have a5 : ((n % 100000000 : Nat) : Int).tmod 10000 = ((n % 100000000 % 10000 : Nat) : Int) := tm64 (by decide)
  have b1 : IntKind.u32.wrap (((n % 100000000 % 10000 : Nat) : Int).tdiv 100) = ((n % 100000000 % 10000 / 100 : Nat) : Int) := t32d (by omega) (by decide)
  have b2 : ((n % 100000000 % 10000 : Nat) : Int).tmod 100 = ((n % 100000000 % 10000 % 100 : Nat) : Int) := tm64 (by decide)
  have b3 : IntKind.u32.wrap (((n % 100000000 % 10000 / 100 : Nat) : Int) * 2) = ((2 * (n % 100000000 % 10000 / 100) : Nat) : Int) := w2x (by omega)
  have b4 : IntKind.u32.wrap (((n % 100000000 % 10000 % 100 : Nat) : Int) * 2) = ((2 * (n % 100000000 % 10000 % 100) : Nat) : Int) := w2x (by omega)
  have b5 : IntKind.u32.wrap (((2 * (n % 100000000 % 10000 / 100) : Nat) : Int) + 1) = ((2 * (n % 100000000 % 10000 / 100) + 1 : Nat) : Int) := w2y (by omega)
  have b6 : IntKind.u32.wrap (((2 * (n % 100000000 % 10000 % 100) : Nat) : Int) + 1) = ((2 * (n % 100000000 % 10000 % 100) + 1 : Nat) : Int) := w2y (by omega)
  have c1 : IntKind.u32.wrap (((n % 100000000 / 10000 : Nat) : Int).tdiv 100) = ((n % 100000000 / 10000 / 100 : Nat) : Int) := t32d (by omega) (by decide)
  have c2 : ((n % 100000000 / 10000 : Nat) : Int).tmod 100 = ((n % 100000000 / 10000 % 100 : Nat) : Int) := tm64 (by decide)
  have c3 : IntKind.u32.wrap (((n % 100000000 / 10000 / 100 : Nat) : Int) * 2) = ((2 * (n % 100000000 / 10000 / 100) : Nat) : Int) := w2x (by omega)
  have c4 : IntKind.u32.wrap (((n % 100000000 / 10000 % 100 : Nat) : Int) * 2) = ((2 * (n % 100000000 / 10000 % 100) : Nat) : Int) := w2x (by omega)
  have c5 : IntKind.u32.wrap (((2 * (n % 100000000 / 10000 / 100) : Nat) : Int) + 1) = ((2 * (n % 100000000 / 10000 / 100) + 1 : Nat) : Int) := w2y (by omega)
  have c6 : IntKind.u32.wrap (((2 * (n % 100000000 / 10000 % 100) : Nat) : Int) + 1) = ((2 * (n % 100000000 / 10000 % 100) + 1 : Nat) : Int) := w2y (by omega)
  have v0 : IntKind.u32.wrap ((n / 100000000 : Nat) : Int) = ((n / 100000000 : Nat) : Int) := wrap_u32 (by omega)
  simp only [go_sem, simprocAttr, hl, h0, h1', a1, a2, a3, a4, a5, b1, b2, b3, b4, b5, b6, c1, c2, c3, c4, c5, c6, v0]
  rw [go_loop]
  simp only [go_sem, simprocAttr, hl, h0, h1', a1, a2, a3, a4, a5, b1, b2, b3, b4, b5, b6, c1, c2, c3, c4, c5, c6, v0]
  refine go_drawZ tFollows (by kernel_rfl) ?_
  simp only [go_sem, simprocAttr, hl, h0, h1', a1, a2, a3, a4, a5, b1, b2, b3, b4, b5, b6, c1, c2, c3, c4, c5, c6, v0]
  rw [bindK_sm1 (by kernel_rfl) (show n % 100000000 % 10000 % 100 < 100 by omega)]
  simp only [go_sem, simprocAttr, hl, h0, h1', a1, a2, a3, a4, a5, b1, b2, b3, b4, b5, b6, c1, c2, c3, c4, c5, c6, v0]
  rw [bindK_sm0 (by kernel_rfl) (show n % 100000000 % 10000 % 100 < 100 by omega)]
  simp only [go_sem, simprocAttr, hl, h0, h1', a1, a2, a3, a4, a5, b1, b2, b3, b4, b5, b6, c1, c2, c3, c4, c5, c6, v0]
  refine ⟨(by kernel_rfl : effOk _ _ _ = true), ?_⟩
  try simp only [go_sem, simprocAttr, hl, h0, h1', a1, a2, a3, a4, a5, b1, b2, b3, b4, b5, b6, c1, c2, c3, c4, c5, c6, v0]
  refine go_drawZ tFollows (by kernel_rfl) ?_
  simp only [go_sem, simprocAttr, hl, h0, h1', a1, a2, a3, a4, a5, b1, b2, b3, b4, b5, b6, c1, c2, c3, c4, c5, c6, v0]
  rw [bindK_sm1 (by kernel_rfl) (show n % 100000000 % 10000 / 100 < 100 by omega)]
  simp only [go_sem, simprocAttr, hl, h0, h1', a1, a2, a3, a4, a5, b1, b2, b3, b4, b5, b6, c1, c2, c3, c4, c5, c6, v0]
  rw [bindK_sm0 (by kernel_rfl) (show n % 100000000 % 10000 / 100 < 100 by omega)]
  simp only [go_sem, simprocAttr, hl, h0, h1', a1, a2, a3, a4, a5, b1, b2, b3, b4, b5, b6, c1, c2, c3, c4, c5, c6, v0]
  refine ⟨(by kernel_rfl : effOk _ _ _ = true), ?_⟩
  try simp only [go_sem, simprocAttr, hl, h0, h1', a1, a2, a3, a4, a5, b1, b2, b3, b4, b5, b6, c1, c2, c3, c4, c5, c6, v0]
  refine go_drawZ tFollows (by kernel_rfl) ?_
  simp only [go_sem, simprocAttr, hl, h0, h1', a1, a2, a3, a4, a5, b1, b2, b3, b4, b5, b6, c1, c2, c3, c4, c5, c6, v0]
  rw [bindK_sm1 (by kernel_rfl) (show n % 100000000 / 10000 % 100 < 100 by omega)]
  simp only [go_sem, simprocAttr, hl, h0, h1', a1, a2, a3, a4, a5, b1, b2, b3, b4, b5, b6, c1, c2, c3, c4, c5, c6, v0]
  rw [bindK_sm0 (by kernel_rfl) (show n % 100000000 / 10000 % 100 < 100 by omega)]
  simp only [go_sem, simprocAttr, hl, h0, h1', a1, a2, a3, a4, a5, b1, b2, b3, b4, b5, b6, c1, c2, c3, c4, c5, c6, v0]
  refine ⟨(by kernel_rfl : effOk _ _ _ = true), ?_⟩
  try simp only [go_sem, simprocAttr, hl, h0, h1', a1, a2, a3, a4, a5, b1, b2, b3, b4, b5, b6, c1, c2, c3, c4, c5, c6, v0]
  refine go_drawZ tFollows (by kernel_rfl) ?_
  simp only [go_sem, simprocAttr, hl, h0, h1', a1, a2, a3, a4, a5, b1, b2, b3, b4, b5, b6, c1, c2, c3, c4, c5, c6, v0]
  rw [bindK_sm1 (by kernel_rfl) (show n % 100000000 / 10000 / 100 < 100 by omega)]
  simp only [go_sem, simprocAttr, hl, h0, h1', a1, a2, a3, a4, a5, b1, b2, b3, b4, b5, b6, c1, c2, c3, c4, c5, c6, v0]
  rw [bindK_sm0 (by kernel_rfl) (show n % 100000000 / 10000 / 100 < 100 by omega)]
  simp only [go_sem, simprocAttr, hl, h0, h1', a1, a2, a3, a4, a5, b1, b2, b3, b4, b5, b6, c1, c2, c3, c4, c5, c6, v0]
  refine ⟨(by kernel_rfl : effOk _ _ _ = true), ?_⟩
  try simp only [go_sem, simprocAttr, hl, h0, h1', a1, a2, a3, a4, a5, b1, b2, b3, b4, b5, b6, c1, c2, c3, c4, c5, c6, v0]
  rw [go_loop]
  try simp only [go_sem, simprocAttr, hl, h0, h1', a1, a2, a3, a4, a5, b1, b2, b3, b4, b5, b6, c1, c2, c3, c4, c5, c6, v0]
  rw [leave_same rfl (by simp), low_sm (by omega)]

theorem dcL9 {n : Nat} (h1 : 100000000 ≤ n) (h : n < 1000000000) : decP n = [hexD (n / 100000000), hexD ((n % 100000000 / 10000 / 100) / 10), hexD ((n % 100000000 / 10000 / 100) % 10), hexD ((n % 100000000 / 10000 % 100) / 10), hexD ((n % 100000000 / 10000 % 100) % 10), hexD ((n % 100000000 % 10000 / 100) / 10), hexD ((n % 100000000 % 10000 / 100) % 10), hexD ((n % 100000000 % 10000 % 100) / 10), hexD ((n % 100000000 % 10000 % 100) % 10)] := by
  rw [decP_pair (by omega), decP_pair (by omega), decP_pair (by omega), decP_pair (by omega), decP_small (by omega)]
  simp only [List.cons_append, List.nil_append]
  exact cons_eq (congrArg hexD (by omega)) (cons_eq (congrArg hexD (by omega)) (cons_eq (congrArg hexD (by omega)) (cons_eq (congrArg hexD (by omega)) (cons_eq (congrArg hexD (by omega)) (cons_eq (congrArg hexD (by omega)) (cons_eq (congrArg hexD (by omega)) (cons_eq (congrArg hexD (by omega)) (cons_eq (congrArg hexD (by omega)) (rfl)))))))))
set_option maxRecDepth 20000 in
theorem fmtL9 (n : Nat) (H k) (h1 : 100000000 ≤ n) (hn : n < 1000000000) : callK Tryz.prog 57 [.slice H.length 0 9 (.ex 24), .int .u64 (n : Nat)] (H ++ [.cells [.int .u8 0, .int .u8 0, .int .u8 0, .int .u8 0, .int .u8 0, .int .u8 0, .int .u8 0, .int .u8 0, .int .u8 0, .int .u8 0, .int .u8 0, .int .u8 0, .int .u8 0, .int .u8 0, .int .u8 0, .int .u8 0, .int .u8 0, .int .u8 0, .int .u8 0, .int .u8 0, .int .u8 0, .int .u8 0, .int .u8 0, .int .u8 0] 107 .rw]) k =
    k (.tuple [], H ++ [.cells (.int .u8 (hexD (n / 100000000)).toNat :: .int .u8 (hexD ((n % 100000000 / 10000 / 100) / 10)).toNat :: .int .u8 (hexD ((n % 100000000 / 10000 / 100) % 10)).toNat :: .int .u8 (hexD ((n % 100000000 / 10000 % 100) / 10)).toNat :: .int .u8 (hexD ((n % 100000000 / 10000 % 100) % 10)).toNat :: .int .u8 (hexD ((n % 100000000 % 10000 / 100) / 10)).toNat :: .int .u8 (hexD ((n % 100000000 % 10000 / 100) % 10)).toNat :: .int .u8 (hexD ((n % 100000000 % 10000 % 100) / 10)).toNat :: .int .u8 (hexD ((n % 100000000 % 10000 % 100) % 10)).toNat :: [.int .u8 0, .int .u8 0, .int .u8 0, .int .u8 0, .int .u8 0, .int .u8 0, .int .u8 0, .int .u8 0, .int .u8 0, .int .u8 0, .int .u8 0, .int .u8 0, .int .u8 0, .int .u8 0, .int .u8 0]) 107 .rw], ⟨none, some H.length⟩) := by
  refine callK_eq ?_ k
  refine callK_start (n := 167) (rs := []) Tryz.func57 rfl rfl rfl ?_
  intro σ hl ha
  have h0 := ha 0 (by simp)
  have h1' := ha 1 (by simp)
  clear ha
  simp only [Option.getD_some, List.getElem?_cons_zero, List.getElem?_cons_succ] at h0 h1'
  have a1 : (n : Int).tmod 100000000 = ((n % 100000000 : Nat) : Int) := tm64 (by decide)
  have a2 : IntKind.u32.wrap ((n % 100000000 : Nat) : Int) = ((n % 100000000 : Nat) : Int) := wrap_u32 (by omega)
  have a3 : IntKind.u64.wrap ((n : Int).tdiv 100000000) = ((n / 100000000 : Nat) : Int) := t64d (by omega) (by decide)
  have a4 : IntKind.u32.wrap (((n % 100000000 : Nat) : Int).tdiv 10000) = ((n % 100000000 / 10000 : Nat) : Int) := t32d (by omega) (by decide)
  have a5 : ((n % 100000000 : Nat) : Int).tmod 10000 = ((n % 100000000 % 10000 : Nat) : Int) := tm64 (by decide)
  have b1 : IntKind.u32.wrap (((n % 100000000 % 10000 : Nat) : Int).tdiv 100) = ((n % 100000000 % 10000 / 100 : Nat) : Int) := t32d (by omega) (by decide)
  have b2 : ((n % 100000000 % 10000 : Nat) : Int).tmod 100 = ((n % 100000000 % 10000 % 100 : Nat) : Int) := tm64 (by decide)
  have b3 : IntKind.u32.wrap (((n % 100000000 % 10000 / 100 : Nat) : Int) * 2) = ((2 * (n % 100000000 % 10000 / 100) : Nat) : Int) := w2x (by omega)
  have b4 : IntKind.u32.wrap (((n % 100000000 % 10000 % 100 : Nat) : Int) * 2) = ((2 * (n % 100000000 % 10000 % 100) : Nat) : Int) := w2x (by omega)
  have b5 : IntKind.u32.wrap (((2 * (n % 100000000 % 10000 / 100) : Nat) : Int) + 1) = ((2 * (n % 100000000 % 10000 / 100) + 1 : Nat) : Int) := w2y (by omega)
  have b6 : IntKind.u32.wrap (((2 * (n % 100000000 % 10000 % 100) : Nat) : Int) + 1) = ((2 * (n % 100000000 % 10000 % 100) + 1 : Nat) : Int) := w2y (by omega)
  have c1 : IntKind.u32.wrap (((n % 100000000 / 10000 : Nat) : Int).tdiv 100) = ((n % 100000000 / 10000 / 100 : Nat) : Int) := t32d (by omega) (by decide)
  have c2 : ((n % 100000000 / 10000 : Nat) : Int).tmod 100 = ((n % 100000000 / 10000 % 100 : Nat) : Int) := tm64 (by decide)
  have c3 : IntKind.u32.wrap (((n % 100000000 / 10000 / 100 : Nat) : Int) * 2) = ((2 * (n % 100000000 / 10000 / 100) : Nat) : Int) := w2x (by omega)
  have c4 : IntKind.u32.wrap (((n % 100000000 / 10000 % 100 : Nat) : Int) * 2) = ((2 * (n % 100000000 / 10000 % 100) : Nat) : Int) := w2x (by omega)
  have c5 : IntKind.u32.wrap (((2 * (n % 100000000 / 10000 / 100) : Nat) : Int) + 1) = ((2 * (n % 100000000 / 10000 / 100) + 1 : Nat) : Int) := w2y (by omega)
  have c6 : IntKind.u32.wrap (((2 * (n % 100000000 / 10000 % 100) : Nat) : Int) + 1) = ((2 * (n % 100000000 / 10000 % 100) + 1 : Nat) : Int) := w2y (by omega)
  have v0 : IntKind.u32.wrap ((n / 100000000 : Nat) : Int) = ((n / 100000000 : Nat) : Int) := wrap_u32 (by omega)
  have g1 : IntKind.u8.wrap (IntKind.u32.wrap (48 + ((n / 100000000 : Nat) : Int))) = ((hexD (n / 100000000)).toNat : Int) := hexD_i (by omega)
  simp only [go_sem, simprocAttr, hl, h0, h1', a1, a2, a3, a4, a5, b1, b2, b3, b4, b5, b6, c1, c2, c3, c4, c5, c6, v0, g1]
  rw [go_loop]
  simp only [go_sem, simprocAttr, hl, h0, h1', a1, a2, a3, a4, a5, b1, b2, b3, b4, b5, b6, c1, c2, c3, c4, c5, c6, v0, g1]
  refine go_drawZ tFollows (by kernel_rfl) ?_
  simp only [go_sem, simprocAttr, hl, h0, h1', a1, a2, a3, a4, a5, b1, b2, b3, b4, b5, b6, c1, c2, c3, c4, c5, c6, v0, g1]
  rw [bindK_sm1 (by kernel_rfl) (show n % 100000000 % 10000 % 100 < 100 by omega)]
  simp only [go_sem, simprocAttr, hl, h0, h1', a1, a2, a3, a4, a5, b1, b2, b3, b4, b5, b6, c1, c2, c3, c4, c5, c6, v0, g1]
  rw [bindK_sm0 (by kernel_rfl) (show n % 100000000 % 10000 % 100 < 100 by omega)]
  simp only [go_sem, simprocAttr, hl, h0, h1', a1, a2, a3, a4, a5, b1, b2, b3, b4, b5, b6, c1, c2, c3, c4, c5, c6, v0, g1]
  refine ⟨(by kernel_rfl : effOk _ _ _ = true), ?_⟩
  try simp only [go_sem, simprocAttr, hl, h0, h1', a1, a2, a3, a4, a5, b1, b2, b3, b4, b5, b6, c1, c2, c3, c4, c5, c6, v0, g1]
  refine go_drawZ tFollows (by kernel_rfl) ?_
  simp only [go_sem, simprocAttr, hl, h0, h1', a1, a2, a3, a4, a5, b1, b2, b3, b4, b5, b6, c1, c2, c3, c4, c5, c6, v0, g1]
  rw [bindK_sm1 (by kernel_rfl) (show n % 100000000 % 10000 / 100 < 100 by omega)]
  simp only [go_sem, simprocAttr, hl, h0, h1', a1, a2, a3, a4, a5, b1, b2, b3, b4, b5, b6, c1, c2, c3, c4, c5, c6, v0, g1]
  rw [bindK_sm0 (by kernel_rfl) (show n % 100000000 % 10000 / 100 < 100 by omega)]
  simp only [go_sem, simprocAttr, hl, h0, h1', a1, a2, a3, a4, a5, b1, b2, b3, b4, b5, b6, c1, c2, c3, c4, c5, c6, v0, g1]
  refine ⟨(by kernel_rfl : effOk _ _ _ = true), ?_⟩
  try simp only [go_sem, simprocAttr, hl, h0, h1', a1, a2, a3, a4, a5, b1, b2, b3, b4, b5, b6, c1, c2, c3, c4, c5, c6, v0, g1]
  refine go_drawZ tFollows (by kernel_rfl) ?_
  simp only [go_sem, simprocAttr, hl, h0, h1', a1, a2, a3, a4, a5, b1, b2, b3, b4, b5, b6, c1, c2, c3, c4, c5, c6, v0, g1]
  rw [bindK_sm1 (by kernel_rfl) (show n % 100000000 / 10000 % 100 < 100 by omega)]
  simp only [go_sem, simprocAttr, hl, h0, h1', a1, a2, a3, a4, a5, b1, b2, b3, b4, b5, b6, c1, c2, c3, c4, c5, c6, v0, g1]
  rw [bindK_sm0 (by kernel_rfl) (show n % 100000000 / 10000 % 100 < 100 by omega)]
  simp only [go_sem, simprocAttr, hl, h0, h1', a1, a2, a3, a4, a5, b1, b2, b3, b4, b5, b6, c1, c2, c3, c4, c5, c6, v0, g1]
  refine ⟨(by kernel_rfl : effOk _ _ _ = true), ?_⟩
  try simp only [go_sem, simprocAttr, hl, h0, h1', a1, a2, a3, a4, a5, b1, b2, b3, b4, b5, b6, c1, c2, c3, c4, c5, c6, v0, g1]
  refine go_drawZ tFollows (by kernel_rfl) ?_
  simp only [go_sem, simprocAttr, hl, h0, h1', a1, a2, a3, a4, a5, b1, b2, b3, b4, b5, b6, c1, c2, c3, c4, c5, c6, v0, g1]
  rw [bindK_sm1 (by kernel_rfl) (show n % 100000000 / 10000 / 100 < 100 by omega)]
  simp only [go_sem, simprocAttr, hl, h0, h1', a1, a2, a3, a4, a5, b1, b2, b3, b4, b5, b6, c1, c2, c3, c4, c5, c6, v0, g1]
  rw [bindK_sm0 (by kernel_rfl) (show n % 100000000 / 10000 / 100 < 100 by omega)]
  simp only [go_sem, simprocAttr, hl, h0, h1', a1, a2, a3, a4, a5, b1, b2, b3, b4, b5, b6, c1, c2, c3, c4, c5, c6, v0, g1]
  refine ⟨(by kernel_rfl : effOk _ _ _ = true), ?_⟩
  try simp only [go_sem, simprocAttr, hl, h0, h1', a1, a2, a3, a4, a5, b1, b2, b3, b4, b5, b6, c1, c2, c3, c4, c5, c6, v0, g1]
  rw [go_loop]
  try simp only [go_sem, simprocAttr, hl, h0, h1', a1, a2, a3, a4, a5, b1, b2, b3, b4, b5, b6, c1, c2, c3, c4, c5, c6, v0, g1]
  rw [leave_same rfl (by simp), low_sm (by omega)]

theorem dcL10 {n : Nat} (h1 : 1000000000 ≤ n) (h : n < 4294967296) : decP n = [hexD ((n / 100000000 % 100) / 10), hexD ((n / 100000000 % 100) % 10), hexD ((n % 100000000 / 10000 / 100) / 10), hexD ((n % 100000000 / 10000 / 100) % 10), hexD ((n % 100000000 / 10000 % 100) / 10), hexD ((n % 100000000 / 10000 % 100) % 10), hexD ((n % 100000000 % 10000 / 100) / 10), hexD ((n % 100000000 % 10000 / 100) % 10), hexD ((n % 100000000 % 10000 % 100) / 10), hexD ((n % 100000000 % 10000 % 100) % 10)] := by
  rw [decP_pair (by omega), decP_pair (by omega), decP_pair (by omega), decP_pair (by omega), decP_two (by omega) (by omega)]
  simp only [List.cons_append, List.nil_append]
  exact cons_eq (congrArg hexD (by omega)) (cons_eq (congrArg hexD (by omega)) (cons_eq (congrArg hexD (by omega)) (cons_eq (congrArg hexD (by omega)) (cons_eq (congrArg hexD (by omega)) (cons_eq (congrArg hexD (by omega)) (cons_eq (congrArg hexD (by omega)) (cons_eq (congrArg hexD (by omega)) (cons_eq (congrArg hexD (by omega)) (cons_eq (congrArg hexD (by omega)) (rfl))))))))))
set_option maxRecDepth 20000 in
theorem fmtL10 (n : Nat) (H k) (h1 : 1000000000 ≤ n) (hn : n < 4294967296) : callK Tryz.prog 57 [.slice H.length 0 10 (.ex 24), .int .u64 (n : Nat)] (H ++ [.cells [.int .u8 0, .int .u8 0, .int .u8 0, .int .u8 0, .int .u8 0, .int .u8 0, .int .u8 0, .int .u8 0, .int .u8 0, .int .u8 0, .int .u8 0, .int .u8 0, .int .u8 0, .int .u8 0, .int .u8 0, .int .u8 0, .int .u8 0, .int .u8 0, .int .u8 0, .int .u8 0, .int .u8 0, .int .u8 0, .int .u8 0, .int .u8 0] 107 .rw]) k =
    k (.tuple [], H ++ [.cells (.int .u8 (hexD ((n / 100000000 % 100) / 10)).toNat :: .int .u8 (hexD ((n / 100000000 % 100) % 10)).toNat :: .int .u8 (hexD ((n % 100000000 / 10000 / 100) / 10)).toNat :: .int .u8 (hexD ((n % 100000000 / 10000 / 100) % 10)).toNat :: .int .u8 (hexD ((n % 100000000 / 10000 % 100) / 10)).toNat :: .int .u8 (hexD ((n % 100000000 / 10000 % 100) % 10)).toNat :: .int .u8 (hexD ((n % 100000000 % 10000 / 100) / 10)).toNat :: .int .u8 (hexD ((n % 100000000 % 10000 / 100) % 10)).toNat :: .int .u8 (hexD ((n % 100000000 % 10000 % 100) / 10)).toNat :: .int .u8 (hexD ((n % 100000000 % 10000 % 100) % 10)).toNat :: [.int .u8 0, .int .u8 0, .int .u8 0, .int .u8 0, .int .u8 0, .int .u8 0, .int .u8 0, .int .u8 0, .int .u8 0, .int .u8 0, .int .u8 0, .int .u8 0, .int .u8 0, .int .u8 0]) 107 .rw], ⟨none, some H.length⟩) := by
  refine callK_eq ?_ k
  refine callK_start (n := 167) (rs := []) Tryz.func57 rfl rfl rfl ?_
  intro σ hl ha
  have h0 := ha 0 (by simp)
  have h1' := ha 1 (by simp)
  clear ha
  simp only [Option.getD_some, List.getElem?_cons_zero, List.getElem?_cons_succ] at h0 h1'
  have a1 : (n : Int).tmod 100000000 = ((n % 100000000 : Nat) : Int) := tm64 (by decide)
  have a2 : IntKind.u32.wrap ((n % 100000000 : Nat) : Int) = ((n % 100000000 : Nat) : Int) := wrap_u32 (by omega)
  have a3 : IntKind.u64.wrap ((n : Int).tdiv 100000000) = ((n / 100000000 : Nat) : Int) := t64d (by omega) (by decide)
  have a4 : IntKind.u32.wrap (((n % 100000000 : Nat) : Int).tdiv 10000) = ((n % 100000000 / 10000 : Nat) : Int) := t32d (by omega) (by decide)
  have a5 : ((n % 100000000 : Nat) : Int).tmod 10000 = ((n % 100000000 % 10000 : Nat) : Int) := tm64 (by decide)
  have b1 : IntKind.u32.wrap (((n % 100000000 % 10000 : Nat) : Int).tdiv 100) = ((n % 100000000 % 10000 / 100 : Nat) : Int) := t32d (by omega) (by decide)
  have b2 : ((n % 100000000 % 10000 : Nat) : Int).tmod 100 = ((n % 100000000 % 10000 % 100 : Nat) : Int) := tm64 (by decide)
  have b3 : IntKind.u32.wrap (((n % 100000000 % 10000 / 100 : Nat) : Int) * 2) = ((2 * (n % 100000000 % 10000 / 100) : Nat) : Int) := w2x (by omega)
  have b4 : IntKind.u32.wrap (((n % 100000000 % 10000 % 100 : Nat) : Int) * 2) = ((2 * (n % 100000000 % 10000 % 100) : Nat) : Int) := w2x (by omega)
  have b5 : IntKind.u32.wrap (((2 * (n % 100000000 % 10000 / 100) : Nat) : Int) + 1) = ((2 * (n % 100000000 % 10000 / 100) + 1 : Nat) : Int) := w2y (by omega)
  have b6 : IntKind.u32.wrap (((2 * (n % 100000000 % 10000 % 100) : Nat) : Int) + 1) = ((2 * (n % 100000000 % 10000 % 100) + 1 : Nat) : Int) := w2y (by omega)
  have c1 : IntKind.u32.wrap (((n % 100000000 / 10000 : Nat) : Int).tdiv 100) = ((n % 100000000 / 10000 / 100 : Nat) : Int) := t32d (by omega) (by decide)
  have c2 : ((n % 100000000 / 10000 : Nat) : Int).tmod 100 = ((n % 100000000 / 10000 % 100 : Nat) : Int) := tm64 (by decide)
  have c3 : IntKind.u32.wrap (((n % 100000000 / 10000 / 100 : Nat) : Int) * 2) = ((2 * (n % 100000000 / 10000 / 100) : Nat) : Int) := w2x (by omega)
  have c4 : IntKind.u32.wrap (((n % 100000000 / 10000 % 100 : Nat) : Int) * 2) = ((2 * (n % 100000000 / 10000 % 100) : Nat) : Int) := w2x (by omega)
  have c5 : IntKind.u32.wrap (((2 * (n % 100000000 / 10000 / 100) : Nat) : Int) + 1) = ((2 * (n % 100000000 / 10000 / 100) + 1 : Nat) : Int) := w2y (by omega)
  have c6 : IntKind.u32.wrap (((2 * (n % 100000000 / 10000 % 100) : Nat) : Int) + 1) = ((2 * (n % 100000000 / 10000 % 100) + 1 : Nat) : Int) := w2y (by omega)
  have v0 : IntKind.u32.wrap ((n / 100000000 : Nat) : Int) = ((n / 100000000 : Nat) : Int) := wrap_u32 (by omega)
  have f1 : ((n / 100000000 : Nat) : Int).tmod 100 = ((n / 100000000 % 100 : Nat) : Int) := tm64 (by decide)
  have f2 : IntKind.u32.wrap (((n / 100000000 : Nat) : Int).tdiv 100) = ((n / 100000000 / 100 : Nat) : Int) := t32d (by omega) (by decide)
  have f3 : IntKind.u32.wrap (((n / 100000000 % 100 : Nat) : Int) * 2) = ((2 * (n / 100000000 % 100) : Nat) : Int) := w2x (by omega)
  have f4 : IntKind.u32.wrap (((2 * (n / 100000000 % 100) : Nat) : Int) + 1) = ((2 * (n / 100000000 % 100) + 1 : Nat) : Int) := w2y (by omega)
  simp only [go_sem, simprocAttr, hl, h0, h1', a1, a2, a3, a4, a5, b1, b2, b3, b4, b5, b6, c1, c2, c3, c4, c5, c6, v0, f1, f2, f3, f4]
  rw [go_loop]
  simp only [go_sem, simprocAttr, hl, h0, h1', a1, a2, a3, a4, a5, b1, b2, b3, b4, b5, b6, c1, c2, c3, c4, c5, c6, v0, f1, f2, f3, f4]
  refine go_drawZ tFollows (by kernel_rfl) ?_
  simp only [go_sem, simprocAttr, hl, h0, h1', a1, a2, a3, a4, a5, b1, b2, b3, b4, b5, b6, c1, c2, c3, c4, c5, c6, v0, f1, f2, f3, f4]
  rw [bindK_sm1 (by kernel_rfl) (show n % 100000000 % 10000 % 100 < 100 by omega)]
  simp only [go_sem, simprocAttr, hl, h0, h1', a1, a2, a3, a4, a5, b1, b2, b3, b4, b5, b6, c1, c2, c3, c4, c5, c6, v0, f1, f2, f3, f4]
  rw [bindK_sm0 (by kernel_rfl) (show n % 100000000 % 10000 % 100 < 100 by omega)]
  simp only [go_sem, simprocAttr, hl, h0, h1', a1, a2, a3, a4, a5, b1, b2, b3, b4, b5, b6, c1, c2, c3, c4, c5, c6, v0, f1, f2, f3, f4]
  refine ⟨(by kernel_rfl : effOk _ _ _ = true), ?_⟩
  try simp only [go_sem, simprocAttr, hl, h0, h1', a1, a2, a3, a4, a5, b1, b2, b3, b4, b5, b6, c1, c2, c3, c4, c5, c6, v0, f1, f2, f3, f4]
  refine go_drawZ tFollows (by kernel_rfl) ?_
  simp only [go_sem, simprocAttr, hl, h0, h1', a1, a2, a3, a4, a5, b1, b2, b3, b4, b5, b6, c1, c2, c3, c4, c5, c6, v0, f1, f2, f3, f4]
  rw [bindK_sm1 (by kernel_rfl) (show n % 100000000 % 10000 / 100 < 100 by omega)]
  simp only [go_sem, simprocAttr, hl, h0, h1', a1, a2, a3, a4, a5, b1, b2, b3, b4, b5, b6, c1, c2, c3, c4, c5, c6, v0, f1, f2, f3, f4]
  rw [bindK_sm0 (by kernel_rfl) (show n % 100000000 % 10000 / 100 < 100 by omega)]
  simp only [go_sem, simprocAttr, hl, h0, h1', a1, a2, a3, a4, a5, b1, b2, b3, b4, b5, b6, c1, c2, c3, c4, c5, c6, v0, f1, f2, f3, f4]
  refine ⟨(by kernel_rfl : effOk _ _ _ = true), ?_⟩
  try simp only [go_sem, simprocAttr, hl, h0, h1', a1, a2, a3, a4, a5, b1, b2, b3, b4, b5, b6, c1, c2, c3, c4, c5, c6, v0, f1, f2, f3, f4]
  refine go_drawZ tFollows (by kernel_rfl) ?_
  simp only [go_sem, simprocAttr, hl, h0, h1', a1, a2, a3, a4, a5, b1, b2, b3, b4, b5, b6, c1, c2, c3, c4, c5, c6, v0, f1, f2, f3, f4]
  rw [bindK_sm1 (by kernel_rfl) (show n % 100000000 / 10000 % 100 < 100 by omega)]
  simp only [go_sem, simprocAttr, hl, h0, h1', a1, a2, a3, a4, a5, b1, b2, b3, b4, b5, b6, c1, c2, c3, c4, c5, c6, v0, f1, f2, f3, f4]
  rw [bindK_sm0 (by kernel_rfl) (show n % 100000000 / 10000 % 100 < 100 by omega)]
  simp only [go_sem, simprocAttr, hl, h0, h1', a1, a2, a3, a4, a5, b1, b2, b3, b4, b5, b6, c1, c2, c3, c4, c5, c6, v0, f1, f2, f3, f4]
  refine ⟨(by kernel_rfl : effOk _ _ _ = true), ?_⟩
  try simp only [go_sem, simprocAttr, hl, h0, h1', a1, a2, a3, a4, a5, b1, b2, b3, b4, b5, b6, c1, c2, c3, c4, c5, c6, v0, f1, f2, f3, f4]
  refine go_drawZ tFollows (by kernel_rfl) ?_
  simp only [go_sem, simprocAttr, hl, h0, h1', a1, a2, a3, a4, a5, b1, b2, b3, b4, b5, b6, c1, c2, c3, c4, c5, c6, v0, f1, f2, f3, f4]
  rw [bindK_sm1 (by kernel_rfl) (show n % 100000000 / 10000 / 100 < 100 by omega)]
  simp only [go_sem, simprocAttr, hl, h0, h1', a1, a2, a3, a4, a5, b1, b2, b3, b4, b5, b6, c1, c2, c3, c4, c5, c6, v0, f1, f2, f3, f4]
  rw [bindK_sm0 (by kernel_rfl) (show n % 100000000 / 10000 / 100 < 100 by omega)]
  simp only [go_sem, simprocAttr, hl, h0, h1', a1, a2, a3, a4, a5, b1, b2, b3, b4, b5, b6, c1, c2, c3, c4, c5, c6, v0, f1, f2, f3, f4]
  refine ⟨(by kernel_rfl : effOk _ _ _ = true), ?_⟩
  try simp only [go_sem, simprocAttr, hl, h0, h1', a1, a2, a3, a4, a5, b1, b2, b3, b4, b5, b6, c1, c2, c3, c4, c5, c6, v0, f1, f2, f3, f4]
  rw [go_loop]
  try simp only [go_sem, simprocAttr, hl, h0, h1', a1, a2, a3, a4, a5, b1, b2, b3, b4, b5, b6, c1, c2, c3, c4, c5, c6, v0, f1, f2, f3, f4]
  refine go_drawZ tFollows (by kernel_rfl) ?_
  simp only [go_sem, simprocAttr, hl, h0, h1', a1, a2, a3, a4, a5, b1, b2, b3, b4, b5, b6, c1, c2, c3, c4, c5, c6, v0, f1, f2, f3, f4]
  rw [bindK_sm1 (by kernel_rfl) (show n / 100000000 % 100 < 100 by omega)]
  simp only [go_sem, simprocAttr, hl, h0, h1', a1, a2, a3, a4, a5, b1, b2, b3, b4, b5, b6, c1, c2, c3, c4, c5, c6, v0, f1, f2, f3, f4]
  rw [bindK_sm0 (by kernel_rfl) (show n / 100000000 % 100 < 100 by omega)]
  simp only [go_sem, simprocAttr, hl, h0, h1', a1, a2, a3, a4, a5, b1, b2, b3, b4, b5, b6, c1, c2, c3, c4, c5, c6, v0, f1, f2, f3, f4]
  refine ⟨(by kernel_rfl : effOk _ _ _ = true), ?_⟩
  try simp only [go_sem, simprocAttr, hl, h0, h1', a1, a2, a3, a4, a5, b1, b2, b3, b4, b5, b6, c1, c2, c3, c4, c5, c6, v0, f1, f2, f3, f4]
  rw [leave_same rfl (by simp), low_sm (by omega)]


set_option maxRecDepth 20000 in
theorem fmtM3 (n : Nat) (H k) (h1 : 100 ≤ n) (hn : n < 1000) : callK Tryz.prog 57 [.slice H.length 1 3 (.ex 23), .int .u64 (n : Nat)] (H ++ [.cells [.int .u8 0, .int .u8 0, .int .u8 0, .int .u8 0, .int .u8 0, .int .u8 0, .int .u8 0, .int .u8 0, .int .u8 0, .int .u8 0, .int .u8 0, .int .u8 0, .int .u8 0, .int .u8 0, .int .u8 0, .int .u8 0, .int .u8 0, .int .u8 0, .int .u8 0, .int .u8 0, .int .u8 0, .int .u8 0, .int .u8 0, .int .u8 0] 107 .rw]) k =
    k (.tuple [], H ++ [.cells (.int .u8 0 :: .int .u8 (hexD (n / 100)).toNat :: .int .u8 (hexD ((n % 100) / 10)).toNat :: .int .u8 (hexD ((n % 100) % 10)).toNat :: [.int .u8 0, .int .u8 0, .int .u8 0, .int .u8 0, .int .u8 0, .int .u8 0, .int .u8 0, .int .u8 0, .int .u8 0, .int .u8 0, .int .u8 0, .int .u8 0, .int .u8 0, .int .u8 0, .int .u8 0, .int .u8 0, .int .u8 0, .int .u8 0, .int .u8 0, .int .u8 0]) 107 .rw], ⟨none, some H.length⟩) := by
  refine callK_eq ?_ k
  refine callK_start (n := 167) (rs := []) Tryz.func57 rfl rfl rfl ?_
  intro σ hl ha
  have h0 := ha 0 (by simp)
  have h1' := ha 1 (by simp)
  clear ha
  simp only [Option.getD_some, List.getElem?_cons_zero, List.getElem?_cons_succ] at h0 h1'
  have v0 : IntKind.u32.wrap (n : Int) = (n : Int) := wrap_u32 (by omega)
  have f1 : (n : Int).tmod 100 = ((n % 100 : Nat) : Int) := tm64 (by decide)
  have f2 : IntKind.u32.wrap ((n : Int).tdiv 100) = ((n / 100 : Nat) : Int) := t32d (by omega) (by decide)
  have f3 : IntKind.u32.wrap (((n % 100 : Nat) : Int) * 2) = ((2 * (n % 100) : Nat) : Int) := w2x (by omega)
  have f4 : IntKind.u32.wrap (((2 * (n % 100) : Nat) : Int) + 1) = ((2 * (n % 100) + 1 : Nat) : Int) := w2y (by omega)
  have g1 : IntKind.u8.wrap (IntKind.u32.wrap (48 + ((n / 100 : Nat) : Int))) = ((hexD (n / 100)).toNat : Int) := hexD_i (by omega)
  simp only [go_sem, simprocAttr, hl, h0, h1', v0, f1, f2, f3, f4, g1]
  rw [go_loop]
  simp only [go_sem, simprocAttr, hl, h0, h1', v0, f1, f2, f3, f4, g1]
  refine go_drawZ tFollows (by kernel_rfl) ?_
  simp only [go_sem, simprocAttr, hl, h0, h1', v0, f1, f2, f3, f4, g1]
  rw [bindK_sm1 (by kernel_rfl) (show n % 100 < 100 by omega)]
  simp only [go_sem, simprocAttr, hl, h0, h1', v0, f1, f2, f3, f4, g1]
  rw [bindK_sm0 (by kernel_rfl) (show n % 100 < 100 by omega)]
  simp only [go_sem, simprocAttr, hl, h0, h1', v0, f1, f2, f3, f4, g1]
  refine ⟨(by kernel_rfl : effOk _ _ _ = true), ?_⟩
  try simp only [go_sem, simprocAttr, hl, h0, h1', v0, f1, f2, f3, f4, g1]
  rw [leave_same rfl (by simp), low_sm (by omega)]

set_option maxRecDepth 20000 in
theorem fmtM4 (n : Nat) (H k) (h1 : 1000 ≤ n) (hn : n < 10000) : callK Tryz.prog 57 [.slice H.length 1 4 (.ex 23), .int .u64 (n : Nat)] (H ++ [.cells [.int .u8 0, .int .u8 0, .int .u8 0, .int .u8 0, .int .u8 0, .int .u8 0, .int .u8 0, .int .u8 0, .int .u8 0, .int .u8 0, .int .u8 0, .int .u8 0, .int .u8 0, .int .u8 0, .int .u8 0, .int .u8 0, .int .u8 0, .int .u8 0, .int .u8 0, .int .u8 0, .int .u8 0, .int .u8 0, .int .u8 0, .int .u8 0] 107 .rw]) k =
    k (.tuple [], H ++ [.cells (.int .u8 0 :: .int .u8 (hexD ((n % 10000 / 100) / 10)).toNat :: .int .u8 (hexD ((n % 10000 / 100) % 10)).toNat :: .int .u8 (hexD ((n % 10000 % 100) / 10)).toNat :: .int .u8 (hexD ((n % 10000 % 100) % 10)).toNat :: [.int .u8 0, .int .u8 0, .int .u8 0, .int .u8 0, .int .u8 0, .int .u8 0, .int .u8 0, .int .u8 0, .int .u8 0, .int .u8 0, .int .u8 0, .int .u8 0, .int .u8 0, .int .u8 0, .int .u8 0, .int .u8 0, .int .u8 0, .int .u8 0, .int .u8 0]) 107 .rw], ⟨none, some H.length⟩) := by
  refine callK_eq ?_ k
  refine callK_start (n := 167) (rs := []) Tryz.func57 rfl rfl rfl ?_
  intro σ hl ha
  have h0 := ha 0 (by simp)
  have h1' := ha 1 (by simp)
  clear ha
  simp only [Option.getD_some, List.getElem?_cons_zero, List.getElem?_cons_succ] at h0 h1'
  have v0 : IntKind.u32.wrap (n : Int) = (n : Int) := wrap_u32 (by omega)
  have d1 : (n : Int).tmod 10000 = ((n % 10000 : Nat) : Int) := tm64 (by decide)
  have d2 : IntKind.u32.wrap ((n : Int).tdiv 10000) = ((n / 10000 : Nat) : Int) := t32d (by omega) (by decide)
  have e1 : IntKind.u32.wrap (((n % 10000 : Nat) : Int).tdiv 100) = ((n % 10000 / 100 : Nat) : Int) := t32d (by omega) (by decide)
  have e2 : ((n % 10000 : Nat) : Int).tmod 100 = ((n % 10000 % 100 : Nat) : Int) := tm64 (by decide)
  have e3 : IntKind.u32.wrap (((n % 10000 / 100 : Nat) : Int) * 2) = ((2 * (n % 10000 / 100) : Nat) : Int) := w2x (by omega)
  have e4 : IntKind.u32.wrap (((n % 10000 % 100 : Nat) : Int) * 2) = ((2 * (n % 10000 % 100) : Nat) : Int) := w2x (by omega)
  have e5 : IntKind.u32.wrap (((2 * (n % 10000 / 100) : Nat) : Int) + 1) = ((2 * (n % 10000 / 100) + 1 : Nat) : Int) := w2y (by omega)
  have e6 : IntKind.u32.wrap (((2 * (n % 10000 % 100) : Nat) : Int) + 1) = ((2 * (n % 10000 % 100) + 1 : Nat) : Int) := w2y (by omega)
  simp only [go_sem, simprocAttr, hl, h0, h1', v0, d1, d2, e1, e2, e3, e4, e5, e6]
  rw [go_loop]
  simp only [go_sem, simprocAttr, hl, h0, h1', v0, d1, d2, e1, e2, e3, e4, e5, e6]
  refine go_drawZ tFollows (by kernel_rfl) ?_
  simp only [go_sem, simprocAttr, hl, h0, h1', v0, d1, d2, e1, e2, e3, e4, e5, e6]
  rw [bindK_sm1 (by kernel_rfl) (show n % 10000 % 100 < 100 by omega)]
  simp only [go_sem, simprocAttr, hl, h0, h1', v0, d1, d2, e1, e2, e3, e4, e5, e6]
  rw [bindK_sm0 (by kernel_rfl) (show n % 10000 % 100 < 100 by omega)]
  simp only [go_sem, simprocAttr, hl, h0, h1', v0, d1, d2, e1, e2, e3, e4, e5, e6]
  refine ⟨(by kernel_rfl : effOk _ _ _ = true), ?_⟩
  try simp only [go_sem, simprocAttr, hl, h0, h1', v0, d1, d2, e1, e2, e3, e4, e5, e6]
  refine go_drawZ tFollows (by kernel_rfl) ?_
  simp only [go_sem, simprocAttr, hl, h0, h1', v0, d1, d2, e1, e2, e3, e4, e5, e6]
  rw [bindK_sm1 (by kernel_rfl) (show n % 10000 / 100 < 100 by omega)]
  simp only [go_sem, simprocAttr, hl, h0, h1', v0, d1, d2, e1, e2, e3, e4, e5, e6]
  rw [bindK_sm0 (by kernel_rfl) (show n % 10000 / 100 < 100 by omega)]
  simp only [go_sem, simprocAttr, hl, h0, h1', v0, d1, d2, e1, e2, e3, e4, e5, e6]
  refine ⟨(by kernel_rfl : effOk _ _ _ = true), ?_⟩
  try simp only [go_sem, simprocAttr, hl, h0, h1', v0, d1, d2, e1, e2, e3, e4, e5, e6]
  rw [leave_same rfl (by simp), low_sm (by omega)]

set_option maxRecDepth 20000 in
theorem fmtM5 (n : Nat) (H k) (h1 : 10000 ≤ n) (hn : n < 100000) : callK Tryz.prog 57 [.slice H.length 1 5 (.ex 23), .int .u64 (n : Nat)] (H ++ [.cells [.int .u8 0, .int .u8 0, .int .u8 0, .int .u8 0, .int .u8 0, .int .u8 0, .int .u8 0, .int .u8 0, .int .u8 0, .int .u8 0, .int .u8 0, .int .u8 0, .int .u8 0, .int .u8 0, .int .u8 0, .int .u8 0, .int .u8 0, .int .u8 0, .int .u8 0, .int .u8 0, .int .u8 0, .int .u8 0, .int .u8 0, .int .u8 0] 107 .rw]) k =
    k (.tuple [], H ++ [.cells (.int .u8 0 :: .int .u8 (hexD (n / 10000)).toNat :: .int .u8 (hexD ((n % 10000 / 100) / 10)).toNat :: .int .u8 (hexD ((n % 10000 / 100) % 10)).toNat :: .int .u8 (hexD ((n % 10000 % 100) / 10)).toNat :: .int .u8 (hexD ((n % 10000 % 100) % 10)).toNat :: [.int .u8 0, .int .u8 0, .int .u8 0, .int .u8 0, .int .u8 0, .int .u8 0, .int .u8 0, .int .u8 0, .int .u8 0, .int .u8 0, .int .u8 0, .int .u8 0, .int .u8 0, .int .u8 0, .int .u8 0, .int .u8 0, .int .u8 0, .int .u8 0]) 107 .rw], ⟨none, some H.length⟩) := by
  refine callK_eq ?_ k
  refine callK_start (n := 167) (rs := []) Tryz.func57 rfl rfl rfl ?_
  intro σ hl ha
  have h0 := ha 0 (by simp)
  have h1' := ha 1 (by simp)
  clear ha
  simp only [Option.getD_some, List.getElem?_cons_zero, List.getElem?_cons_succ] at h0 h1'
  have v0 : IntKind.u32.wrap (n : Int) = (n : Int) := wrap_u32 (by omega)
  have d1 : (n : Int).tmod 10000 = ((n % 10000 : Nat) : Int) := tm64 (by decide)
  have d2 : IntKind.u32.wrap ((n : Int).tdiv 10000) = ((n / 10000 : Nat) : Int) := t32d (by omega) (by decide)
  have e1 : IntKind.u32.wrap (((n % 10000 : Nat) : Int).tdiv 100) = ((n % 10000 / 100 : Nat) : Int) := t32d (by omega) (by decide)
  have e2 : ((n % 10000 : Nat) : Int).tmod 100 = ((n % 10000 % 100 : Nat) : Int) := tm64 (by decide)
  have e3 : IntKind.u32.wrap (((n % 10000 / 100 : Nat) : Int) * 2) = ((2 * (n % 10000 / 100) : Nat) : Int) := w2x (by omega)
  have e4 : IntKind.u32.wrap (((n % 10000 % 100 : Nat) : Int) * 2) = ((2 * (n % 10000 % 100) : Nat) : Int) := w2x (by omega)
  have e5 : IntKind.u32.wrap (((2 * (n % 10000 / 100) : Nat) : Int) + 1) = ((2 * (n % 10000 / 100) + 1 : Nat) : Int) := w2y (by omega)
  have e6 : IntKind.u32.wrap (((2 * (n % 10000 % 100) : Nat) : Int) + 1) = ((2 * (n % 10000 % 100) + 1 : Nat) : Int) := w2y (by omega)
  have g1 : IntKind.u8.wrap (IntKind.u32.wrap (48 + ((n / 10000 : Nat) : Int))) = ((hexD (n / 10000)).toNat : Int) := hexD_i (by omega)
  simp only [go_sem, simprocAttr, hl, h0, h1', v0, d1, d2, e1, e2, e3, e4, e5, e6, g1]
  rw [go_loop]
  simp only [go_sem, simprocAttr, hl, h0, h1', v0, d1, d2, e1, e2, e3, e4, e5, e6, g1]
  refine go_drawZ tFollows (by kernel_rfl) ?_
  simp only [go_sem, simprocAttr, hl, h0, h1', v0, d1, d2, e1, e2, e3, e4, e5, e6, g1]
  rw [bindK_sm1 (by kernel_rfl) (show n % 10000 % 100 < 100 by omega)]
  simp only [go_sem, simprocAttr, hl, h0, h1', v0, d1, d2, e1, e2, e3, e4, e5, e6, g1]
  rw [bindK_sm0 (by kernel_rfl) (show n % 10000 % 100 < 100 by omega)]
  simp only [go_sem, simprocAttr, hl, h0, h1', v0, d1, d2, e1, e2, e3, e4, e5, e6, g1]
  refine ⟨(by kernel_rfl : effOk _ _ _ = true), ?_⟩
  try simp only [go_sem, simprocAttr, hl, h0, h1', v0, d1, d2, e1, e2, e3, e4, e5, e6, g1]
  refine go_drawZ tFollows (by kernel_rfl) ?_
  simp only [go_sem, simprocAttr, hl, h0, h1', v0, d1, d2, e1, e2, e3, e4, e5, e6, g1]
  rw [bindK_sm1 (by kernel_rfl) (show n % 10000 / 100 < 100 by omega)]
  simp only [go_sem, simprocAttr, hl, h0, h1', v0, d1, d2, e1, e2, e3, e4, e5, e6, g1]
  rw [bindK_sm0 (by kernel_rfl) (show n % 10000 / 100 < 100 by omega)]
  simp only [go_sem, simprocAttr, hl, h0, h1', v0, d1, d2, e1, e2, e3, e4, e5, e6, g1]
  refine ⟨(by kernel_rfl : effOk _ _ _ = true), ?_⟩
  try simp only [go_sem, simprocAttr, hl, h0, h1', v0, d1, d2, e1, e2, e3, e4, e5, e6, g1]
  rw [leave_same rfl (by simp), low_sm (by omega)]


end Go.Proofs.YtgkpgpdkolpfkaaGreatDoor.V
namespace Go.Proofs.YtgkpgpdkolpfkaaGreatDoor.V
open Go
attribute [local irreducible] go goOps goD opK callK callT stepK leaveTo nextK

def bl16 (n : Nat) : Nat := if n < 256 then bl8 n else 8 + bl8 (n / 256)
def bl (n : Nat) : Nat := if n < 65536 then bl16 n else 16 + bl16 (n / 65536)
theorem bl16_le {n : Nat} (h : n < 65536) : bl16 n ≤ 16 := by
  unfold bl16
  split
  · have := (bl8_at ‹_›).2; omega
  · have := (bl8_at (c := n / 256) (by omega)).2; omega
theorem bl16_range {n : Nat} (h : n < 65536) : n < 2 ^ bl16 n ∧ (n ≠ 0 → 2 ^ bl16 n ≤ 2 * n) := by
  unfold bl16
  split
  · exact bl8_range ‹_›
  · have hr := bl8_range (c := n / 256) (by omega)
    rw [Nat.pow_add]
    have := hr.2 (by omega)
    omega
theorem bl_range {n : Nat} (h : n < 4294967296) : n < 2 ^ bl n ∧ (n ≠ 0 → 2 ^ bl n ≤ 2 * n) ∧ bl n ≤ 32 := by
  unfold bl
  split
  · have := bl16_le ‹_›
    exact ⟨(bl16_range ‹_›).1, (bl16_range ‹_›).2, by omega⟩
  · have hr := bl16_range (n := n / 65536) (by omega)
    have := bl16_le (n := n / 65536) (by omega)
    rw [Nat.pow_add]
    have := hr.2 (by omega)
    omega

set_option maxRecDepth 20000 in
theorem num_len (n : Nat) (H k) (hn : n < 4294967296) : callK Tryz.prog 81 [.int .u64 (n : Nat)] H k = k (.int .i64 (bl n : Nat), H, z0) := by
  refine callK_eq (r := (.int .i64 (bl n : Nat), H, z0)) ?_ k
  refine callK_start (n := 25) (rs := [.tmp 2]) Tryz.func81 rfl rfl rfl ?_
  intro σ hl ha
  have h0 := ha 0 (by simp)
  clear ha
  simp only [Option.getD_some, List.getElem?_cons_zero, List.getElem?_cons_succ] at h0
  have g1 : decide ((n : Int) ≥ 4294967296) = false := by simp; omega
  obtain ⟨m, b, hm, hmb, hg, hsum⟩ : ∃ (m b : Nat), m < 65536 ∧ (decide ((n : Int) ≥ 65536) = false ∧ m = n ∧ b = 0 ∨ decide ((n : Int) ≥ 65536) = true ∧ m = n / 65536 ∧ b = 16) ∧ b ≤ 16 ∧ bl n = b + bl16 m := by
    by_cases h : n < 65536
    · exact ⟨n, 0, h, .inl ⟨by simp; omega, rfl, rfl⟩, by omega, by unfold bl; rw [if_pos h, Nat.zero_add]⟩
    · exact ⟨n / 65536, 16, by omega, .inr ⟨by simp; omega, rfl, rfl⟩, by omega, by unfold bl; rw [if_neg h]⟩
  have w16 : IntKind.i64.wrap (0 + 16) = ((16 : Nat) : Int) := by decide
  have w16' : IntKind.i64.wrap 16 = 16 := by decide
  have sh : (n : Int).fdiv (2 ^ min 16 64) = ((n / 65536 : Nat) : Int) := by
    have : (2 : Int) ^ min 16 64 = 65536 := by decide
    rw [this, Int.fdiv_eq_ediv_of_nonneg _ (by omega)]; omega
  rw [hsum]
  by_cases h : m < 256
  · have g3 : decide ((m : Int) ≥ 256) = false := by simp; omega
    have w1 : IntKind.u8.wrap (m : Int) = (m : Int) := by rw [wrap_u8 (by omega)]
    have hb := (bl8_at h).2
    have hv := ofNat_le hb (by decide)
    have w2 : IntKind.i64.wrap (bl8 m : Int) = (bl8 m : Int) := by rw [wrap_i64 (by omega)]
    have hs : bl16 m = bl8 m := if_pos h
    rcases hmb with ⟨g2, rfl, rfl⟩ | ⟨g2, rfl, rfl⟩
    · have w3 : IntKind.i64.wrap (0 + (bl8 m : Int)) = (bl8 m : Int) := by rw [wrap_i64 (by omega)]; omega
      simp only [go_sem, simprocAttr, hl, h0, g1, g2, g3, w1]
      rw [bindK_len8 (by kernel_rfl) h]
      simp only [go_sem, simprocAttr, hl, h0, hv, w2, w3, hs, Nat.zero_add]
    · have w3 : IntKind.i64.wrap (16 + (bl8 (n / 65536) : Int)) = ((16 + bl8 (n / 65536) : Nat) : Int) := by rw [wrap_i64 (by omega)]; omega
      simp only [go_sem, simprocAttr, hl, h0, g1, g2, sh, g3, w1, w16, w16']
      rw [bindK_len8 (by kernel_rfl) h]
      simp only [go_sem, simprocAttr, hl, h0, hv, w2, w3, hs]
  · have g3 : decide ((m : Int) ≥ 256) = true := by simp; omega
    have w1 : IntKind.u8.wrap ((m : Int).fdiv (2 ^ min 8 64)) = ((m / 256 : Nat) : Int) := by
      have : (2 : Int) ^ min 8 64 = 256 := by decide
      rw [this, Int.fdiv_eq_ediv_of_nonneg _ (by omega), wrap_u8 (by omega)]; omega
    have hlt : m / 256 < 256 := by omega
    have hb := (bl8_at hlt).2
    have hv := ofNat_le hb (by decide)
    have w2 : IntKind.i64.wrap (bl8 (m / 256) : Int) = (bl8 (m / 256) : Int) := by rw [wrap_i64 (by omega)]
    have hs : bl16 m = 8 + bl8 (m / 256) := if_neg h
    rcases hmb with ⟨g2, rfl, rfl⟩ | ⟨g2, rfl, rfl⟩
    · have w3 : IntKind.i64.wrap (8 + (bl8 (m / 256) : Int)) = ((8 + bl8 (m / 256) : Nat) : Int) := by rw [wrap_i64 (by omega)]; omega
      simp only [go_sem, simprocAttr, hl, h0, g1, g2, g3, w1]
      rw [bindK_len8 (by kernel_rfl) hlt]
      simp only [go_sem, simprocAttr, hl, h0, hv, w2, w3, hs, Nat.zero_add]
    · have w3 : IntKind.i64.wrap (24 + (bl8 (n / 65536 / 256) : Int)) = ((16 + (8 + bl8 (n / 65536 / 256)) : Nat) : Int) := by rw [wrap_i64 (by omega)]; omega
      have w4 : IntKind.i64.wrap (16 + 8) = 24 := by decide
      have w5 : IntKind.i64.wrap 24 = 24 := by decide
      simp only [go_sem, simprocAttr, hl, h0, g1, g2, sh, g3, w1, w16, w16', w4, w5]
      rw [bindK_len8 (by kernel_rfl) hlt]
      simp only [go_sem, simprocAttr, hl, h0, hv, w2, w3, hs]

theorem lg_tab {b : Nat} (h : b ≤ 32) : b * 78913 / 262144 ≤ 9 ∧ 10 ^ (b * 78913 / 262144) ≤ 2 ^ b ∧ 2 ^ b ≤ 10 ^ (b * 78913 / 262144 + 1) := by
  have : ∀ b : Fin 33, b.val * 78913 / 262144 ≤ 9 ∧ 10 ^ (b.val * 78913 / 262144) ≤ 2 ^ b.val ∧ 2 ^ b.val ≤ 10 ^ (b.val * 78913 / 262144 + 1) := by decide +kernel
  exact this ⟨b, by omega⟩
theorem pow_at {l : Nat} (h : l ≤ 9) (e : TypeId) (k : Kd) : ldC l 1 false (.cells pow10c e k) = some (.int .u64 ((10 ^ l : Nat) : Int)) := by
  have : l = 0 ∨ l = 1 ∨ l = 2 ∨ l = 3 ∨ l = 4 ∨ l = 5 ∨ l = 6 ∨ l = 7 ∨ l = 8 ∨ l = 9 := by omega
  rcases this with rfl | rfl | rfl | rfl | rfl | rfl | rfl | rfl | rfl | rfl <;> rfl

set_option maxRecDepth 20000 in
theorem num_digits (n L : Nat) (H k) (ht : Tb H) (hL : 1 ≤ L) (h1 : 10 ^ (L - 1) ≤ n) (h2 : n < 10 ^ L) (hn : n < 4294967296) : callK Tryz.prog 56 [.int .u64 (n : Nat)] H k = k (.int .i64 (L : Nat), H, z0) := by
  refine callK_eq (r := (.int .i64 (L : Nat), H, z0)) ?_ k
  refine callK_start (n := 15) (rs := [.tmp 2]) Tryz.func56 rfl rfl rfl ?_
  intro σ hl ha
  have h0 := ha 0 (by simp)
  clear ha
  simp only [Option.getD_some, List.getElem?_cons_zero, List.getElem?_cons_succ] at h0
  obtain ⟨te, kd, ht⟩ := ht
  obtain ⟨r1, r2, r3⟩ := bl_range hn
  obtain ⟨t1, t2, t3⟩ := lg_tab r3
  have c1 := fun H k => num_len n H k hn
  have c2 := fun H k => num_log (bl n) H k (by omega)
  have c3 := fun b H k => num_bool b H k
  obtain ⟨l, hl'⟩ : ∃ l, bl n * 78913 / 262144 = l := ⟨_, rfl⟩
  rw [hl'] at c2 t1 t2 t3
  have hld := pow_at t1
  have ix := ix99 (i := l) (by omega)
  have uniq : ∀ a : Nat, 10 ^ a ≤ n → n < 10 ^ (a + 1) → L = a + 1 := by
    intro a ha1 ha2
    have p1 : L - 1 < a + 1 := (Nat.pow_lt_pow_iff_right (by decide : 1 < 10)).1 (Nat.lt_of_le_of_lt h1 ha2)
    have p2 : a < L := (Nat.pow_lt_pow_iff_right (by decide : 1 < 10)).1 (Nat.lt_of_le_of_lt ha1 h2)
    omega
  by_cases hg : 10 ^ l ≤ n
  · have g1 : decide ((n : Int) ≥ ((10 ^ l : Nat) : Int)) = true := by simp only [decide_eq_true_eq]; omega
    have hres := uniq l hg (by omega)
    have w : IntKind.i64.wrap ((l : Int) + 1) = ((l + 1 : Nat) : Int) := by rw [wrap_i64 (by omega)]; omega
    subst hres
    simp only [go_sem, simprocAttr, hl, h0, c1, c2, ix, ht, hld, ge_iff_le, Int.ofNat_le, hg, c3, w]
  · have hn0 : n ≠ 0 := by
      have : 0 < 10 ^ (L - 1) := Nat.pow_pos (by decide)
      omega
    have h4 := r2 hn0
    have hl1 : 1 ≤ l := by
      rcases Nat.eq_zero_or_pos l with h | h
      · rw [h] at hg; simp at hg; omega
      · exact h
    obtain ⟨q, rfl⟩ : ∃ q, l = q + 1 := ⟨l - 1, by omega⟩
    have hp : 10 ^ (q + 1) = 10 ^ q * 10 := Nat.pow_succ 10 q
    have hres := uniq q (by omega) (by omega)
    have w : IntKind.i64.wrap (((q + 1 : Nat) : Int) + 0) = ((q + 1 : Nat) : Int) := by rw [wrap_i64 (by omega)]; omega
    have w' : IntKind.i64.wrap (((q + 1 : Nat) : Int)) = ((q + 1 : Nat) : Int) := by rw [wrap_i64 (by omega)]
    subst hres
    simp only [go_sem, simprocAttr, hl, h0, c1, c2, ix, ht, hld, ge_iff_le, Int.ofNat_le, hg, c3, w, w', Int.add_zero]

set_option maxRecDepth 20000 in
theorem fmt_uint_i (n : Nat) (H k) (ht : Tb H) (hn : n < 4294967296) : callK Tryz.prog 33 [.int .u64 (n : Nat), .int .i64 10] H k = k (.str (decP n), H, z0) := by
  refine callK_eq (r := (.str (decP n), H, z0)) ?_ k
  refine callK_start (n := 32) (rs := [.tmp 4]) Tryz.func33 rfl rfl rfl ?_
  intro σ hl ha
  have h0 := ha 0 (by simp)
  have h1 := ha 1 (by simp)
  clear ha
  simp only [Option.getD_some, List.getElem?_cons_zero, List.getElem?_cons_succ] at h0 h1
  by_cases h100 : n < 100
  · have g1 : decide ((n : Int) < 100) = true := by simp; omega
    have hs := fun H k => str_small n H k h100
    have w1 : IntKind.i64.wrap (n : Int) = (n : Int) := wrap_i64 (by omega)
    simp only [go_sem, simprocAttr, hl, h0, h1, g1, w1, hs]
  · have g1 : decide ((n : Int) < 100) = false := by simp; omega
    have hnum := fun L k h1 h2 h3 => num_digits n L (H ++ [.cells [.int .u8 0, .int .u8 0, .int .u8 0, .int .u8 0, .int .u8 0, .int .u8 0, .int .u8 0, .int .u8 0, .int .u8 0, .int .u8 0, .int .u8 0, .int .u8 0, .int .u8 0, .int .u8 0, .int .u8 0, .int .u8 0, .int .u8 0, .int .u8 0, .int .u8 0, .int .u8 0, .int .u8 0, .int .u8 0, .int .u8 0, .int .u8 0] 107 .rw]) k (ht.old _) h1 h2 h3 hn
    have hc : (n < 1000) ∨ (1000 ≤ n ∧ n < 10000) ∨ (10000 ≤ n ∧ n < 100000) ∨ (100000 ≤ n ∧ n < 1000000) ∨ (1000000 ≤ n ∧ n < 10000000) ∨ (10000000 ≤ n ∧ n < 100000000) ∨ (100000000 ≤ n ∧ n < 1000000000) ∨ (1000000000 ≤ n) := by omega
    rcases hc with h | ⟨h, h'⟩ | ⟨h, h'⟩ | ⟨h, h'⟩ | ⟨h, h'⟩ | ⟨h, h'⟩ | ⟨h, h'⟩ | h
    · have hd := fun k => hnum 3 k (by decide) (by omega) (by omega)
      have hf := fun k => fmtL3 n H k (by omega) (by omega)
      simp only [go_sem, simprocAttr, hl, h0, h1, g1, hd, hf, Int.cast_ofNat_Int]
      rw [dcL3 (n := n) (by omega) (by omega)]
    · have hd := fun k => hnum 4 k (by decide) (by omega) (by omega)
      have hf := fun k => fmtL4 n H k (by omega) (by omega)
      simp only [go_sem, simprocAttr, hl, h0, h1, g1, hd, hf, Int.cast_ofNat_Int]
      rw [dcL4 (n := n) (by omega) (by omega)]
    · have hd := fun k => hnum 5 k (by decide) (by omega) (by omega)
      have hf := fun k => fmtL5 n H k (by omega) (by omega)
      simp only [go_sem, simprocAttr, hl, h0, h1, g1, hd, hf, Int.cast_ofNat_Int]
      rw [dcL5 (n := n) (by omega) (by omega)]
    · have hd := fun k => hnum 6 k (by decide) (by omega) (by omega)
      have hf := fun k => fmtL6 n H k (by omega) (by omega)
      simp only [go_sem, simprocAttr, hl, h0, h1, g1, hd, hf, Int.cast_ofNat_Int]
      rw [dcL6 (n := n) (by omega) (by omega)]
    · have hd := fun k => hnum 7 k (by decide) (by omega) (by omega)
      have hf := fun k => fmtL7 n H k (by omega) (by omega)
      simp only [go_sem, simprocAttr, hl, h0, h1, g1, hd, hf, Int.cast_ofNat_Int]
      rw [dcL7 (n := n) (by omega) (by omega)]
    · have hd := fun k => hnum 8 k (by decide) (by omega) (by omega)
      have hf := fun k => fmtL8 n H k (by omega) (by omega)
      simp only [go_sem, simprocAttr, hl, h0, h1, g1, hd, hf, Int.cast_ofNat_Int]
      rw [dcL8 (n := n) (by omega) (by omega)]
    · have hd := fun k => hnum 9 k (by decide) (by omega) (by omega)
      have hf := fun k => fmtL9 n H k (by omega) (by omega)
      simp only [go_sem, simprocAttr, hl, h0, h1, g1, hd, hf, Int.cast_ofNat_Int]
      rw [dcL9 (n := n) (by omega) (by omega)]
    · have hd := fun k => hnum 10 k (by decide) (by omega) (by omega)
      have hf := fun k => fmtL10 n H k (by omega) (by omega)
      simp only [go_sem, simprocAttr, hl, h0, h1, g1, hd, hf, Int.cast_ofNat_Int]
      rw [dcL10 (n := n) (by omega) (by omega)]

set_option maxRecDepth 20000 in
theorem fmt_int_i (n : Nat) (H k) (ht : Tb H) (hn : n < 100000) : callK Tryz.prog 59 [.int .i64 (n : Nat), .int .i64 10] H k = k (.str (decP n), H, z0) := by
  refine callK_eq (r := (.str (decP n), H, z0)) ?_ k
  refine callK_start (n := 54) (rs := [.tmp 4]) Tryz.func59 rfl rfl rfl ?_
  intro σ hl ha
  have h0 := ha 0 (by simp)
  have h1 := ha 1 (by simp)
  clear ha
  simp only [Option.getD_some, List.getElem?_cons_zero, List.getElem?_cons_succ] at h0 h1
  have g0 : decide ((0 : Int) ≤ (n : Int)) = true := by simp
  have w1 : IntKind.u64.wrap (n : Int) = (n : Int) := wrap_u64 (by omega)
  by_cases h100 : n < 100
  · have g1 : decide ((n : Int) < 100) = true := by simp; omega
    have hs := fun H k => str_small n H k h100
    simp only [go_sem, simprocAttr, hl, h0, h1, g0, g1, hs]
  · have g1 : decide ((n : Int) < 100) = false := by simp; omega
    have g2 : decide ((n : Int) < 0) = false := by simp
    have hnum := fun L k h1 h2 h3 => num_digits n L (H ++ [.cells [.int .u8 0, .int .u8 0, .int .u8 0, .int .u8 0, .int .u8 0, .int .u8 0, .int .u8 0, .int .u8 0, .int .u8 0, .int .u8 0, .int .u8 0, .int .u8 0, .int .u8 0, .int .u8 0, .int .u8 0, .int .u8 0, .int .u8 0, .int .u8 0, .int .u8 0, .int .u8 0, .int .u8 0, .int .u8 0, .int .u8 0, .int .u8 0] 107 .rw]) k (ht.old _) h1 h2 h3 (by omega)
    have hc : (n < 1000) ∨ (1000 ≤ n ∧ n < 10000) ∨ (10000 ≤ n ∧ n < 100000) := by omega
    rcases hc with h | ⟨h, h'⟩ | ⟨h, h'⟩
    · have hd := fun k => hnum 3 k (by decide) (by omega) (by omega)
      have hf := fun k => fmtM3 n H k (by omega) (by omega)
      simp only [go_sem, simprocAttr, hl, h0, h1, g0, g1, g2, w1, hd, hf, Int.cast_ofNat_Int]
      rw [dcL3 (n := n) (by omega) (by omega)]
    · have hd := fun k => hnum 4 k (by decide) (by omega) (by omega)
      have hf := fun k => fmtM4 n H k (by omega) (by omega)
      simp only [go_sem, simprocAttr, hl, h0, h1, g0, g1, g2, w1, hd, hf, Int.cast_ofNat_Int]
      rw [dcL4 (n := n) (by omega) (by omega)]
    · have hd := fun k => hnum 5 k (by decide) (by omega) (by omega)
      have hf := fun k => fmtM5 n H k (by omega) (by omega)
      simp only [go_sem, simprocAttr, hl, h0, h1, g0, g1, g2, w1, hd, hf, Int.cast_ofNat_Int]
      rw [dcL5 (n := n) (by omega) (by omega)]
set_option maxRecDepth 20000 in
theorem itoa_i (n : Nat) (H k) (ht : Tb H) (hn : n < 100000) : callK Tryz.prog 34 [.int .i64 (n : Nat)] H k = k (.str (decP n), H, z0) := by
  refine callK_eq (r := (.str (decP n), H, z0)) ?_ k
  refine callK_start (n := 5) (rs := [.tmp 2]) Tryz.func34 rfl rfl rfl ?_
  intro σ hl ha
  have h0 := ha 0 (by simp)
  clear ha
  simp only [Option.getD_some, List.getElem?_cons_zero, List.getElem?_cons_succ] at h0
  have hf := fun k => fmt_int_i n H k ht hn
  simp only [go_sem, simprocAttr, hl, h0, hf]
set_option maxRecDepth 20000 in
theorem itoa (n : Nat) (H k) (ht : Tb H) (hn : n < 100000) : callK Tryz.prog 12 [.int .i64 (n : Nat)] H k = k (.str (decP n), H, z0) := by
  refine callK_eq (r := (.str (decP n), H, z0)) ?_ k
  refine callK_start (n := 5) (rs := [.tmp 2]) Tryz.func12 rfl rfl rfl ?_
  intro σ hl ha
  have h0 := ha 0 (by simp)
  clear ha
  simp only [Option.getD_some, List.getElem?_cons_zero, List.getElem?_cons_succ] at h0
  have hf := fun k => itoa_i n H k ht hn
  simp only [go_sem, simprocAttr, hl, h0, hf]
set_option maxRecDepth 20000 in
theorem fmt_uint (n : Nat) (H k) (ht : Tb H) (hn : n < 4294967296) : callK Tryz.prog 11 [.int .u64 (n : Nat), .int .i64 10] H k = k (.str (decP n), H, z0) := by
  refine callK_eq (r := (.str (decP n), H, z0)) ?_ k
  refine callK_start (n := 8) (rs := [.tmp 4]) Tryz.func11 rfl rfl rfl ?_
  intro σ hl ha
  have h0 := ha 0 (by simp)
  have h1 := ha 1 (by simp)
  clear ha
  simp only [Option.getD_some, List.getElem?_cons_zero, List.getElem?_cons_succ] at h0 h1
  have hf := fun k => fmt_uint_i n H k ht hn
  simp only [go_sem, simprocAttr, hl, h0, h1, hf]
end Go.Proofs.YtgkpgpdkolpfkaaGreatDoor.V
namespace Go.Proofs.YtgkpgpdkolpfkaaGreatDoor.V
open Go
attribute [local irreducible] go goOps goD opK callK callT stepK leaveTo nextK

def hexN (n : Nat) : List UInt8 := if n < 16 then [hexD n] else hexN (n / 16) ++ [hexD (n % 16)]
termination_by n
decreasing_by omega
theorem hexN_small {n : Nat} (h : n < 16) : hexN n = [hexD n] := by unfold hexN; rw [if_pos h]
theorem hexN_big {n : Nat} (h : ¬ n < 16) : hexN n = hexN (n / 16) ++ [hexD (n % 16)] := by rw [hexN]; rw [if_neg h]
theorem decP_le (n : Nat) : (decP n).length ≤ n + 1 := by
  induction n using Nat.strongRecOn with
  | _ n ih =>
    by_cases h : n < 10
    · rw [decP_small h]; simp
    · rw [decP_big h, List.length_append]
      have := ih (n / 10) (by omega)
      simp; omega
theorem hexN_le (n : Nat) : (hexN n).length ≤ n + 1 := by
  induction n using Nat.strongRecOn with
  | _ n ih =>
    by_cases h : n < 16
    · rw [hexN_small h]; simp
    · rw [hexN_big h, List.length_append]
      have := ih (n / 16) (by omega)
      simp; omega
end Go.Proofs.YtgkpgpdkolpfkaaGreatDoor.V
namespace Go.Proofs.YtgkpgpdkolpfkaaGreatDoor.V
open Go
attribute [local irreducible] go goOps goD opK callK callT stepK leaveTo nextK

def deB64c : List AV := [.int .u8 0, .int .u8 1, .int .u8 56, .int .u8 2, .int .u8 57, .int .u8 49, .int .u8 28, .int .u8 3, .int .u8 61, .int .u8 58, .int .u8 42, .int .u8 50, .int .u8 38, .int .u8 29, .int .u8 17, .int .u8 4, .int .u8 62, .int .u8 47, .int .u8 59, .int .u8 36, .int .u8 45, .int .u8 43, .int .u8 51, .int .u8 22, .int .u8 53, .int .u8 39, .int .u8 33, .int .u8 30, .int .u8 24, .int .u8 18, .int .u8 12, .int .u8 5, .int .u8 63, .int .u8 55, .int .u8 48, .int .u8 27, .int .u8 60, .int .u8 41, .int .u8 37, .int .u8 16, .int .u8 46, .int .u8 35, .int .u8 44, .int .u8 21, .int .u8 52, .int .u8 32, .int .u8 23, .int .u8 11, .int .u8 54, .int .u8 26, .int .u8 40, .int .u8 15, .int .u8 34, .int .u8 20, .int .u8 31, .int .u8 10, .int .u8 25, .int .u8 14, .int .u8 19, .int .u8 9, .int .u8 13, .int .u8 8, .int .u8 7, .int .u8 6]
def Db (H : Hp) : Prop := ∃ e k, H[4]? = some (.cells deB64c e k)
theorem Db.old {H : Hp} (h : Db H) (l : Hp) : Db (H ++ l) := by
  obtain ⟨e, k, h⟩ := h
  exact ⟨e, k, hp_old h⟩
theorem ixB {i : Int} (h : 0 ≤ i ∧ i < 64) : evIndexAddr Tryz.prog 167 (.ptr 4 0) (.int .u64 i) = some (.ptr 4 i.toNat) := by
  simp only [evIndexAddr, tsh_167]
  rw [if_pos ⟨by omega, by omega⟩]
  simp
set_option maxRecDepth 20000 in
theorem tz64_16 (H k) (ht : Db H) : callK Tryz.prog 103 [.int .u64 16] H k = k (.int .i64 4, H, z0) := by
  obtain ⟨et, kt, ht⟩ := ht
  refine callK_eq (r := (.int .i64 4, H, z0)) ?_ k
  refine callK_start (n := 14) (rs := [.tmp 2]) Tryz.func103 rfl rfl rfl ?_
  intro σ hl ha
  have h0 := ha 0 (by simp)
  clear ha
  simp only [Option.getD_some, List.getElem?_cons_zero, List.getElem?_cons_succ] at h0
  have a1 : evInt .and .u64 16 (IntKind.u64.wrap (-16)) = some (.int .u64 16) := rfl
  have a2 : IntKind.u64.wrap 4573923408821661840 = 4573923408821661840 := rfl
  have a3 : Int.fdiv 4573923408821661840 (2 ^ min 58 64) = 15 := rfl
  have a4 := ixB (i := 15) (by decide)
  have a5 : ∀ (e : TypeId) (k : Kd), ldC 15 1 false (.cells deB64c e k) = some (.int .u8 4) := by intro e k; rw [ldC_f]; rfl
  simp only [go_sem, simprocAttr, hl, h0, ht, a1, a2, a3, a4, a5]

set_option maxRecDepth 20000 in
theorem tz_16 (H k) (ht : Db H) : callK Tryz.prog 84 [.int .u64 16] H k = k (.int .i64 4, H, z0) := by
  refine callK_eq (r := (.int .i64 4, H, z0)) ?_ k
  refine callK_start (n := 8) (rs := [.tmp 2]) Tryz.func84 rfl rfl rfl ?_
  intro σ hl ha
  have h0 := ha 0 (by simp)
  clear ha
  simp only [Option.getD_some, List.getElem?_cons_zero, List.getElem?_cons_succ] at h0
  have hf := fun k => tz64_16 H k ht
  simp only [go_sem, simprocAttr, hl, h0, hf]
set_option maxRecDepth 20000 in
theorem pow2_16 (H k) : callK Tryz.prog 83 [.int .i64 16] H k = k (.bool true, H, z0) := by
  refine callK_eq (r := (.bool true, H, z0)) ?_ k
  refine callK_start (n := 8) (rs := [.tmp 2]) Tryz.func83 rfl rfl rfl ?_
  intro σ hl ha
  have h0 := ha 0 (by simp)
  clear ha
  simp only [Option.getD_some, List.getElem?_cons_zero, List.getElem?_cons_succ] at h0
  have a1 : evInt .and .i64 16 15 = some (.int .i64 0) := rfl
  simp only [go_sem, simprocAttr, hl, h0, a1]
theorem hexN_pow : ∀ (k n : Nat), n < 16 ^ (k + 1) → (hexN n).length ≤ k + 1
  | 0, n, h => by rw [hexN_small (by simpa using h)]; simp
  | k + 1, n, h => by
    by_cases h0 : n < 16
    · rw [hexN_small h0]; simp
    · rw [hexN_big h0, List.length_append]
      have : n / 16 < 16 ^ (k + 1) := by
        rw [Nat.div_lt_iff_lt_mul (by omega)]
        rw [Nat.pow_succ] at h; exact h
      have := hexN_pow k (n / 16) this
      simp; omega
def z65 (l : List UInt8) : List AV := u8s (List.replicate (65 - l.length) 0 ++ l)
theorem hexD_str {n : Nat} (h : n < 16) : ([48, 49, 50, 51, 52, 53, 54, 55, 56, 57, 97, 98, 99, 100, 101, 102, 103, 104, 105, 106, 107, 108, 109, 110, 111, 112, 113, 114, 115, 116, 117, 118, 119, 120, 121, 122] : List UInt8)[n]? = some (hexD n) := by
  have : ∀ n : Fin 16, ([48, 49, 50, 51, 52, 53, 54, 55, 56, 57, 97, 98, 99, 100, 101, 102, 103, 104, 105, 106, 107, 108, 109, 110, 111, 112, 113, 114, 115, 116, 117, 118, 119, 120, 121, 122] : List UInt8)[n.val]? = some (hexD n.val) := by decide
  exact this ⟨n, h⟩
theorem z65_put {l : List UInt8} {c : UInt8} (h : l.length < 65) : splice (z65 l) (64 - l.length) [.int .u8 c.toNat] = z65 (c :: l) := by
  unfold z65
  rw [u8s_st (c := 0) (by rw [List.getElem?_append_left (by simp; omega), List.getElem?_replicate_of_lt (by omega)])]
  congr 1
  obtain ⟨m, hm⟩ : ∃ m, 65 - l.length = m + 1 := ⟨64 - l.length, by omega⟩
  have hm2 : 64 - l.length = m := by omega
  have hm3 : 65 - (c :: l).length = m := by simp; omega
  rw [hm3, hm, hm2, List.replicate_succ', List.append_assoc]
  rw [List.set_append_right _ _ (by simp)]
  simp
theorem z65_len (l : List UInt8) (h : l.length ≤ 65) : (z65 l).length = 65 := by simp [z65, u8s]; omega
theorem z65_tail (l : List UInt8) (h : l.length ≤ 65) : (z65 l).drop (65 - l.length) = u8s l := by
  unfold z65
  rw [drop_u8s, List.drop_append_of_le_length (by simp), List.drop_eq_nil_of_le (by simp), List.nil_append]
set_option maxRecDepth 20000 in
set_option maxHeartbeats 1000000 in
theorem fmt_bits16 (n : Nat) (H k) (ht : Db H) (hn : n < 4294967296) : callK Tryz.prog 58 [.nils, .int .u64 (n : Nat), .int .i64 16, .bool false, .bool false] H k = k (.tuple [.nils, .str (hexN n)], H, z0) := by
  refine callK_eq (r := (.tuple [.nils, .str (hexN n)], H, z0)) ?_ k
  refine callK_start (n := 102) (rs := [.tmp 10, .tmp 11]) Tryz.func58 rfl rfl rfl ?_
  intro σ hl ha
  have h0 := ha 0 (by simp)
  have h1 := ha 1 (by simp)
  have h2 := ha 2 (by simp)
  have h3 := ha 3 (by simp)
  have h4 := ha 4 (by simp)
  clear ha
  simp only [Option.getD_some, List.getElem?_cons_zero, List.getElem?_cons_succ] at h0 h1 h2 h3 h4
  have hp := fun H k => pow2_16 H k
  have htz := fun (x : ABlk) k => tz_16 (H ++ [x]) k (ht.old [x])
  simp only [go_sem, simprocAttr, hl, h0, h1, h2, h3, h4, hp, htz]
  have hz : z65 [] = (List.replicate 65 (AV.int .u8 0)) := by simp [z65, u8s]
  refine go_rounds (fun m st => ∃ σ acc e, m < 4294967296 ∧ hexN n = hexN m ++ acc ∧ acc.length + (hexN m).length ≤ 60 ∧ st = ⟨σ, H ++ [.cells (z65 acc) 135 .rw], e⟩ ∧ clean H.length e ∧ σ.length = 102 ∧ fr σ 0 = .nils ∧ fr σ 10 = .nils ∧ fr σ 1 = .int .u64 (m : Nat) ∧ fr σ 3 = .bool false ∧ fr σ 4 = .bool false ∧ fr σ 12 = .ptr H.length 0 ∧ fr σ 13 = .int .i64 ((65 - acc.length : Nat)) ∧ fr σ 14 = .int .u64 4 ∧ fr σ 15 = .int .u64 16 ∧ fr σ 16 = .int .u64 15) n
    ⟨_, [], _, hn, by simp, ?_, rfl, ⟨rfl, rfl⟩, by simp only [go_sem, simprocAttr, hl], by simp only [go_sem, simprocAttr, hl, h0], by simp only [go_sem, simprocAttr, hl], by simp only [go_sem, simprocAttr, hl, h1], by simp only [go_sem, simprocAttr, hl, h3], by simp only [go_sem, simprocAttr, hl, h4], by simp only [go_sem, simprocAttr, hl], by simp only [go_sem, simprocAttr, hl], by simp only [go_sem, simprocAttr, hl], by simp only [go_sem, simprocAttr, hl], by simp only [go_sem, simprocAttr, hl]⟩ ?_
  · have := hexN_pow 8 n (by omega); simp; omega
  clear hl h0 h1 h2 h3 h4
  rintro m _ ⟨σ, acc, e, hm, hd, hal, rfl, he, hl, h0, h10, h1, h3, h4, h12, h13, h14, h15, h16⟩
  have hacc : acc.length ≤ 60 := by omega
  have hpos : 1 ≤ (hexN m).length := by
    unfold hexN; split <;> simp
  have wi : IntKind.i64.wrap (((65 - acc.length : Nat) : Int) - 1) = ((64 - acc.length : Nat) : Int) := by rw [wrap_i64 (by omega)]; omega
  have hzl := z65_len acc (by omega)
  have dlt : 64 - acc.length < 65 := by omega
  have dlt2 : decide (64 - acc.length < 65) = true := by simpa using dlt
  by_cases hge : 16 ≤ m
  · have g1 : decide ((m : Int) ≥ 16) = true := by simp; omega
    have a1 : evInt .and .u64 (m : Int) 15 = some (.int .u64 ((m % 16 : Nat) : Int)) := by
      have : (BitVec.ofInt 64 (m : Int) &&& BitVec.ofInt 64 15).toNat = m % 16 := by
        rw [BitVec.toNat_and, BitVec.ofInt_natCast]
        simp only [BitVec.toNat_ofNat]
        rw [Nat.mod_eq_of_lt (show m < 2 ^ 64 by omega)]
        exact Nat.and_two_pow_sub_one_eq_mod m 4
      show some (AV.int .u64 (IntKind.u64.wrap ((BitVec.ofInt 64 (m : Int) &&& BitVec.ofInt 64 15).toNat : Int))) = _
      rw [this, wrap_u64 (by omega)]
    have a2 : (m : Int).fdiv (2 ^ min 4 64) = ((m / 16 : Nat) : Int) := by
      have : (2 : Int) ^ min 4 64 = 16 := by decide
      rw [this, Int.fdiv_eq_ediv_of_nonneg _ (by omega)]; omega
    have hx := hexD_str (n := m % 16) (by omega)
    have hx2 : m % 16 < 36 := by omega
    have hput := z65_put (l := acc) (c := hexD (m % 16)) (by omega)
    have hbig := hexN_big (n := m) (by omega)
    simp only [go_sem, simprocAttr, hl, h0, h1, h3, h4, h12, h13, h14, h15, h16, g1, wi, a1, a2, hx, hx2, hput, hzl, dlt, dlt2]
    exact ⟨by omega, by omega, m / 16, by omega, _, hexD (m % 16) :: acc, _, by omega, by rw [hd, hbig, List.append_assoc]; rfl, by rw [hbig] at hal; simp at hal ⊢; omega, rfl, by simp only [go_sem, simprocAttr, he], by simp only [go_sem, simprocAttr, hl], by simp only [go_sem, simprocAttr, hl, h0], by simp only [go_sem, simprocAttr, hl, h10], by simp only [go_sem, simprocAttr, hl], by simp only [go_sem, simprocAttr, hl, h3], by simp only [go_sem, simprocAttr, hl, h4], by simp only [go_sem, simprocAttr, hl, h12], by simp only [go_sem, simprocAttr, hl], by simp only [go_sem, simprocAttr, hl, h14], by simp only [go_sem, simprocAttr, hl, h15], by simp only [go_sem, simprocAttr, hl, h16]⟩
  · have g1 : decide ((m : Int) ≥ 16) = false := by simp; omega
    have hx := hexD_str (n := m) (by omega)
    have hx2 : m < 36 := by omega
    have hput := z65_put (l := acc) (c := hexD m) (by omega)
    have hsm := hexN_small (n := m) (by omega)
    have hzl2 := z65_len (hexD m :: acc) (by simp; omega)
    have htl := z65_tail (hexD m :: acc) (by simp; omega)
    have hfin : hexD m :: acc = hexN n := by rw [hd, hsm]; rfl
    simp only [go_sem, simprocAttr, hl, h0, h1, h3, h4, h12, h13, h14, h15, h16, g1, wi, hx, hx2, hput, hzl, dlt, dlt2]
    refine ⟨by omega, by omega, by omega, ?_⟩
    have hrd : ∀ (e : TypeId) (k : Kd), rdC (if 65 = 64 - acc.length then 0 else 64 - acc.length) (65 - (64 - acc.length)) (.cells (z65 (hexD m :: acc)) e k) = some (u8s (hexN n)) := by
      intro e k
      rw [if_neg (by omega), rdC_c, if_pos (by rw [hzl2]; omega), show 64 - acc.length = 65 - (hexD m :: acc).length by simp, htl, hfin]
      rw [List.take_of_length_le (by rw [u8s_len, ← hfin]; simp; omega)]
    simp only [go_sem, simprocAttr, hl, hrd, conv_u8s, h10]
    exact leave_flat rfl (clean_and he (by simp [clean, low]))

set_option maxRecDepth 20000 in
theorem fmt_hex_i (n : Nat) (H k) (ht : Db H) (hn : n < 4294967296) : callK Tryz.prog 33 [.int .u64 (n : Nat), .int .i64 16] H k = k (.str (hexN n), H, z0) := by
  refine callK_eq (r := (.str (hexN n), H, z0)) ?_ k
  refine callK_start (n := 32) (rs := [.tmp 4]) Tryz.func33 rfl rfl rfl ?_
  intro σ hl ha
  have h0 := ha 0 (by simp)
  have h1 := ha 1 (by simp)
  clear ha
  simp only [Option.getD_some, List.getElem?_cons_zero, List.getElem?_cons_succ] at h0 h1
  have hf := fun k => fmt_bits16 n H k ht hn
  simp only [go_sem, simprocAttr, hl, h0, h1, hf]
set_option maxRecDepth 20000 in
theorem fmt_hex (n : Nat) (H k) (ht : Db H) (hn : n < 4294967296) : callK Tryz.prog 11 [.int .u64 (n : Nat), .int .i64 16] H k = k (.str (hexN n), H, z0) := by
  refine callK_eq (r := (.str (hexN n), H, z0)) ?_ k
  refine callK_start (n := 8) (rs := [.tmp 4]) Tryz.func11 rfl rfl rfl ?_
  intro σ hl ha
  have h0 := ha 0 (by simp)
  have h1 := ha 1 (by simp)
  clear ha
  simp only [Option.getD_some, List.getElem?_cons_zero, List.getElem?_cons_succ] at h0 h1
  have hf := fun k => fmt_hex_i n H k ht hn
  simp only [go_sem, simprocAttr, hl, h0, h1, hf]
end Go.Proofs.YtgkpgpdkolpfkaaGreatDoor.V
namespace Go.Proofs.YtgkpgpdkolpfkaaGreatDoor.V
open Go
attribute [local irreducible] go goOps goD opK callK callT stepK leaveTo nextK

structure Dt where
  raw : List UInt8
  host : List UInt8
  mail : List UInt8
  n0 : Int
  n1 : Int
  n2 : Int
  n3 : Int
  n4 : Int
  deriving DecidableEq
def Dt.cells (d : Dt) : List AV := [.str d.raw, .str d.host, .str d.mail, .int .u32 d.n0, .int .u32 d.n1, .int .u32 d.n2, .int .u32 d.n3, .int .u32 d.n4]
def Dt.zero : Dt := ⟨[], [], [], 0, 0, 0, 0, 0⟩
def is32 (n : Int) : Prop := 0 ≤ n ∧ n < 4294967296
structure Dt.wf (d : Dt) : Prop where
  raw : d.raw.length ≤ 1048576
  host : d.host.length ≤ 1048576
  mail : d.mail.length ≤ 1048576
  n0 : is32 d.n0
  n1 : is32 d.n1
  n2 : is32 d.n2
  n3 : is32 d.n3
  n4 : is32 d.n4

theorem kinds_cases (t : Int) : t = 1 ∨ t = 2 ∨ t = 5 ∨ t = 6 ∨ t = 12 ∨ t = 15 ∨ t = 16 ∨ t = 28 ∨ t = 33 ∨ (t ≠ 1 ∧ t ≠ 2 ∧ t ≠ 5 ∧ t ≠ 6 ∧ t ≠ 12 ∧ t ≠ 15 ∧ t ≠ 16 ∧ t ≠ 28 ∧ t ≠ 33) := by omega
def kindsC : List AV := [.int .u16 1, .str [65], .str [97], .int .u16 2, .str [78, 83], .str [104], .int .u16 5, .str [67, 78, 65, 77, 69], .str [104], .int .u16 6, .str [83, 79, 65], .str [104, 109, 108, 108, 108, 108, 108], .int .u16 12, .str [80, 84, 82], .str [104], .int .u16 15, .str [77, 88], .str [115, 104], .int .u16 16, .str [84, 88, 84], .str [120], .int .u16 28, .str [65, 65, 65, 65], .str [113], .int .u16 33, .str [83, 82, 86], .str [115, 115, 115, 112]]
def Tk (H : Hp) : Prop := ∃ e k, H[0]? = some (.cells kindsC e k)
theorem Tk.old {H : Hp} (h : Tk H) (l : Hp) : Tk (H ++ l) := by
  obtain ⟨e, k, h⟩ := h
  exact ⟨e, k, hp_old h⟩
def formS (t : Int) : List UInt8 :=
  if t = 1 then [97] else if t = 2 then [104] else if t = 5 then [104] else if t = 6 then [104, 109, 108, 108, 108, 108, 108] else if t = 12 then [104] else
  if t = 15 then [115, 104] else if t = 16 then [120] else if t = 28 then [113] else if t = 33 then [115, 115, 115, 112] else [114]

def kT (i : Nat) : Int := (([1, 2, 5, 6, 12, 15, 16, 28, 33] : List Int)[i]?).getD 0
def fT (i : Nat) : List UInt8 := formS (kT i)
theorem kinds_at {i : Nat} (h : i < 9) (e : TypeId) (k : Kd) : ldC (i * 3) 1 false (.cells kindsC e k) = some (.int .u16 (kT i)) ∧ ldC (i * 3 + 2) 1 false (.cells kindsC e k) = some (.str (fT i)) := by
  have : i = 0 ∨ i = 1 ∨ i = 2 ∨ i = 3 ∨ i = 4 ∨ i = 5 ∨ i = 6 ∨ i = 7 ∨ i = 8 := by omega
  rcases this with rfl | rfl | rfl | rfl | rfl | rfl | rfl | rfl | rfl <;> exact ⟨rfl, rfl⟩
theorem formS_no {t : Int} (h : ∀ j, j < 9 → kT j ≠ t) : formS t = [114] := by
  have h0 := h 0 (by decide); have h1 := h 1 (by decide); have h2 := h 2 (by decide); have h3 := h 3 (by decide); have h4 := h 4 (by decide)
  have h5 := h 5 (by decide); have h6 := h 6 (by decide); have h7 := h 7 (by decide); have h8 := h 8 (by decide)
  simp only [kT, List.getElem?_cons_zero, List.getElem?_cons_succ, Option.getD_some] at h0 h1 h2 h3 h4 h5 h6 h7 h8
  unfold formS
  rw [if_neg (Ne.symm h0), if_neg (Ne.symm h1), if_neg (Ne.symm h2), if_neg (Ne.symm h3), if_neg (Ne.symm h4), if_neg (Ne.symm h5), if_neg (Ne.symm h6), if_neg (Ne.symm h7), if_neg (Ne.symm h8)]

set_option maxRecDepth 20000 in
theorem rdata_form (t : Int) (H k) (hk : Tk H) : callK Tryz.prog 9 [.int .u16 t] H k = k (.str (formS t), H, z0) := by
  obtain ⟨e, kd, hg⟩ := hk
  refine callK_eq (r := (.str (formS t), H, z0)) ?_ k
  refine callK_start (n := 18) (rs := [.tmp 2]) Tryz.func9 rfl rfl rfl ?_
  intro σ hl ha
  have h0 := ha 0 (by simp)
  clear ha
  simp only [Option.getD_some, List.getElem?_cons_zero, List.getElem?_cons_succ] at h0
  simp only [go_sem, simprocAttr, hl, h0]
  refine go_rounds (fun n st => ∃ σ i, n + i = 9 ∧ (∀ j, j < i → kT j ≠ t) ∧ st = ⟨σ, H, z0⟩ ∧ σ.length = 18 ∧ fr σ 0 = .int .u16 t ∧ fr σ 4 = .int .i64 (i : Nat)) 9
    ⟨_, 0, rfl, fun j hj => by omega, rfl, by simp only [go_sem, simprocAttr, hl], by simp only [go_sem, simprocAttr, hl, h0], by simp only [go_sem, simprocAttr, hl]⟩ ?_
  rintro n _ ⟨σ, i, hn, hall, rfl, hl, h0, h4⟩
  by_cases hlt : i < 9
  · obtain ⟨l1, l2⟩ := kinds_at hlt e kd
    have hw := wrap_succ (show i < 9223372036854775807 by omega)
    have g0 : decide ((i : Int) < 9) = true := by simp; omega
    have b0 : (i : Int) < 9 := by omega
    by_cases hk : kT i = t
    · have g1 : (kT i == t) = true := by rw [hk]; exact beq_self_eq_true t
      have hf : fT i = formS t := by unfold fT; rw [hk]
      simp only [go_sem, simprocAttr, hl, h0, h4, g0, b0, hg, l1, l2, g1, hf]
    · have g1 : (kT i == t) = false := by rw [beq_eq_false_iff_ne]; exact hk
      simp only [go_sem, simprocAttr, hl, h0, h4, g0, b0, hg, l1, l2, g1, hw]
      refine ⟨n - 1, by omega, _, i + 1, by omega, fun j hj => ?_, rfl, by simp only [go_sem, simprocAttr, hl], by simp only [go_sem, simprocAttr, hl, h0], by simp only [go_sem, simprocAttr, hl]⟩
      by_cases hji : j = i
      · rw [hji]; exact hk
      · exact hall j (by omega)
  · have g0 : decide ((i : Int) < 9) = false := by simp; omega
    have hf := formS_no (fun j hj => hall j (by omega))
    simp only [go_sem, simprocAttr, hl, h0, h4, g0, hf]

def hostT (t : Int) : Bool := decide (t = 2 ∨ t = 5 ∨ t = 12 ∨ t = 6 ∨ t = 15 ∨ t = 33)
def mailT (t : Int) : Bool := decide (t = 6)
def numT (t : Int) : Nat := if t = 6 then 5 else if t = 15 then 1 else if t = 33 then 3 else 0
def bitT (t : Int) : Nat := if t = 6 then 32 else if t = 15 then 16 else if t = 33 then 16 else 0

theorem hostT_1 : hostT 1 = false := rfl
theorem mailT_1 : mailT 1 = false := rfl
theorem hostT_2 : hostT 2 = true := rfl
theorem mailT_2 : mailT 2 = false := rfl
theorem hostT_5 : hostT 5 = true := rfl
theorem mailT_5 : mailT 5 = false := rfl
theorem hostT_6 : hostT 6 = true := rfl
theorem mailT_6 : mailT 6 = true := rfl
theorem hostT_12 : hostT 12 = true := rfl
theorem mailT_12 : mailT 12 = false := rfl
theorem hostT_15 : hostT 15 = true := rfl
theorem mailT_15 : mailT 15 = false := rfl
theorem hostT_16 : hostT 16 = false := rfl
theorem mailT_16 : mailT 16 = false := rfl
theorem hostT_28 : hostT 28 = false := rfl
theorem mailT_28 : mailT 28 = false := rfl
theorem hostT_33 : hostT 33 = true := rfl
theorem mailT_33 : mailT 33 = false := rfl
attribute [go_sem] hostT_1 mailT_1 hostT_2 mailT_2 hostT_5 mailT_5 hostT_6 mailT_6 hostT_12 mailT_12 hostT_15 mailT_15 hostT_16 mailT_16 hostT_28 mailT_28 hostT_33 mailT_33
def rawT (t : Int) (r : List UInt8) : Bool :=
  if hostT t = true then (r == []) else if t = 1 then ((r.length : Int) == 4) else if t = 28 then ((r.length : Int) == 16) else if t = 16 then (txOk r && decide ((r.length : Int) ≤ 65535)) else decide ((r.length : Int) ≤ 65535)

end Go.Proofs.YtgkpgpdkolpfkaaGreatDoor.V
namespace Go.Proofs.YtgkpgpdkolpfkaaGreatDoor.V
open Go
attribute [local irreducible] go goOps goD opK callK callT stepK leaveTo nextK

def eqD (d d' : Dt) : Bool := decide (d = d')
theorem eq_data (r h m r' h' m' : List UInt8) (a b c d e a' b' c' d' e' : Int) :
    evEq Tryz.prog 20 27 (.agg [.str r, .str h, .str m, .int .u32 a, .int .u32 b, .int .u32 c, .int .u32 d, .int .u32 e]) (.agg [.str r', .str h', .str m', .int .u32 a', .int .u32 b', .int .u32 c', .int .u32 d', .int .u32 e']) = some (eqD ⟨r, h, m, a, b, c, d, e⟩ ⟨r', h', m', a', b', c', d', e'⟩) := by
  have key : evEq Tryz.prog 20 27 (.agg [.str r, .str h, .str m, .int .u32 a, .int .u32 b, .int .u32 c, .int .u32 d, .int .u32 e]) (.agg [.str r', .str h', .str m', .int .u32 a', .int .u32 b', .int .u32 c', .int .u32 d', .int .u32 e']) =
      if (r == r') = true then (if (h == h') = true then (if (m == m') = true then
        ((if (a == a') = true then (if (b == b') = true then (if (c == c') = true then (if (d == d') = true then (if (e == e') = true then some true else some false) else some false) else some false) else some false) else some false : Option Bool).bind fun q => if q = true then some true else some false)
        else some false) else some false) else some false := by kernel_rfl
  rw [key]
  unfold eqD
  simp only [beq_iff_eq]
  by_cases h1 : r = r'
  case neg => simp [h1, Dt.mk.injEq]
  subst h1
  by_cases h2 : h = h'
  case neg => simp [h2, Dt.mk.injEq]
  subst h2
  by_cases h3 : m = m'
  case neg => simp [h3, Dt.mk.injEq]
  subst h3
  by_cases h4 : a = a'
  case neg => simp [h4, Dt.mk.injEq]
  subst h4
  by_cases h5 : b = b'
  case neg => simp [h5, Dt.mk.injEq]
  subst h5
  by_cases h6 : c = c'
  case neg => simp [h6, Dt.mk.injEq]
  subst h6
  by_cases h7 : d = d'
  case neg => simp [h7, Dt.mk.injEq]
  subst h7
  by_cases h8 : e = e'
  case neg => simp [h8, Dt.mk.injEq]
  subst h8
  simp
set_option maxRecDepth 20000 in
theorem need (is ok : Bool) (H : Hp) (x : ABlk) (r : Hp) (k) : callK Tryz.prog 30 [.bool is, .ptr (H.length + 1) 0] (H ++ (x :: .cells [.bool ok] 4 .rw :: r)) k = k (.tuple [], H ++ (x :: .cells [.bool (ok && is)] 4 .rw :: r), ⟨none, some (H.length + 1)⟩) := by
  refine callK_eq (r := (.tuple [], H ++ (x :: .cells [.bool (ok && is)] 4 .rw :: r), ⟨none, some (H.length + 1)⟩)) ?_ k
  refine callK_start (n := 7) (rs := []) Tryz.func30 rfl rfl rfl ?_
  intro σ hl ha
  have h0 := ha 0 (by simp)
  have h1 := ha 1 (by simp)
  clear ha
  simp only [Option.getD_some, List.getElem?_cons_zero, List.getElem?_cons_succ] at h0 h1
  cases ok
  · simp only [go_sem, simprocAttr, hl, h0, h1]
    rw [leave_same rfl (by simp), low_sm (by omega)]
    rfl
  · simp only [go_sem, simprocAttr, hl, h0, h1]
    rw [leave_same rfl (by simp), low_sm (by omega)]

theorem ckq (b : Bool) : ((if b = true then (0 : Int) else 11) == 0) = b := by cases b <;> rfl
theorem build_data0 : evBuild Tryz.prog 27 [] = some (.agg [.str [], .str [], .str [], .int .u32 0, .int .u32 0, .int .u32 0, .int .u32 0, .int .u32 0]) := by kernel_rfl
theorem formS_o {t : Int} (h : t ≠ 1 ∧ t ≠ 2 ∧ t ≠ 5 ∧ t ≠ 6 ∧ t ≠ 12 ∧ t ≠ 15 ∧ t ≠ 16 ∧ t ≠ 28 ∧ t ≠ 33) : formS t = [114] := by
  obtain ⟨h1, h2, h3, h4, h5, h6, h7, h8, h9⟩ := h
  unfold formS
  rw [if_neg h1, if_neg h2, if_neg h3, if_neg h4, if_neg h5, if_neg h6, if_neg h7, if_neg h8, if_neg h9]

end Go.Proofs.YtgkpgpdkolpfkaaGreatDoor.V
namespace Go.Proofs.YtgkpgpdkolpfkaaGreatDoor.V
open Go
attribute [local irreducible] go goOps goD opK callK callT stepK leaveTo nextK

set_option maxRecDepth 20000 in
theorem check_1 (d : Dt) (H) (hk : Tk H) (hd : d.wf) : callK Tryz.prog 8 [.int .u16 1, .agg d.cells] H (fun q => q = (.int .i64 (if (((d.raw.length : Int) == 4) && eqD ⟨[], d.host, d.mail, d.n0, d.n1, d.n2, d.n3, d.n4⟩ ⟨[], [], [], 0, 0, 0, 0, 0⟩) = true then 0 else 40), H, z0)) := by
  refine callK_start (n := 108) (rs := [.tmp 4]) Tryz.func8 rfl rfl rfl ?_
  intro σ hl ha
  have h0 := ha 0 (by simp)
  have h1 := ha 1 (by simp)
  clear ha
  simp only [Option.getD_some, List.getElem?_cons_zero, List.getElem?_cons_succ] at h0 h1
  have hf := fun l k => rdata_form 1 (H ++ l) k (hk.old l)
  have hneed := fun (a b : Bool) x r k => need a b H x r k
  rw [show formS 1 = [97] from rfl] at hf
  have i0 : strIter [97] 0 = (.tuple [.bool true, .int .i64 0, .int .i32 97], 1) := by rw [strIter_a (by decide)]; rfl
  have i1 : strIter [97] 1 = (.tuple [.bool false], 1) := by rw [strIter_a (by decide)]; rfl
  simp only [go_sem, simprocAttr, hl, h0, h1, Dt.cells, hf, hneed, ckq, Bool.true_and, eq_data, build_data0]
  rw [go_loop]
  simp only [go_sem, simprocAttr, hl, h0, h1, i0, i1, hf, hneed, ckq, Bool.true_and, eq_data, build_data0]
  rw [go_loop]
  simp only [go_sem, simprocAttr, hl, h0, h1, i0, i1, hf, hneed, ckq, Bool.true_and, eq_data, build_data0]
  cases ho : ((d.raw.length : Int) == 4)
  · simp only [go_sem, simprocAttr, hl, h0, h1, hf, hneed, ckq, Bool.true_and, eq_data, build_data0, ho]
    simp only [Bool.false_and, Bool.false_eq_true, if_false]
  · cases hz : eqD ⟨[], d.host, d.mail, d.n0, d.n1, d.n2, d.n3, d.n4⟩ ⟨[], [], [], 0, 0, 0, 0, 0⟩
    · simp only [go_sem, simprocAttr, hl, h0, h1, hf, hneed, ckq, Bool.true_and, eq_data, build_data0, ho, hz]
    · simp only [go_sem, simprocAttr, hl, h0, h1, hf, hneed, ckq, Bool.true_and, eq_data, build_data0, ho, hz]
set_option maxRecDepth 20000 in
theorem check_2 (d : Dt) (H) (hk : Tk H) (hd : d.wf) : callK Tryz.prog 8 [.int .u16 2, .agg d.cells] H (fun q => q = (.int .i64 (if ((nm d.host).isSome && eqD ⟨d.raw, [], d.mail, d.n0, d.n1, d.n2, d.n3, d.n4⟩ ⟨[], [], [], 0, 0, 0, 0, 0⟩) = true then 0 else 40), H, z0)) := by
  refine callK_start (n := 108) (rs := [.tmp 4]) Tryz.func8 rfl rfl rfl ?_
  intro σ hl ha
  have h0 := ha 0 (by simp)
  have h1 := ha 1 (by simp)
  clear ha
  simp only [Option.getD_some, List.getElem?_cons_zero, List.getElem?_cons_succ] at h0 h1
  have hf := fun l k => rdata_form 2 (H ++ l) k (hk.old l)
  have hneed := fun (a b : Bool) x r k => need a b H x r k
  rw [show formS 2 = [104] from rfl] at hf
  have hh := fun H k => name_Check d.host H k (by have := hd.host; show _ ≤ 9223372036854775807; omega)
  have i0 : strIter [104] 0 = (.tuple [.bool true, .int .i64 0, .int .i32 104], 1) := by rw [strIter_a (by decide)]; rfl
  have i1 : strIter [104] 1 = (.tuple [.bool false], 1) := by rw [strIter_a (by decide)]; rfl
  simp only [go_sem, simprocAttr, hl, h0, h1, Dt.cells, hf, hneed, ckq, Bool.true_and, eq_data, build_data0, hh]
  rw [go_loop]
  simp only [go_sem, simprocAttr, hl, h0, h1, i0, i1, hf, hneed, ckq, Bool.true_and, eq_data, build_data0, hh]
  rw [go_loop]
  simp only [go_sem, simprocAttr, hl, h0, h1, i0, i1, hf, hneed, ckq, Bool.true_and, eq_data, build_data0, hh]
  cases ho : (nm d.host).isSome
  · simp only [go_sem, simprocAttr, hl, h0, h1, hf, hneed, ckq, Bool.true_and, eq_data, build_data0, hh, ho]
    simp only [Bool.false_and, Bool.false_eq_true, if_false]
  · cases hz : eqD ⟨d.raw, [], d.mail, d.n0, d.n1, d.n2, d.n3, d.n4⟩ ⟨[], [], [], 0, 0, 0, 0, 0⟩
    · simp only [go_sem, simprocAttr, hl, h0, h1, hf, hneed, ckq, Bool.true_and, eq_data, build_data0, hh, ho, hz]
    · simp only [go_sem, simprocAttr, hl, h0, h1, hf, hneed, ckq, Bool.true_and, eq_data, build_data0, hh, ho, hz]
set_option maxRecDepth 20000 in
theorem check_5 (d : Dt) (H) (hk : Tk H) (hd : d.wf) : callK Tryz.prog 8 [.int .u16 5, .agg d.cells] H (fun q => q = (.int .i64 (if ((nm d.host).isSome && eqD ⟨d.raw, [], d.mail, d.n0, d.n1, d.n2, d.n3, d.n4⟩ ⟨[], [], [], 0, 0, 0, 0, 0⟩) = true then 0 else 40), H, z0)) := by
  refine callK_start (n := 108) (rs := [.tmp 4]) Tryz.func8 rfl rfl rfl ?_
  intro σ hl ha
  have h0 := ha 0 (by simp)
  have h1 := ha 1 (by simp)
  clear ha
  simp only [Option.getD_some, List.getElem?_cons_zero, List.getElem?_cons_succ] at h0 h1
  have hf := fun l k => rdata_form 5 (H ++ l) k (hk.old l)
  have hneed := fun (a b : Bool) x r k => need a b H x r k
  rw [show formS 5 = [104] from rfl] at hf
  have hh := fun H k => name_Check d.host H k (by have := hd.host; show _ ≤ 9223372036854775807; omega)
  have i0 : strIter [104] 0 = (.tuple [.bool true, .int .i64 0, .int .i32 104], 1) := by rw [strIter_a (by decide)]; rfl
  have i1 : strIter [104] 1 = (.tuple [.bool false], 1) := by rw [strIter_a (by decide)]; rfl
  simp only [go_sem, simprocAttr, hl, h0, h1, Dt.cells, hf, hneed, ckq, Bool.true_and, eq_data, build_data0, hh]
  rw [go_loop]
  simp only [go_sem, simprocAttr, hl, h0, h1, i0, i1, hf, hneed, ckq, Bool.true_and, eq_data, build_data0, hh]
  rw [go_loop]
  simp only [go_sem, simprocAttr, hl, h0, h1, i0, i1, hf, hneed, ckq, Bool.true_and, eq_data, build_data0, hh]
  cases ho : (nm d.host).isSome
  · simp only [go_sem, simprocAttr, hl, h0, h1, hf, hneed, ckq, Bool.true_and, eq_data, build_data0, hh, ho]
    simp only [Bool.false_and, Bool.false_eq_true, if_false]
  · cases hz : eqD ⟨d.raw, [], d.mail, d.n0, d.n1, d.n2, d.n3, d.n4⟩ ⟨[], [], [], 0, 0, 0, 0, 0⟩
    · simp only [go_sem, simprocAttr, hl, h0, h1, hf, hneed, ckq, Bool.true_and, eq_data, build_data0, hh, ho, hz]
    · simp only [go_sem, simprocAttr, hl, h0, h1, hf, hneed, ckq, Bool.true_and, eq_data, build_data0, hh, ho, hz]
set_option maxRecDepth 20000 in
theorem check_6 (d : Dt) (H) (hk : Tk H) (hd : d.wf) : callK Tryz.prog 8 [.int .u16 6, .agg d.cells] H (fun q => q = (.int .i64 (if (((nm d.host).isSome && (nm d.mail).isSome) && eqD ⟨d.raw, [], [], 0, 0, 0, 0, 0⟩ ⟨[], [], [], 0, 0, 0, 0, 0⟩) = true then 0 else 40), H, z0)) := by
  refine callK_start (n := 108) (rs := [.tmp 4]) Tryz.func8 rfl rfl rfl ?_
  intro σ hl ha
  have h0 := ha 0 (by simp)
  have h1 := ha 1 (by simp)
  clear ha
  simp only [Option.getD_some, List.getElem?_cons_zero, List.getElem?_cons_succ] at h0 h1
  have hf := fun l k => rdata_form 6 (H ++ l) k (hk.old l)
  have hneed := fun (a b : Bool) x r k => need a b H x r k
  rw [show formS 6 = [104, 109, 108, 108, 108, 108, 108] from rfl] at hf
  have hh := fun H k => name_Check d.host H k (by have := hd.host; show _ ≤ 9223372036854775807; omega)
  have hm := fun H k => name_Check d.mail H k (by have := hd.mail; show _ ≤ 9223372036854775807; omega)
  have i0 : strIter [104, 109, 108, 108, 108, 108, 108] 0 = (.tuple [.bool true, .int .i64 0, .int .i32 104], 1) := by rw [strIter_a (by decide)]; rfl
  have i1 : strIter [104, 109, 108, 108, 108, 108, 108] 1 = (.tuple [.bool true, .int .i64 1, .int .i32 109], 2) := by rw [strIter_a (by decide)]; rfl
  have i2 : strIter [104, 109, 108, 108, 108, 108, 108] 2 = (.tuple [.bool true, .int .i64 2, .int .i32 108], 3) := by rw [strIter_a (by decide)]; rfl
  have i3 : strIter [104, 109, 108, 108, 108, 108, 108] 3 = (.tuple [.bool true, .int .i64 3, .int .i32 108], 4) := by rw [strIter_a (by decide)]; rfl
  have i4 : strIter [104, 109, 108, 108, 108, 108, 108] 4 = (.tuple [.bool true, .int .i64 4, .int .i32 108], 5) := by rw [strIter_a (by decide)]; rfl
  have i5 : strIter [104, 109, 108, 108, 108, 108, 108] 5 = (.tuple [.bool true, .int .i64 5, .int .i32 108], 6) := by rw [strIter_a (by decide)]; rfl
  have i6 : strIter [104, 109, 108, 108, 108, 108, 108] 6 = (.tuple [.bool true, .int .i64 6, .int .i32 108], 7) := by rw [strIter_a (by decide)]; rfl
  have i7 : strIter [104, 109, 108, 108, 108, 108, 108] 7 = (.tuple [.bool false], 7) := by rw [strIter_a (by decide)]; rfl
  simp only [go_sem, simprocAttr, hl, h0, h1, Dt.cells, hf, hneed, ckq, Bool.true_and, eq_data, build_data0, hh, hm]
  rw [go_loop]
  simp only [go_sem, simprocAttr, hl, h0, h1, i0, i1, i2, i3, i4, i5, i6, i7, hf, hneed, ckq, Bool.true_and, eq_data, build_data0, hh, hm]
  rw [go_loop]
  simp only [go_sem, simprocAttr, hl, h0, h1, i0, i1, i2, i3, i4, i5, i6, i7, hf, hneed, ckq, Bool.true_and, eq_data, build_data0, hh, hm]
  rw [go_loop]
  simp only [go_sem, simprocAttr, hl, h0, h1, i0, i1, i2, i3, i4, i5, i6, i7, hf, hneed, ckq, Bool.true_and, eq_data, build_data0, hh, hm]
  rw [go_loop]
  simp only [go_sem, simprocAttr, hl, h0, h1, i0, i1, i2, i3, i4, i5, i6, i7, hf, hneed, ckq, Bool.true_and, eq_data, build_data0, hh, hm]
  rw [go_loop]
  simp only [go_sem, simprocAttr, hl, h0, h1, i0, i1, i2, i3, i4, i5, i6, i7, hf, hneed, ckq, Bool.true_and, eq_data, build_data0, hh, hm]
  rw [go_loop]
  simp only [go_sem, simprocAttr, hl, h0, h1, i0, i1, i2, i3, i4, i5, i6, i7, hf, hneed, ckq, Bool.true_and, eq_data, build_data0, hh, hm]
  rw [go_loop]
  simp only [go_sem, simprocAttr, hl, h0, h1, i0, i1, i2, i3, i4, i5, i6, i7, hf, hneed, ckq, Bool.true_and, eq_data, build_data0, hh, hm]
  rw [go_loop]
  simp only [go_sem, simprocAttr, hl, h0, h1, i0, i1, i2, i3, i4, i5, i6, i7, hf, hneed, ckq, Bool.true_and, eq_data, build_data0, hh, hm]
  cases ho : ((nm d.host).isSome && (nm d.mail).isSome)
  · simp only [go_sem, simprocAttr, hl, h0, h1, hf, hneed, ckq, Bool.true_and, eq_data, build_data0, hh, hm, ho]
    simp only [Bool.false_and, Bool.false_eq_true, if_false]
  · cases hz : eqD ⟨d.raw, [], [], 0, 0, 0, 0, 0⟩ ⟨[], [], [], 0, 0, 0, 0, 0⟩
    · simp only [go_sem, simprocAttr, hl, h0, h1, hf, hneed, ckq, Bool.true_and, eq_data, build_data0, hh, hm, ho, hz]
    · simp only [go_sem, simprocAttr, hl, h0, h1, hf, hneed, ckq, Bool.true_and, eq_data, build_data0, hh, hm, ho, hz]
set_option maxRecDepth 20000 in
theorem check_12 (d : Dt) (H) (hk : Tk H) (hd : d.wf) : callK Tryz.prog 8 [.int .u16 12, .agg d.cells] H (fun q => q = (.int .i64 (if ((nm d.host).isSome && eqD ⟨d.raw, [], d.mail, d.n0, d.n1, d.n2, d.n3, d.n4⟩ ⟨[], [], [], 0, 0, 0, 0, 0⟩) = true then 0 else 40), H, z0)) := by
  refine callK_start (n := 108) (rs := [.tmp 4]) Tryz.func8 rfl rfl rfl ?_
  intro σ hl ha
  have h0 := ha 0 (by simp)
  have h1 := ha 1 (by simp)
  clear ha
  simp only [Option.getD_some, List.getElem?_cons_zero, List.getElem?_cons_succ] at h0 h1
  have hf := fun l k => rdata_form 12 (H ++ l) k (hk.old l)
  have hneed := fun (a b : Bool) x r k => need a b H x r k
  rw [show formS 12 = [104] from rfl] at hf
  have hh := fun H k => name_Check d.host H k (by have := hd.host; show _ ≤ 9223372036854775807; omega)
  have i0 : strIter [104] 0 = (.tuple [.bool true, .int .i64 0, .int .i32 104], 1) := by rw [strIter_a (by decide)]; rfl
  have i1 : strIter [104] 1 = (.tuple [.bool false], 1) := by rw [strIter_a (by decide)]; rfl
  simp only [go_sem, simprocAttr, hl, h0, h1, Dt.cells, hf, hneed, ckq, Bool.true_and, eq_data, build_data0, hh]
  rw [go_loop]
  simp only [go_sem, simprocAttr, hl, h0, h1, i0, i1, hf, hneed, ckq, Bool.true_and, eq_data, build_data0, hh]
  rw [go_loop]
  simp only [go_sem, simprocAttr, hl, h0, h1, i0, i1, hf, hneed, ckq, Bool.true_and, eq_data, build_data0, hh]
  cases ho : (nm d.host).isSome
  · simp only [go_sem, simprocAttr, hl, h0, h1, hf, hneed, ckq, Bool.true_and, eq_data, build_data0, hh, ho]
    simp only [Bool.false_and, Bool.false_eq_true, if_false]
  · cases hz : eqD ⟨d.raw, [], d.mail, d.n0, d.n1, d.n2, d.n3, d.n4⟩ ⟨[], [], [], 0, 0, 0, 0, 0⟩
    · simp only [go_sem, simprocAttr, hl, h0, h1, hf, hneed, ckq, Bool.true_and, eq_data, build_data0, hh, ho, hz]
    · simp only [go_sem, simprocAttr, hl, h0, h1, hf, hneed, ckq, Bool.true_and, eq_data, build_data0, hh, ho, hz]
set_option maxRecDepth 20000 in
theorem check_15 (d : Dt) (H) (hk : Tk H) (hd : d.wf) : callK Tryz.prog 8 [.int .u16 15, .agg d.cells] H (fun q => q = (.int .i64 (if ((decide (d.n0 ≤ 65535) && (nm d.host).isSome) && eqD ⟨d.raw, [], d.mail, 0, d.n1, d.n2, d.n3, d.n4⟩ ⟨[], [], [], 0, 0, 0, 0, 0⟩) = true then 0 else 40), H, z0)) := by
  refine callK_start (n := 108) (rs := [.tmp 4]) Tryz.func8 rfl rfl rfl ?_
  intro σ hl ha
  have h0 := ha 0 (by simp)
  have h1 := ha 1 (by simp)
  clear ha
  simp only [Option.getD_some, List.getElem?_cons_zero, List.getElem?_cons_succ] at h0 h1
  have hf := fun l k => rdata_form 15 (H ++ l) k (hk.old l)
  have hneed := fun (a b : Bool) x r k => need a b H x r k
  rw [show formS 15 = [115, 104] from rfl] at hf
  have hh := fun H k => name_Check d.host H k (by have := hd.host; show _ ≤ 9223372036854775807; omega)
  have i0 : strIter [115, 104] 0 = (.tuple [.bool true, .int .i64 0, .int .i32 115], 1) := by rw [strIter_a (by decide)]; rfl
  have i1 : strIter [115, 104] 1 = (.tuple [.bool true, .int .i64 1, .int .i32 104], 2) := by rw [strIter_a (by decide)]; rfl
  have i2 : strIter [115, 104] 2 = (.tuple [.bool false], 2) := by rw [strIter_a (by decide)]; rfl
  simp only [go_sem, simprocAttr, hl, h0, h1, Dt.cells, hf, hneed, ckq, Bool.true_and, eq_data, build_data0, hh]
  rw [go_loop]
  simp only [go_sem, simprocAttr, hl, h0, h1, i0, i1, i2, hf, hneed, ckq, Bool.true_and, eq_data, build_data0, hh]
  rw [go_loop]
  simp only [go_sem, simprocAttr, hl, h0, h1, i0, i1, i2, hf, hneed, ckq, Bool.true_and, eq_data, build_data0, hh]
  rw [go_loop]
  simp only [go_sem, simprocAttr, hl, h0, h1, i0, i1, i2, hf, hneed, ckq, Bool.true_and, eq_data, build_data0, hh]
  cases ho : (decide (d.n0 ≤ 65535) && (nm d.host).isSome)
  · simp only [go_sem, simprocAttr, hl, h0, h1, hf, hneed, ckq, Bool.true_and, eq_data, build_data0, hh, ho]
    simp only [Bool.false_and, Bool.false_eq_true, if_false]
  · cases hz : eqD ⟨d.raw, [], d.mail, 0, d.n1, d.n2, d.n3, d.n4⟩ ⟨[], [], [], 0, 0, 0, 0, 0⟩
    · simp only [go_sem, simprocAttr, hl, h0, h1, hf, hneed, ckq, Bool.true_and, eq_data, build_data0, hh, ho, hz]
    · simp only [go_sem, simprocAttr, hl, h0, h1, hf, hneed, ckq, Bool.true_and, eq_data, build_data0, hh, ho, hz]
set_option maxRecDepth 20000 in
theorem check_16 (d : Dt) (H) (hk : Tk H) (hd : d.wf) : callK Tryz.prog 8 [.int .u16 16, .agg d.cells] H (fun q => q = (.int .i64 (if ((decide ((d.raw.length : Int) ≤ 65535) && txOk d.raw) && eqD ⟨[], d.host, d.mail, d.n0, d.n1, d.n2, d.n3, d.n4⟩ ⟨[], [], [], 0, 0, 0, 0, 0⟩) = true then 0 else 40), H, z0)) := by
  refine callK_start (n := 108) (rs := [.tmp 4]) Tryz.func8 rfl rfl rfl ?_
  intro σ hl ha
  have h0 := ha 0 (by simp)
  have h1 := ha 1 (by simp)
  clear ha
  simp only [Option.getD_some, List.getElem?_cons_zero, List.getElem?_cons_succ] at h0 h1
  have hf := fun l k => rdata_form 16 (H ++ l) k (hk.old l)
  have hneed := fun (a b : Bool) x r k => need a b H x r k
  rw [show formS 16 = [120] from rfl] at hf
  have i0 : strIter [120] 0 = (.tuple [.bool true, .int .i64 0, .int .i32 120], 1) := by rw [strIter_a (by decide)]; rfl
  have i1 : strIter [120] 1 = (.tuple [.bool false], 1) := by rw [strIter_a (by decide)]; rfl
  simp only [go_sem, simprocAttr, hl, h0, h1, Dt.cells, hf, hneed, ckq, Bool.true_and, eq_data, build_data0]
  rw [go_loop]
  simp only [go_sem, simprocAttr, hl, h0, h1, i0, i1, hf, hneed, ckq, Bool.true_and, eq_data, build_data0]
  cases ho : decide ((d.raw.length : Int) ≤ 65535)
  · simp only [go_sem, simprocAttr, hl, h0, h1, i0, i1, hf, hneed, ckq, Bool.true_and, eq_data, build_data0, ho]
    rw [go_loop]
    simp only [go_sem, simprocAttr, hl, h0, h1, i0, i1, hf, hneed, ckq, Bool.true_and, eq_data, build_data0, ho]
    simp only [Bool.false_and, Bool.false_eq_true, if_false]
  · have hr := hd.raw
    have htx := fun l => rdata_texts d.raw (H ++ l) hr
    obtain ⟨b, _, hb⟩ := htx [.cells [.str d.raw, .str d.host, .str d.mail, .int .u32 d.n0, .int .u32 d.n1, .int .u32 d.n2, .int .u32 d.n3, .int .u32 d.n4] 27 .rw, .cells [.bool true] 4 .rw, .cells [.str [], .str d.host, .str d.mail, .int .u32 d.n0, .int .u32 d.n1, .int .u32 d.n2, .int .u32 d.n3, .int .u32 d.n4] 27 .rw, .iter [120] 1]
    simp only [go_sem, simprocAttr, hl, h0, h1, i0, i1, hf, hneed, ckq, Bool.true_and, eq_data, build_data0, ho, hb]
    rw [go_loop]
    simp only [go_sem, simprocAttr, hl, h0, h1, i0, i1, hf, hneed, ckq, Bool.true_and, eq_data, build_data0, ho, hb]
    cases ht : txOk d.raw
    · simp only [go_sem, simprocAttr, hl, h0, h1, hf, hneed, ckq, Bool.true_and, eq_data, build_data0, ht]
      simp only [Bool.and_false, Bool.false_and, Bool.false_eq_true, if_false]
    · cases hz : eqD ⟨[], d.host, d.mail, d.n0, d.n1, d.n2, d.n3, d.n4⟩ ⟨[], [], [], 0, 0, 0, 0, 0⟩
      · simp only [go_sem, simprocAttr, hl, h0, h1, hf, hneed, ckq, Bool.true_and, eq_data, build_data0, ht, hz]
      · simp only [go_sem, simprocAttr, hl, h0, h1, hf, hneed, ckq, Bool.true_and, eq_data, build_data0, ht, hz]
set_option maxRecDepth 20000 in
theorem check_28 (d : Dt) (H) (hk : Tk H) (hd : d.wf) : callK Tryz.prog 8 [.int .u16 28, .agg d.cells] H (fun q => q = (.int .i64 (if (((d.raw.length : Int) == 16) && eqD ⟨[], d.host, d.mail, d.n0, d.n1, d.n2, d.n3, d.n4⟩ ⟨[], [], [], 0, 0, 0, 0, 0⟩) = true then 0 else 40), H, z0)) := by
  refine callK_start (n := 108) (rs := [.tmp 4]) Tryz.func8 rfl rfl rfl ?_
  intro σ hl ha
  have h0 := ha 0 (by simp)
  have h1 := ha 1 (by simp)
  clear ha
  simp only [Option.getD_some, List.getElem?_cons_zero, List.getElem?_cons_succ] at h0 h1
  have hf := fun l k => rdata_form 28 (H ++ l) k (hk.old l)
  have hneed := fun (a b : Bool) x r k => need a b H x r k
  rw [show formS 28 = [113] from rfl] at hf
  have i0 : strIter [113] 0 = (.tuple [.bool true, .int .i64 0, .int .i32 113], 1) := by rw [strIter_a (by decide)]; rfl
  have i1 : strIter [113] 1 = (.tuple [.bool false], 1) := by rw [strIter_a (by decide)]; rfl
  simp only [go_sem, simprocAttr, hl, h0, h1, Dt.cells, hf, hneed, ckq, Bool.true_and, eq_data, build_data0]
  rw [go_loop]
  simp only [go_sem, simprocAttr, hl, h0, h1, i0, i1, hf, hneed, ckq, Bool.true_and, eq_data, build_data0]
  rw [go_loop]
  simp only [go_sem, simprocAttr, hl, h0, h1, i0, i1, hf, hneed, ckq, Bool.true_and, eq_data, build_data0]
  cases ho : ((d.raw.length : Int) == 16)
  · simp only [go_sem, simprocAttr, hl, h0, h1, hf, hneed, ckq, Bool.true_and, eq_data, build_data0, ho]
    simp only [Bool.false_and, Bool.false_eq_true, if_false]
  · cases hz : eqD ⟨[], d.host, d.mail, d.n0, d.n1, d.n2, d.n3, d.n4⟩ ⟨[], [], [], 0, 0, 0, 0, 0⟩
    · simp only [go_sem, simprocAttr, hl, h0, h1, hf, hneed, ckq, Bool.true_and, eq_data, build_data0, ho, hz]
    · simp only [go_sem, simprocAttr, hl, h0, h1, hf, hneed, ckq, Bool.true_and, eq_data, build_data0, ho, hz]
set_option maxRecDepth 20000 in
theorem check_33 (d : Dt) (H) (hk : Tk H) (hd : d.wf) : callK Tryz.prog 8 [.int .u16 33, .agg d.cells] H (fun q => q = (.int .i64 (if ((((decide (d.n0 ≤ 65535) && decide (d.n1 ≤ 65535)) && decide (d.n2 ≤ 65535)) && (nm d.host).isSome) && eqD ⟨d.raw, [], d.mail, 0, 0, 0, d.n3, d.n4⟩ ⟨[], [], [], 0, 0, 0, 0, 0⟩) = true then 0 else 40), H, z0)) := by
  refine callK_start (n := 108) (rs := [.tmp 4]) Tryz.func8 rfl rfl rfl ?_
  intro σ hl ha
  have h0 := ha 0 (by simp)
  have h1 := ha 1 (by simp)
  clear ha
  simp only [Option.getD_some, List.getElem?_cons_zero, List.getElem?_cons_succ] at h0 h1
  have hf := fun l k => rdata_form 33 (H ++ l) k (hk.old l)
  have hneed := fun (a b : Bool) x r k => need a b H x r k
  rw [show formS 33 = [115, 115, 115, 112] from rfl] at hf
  have hh := fun H k => name_Check d.host H k (by have := hd.host; show _ ≤ 9223372036854775807; omega)
  have i0 : strIter [115, 115, 115, 112] 0 = (.tuple [.bool true, .int .i64 0, .int .i32 115], 1) := by rw [strIter_a (by decide)]; rfl
  have i1 : strIter [115, 115, 115, 112] 1 = (.tuple [.bool true, .int .i64 1, .int .i32 115], 2) := by rw [strIter_a (by decide)]; rfl
  have i2 : strIter [115, 115, 115, 112] 2 = (.tuple [.bool true, .int .i64 2, .int .i32 115], 3) := by rw [strIter_a (by decide)]; rfl
  have i3 : strIter [115, 115, 115, 112] 3 = (.tuple [.bool true, .int .i64 3, .int .i32 112], 4) := by rw [strIter_a (by decide)]; rfl
  have i4 : strIter [115, 115, 115, 112] 4 = (.tuple [.bool false], 4) := by rw [strIter_a (by decide)]; rfl
  simp only [go_sem, simprocAttr, hl, h0, h1, Dt.cells, hf, hneed, ckq, Bool.true_and, eq_data, build_data0, hh]
  rw [go_loop]
  simp only [go_sem, simprocAttr, hl, h0, h1, i0, i1, i2, i3, i4, hf, hneed, ckq, Bool.true_and, eq_data, build_data0, hh]
  rw [go_loop]
  simp only [go_sem, simprocAttr, hl, h0, h1, i0, i1, i2, i3, i4, hf, hneed, ckq, Bool.true_and, eq_data, build_data0, hh]
  rw [go_loop]
  simp only [go_sem, simprocAttr, hl, h0, h1, i0, i1, i2, i3, i4, hf, hneed, ckq, Bool.true_and, eq_data, build_data0, hh]
  rw [go_loop]
  simp only [go_sem, simprocAttr, hl, h0, h1, i0, i1, i2, i3, i4, hf, hneed, ckq, Bool.true_and, eq_data, build_data0, hh]
  rw [go_loop]
  simp only [go_sem, simprocAttr, hl, h0, h1, i0, i1, i2, i3, i4, hf, hneed, ckq, Bool.true_and, eq_data, build_data0, hh]
  cases ho : (((decide (d.n0 ≤ 65535) && decide (d.n1 ≤ 65535)) && decide (d.n2 ≤ 65535)) && (nm d.host).isSome)
  · simp only [go_sem, simprocAttr, hl, h0, h1, hf, hneed, ckq, Bool.true_and, eq_data, build_data0, hh, ho]
    simp only [Bool.false_and, Bool.false_eq_true, if_false]
  · cases hz : eqD ⟨d.raw, [], d.mail, 0, 0, 0, d.n3, d.n4⟩ ⟨[], [], [], 0, 0, 0, 0, 0⟩
    · simp only [go_sem, simprocAttr, hl, h0, h1, hf, hneed, ckq, Bool.true_and, eq_data, build_data0, hh, ho, hz]
    · simp only [go_sem, simprocAttr, hl, h0, h1, hf, hneed, ckq, Bool.true_and, eq_data, build_data0, hh, ho, hz]
set_option maxRecDepth 20000 in
theorem check_o (t : Int) (d : Dt) (H) (ht : t ≠ 1 ∧ t ≠ 2 ∧ t ≠ 5 ∧ t ≠ 6 ∧ t ≠ 12 ∧ t ≠ 15 ∧ t ≠ 16 ∧ t ≠ 28 ∧ t ≠ 33) (hk : Tk H) (hd : d.wf) : callK Tryz.prog 8 [.int .u16 t, .agg d.cells] H (fun q => q = (.int .i64 (if (decide ((d.raw.length : Int) ≤ 65535) && eqD ⟨[], d.host, d.mail, d.n0, d.n1, d.n2, d.n3, d.n4⟩ ⟨[], [], [], 0, 0, 0, 0, 0⟩) = true then 0 else 40), H, z0)) := by
  refine callK_start (n := 108) (rs := [.tmp 4]) Tryz.func8 rfl rfl rfl ?_
  intro σ hl ha
  have h0 := ha 0 (by simp)
  have h1 := ha 1 (by simp)
  clear ha
  simp only [Option.getD_some, List.getElem?_cons_zero, List.getElem?_cons_succ] at h0 h1
  have hf := fun l k => rdata_form t (H ++ l) k (hk.old l)
  have hneed := fun (a b : Bool) x r k => need a b H x r k
  have hfs : formS t = [114] := formS_o ht
  rw [hfs] at hf
  have i0 : strIter [114] 0 = (.tuple [.bool true, .int .i64 0, .int .i32 114], 1) := by rw [strIter_a (by decide)]; rfl
  have i1 : strIter [114] 1 = (.tuple [.bool false], 1) := by rw [strIter_a (by decide)]; rfl
  simp only [go_sem, simprocAttr, hl, h0, h1, Dt.cells, hf, hneed, ckq, Bool.true_and, eq_data, build_data0]
  rw [go_loop]
  simp only [go_sem, simprocAttr, hl, h0, h1, i0, i1, hf, hneed, ckq, Bool.true_and, eq_data, build_data0]
  rw [go_loop]
  simp only [go_sem, simprocAttr, hl, h0, h1, i0, i1, hf, hneed, ckq, Bool.true_and, eq_data, build_data0]
  cases ho : decide ((d.raw.length : Int) ≤ 65535)
  · simp only [go_sem, simprocAttr, hl, h0, h1, hf, hneed, ckq, Bool.true_and, eq_data, build_data0, ho]
    simp only [Bool.false_and, Bool.false_eq_true, if_false]
  · cases hz : eqD ⟨[], d.host, d.mail, d.n0, d.n1, d.n2, d.n3, d.n4⟩ ⟨[], [], [], 0, 0, 0, 0, 0⟩
    · simp only [go_sem, simprocAttr, hl, h0, h1, hf, hneed, ckq, Bool.true_and, eq_data, build_data0, ho, hz]
    · simp only [go_sem, simprocAttr, hl, h0, h1, hf, hneed, ckq, Bool.true_and, eq_data, build_data0, ho, hz]

end Go.Proofs.YtgkpgpdkolpfkaaGreatDoor.V
namespace Go.Proofs.YtgkpgpdkolpfkaaGreatDoor.V
open Go
attribute [local irreducible] go goOps goD opK callK callT stepK leaveTo nextK

def Dt.n (d : Dt) : Nat → Int
  | 0 => d.n0
  | 1 => d.n1
  | 2 => d.n2
  | 3 => d.n3
  | _ => d.n4
def numB (t : Int) (d : Dt) (i : Nat) : Bool := if i < numT t then !(bitT t == 16 && decide (d.n i > 65535)) else (d.n i == 0)
def headB (t : Int) (d : Dt) : Bool := rawT t d.raw && ((hostT t == (nm d.host).isSome) && ((hostT t || (d.host == [])) && ((mailT t == (nm d.mail).isSome) && (mailT t || (d.mail == [])))))
def goodB (t : Int) (d : Dt) : Bool := headB t d && (numB t d 0 && (numB t d 1 && (numB t d 2 && (numB t d 3 && numB t d 4))))
def chk (t : Int) (d : Dt) : Int := if goodB t d = true then 0 else 40

theorem iteQ {p q : Bool} (h : p = q) {H : Hp} : (AV.int .i64 (if p = true then (0 : Int) else 40), H, z0) = (AV.int .i64 (if q = true then (0 : Int) else 40), H, z0) := by rw [h]
theorem bool_iff {p q : Bool} (h : p = true ↔ q = true) : p = q := by cases p <;> cases q <;> simp_all

theorem rdata_CheckQ (t : Int) (d : Dt) (H) (hk : Tk H) (hd : d.wf) : callK Tryz.prog 8 [.int .u16 t, .agg d.cells] H (fun q => q = (.int .i64 (chk t d), H, z0)) := by
  have hn : (nm d.host).isSome = true → d.host ≠ [] := by intro h e; rw [e] at h; cases h
  have hm : (nm d.mail).isSome = true → d.mail ≠ [] := by intro h e; rw [e] at h; cases h
  have hx : txOk d.raw = true → d.raw ≠ [] := by intro h e; rw [e] at h; cases h
  have nn : nm ([] : List UInt8) = none := rfl
  rcases kinds_cases t with rfl | rfl | rfl | rfl | rfl | rfl | rfl | rfl | rfl | ht
  case inr.inr.inr.inr.inr.inr.inr.inr.inr =>
    refine callK_mono (check_o t d H ht hk hd) (fun r hr => hr.trans (iteQ (bool_iff ?_)))
    obtain ⟨h1, h2, h3, h4, h5, h6, h7, h8, h9⟩ := ht
    have e1 : hostT t = false := by simp only [hostT, decide_eq_false_iff_not]; omega
    have e2 : mailT t = false := by simp only [mailT, decide_eq_false_iff_not]; omega
    have e3 : numT t = 0 := by unfold numT; rw [if_neg h4, if_neg h6, if_neg h9]
    simp only [goodB, headB, rawT, numB, e1, e2, e3, h1, h7, h8, eqD, Dt.n, Bool.and_eq_true, decide_eq_true_eq, Dt.mk.injEq, if_false, Bool.false_eq_true, Nat.not_lt_zero, beq_iff_eq, Bool.or_eq_true, false_or]
    obtain ⟨r, h, m, a, b, c, e, f⟩ := d
    constructor
    · rintro ⟨x1, x2, rfl, rfl, rfl, rfl, rfl, rfl, rfl⟩
      simp [nn, x1]
    · rintro ⟨⟨x1, x2, rfl, x4, rfl⟩, rfl, rfl, rfl, rfl, rfl⟩
      simp [x1]
  all_goals
    first
      | refine callK_mono (check_1 d H hk hd) (fun r hr => hr.trans (iteQ (bool_iff ?_)))
      | refine callK_mono (check_2 d H hk hd) (fun r hr => hr.trans (iteQ (bool_iff ?_)))
      | refine callK_mono (check_5 d H hk hd) (fun r hr => hr.trans (iteQ (bool_iff ?_)))
      | refine callK_mono (check_6 d H hk hd) (fun r hr => hr.trans (iteQ (bool_iff ?_)))
      | refine callK_mono (check_12 d H hk hd) (fun r hr => hr.trans (iteQ (bool_iff ?_)))
      | refine callK_mono (check_15 d H hk hd) (fun r hr => hr.trans (iteQ (bool_iff ?_)))
      | refine callK_mono (check_16 d H hk hd) (fun r hr => hr.trans (iteQ (bool_iff ?_)))
      | refine callK_mono (check_28 d H hk hd) (fun r hr => hr.trans (iteQ (bool_iff ?_)))
      | refine callK_mono (check_33 d H hk hd) (fun r hr => hr.trans (iteQ (bool_iff ?_)))
  all_goals
    obtain ⟨r, h, m, a, b, c, e, f⟩ := d
    simp only [goodB, headB, rawT, numB, hostT, mailT, numT, bitT, eqD, Dt.n, Bool.and_eq_true, decide_eq_true_eq, Dt.mk.injEq, beq_iff_eq, Bool.or_eq_true]
    constructor
    · intro hh
      simp only [true_and] at hh
      simp_all
      try omega
    · intro hh
      simp_all
      try omega
end Go.Proofs.YtgkpgpdkolpfkaaGreatDoor.V
namespace Go.Proofs.YtgkpgpdkolpfkaaGreatDoor.V
open Go
attribute [local irreducible] go goOps goD opK callK callT stepK leaveTo nextK

theorem rdata_Check (t : Int) (d : Dt) (H k) (hk : Tk H) (hd : d.wf) : callK Tryz.prog 8 [.int .u16 t, .agg d.cells] H k = k (.int .i64 (chk t d), H, z0) := callK_eq (rdata_CheckQ t d H hk hd) k

theorem beq_tf : ((true : Bool) == false) = false := rfl
theorem beq_ft : ((false : Bool) == true) = false := rfl
attribute [go_sem] beq_tf beq_ft
theorem Dt.at (d : Dt) {i : Nat} (hi : i < 5) (e : TypeId) (k : Kd) : ldC (3 + i) 1 false (.cells d.cells e k) = some (.int .u32 (d.n i)) := by
  have : i = 0 ∨ i = 1 ∨ i = 2 ∨ i = 3 ∨ i = 4 := by omega
  rcases this with rfl | rfl | rfl | rfl | rfl <;> rfl
theorem Dt.l0 (d : Dt) (e : TypeId) (k : Kd) : ldC 0 1 false (.cells d.cells e k) = some (.str d.raw) := rfl
theorem Dt.l1 (d : Dt) (e : TypeId) (k : Kd) : ldC 1 1 false (.cells d.cells e k) = some (.str d.host) := rfl
theorem Dt.l2 (d : Dt) (e : TypeId) (k : Kd) : ldC 2 1 false (.cells d.cells e k) = some (.str d.mail) := rfl
theorem Dt.l8 (d : Dt) (e : TypeId) (k : Kd) : ldC 0 8 true (.cells d.cells e k) = some (.agg d.cells) := rfl
theorem Dt.vc (d : Dt) : vcells (.agg d.cells) = d.cells := rfl
theorem Dt.len (d : Dt) : d.cells.length = 8 := rfl
theorem Dt.scl (d : Dt) : d.cells.all scal = true := rfl
theorem Dt.flat (d : Dt) : flats d.cells = true := by simp only [Dt.cells, go_sem]

end Go.Proofs.YtgkpgpdkolpfkaaGreatDoor.V
namespace Go.Proofs.YtgkpgpdkolpfkaaGreatDoor.V
open Go
attribute [local irreducible] go goOps goD opK callK callT stepK leaveTo nextK

theorem GBuf.app3 {P : Program} {H T : Hp} {v : AV} {e z b len : Nat} {cs : List AV} (h : GBuf H.length T v e z len cs) (hz : decide (0 < z) = true) (hk : zok P e z = true) (xs : List AV) (q : Nat) (hq : 0 < q) (hx : xs.length = q * z) (hsc : xs.all V.scal = true) (hf : fits (len + q) b = true) :
    ∃ T2 e2, (∀ kk, stepK (appTo P (.slice e z b) v (xs, q) (H ++ T)) kk = kk (.slice (H.length + T.length) 0 (len + q) (.op 0), H ++ T2, e2)) ∧ T2.length = T.length + 1 ∧ clean H.length e2 ∧ (∀ (i : Nat) x, T[i]? = some x → (∀ m n, v = .slice (H.length + m) 0 n (.op 0) → i ≠ m) → T2[i]? = some x) ∧ T2[T.length]? = some (.cells (cs ++ xs) e (.op 0 false)) ∧ GBuf H.length T2 (.slice (H.length + T.length) 0 (len + q) (.op 0)) e z (len + q) (cs ++ xs) := by
  have hz' : 0 < z := by simpa using hz
  obtain ⟨rfl, rfl, rfl⟩ | ⟨hpos, hcl, m, rfl, hm⟩ := h
  · refine ⟨T ++ [.cells xs e (.op 0 false)], z0, fun kk => ?_, by simp, ⟨rfl, rfl⟩, fun i x hx _ => get_app hx, by simp, .inr ⟨by omega, by simpa using hx, T.length, by simp, by simp⟩⟩
    rw [appTo_nils hz hk]
    have hd : decide (q = 0) = false := by simp; omega
    have hf : fits q b = true := by simpa using hf
    simp only [hd, guardK_ft, hf, true_and, List.length_append, List.append_assoc, Nat.zero_add]
  · have hlt := lt_of_get hm
    have hg : (H ++ T)[H.length + m]? = some (.cells cs e (.op 0 false)) := by rw [hp_new, hm]
    refine ⟨T.set m .dead ++ [.cells (cs ++ xs) e (.op 0 false)], ⟨none, some (H.length + m)⟩, fun kk => ?_, by simp, by simp [clean, low], fun i x hx hf => ?_, by simp, .inr ⟨by omega, by rw [List.length_append, hcl, hx, Nat.add_mul], T.length, rfl, by simp⟩⟩
    · rw [appTo_op hz hk, hg]
      simp only [bindK_some, appO_c]
      have hqz : 0 < q * z := Nat.mul_pos hq hz'
      have hd : decide (0 + (len + q) * z ≤ cs.length) = false := by
        rw [hcl, Nat.add_mul]; simp; omega
      have ht : (List.drop 0 cs).take (len * z) ++ xs = cs ++ xs := by
        rw [List.drop_zero, List.take_of_length_le (by rw [hcl]; exact Nat.le_refl _)]
      have hle : 0 + len * z ≤ cs.length := by rw [hcl]; omega
      rw [hd, guardK_ft]
      simp only [ht, hf, hsc, hle, hp_set, List.length_append, List.append_assoc, Nat.sub_self, Nat.zero_le, true_and, and_true, Nat.zero_mul]
    · have hne := hf m len rfl
      rw [get_app (x := x)]
      rw [List.getElem?_set_ne (Ne.symm hne)]; exact hx

def isN (c : UInt8) : Bool := c == 115 || c == 108
def quoP (s : List UInt8) : List UInt8 := [34] ++ escS true s ++ [34]
def pairN (r : List UInt8) (i : Nat) : Nat := ((r[2 * i]?).getD 0).toNat * 256 + ((r[2 * i + 1]?).getD 0).toNat
def decA (r : List UInt8) : List (List UInt8) := r.map fun b => decP b.toNat
def hexA (r : List UInt8) : List (List UInt8) := (List.range 8).map fun i => hexN (pairN r i)
def elemS (d : Dt) (c : UInt8) (k : Nat) : List (List UInt8) :=
  if c = 104 ∨ c = 112 then [txtN d.host] else if c = 109 then [txtN d.mail] else if isN c = true then [decP (d.n k).toNat]
  else if c = 97 then [joinS [46] (decA d.raw)] else if c = 113 then [joinS [58] (hexA d.raw)]
  else if c = 120 then ((txts d.raw).getD []).map quoP else [[92, 35], decP d.raw.length] ++ (if d.raw = [] then [] else [hexP d.raw])
def cntN (f : List UInt8) : Nat := (f.filter isN).length
def showL (d : Dt) : List UInt8 → Nat → List (List UInt8)
  | [], _ => []
  | c :: f, k => elemS d c k ++ showL d f (if isN c = true then k + 1 else k)
theorem showL_snoc (d : Dt) (c : UInt8) : ∀ (f : List UInt8) (k : Nat), showL d (f ++ [c]) k = showL d f k ++ elemS d c (k + cntN f)
  | [], k => by simp [showL, cntN]
  | b :: f, k => by
    rw [List.cons_append, showL, showL_snoc d c f, showL, List.append_assoc]
    congr 3
    unfold cntN
    rw [List.filter_cons]
    split <;> simp <;> omega
theorem cntN_snoc {f : List UInt8} {c : UInt8} {i : Nat} (h : f[i]? = some c) : cntN (f.take (i + 1)) = cntN (f.take i) + if isN c = true then 1 else 0 := by
  rw [take_snoc h]; unfold cntN; rw [List.filter_append, List.length_append]
  congr 1
  rw [List.filter_cons]; split <;> simp
theorem showL_take {d : Dt} {f : List UInt8} {c : UInt8} {i : Nat} (h : f[i]? = some c) : showL d (f.take (i + 1)) 0 = showL d (f.take i) 0 ++ elemS d c (cntN (f.take i)) := by
  rw [take_snoc h, showL_snoc, Nat.zero_add]
theorem txts_le : ∀ (n : Nat) (s : List UInt8), s.length < n → ∀ L, txF n s = some L → L.length ≤ s.length ∧ totS L ≤ s.length
  | 0, s, h, L, _ => by omega
  | n + 1, [], _, L, hL => by
    simp only [txF] at hL
    cases hL
    exact ⟨Nat.le_refl _, Nat.le_refl _⟩
  | n + 1, k :: t, h, L, hL => by
    simp only [List.length_cons] at h
    rw [txF] at hL
    split at hL
    · cases hL
    · rw [Option.map_eq_some_iff] at hL
      obtain ⟨L', h1, rfl⟩ := hL
      have := txts_le n (t.drop k.toNat) (by rw [List.length_drop]; omega) L' h1
      rw [List.length_drop] at this
      have e : totS (t.take k.toNat :: L') = (t.take k.toNat).length + totS L' := by simp [totS]
      rw [e, List.length_cons, List.length_cons, List.length_take]; omega
theorem txts_len {s : List UInt8} {L : List (List UInt8)} (h : txts s = some L) : L.length ≤ s.length ∧ totS L ≤ s.length := txts_le _ s (Nat.lt_succ_self _) L h
theorem elemS_len (d : Dt) (hd : d.wf) (c : UInt8) (k : Nat) : (elemS d c k).length ≤ 1048579 := by
  have hr := hd.raw
  unfold elemS
  split
  · simp
  split
  · simp
  split
  · simp
  split
  · simp
  split
  · simp
  split
  · rw [List.length_map]
    cases h : txts d.raw with
    | none => simp
    | some L => have := (txts_len h).1; simp only [Option.getD_some]; omega
  · split <;> simp
theorem showL_len (d : Dt) (hd : d.wf) : ∀ (f : List UInt8) (k : Nat), (showL d f k).length ≤ f.length * 1048579
  | [], k => by simp [showL]
  | c :: f, k => by
    rw [showL, List.length_append, List.length_cons]
    have := elemS_len d hd c k
    have := showL_len d hd f (if isN c = true then k + 1 else k)
    rw [Nat.add_mul]; omega
def showS (t : Int) (d : Dt) : List UInt8 := joinS [32] (showL d (formS t) 0)
theorem form_in (t : Int) : ∀ c ∈ formS t, c = 104 ∨ c = 112 ∨ c = 109 ∨ isN c = true ∨ c = 97 ∨ c = 113 ∨ c = 120 ∨ c = 114 := by
  rcases kinds_cases t with rfl | rfl | rfl | rfl | rfl | rfl | rfl | rfl | rfl | ht
  case inr.inr.inr.inr.inr.inr.inr.inr.inr => rw [formS_o ht]; decide
  all_goals decide
theorem form_len (t : Int) : (formS t).length ≤ 7 := by
  rcases kinds_cases t with rfl | rfl | rfl | rfl | rfl | rfl | rfl | rfl | rfl | ht
  case inr.inr.inr.inr.inr.inr.inr.inr.inr => rw [formS_o ht]; decide
  all_goals decide
theorem form_a (t : Int) : (formS t).all (fun c => decide (c.toNat < 128)) = true := by
  rcases kinds_cases t with rfl | rfl | rfl | rfl | rfl | rfl | rfl | rfl | rfl | ht
  case inr.inr.inr.inr.inr.inr.inr.inr.inr => rw [formS_o ht]; decide
  all_goals decide
theorem cnt_le {t : Int} {i : Nat} {c : UInt8} (h : (formS t)[i]? = some c) (hc : isN c = true) : cntN ((formS t).take i) < 5 := by
  have h1 : cntN ((formS t).take (i + 1)) ≤ 5 := by
    have : cntN (formS t) ≤ 5 := by
      rcases kinds_cases t with rfl | rfl | rfl | rfl | rfl | rfl | rfl | rfl | rfl | ht
      case inr.inr.inr.inr.inr.inr.inr.inr.inr => rw [formS_o ht]; decide
      all_goals decide
    have h2 : cntN (formS t) = cntN ((formS t).take (i + 1)) + cntN ((formS t).drop (i + 1)) := by
      conv => lhs; rw [← List.take_append_drop (i + 1) (formS t)]
      unfold cntN; rw [List.filter_append, List.length_append]
    omega
  rw [cntN_snoc h, if_pos hc] at h1; omega
theorem good_by {t : Int} {d : Dt} (h : goodB t d = true) : (∀ c ∈ formS t, (c = 104 ∨ c = 112) → (nm d.host).isSome = true) ∧ (∀ c ∈ formS t, c = 109 → (nm d.mail).isSome = true) ∧ (∀ c ∈ formS t, c = 97 → d.raw.length = 4) ∧ (∀ c ∈ formS t, c = 113 → d.raw.length = 16) ∧ (∀ c ∈ formS t, c = 120 → txOk d.raw = true) ∧ d.raw.length ≤ 65535 := by
  unfold goodB at h
  rw [Bool.and_eq_true] at h
  have h := h.1
  unfold headB at h
  simp only [Bool.and_eq_true, beq_iff_eq] at h
  obtain ⟨hr, hh, _, hm, _⟩ := h
  rcases kinds_cases t with rfl | rfl | rfl | rfl | rfl | rfl | rfl | rfl | rfl | ht
  case inr.inr.inr.inr.inr.inr.inr.inr.inr =>
    rw [formS_o ht]
    obtain ⟨h1, h2, h3, h4, h5, h6, h7, h8, h9⟩ := ht
    have e1 : hostT t = false := by simp only [hostT, decide_eq_false_iff_not]; omega
    simp [rawT, e1, h1, h7, h8] at hr
    simp; omega
  all_goals
    simp only [hostT_1, hostT_2, hostT_5, hostT_6, hostT_12, hostT_15, hostT_16, hostT_28, hostT_33, mailT_1, mailT_2, mailT_5, mailT_6, mailT_12, mailT_15, mailT_16, mailT_28, mailT_33] at hh hm
    simp [rawT, hostT] at hr
    simp [formS, hr, ← hh, ← hm]
    try omega

theorem totS_le : ∀ (L : List (List UInt8)) (b : Nat), (∀ x ∈ L, x.length ≤ b) → totS L ≤ L.length * b
  | [], b, h => by simp [totS]
  | x :: L, b, h => by
    have h1 := totS_le L b (fun y hy => h y (by simp [hy]))
    have h2 := h x (by simp)
    have e : totS (x :: L) = x.length + totS L := by simp [totS]
    rw [e, List.length_cons, Nat.add_mul]; omega
theorem decP_pos (n : Nat) : 0 < (decP n).length := by
  by_cases h : n < 10
  · rw [decP_small h]; simp
  · rw [decP_big h, List.length_append]; simp
theorem hexN_pos (n : Nat) : 0 < (hexN n).length := by
  by_cases h : n < 16
  · rw [hexN_small h]; simp
  · rw [hexN_big h, List.length_append]; simp
theorem joinS_le (sep : List UInt8) (L : List (List UInt8)) : (joinS sep L).length ≤ totS L + L.length * sep.length := by
  cases L with
  | nil => simp [joinS]
  | cons x r =>
    have e2 : totS (x :: r) = x.length + totS r := by simp [totS]
    show (x ++ r.flatMap (sep ++ ·)).length ≤ _
    rw [joinS_len, e2, List.length_cons, Nat.succ_mul]; omega
theorem totS_app (a b : List (List UInt8)) : totS (a ++ b) = totS a + totS b := by simp [totS]
theorem totS_quo : ∀ (L : List (List UInt8)), totS (L.map quoP) ≤ 4 * totS L + 2 * L.length
  | [] => by simp [totS]
  | x :: L => by
    have h := totS_quo L
    have e1 : totS ((x :: L).map quoP) = (quoP x).length + totS (L.map quoP) := by simp [totS]
    have e2 : totS (x :: L) = x.length + totS L := by simp [totS]
    have h2 := escS_len true x
    have e3 : (quoP x).length = (escS true x).length + 2 := by simp [quoP]
    rw [e1, e2, e3, List.length_cons]; omega
theorem txtN_len (s : List UInt8) : (txtN s).length ≤ 1021 := by
  unfold txtN
  split
  · simp
  · have := txtL_len (labs s)
    have := labs_tot (s := s)
    omega
theorem txtN_pos {s : List UInt8} (h : (nm s).isSome = true) : 0 < (txtN s).length := by
  unfold txtN
  split
  · simp
  · rename_i h0
    obtain ⟨L, hL⟩ := Option.isSome_iff_exists.1 h
    cases L with
    | nil =>
      exfalso; apply h0
      have hL := (nm_lab hL).1
      cases s with
      | nil => cases hL
      | cons c t =>
        rw [lab_cons] at hL
        split at hL
        · rename_i hc
          split at hL
          · rename_i ht
            have : c = 0 := UInt8.toNat.inj (by simpa using hc)
            rw [this, List.length_eq_zero_iff.1 ht]
          · cases hL
        · split at hL
          · cases hL
          · rw [Option.map_eq_some_iff] at hL
            obtain ⟨_, _, h⟩ := hL
            cases h
    | cons l L =>
      have : labs s = l :: L := by rw [labs, hL]; rfl
      rw [this]
      show 0 < ((escS false l ++ [46]) ++ txtL L).length
      rw [List.length_append, List.length_append]; simp; omega
theorem decP_le2 {n : Nat} (h : n < 4294967296) : (decP n).length ≤ 10 := by
  have key : ∀ (k n : Nat), n < 10 ^ (k + 1) → (decP n).length ≤ k + 1 := by
    intro k
    induction k with
    | zero => intro n h; rw [decP_small (by simpa using h)]; simp
    | succ k ih =>
      intro n h
      by_cases h0 : n < 10
      · rw [decP_small h0]; simp
      · rw [decP_big h0, List.length_append]
        have : n / 10 < 10 ^ (k + 1) := by
          rw [Nat.div_lt_iff_lt_mul (by omega)]
          rw [Nat.pow_succ] at h; exact h
        have := ih (n / 10) this
        simp; omega
  exact key 9 n (by omega)
theorem elem_fine {t : Int} {d : Dt} (hd : d.wf) (hg : goodB t d = true) {c : UInt8} (hc : c ∈ formS t) (k : Nat) : (∀ x ∈ elemS d c k, 0 < x.length) ∧ totS (elemS d c k) ≤ 1000000 := by
  obtain ⟨gh, gm, ga, gq, gx, graw⟩ := good_by hg
  unfold elemS
  split
  · rename_i h
    have := txtN_len d.host
    exact ⟨by intro x hx; simp only [List.mem_singleton] at hx; subst hx; exact txtN_pos (gh c hc h), by simp [totS]; omega⟩
  split
  · rename_i h
    have := txtN_len d.mail
    exact ⟨by intro x hx; simp only [List.mem_singleton] at hx; subst hx; exact txtN_pos (gm c hc h), by simp [totS]; omega⟩
  split
  · have h5 : (d.n k).toNat < 4294967296 := by
      have := hd.n0.2; have := hd.n1.2; have := hd.n2.2; have := hd.n3.2; have := hd.n4.2
      unfold Dt.n
      split <;> omega
    have := decP_le2 h5
    exact ⟨by intro x hx; simp only [List.mem_singleton] at hx; subst hx; exact decP_pos _, by simp [totS]; omega⟩
  split
  · rename_i h
    have hr := ga c hc h
    have hAl : (decA d.raw).length = 4 := by simp [decA, hr]
    have ht := totS_le (decA d.raw) 256 (by intro x hx; simp only [decA, List.mem_map] at hx; obtain ⟨b, _, rfl⟩ := hx; have := decP_le b.toNat; have := b.toNat_lt; omega)
    have hj := joinS_le [46] (decA d.raw)
    refine ⟨?_, by simp [totS]; simp at hj; omega⟩
    intro x hx; simp only [List.mem_singleton] at hx; subst hx
    cases h0 : decA d.raw with
    | nil => rw [h0] at hAl; simp at hAl
    | cons a r =>
      have : 0 < a.length := by
        have ha : a ∈ decA d.raw := by rw [h0]; simp
        simp only [decA, List.mem_map] at ha; obtain ⟨b, _, rfl⟩ := ha; exact decP_pos _
      show 0 < (a ++ r.flatMap ([46] ++ ·)).length
      rw [List.length_append]; omega
  split
  · rename_i h
    have hr := gq c hc h
    have hAl : (hexA d.raw).length = 8 := by simp [hexA]
    have ht := totS_le (hexA d.raw) 65536 (by intro x hx; simp only [hexA, List.mem_map] at hx; obtain ⟨b, _, rfl⟩ := hx; have h1 := hexN_le (pairN d.raw b); have h2 : pairN d.raw b ≤ 65535 := (by unfold pairN; have := ((d.raw[2 * b]?).getD 0).toNat_lt; have := ((d.raw[2 * b + 1]?).getD 0).toNat_lt; omega); omega)
    have hj := joinS_le [58] (hexA d.raw)
    refine ⟨?_, by simp [totS]; simp at hj; omega⟩
    intro x hx; simp only [List.mem_singleton] at hx; subst hx
    cases h0 : hexA d.raw with
    | nil => rw [h0] at hAl; simp at hAl
    | cons a r =>
      have : 0 < a.length := by
        have ha : a ∈ hexA d.raw := by rw [h0]; simp
        simp only [hexA, List.mem_map] at ha; obtain ⟨b, _, rfl⟩ := ha; exact hexN_pos _
      show 0 < (a ++ r.flatMap ([58] ++ ·)).length
      rw [List.length_append]; omega
  split
  · refine ⟨?_, ?_⟩
    · intro x hx; simp only [List.mem_map] at hx; obtain ⟨b, _, rfl⟩ := hx; simp [quoP]
    · cases h : txts d.raw with
      | none => simp [totS]
      | some L =>
        have h1 := txts_len h
        have h2 := totS_quo L
        simp only [Option.getD_some]; omega
  · have h1 := decP_le2 (n := d.raw.length) (by omega)
    refine ⟨?_, ?_⟩
    · intro x hx
      rcases List.mem_append.1 hx with hx | hx
      · simp only [List.mem_cons, List.not_mem_nil, or_false] at hx
        rcases hx with rfl | rfl
        · simp
        · exact decP_pos _
      · split at hx
        · cases hx
        · rename_i h0
          simp only [List.mem_singleton] at hx; subst hx
          rw [hexP_len]
          have : d.raw.length ≠ 0 := fun e => h0 (List.length_eq_zero_iff.1 e)
          omega
    · rw [totS_app]
      have e1 : totS [[92, 35], decP d.raw.length] = 2 + (decP d.raw.length).length := by simp [totS]
      rw [e1]
      split
      · simp [totS]; omega
      · have e2 : totS [hexP d.raw] = (hexP d.raw).length := by simp [totS]
        rw [e2, hexP_len]; omega
theorem show_fine {t : Int} {d : Dt} (hd : d.wf) (hg : goodB t d = true) : ∀ (f : List UInt8) (k : Nat), (∀ c ∈ f, c ∈ formS t) → (∀ x ∈ showL d f k, 0 < x.length) ∧ totS (showL d f k) ≤ f.length * 1000000
  | [], k, _ => by simp [showL, totS]
  | c :: f, k, h => by
    obtain ⟨a1, a2⟩ := elem_fine hd hg (h c (by simp)) k
    obtain ⟨b1, b2⟩ := show_fine hd hg f (if isN c = true then k + 1 else k) (fun x hx => h x (by simp [hx]))
    refine ⟨fun x hx => ?_, ?_⟩
    · rw [showL] at hx
      rcases List.mem_append.1 hx with hx | hx
      · exact a1 x hx
      · exact b1 x hx
    · rw [showL, totS_app, List.length_cons, Nat.succ_mul]; omega
theorem show_some (t : Int) (d : Dt) (hg : goodB t d = true) : 0 < (showL d (formS t) 0).length := by
  obtain ⟨gh, gm, ga, gq, gx, graw⟩ := good_by hg
  have hne : ∀ c k, c ∈ formS t → 0 < (elemS d c k).length := by
    intro c k hc
    unfold elemS
    split
    · simp
    split
    · simp
    split
    · simp
    split
    · simp
    split
    · simp
    split
    · rename_i h
      have hok := gx c hc h
      cases h : txts d.raw with
      | none => rw [txOk_none h] at hok; cases hok
      | some L =>
        cases L with
        | nil => rw [txOk_nil h] at hok; cases hok
        | cons a b => simp
    · simp
  cases hf : formS t with
  | nil =>
    exfalso
    rcases kinds_cases t with rfl | rfl | rfl | rfl | rfl | rfl | rfl | rfl | rfl | ht
    case inr.inr.inr.inr.inr.inr.inr.inr.inr => rw [formS_o ht] at hf; cases hf
    all_goals (revert hf; decide)
  | cons c f =>
    have := hne c 0 (by rw [hf]; simp)
    rw [showL, List.length_append]; omega
def rowS (A : List (List UInt8)) (n j : Nat) : List AV := strs (A.take j) ++ List.replicate (n - j) (.str [])
theorem rowS_len {A : List (List UInt8)} {n j : Nat} (hA : A.length = n) (hj : j ≤ n) : (rowS A n j).length = n := by
  simp [rowS, strs]; omega
theorem rowS_end {A : List (List UInt8)} {n : Nat} (hA : A.length = n) : rowS A n n = strs A := by
  unfold rowS; rw [← hA, List.take_length]; simp
theorem rowS_put {A : List (List UInt8)} {n j : Nat} {x : List UInt8} (h : A[j]? = some x) (hj : j < n) : splice (rowS A n j) j [.str x] = rowS A n (j + 1) := by
  have hl : (strs (A.take j)).length = j := by have := (List.getElem?_eq_some_iff.1 h).1; simp [strs]; omega
  obtain ⟨m, hm⟩ : ∃ m, n - j = m + 1 := ⟨n - j - 1, by omega⟩
  unfold rowS splice
  rw [take_snoc h, hm, show n - (j + 1) = m by omega]
  rw [List.take_left' hl, List.length_singleton, List.replicate_succ, show j + 1 = (strs (A.take j)).length + 1 by omega, List.drop_append]
  simp [strs]

set_option maxRecDepth 20000 in
set_option maxHeartbeats 2000000 in
theorem rdata_Show (t : Int) (d : Dt) (H) (hk : Tk H) (ht : Tb H) (hdb : Db H) (hd : d.wf) (hg : goodB t d = true) : callK Tryz.prog 4 [.int .u16 t, .agg d.cells] H (fun q => q = (.tuple [.str (showS t d), .int .i64 0], H, z0)) := by
  refine callK_start (n := 169) (rs := [.tmp 4, .tmp 5]) Tryz.func4 rfl rfl rfl ?_
  intro σ hl ha
  have h0 := ha 0 (by simp)
  have h1 := ha 1 (by simp)
  clear ha
  simp only [Option.getD_some, List.getElem?_cons_zero, List.getElem?_cons_succ] at h0 h1
  have hck := fun k => rdata_Check t d (H ++ [.cells d.cells 27 .rw]) k (hk.old _) hd
  have hfm := fun k => rdata_form t (H ++ [.cells d.cells 27 .rw]) k (hk.old _)
  have hc0 : chk t d = 0 := if_pos hg
  rw [hc0] at hck
  obtain ⟨gh, gm, ga, gq, gx, graw⟩ := good_by hg
  simp only [go_sem, simprocAttr, hl, h0, h1, hck, hfm, Dt.l8, Dt.vc, Dt.len]
  refine go_rounds (fun (m : Nat) (st : St) => ∃ σ i v T e, m + i = (formS t).length ∧ st = ⟨σ, H ++ T, e⟩ ∧ T[0]? = some (.cells d.cells 27 .rw) ∧ T[1]? = some (.iter (formS t) i) ∧ GBuf H.length T v 9 1 (showL d ((formS t).take i) 0).length (strs (showL d ((formS t).take i) 0)) ∧ clean H.length e ∧ σ.length = 169 ∧ fr σ 3 = .ptr H.length 0 ∧ fr σ 6 = v ∧ fr σ 7 = .int .i64 ((cntN ((formS t).take i) : Nat)) ∧ fr σ 26 = .ptr (H.length + 1) 0) (formS t).length
    ⟨_, 0, .nils, [.cells d.cells 27 .rw, .iter (formS t) 0], _, rfl, rfl, rfl, rfl, .inl ⟨rfl, rfl, rfl⟩, ⟨rfl, rfl⟩, by simp only [go_sem, simprocAttr, hl], by simp only [go_sem, simprocAttr, hl], by simp only [go_sem, simprocAttr, hl], by simp only [go_sem, simprocAttr, hl]; rfl, by simp only [go_sem, simprocAttr, hl]⟩ ?_
  clear hl h0 h1 hck hfm
  rintro m _ ⟨σ, i, v, T, e, hm, rfl, hT0, hT1, hv, he, hl, h3, h6, h7, h26⟩
  have hfl := form_len t
  have hT1l := lt_of_get hT1
  have hb0 : (H ++ T)[H.length]? = some (.cells d.cells 27 .rw) := by rw [hp_new0]; exact hT0
  have hb1 : (H ++ T)[H.length + 1]? = some (.iter (formS t) i) := by rw [hp_new]; exact hT1
  have hd1 : decide (1 < T.length) = true := by simpa using hT1l
  by_cases hlt : i < (formS t).length
  · obtain ⟨c, hc⟩ : ∃ c, (formS t)[i]? = some c := ⟨_, List.getElem?_eq_getElem hlt⟩
    have hcm := List.mem_of_getElem? hc
    have hsl := showL_take (d := d) hc
    have hcn := cntN_snoc hc
    have hLl := showL_len d hd ((formS t).take i) 0
    rw [List.length_take] at hLl
    have hkl : cntN ((formS t).take i) ≤ 7 := by
      have := List.length_filter_le isN ((formS t).take i)
      rw [List.length_take] at this
      unfold cntN; omega
    generalize hK : cntN ((formS t).take i) = K at *
    generalize hL1 : showL d ((formS t).take i) 0 = L1 at *
    have hLb : L1.length ≤ 7340053 := by omega
    -- memory behind the next round's start
    generalize hT' : T.set 1 (.iter (formS t) (i + 1)) = T' at *
    obtain ⟨q, hq⟩ : ∃ q, T.length = q := ⟨_, rfl⟩
    have hT'l : T'.length = q := by rw [← hT', List.length_set, hq]
    have hnew : ∀ (x : ABlk) (l : Hp), (T' ++ x :: l)[q]? = some x := fun x l => by rw [← hT'l, List.getElem?_append_right (Nat.le_refl _)]; simp
    have hset : ∀ (x y : ABlk), (T' ++ [x]).set q y = T' ++ [y] := fun x y => by rw [← hT'l, List.set_append_right _ _ (Nat.le_refl _)]; simp
    have hT'0 : T'[0]? = some (.cells d.cells 27 .rw) := by rw [← hT', List.getElem?_set_ne (by decide)]; exact hT0
    have hT'1 : T'[1]? = some (.iter (formS t) (i + 1)) := by rw [← hT', List.getElem?_set_self hT1l]
    have hv' : GBuf H.length T' v 9 1 L1.length (strs L1) := by
      obtain h | ⟨g1, g2, m, rfl, g3⟩ := hv
      · exact .inl h
      · refine .inr ⟨g1, g2, m, rfl, ?_⟩
        rw [← hT', List.getElem?_set_ne]
        · exact g3
        · rintro rfl; rw [hT1] at g3; cases g3
    have hv0 : ∀ m n, v = .slice (H.length + m) 0 n (.op 0) → 0 ≠ m ∧ 1 ≠ m := by
      intro m n hvm
      obtain ⟨rfl, _⟩ | ⟨g1, g2, m', rfl, g3⟩ := hv'
      · cases hvm
      · injection hvm with q1 q2 q3 q4
        have : m' = m := by omega
        subst this
        refine ⟨?_, ?_⟩
        · rintro rfl; rw [hT'0] at g3; injection g3 with g; injection g with _ g _; exact absurd g (by decide)
        · rintro rfl; rw [hT'1] at g3; cases g3
    have hbo : ∀ l : Hp, (T' ++ l)[0]? = some (.cells d.cells 27 .rw) := fun l => get_app hT'0
    -- what a round leaves that adds texts
    have fin : ∀ (xs : List (List UInt8)) (K' : Nat) (T2 : Hp) (w : AV) (σ' : List AV) (e' : Ef), elemS d c K = xs → K' = K + (if isN c = true then 1 else 0) → T2[0]? = some (.cells d.cells 27 .rw) → T2[1]? = some (.iter (formS t) (i + 1)) →
        GBuf H.length T2 w 9 1 (L1.length + xs.length) (strs L1 ++ strs xs) → clean H.length e' → σ'.length = 169 → fr σ' 3 = .ptr H.length 0 → fr σ' 6 = w → fr σ' 7 = .int .i64 (K' : Nat) → fr σ' 26 = .ptr (H.length + 1) 0 →
        ∃ m', m' < m ∧ (fun (m : Nat) (st : St) => ∃ σ i v T e, m + i = (formS t).length ∧ st = ⟨σ, H ++ T, e⟩ ∧ T[0]? = some (.cells d.cells 27 .rw) ∧ T[1]? = some (.iter (formS t) i) ∧ GBuf H.length T v 9 1 (showL d ((formS t).take i) 0).length (strs (showL d ((formS t).take i) 0)) ∧ clean H.length e ∧ σ.length = 169 ∧ fr σ 3 = .ptr H.length 0 ∧ fr σ 6 = v ∧ fr σ 7 = .int .i64 ((cntN ((formS t).take i) : Nat)) ∧ fr σ 26 = .ptr (H.length + 1) 0) m' ⟨σ', H ++ T2, e'⟩ := by
      intro xs K' T2 w σ' e' hx hK' q0 q1 qb qe ql q3 q6 q7 q26
      refine ⟨m - 1, by omega, σ', i + 1, w, T2, e', by omega, rfl, q0, q1, ?_, qe, ql, q3, q6, by rw [hcn, ← hK']; exact q7, q26⟩
      rw [hsl, hx]
      simpa [strs] using qb
    rcases form_in t c hcm with rfl | rfl | rfl | hN | rfl | rfl | rfl | rfl
    · have hit : strIter (formS t) i = (.tuple [.bool true, .int .i64 (i : Nat), .int .i32 104], i + 1) := by rw [strIter_a (form_a t), itN_s hc]; rfl
      have hel : elemS d 104 K = [txtN d.host] := by unfold elemS; rw [if_pos (.inl rfl)]
      have htx := fun H k => name_Text d.host H k (by have := hd.host; show _ ≤ 9223372036854775807; omega)
      obtain ⟨T2, e2, happ, _, c2, k2, _, b2⟩ := (hv'.more [.cells [.str (txtN d.host)] 9 .rw]).app3 (P := Tryz.prog) (b := 16) (by decide) zok_38 [.str (txtN d.host)] 1 (by decide) rfl rfl (by simp only [fits, decide_eq_true_eq]; omega)
      simp only [go_sem, simprocAttr, hl, h3, h6, h7, h26, hb0, hb1, hT0, hT1, hT', hT'0, hT'l, hq, hnew, hbo, hd1, Dt.l0, Dt.l1, Dt.l2, hit, bslice_str, happ, htx]
      exact fin _ (K) _ _ _ _ hel rfl (k2 0 _ (hbo _) (fun m n h => (hv0 m n h).1)) (k2 1 _ (get_app hT'1) (fun m n h => (hv0 m n h).2)) b2 (by simp only [go_sem, simprocAttr, he, c2]) (by simp only [go_sem, simprocAttr, hl]) (by simp only [go_sem, simprocAttr, hl, h3]) (by simp only [go_sem, simprocAttr, hl, hT'l]) (by simp only [go_sem, simprocAttr, hl, h7]) (by simp only [go_sem, simprocAttr, hl, h26])
    · have hit : strIter (formS t) i = (.tuple [.bool true, .int .i64 (i : Nat), .int .i32 112], i + 1) := by rw [strIter_a (form_a t), itN_s hc]; rfl
      have hel : elemS d 112 K = [txtN d.host] := by unfold elemS; rw [if_pos (.inr rfl)]
      have htx := fun H k => name_Text d.host H k (by have := hd.host; show _ ≤ 9223372036854775807; omega)
      obtain ⟨T2, e2, happ, _, c2, k2, _, b2⟩ := (hv'.more [.cells [.str (txtN d.host)] 9 .rw]).app3 (P := Tryz.prog) (b := 16) (by decide) zok_38 [.str (txtN d.host)] 1 (by decide) rfl rfl (by simp only [fits, decide_eq_true_eq]; omega)
      simp only [go_sem, simprocAttr, hl, h3, h6, h7, h26, hb0, hb1, hT0, hT1, hT', hT'0, hT'l, hq, hnew, hbo, hd1, Dt.l0, Dt.l1, Dt.l2, hit, bslice_str, happ, htx]
      exact fin _ (K) _ _ _ _ hel rfl (k2 0 _ (hbo _) (fun m n h => (hv0 m n h).1)) (k2 1 _ (get_app hT'1) (fun m n h => (hv0 m n h).2)) b2 (by simp only [go_sem, simprocAttr, he, c2]) (by simp only [go_sem, simprocAttr, hl]) (by simp only [go_sem, simprocAttr, hl, h3]) (by simp only [go_sem, simprocAttr, hl, hT'l]) (by simp only [go_sem, simprocAttr, hl, h7]) (by simp only [go_sem, simprocAttr, hl, h26])
    · have hit : strIter (formS t) i = (.tuple [.bool true, .int .i64 (i : Nat), .int .i32 109], i + 1) := by rw [strIter_a (form_a t), itN_s hc]; rfl
      have hel : elemS d 109 K = [txtN d.mail] := by unfold elemS; rw [if_neg (by decide), if_pos rfl]
      have htx := fun H k => name_Text d.mail H k (by have := hd.mail; show _ ≤ 9223372036854775807; omega)
      obtain ⟨T2, e2, happ, _, c2, k2, _, b2⟩ := (hv'.more [.cells [.str (txtN d.mail)] 9 .rw]).app3 (P := Tryz.prog) (b := 16) (by decide) zok_38 [.str (txtN d.mail)] 1 (by decide) rfl rfl (by simp only [fits, decide_eq_true_eq]; omega)
      simp only [go_sem, simprocAttr, hl, h3, h6, h7, h26, hb0, hb1, hT0, hT1, hT', hT'0, hT'l, hq, hnew, hbo, hd1, Dt.l0, Dt.l1, Dt.l2, hit, bslice_str, happ, htx]
      exact fin _ (K) _ _ _ _ hel rfl (k2 0 _ (hbo _) (fun m n h => (hv0 m n h).1)) (k2 1 _ (get_app hT'1) (fun m n h => (hv0 m n h).2)) b2 (by simp only [go_sem, simprocAttr, he, c2]) (by simp only [go_sem, simprocAttr, hl]) (by simp only [go_sem, simprocAttr, hl, h3]) (by simp only [go_sem, simprocAttr, hl, hT'l]) (by simp only [go_sem, simprocAttr, hl, h7]) (by simp only [go_sem, simprocAttr, hl, h26])
    · have hK5 : K < 5 := by rw [← hK]; exact cnt_le hc hN
      obtain ⟨nn, hnn, hnl⟩ : ∃ nn : Nat, d.n K = (nn : Int) ∧ nn < 4294967296 := by
        have : is32 (d.n K) := by
          have : K = 0 ∨ K = 1 ∨ K = 2 ∨ K = 3 ∨ K = 4 := by omega
          rcases this with rfl | rfl | rfl | rfl | rfl
          · exact hd.n0
          · exact hd.n1
          · exact hd.n2
          · exact hd.n3
          · exact hd.n4
        exact ⟨(d.n K).toNat, by have := this.1; omega, by have := this.2; have := this; omega⟩
      have hld := fun e k => d.at hK5 e k
      rw [hnn] at hld
      have hel : elemS d c K = [decP nn] := by
        have h1 : c = 115 ∨ c = 108 := by simpa [isN] using hN
        unfold elemS
        rw [if_neg (by rcases h1 with rfl | rfl <;> decide), if_neg (by rcases h1 with rfl | rfl <;> decide), if_pos hN, hnn]; rfl
      have hfu := fun l k => fmt_uint nn (H ++ l) k (ht.old l) hnl
      have w1 : IntKind.u64.wrap (nn : Int) = (nn : Int) := wrap_u64 (by omega)
      have w2 : IntKind.i64.wrap ((K : Int) + 1) = ((K + 1 : Nat) : Int) := by rw [wrap_i64 (by omega)]; omega
      have hK' : K + 1 = K + (if isN c = true then 1 else 0) := by rw [if_pos hN]
      obtain ⟨T2, e2, happ, _, c2, k2, _, b2⟩ := (hv'.more [.cells [.str (decP nn)] 9 .rw]).app3 (P := Tryz.prog) (b := 16) (by decide) zok_38 [.str (decP nn)] 1 (by decide) rfl rfl (by simp only [fits, decide_eq_true_eq]; omega)
      have h1 : c = 115 ∨ c = 108 := by simpa [isN] using hN
      rcases h1 with rfl | rfl
      · have hit : strIter (formS t) i = (.tuple [.bool true, .int .i64 (i : Nat), .int .i32 115], i + 1) := by rw [strIter_a (form_a t), itN_s hc]; rfl
        simp only [go_sem, simprocAttr, hl, h3, h6, h7, h26, hb0, hb1, hT0, hT1, hT', hT'0, hT'l, hq, hnew, hbo, hd1, Dt.l0, Dt.l1, Dt.l2, hit, bslice_str, happ, hld, hfu, w1, w2, hK5]
        exact ⟨by omega, fin _ (K + 1) _ _ _ _ hel hK' (k2 0 _ (hbo _) (fun m n h => (hv0 m n h).1)) (k2 1 _ (get_app hT'1) (fun m n h => (hv0 m n h).2)) b2 (by simp only [go_sem, simprocAttr, he, c2]) (by simp only [go_sem, simprocAttr, hl]) (by simp only [go_sem, simprocAttr, hl, h3]) (by simp only [go_sem, simprocAttr, hl, hT'l]) (by simp only [go_sem, simprocAttr, hl, h7]) (by simp only [go_sem, simprocAttr, hl, h26])⟩
      · have hit : strIter (formS t) i = (.tuple [.bool true, .int .i64 (i : Nat), .int .i32 108], i + 1) := by rw [strIter_a (form_a t), itN_s hc]; rfl
        simp only [go_sem, simprocAttr, hl, h3, h6, h7, h26, hb0, hb1, hT0, hT1, hT', hT'0, hT'l, hq, hnew, hbo, hd1, Dt.l0, Dt.l1, Dt.l2, hit, bslice_str, happ, hld, hfu, w1, w2, hK5]
        exact ⟨by omega, fin _ (K + 1) _ _ _ _ hel hK' (k2 0 _ (hbo _) (fun m n h => (hv0 m n h).1)) (k2 1 _ (get_app hT'1) (fun m n h => (hv0 m n h).2)) b2 (by simp only [go_sem, simprocAttr, he, c2]) (by simp only [go_sem, simprocAttr, hl]) (by simp only [go_sem, simprocAttr, hl, h3]) (by simp only [go_sem, simprocAttr, hl, hT'l]) (by simp only [go_sem, simprocAttr, hl, h7]) (by simp only [go_sem, simprocAttr, hl, h26])⟩
    · -- 97
      have hit : strIter (formS t) i = (.tuple [.bool true, .int .i64 (i : Nat), .int .i32 97], i + 1) := by rw [strIter_a (form_a t), itN_s hc]; rfl
      have hel : elemS d 97 K = [joinS [46] (decA d.raw)] := by unfold elemS; rw [if_neg (by decide), if_neg (by decide), if_neg (by decide), if_pos rfl]
      have hrl := ga _ hcm rfl
      have hAl : (decA d.raw).length = 4 := by simp [decA, hrl]
      have hr0 : (List.replicate 4 (AV.str [])) = rowS (decA d.raw) 4 0 := rfl
      have hz : ([AV.str [], AV.str [], AV.str [], AV.str []] : List AV) = rowS (decA d.raw) 4 0 := rfl
      simp only [go_sem, simprocAttr, hl, h3, h6, h7, h26, hb0, hb1, hT0, hT1, hT', hT'0, hT'l, hq, hnew, hbo, hd1, Dt.l0, Dt.l1, Dt.l2, hit, hz]
      refine go_rounds (fun (r : Nat) (st : St) => ∃ σ j e, r + j = 4 ∧ st = ⟨σ, H ++ (T' ++ [.cells (rowS (decA d.raw) 4 j) 43 .rw]), e⟩ ∧ clean H.length e ∧ σ.length = 169 ∧ fr σ 3 = .ptr H.length 0 ∧ fr σ 6 = v ∧ fr σ 7 = .int .i64 (K : Nat) ∧ fr σ 26 = .ptr (H.length + 1) 0 ∧ fr σ 10 = .ptr (H.length + q) 0 ∧ fr σ 99 = .int .i64 (j : Nat)) 4
        ⟨_, 0, _, rfl, rfl, by simp only [go_sem, simprocAttr, he], by simp only [go_sem, simprocAttr, hl], by simp only [go_sem, simprocAttr, hl, h3], by simp only [go_sem, simprocAttr, hl, h6], by simp only [go_sem, simprocAttr, hl, h7], by simp only [go_sem, simprocAttr, hl, h26], by simp only [go_sem, simprocAttr, hl], by simp only [go_sem, simprocAttr, hl]⟩ ?_
      clear hl h3 h6 h7 h26 he
      rintro r _ ⟨σ, j, e, hr, rfl, he, hl, h3, h6, h7, h26, ha, hj⟩
      by_cases hjn : j < 4
      · obtain ⟨b, hb⟩ : ∃ b, d.raw[j]? = some b := ⟨_, List.getElem?_eq_getElem (by omega)⟩
        have hA : (decA d.raw)[j]? = some (decP b.toNat) := by simp [decA, hb]
        have hbl := b.toNat_lt
        have hit2 := fun l k => itoa b.toNat (H ++ l) k (ht.old l) (by omega)
        have hput := rowS_put (n := 4) hA hjn
        have hrwl := rowS_len (A := decA d.raw) (n := 4) (j := j) (by omega) (by omega)
        have w1 : IntKind.i64.wrap (b.toNat : Int) = (b.toNat : Int) := wrap_i64 (by omega)
        have hw := wrap_succ (show j < 9223372036854775807 by omega)
        have hjr : j < d.raw.length := by omega
        have hjd : decide ((j : Int) < 4) = true := by simp; omega
        have dq : decide (q < T'.length + 1) = true := by simp; omega
        simp only [go_sem, simprocAttr, hl, h3, h6, h7, h26, ha, hj, hT'l, hq, hnew, hbo, Dt.l0, hb, hit2, hput, hrwl, w1, hw, hjn, hjr, hjd]
        exact ⟨by omega, by omega, r - 1, by omega, _, j + 1, _, by omega, by rw [hset], by simp only [go_sem, simprocAttr, he], by simp only [go_sem, simprocAttr, hl], by simp only [go_sem, simprocAttr, hl, h3], by simp only [go_sem, simprocAttr, hl, h6], by simp only [go_sem, simprocAttr, hl, h7], by simp only [go_sem, simprocAttr, hl, h26], by simp only [go_sem, simprocAttr, hl, ha], by simp only [go_sem, simprocAttr, hl]⟩
      · have hj4 : j = 4 := by omega
        subst hj4
        have hrow : rowS (decA d.raw) 4 4 = strs (decA d.raw) := rowS_end hAl
        rw [hrow]
        have hsv : Sv (H ++ (T' ++ [.cells (strs (decA d.raw)) 43 .rw])) (.slice (H.length + q) 0 4 (.ex 4)) (decA d.raw) := ⟨_, _, 43, .rw, by rw [hAl], by rw [hp_new]; exact hnew _ _, .inl (by rw [hAl]), by omega⟩
        have hjo := fun k => s_Join [46] (decA d.raw) _ _ k hsv (by decide) (by decide) (by omega) (by intro x hx; simp only [decA, List.mem_map] at hx; obtain ⟨b, _, rfl⟩ := hx; exact decP_pos _) (by have := totS_le (decA d.raw) 256 (by intro x hx; simp only [decA, List.mem_map] at hx; obtain ⟨b, _, rfl⟩ := hx; have := decP_le b.toNat; have := b.toNat_lt; omega); omega)
        obtain ⟨T2, e2, happ, _, c2, k2, _, b2⟩ := (hv'.more [.cells (strs (decA d.raw)) 43 .rw, .cells [.str (joinS [46] (decA d.raw))] 9 .rw]).app3 (P := Tryz.prog) (b := 16) (by decide) zok_38 [.str (joinS [46] (decA d.raw))] 1 (by decide) rfl rfl (by simp only [fits, decide_eq_true_eq]; omega)
        have hnew2 : ∀ (x y : ABlk), (T' ++ [x, y])[q + 1]? = some y := fun x y => by rw [← hT'l, List.getElem?_append_right (by omega)]; simp
        simp only [go_sem, simprocAttr, hl, h3, h6, h7, h26, ha, hj, hT'l, hq, hnew, hnew2, hbo, bslice_str, hjo, happ]
        exact fin _ (K) _ _ _ _ hel rfl (k2 0 _ (by exact hbo _) (fun m n h => (hv0 m n h).1)) (k2 1 _ (get_app hT'1) (fun m n h => (hv0 m n h).2)) b2 (by simp only [go_sem, simprocAttr, he, c2]) (by simp only [go_sem, simprocAttr, hl]) (by simp only [go_sem, simprocAttr, hl, h3]) (by simp only [go_sem, simprocAttr, hl, hT'l]) (by simp only [go_sem, simprocAttr, hl, h7]) (by simp only [go_sem, simprocAttr, hl, h26])
    · -- 113
      have hit : strIter (formS t) i = (.tuple [.bool true, .int .i64 (i : Nat), .int .i32 113], i + 1) := by rw [strIter_a (form_a t), itN_s hc]; rfl
      have hel : elemS d 113 K = [joinS [58] (hexA d.raw)] := by unfold elemS; rw [if_neg (by decide), if_neg (by decide), if_neg (by decide), if_neg (by decide), if_pos rfl]
      have hrl := gq _ hcm rfl
      have hAl : (hexA d.raw).length = 8 := by simp [hexA, hrl]
      have hr0 : (List.replicate 8 (AV.str [])) = rowS (hexA d.raw) 8 0 := rfl
      have hz : ([AV.str [], AV.str [], AV.str [], AV.str [], AV.str [], AV.str [], AV.str [], AV.str []] : List AV) = rowS (hexA d.raw) 8 0 := rfl
      simp only [go_sem, simprocAttr, hl, h3, h6, h7, h26, hb0, hb1, hT0, hT1, hT', hT'0, hT'l, hq, hnew, hbo, hd1, Dt.l0, Dt.l1, Dt.l2, hit, hz]
      refine go_rounds (fun (r : Nat) (st : St) => ∃ σ j e, r + j = 8 ∧ st = ⟨σ, H ++ (T' ++ [.cells (rowS (hexA d.raw) 8 j) 46 .rw]), e⟩ ∧ clean H.length e ∧ σ.length = 169 ∧ fr σ 3 = .ptr H.length 0 ∧ fr σ 6 = v ∧ fr σ 7 = .int .i64 (K : Nat) ∧ fr σ 26 = .ptr (H.length + 1) 0 ∧ fr σ 12 = .ptr (H.length + q) 0 ∧ fr σ 118 = .int .i64 (j : Nat)) 8
        ⟨_, 0, _, rfl, rfl, by simp only [go_sem, simprocAttr, he], by simp only [go_sem, simprocAttr, hl], by simp only [go_sem, simprocAttr, hl, h3], by simp only [go_sem, simprocAttr, hl, h6], by simp only [go_sem, simprocAttr, hl, h7], by simp only [go_sem, simprocAttr, hl, h26], by simp only [go_sem, simprocAttr, hl], by simp only [go_sem, simprocAttr, hl]⟩ ?_
      clear hl h3 h6 h7 h26 he
      rintro r _ ⟨σ, j, e, hr, rfl, he, hl, h3, h6, h7, h26, ha, hj⟩
      by_cases hjn : j < 8
      · obtain ⟨a, hxa⟩ : ∃ a, d.raw[2 * j]? = some a := ⟨_, List.getElem?_eq_getElem (by omega)⟩
        obtain ⟨b, hxb⟩ : ∃ b, d.raw[2 * j + 1]? = some b := ⟨_, List.getElem?_eq_getElem (by omega)⟩
        have hA : (hexA d.raw)[j]? = some (hexN (a.toNat * 256 + b.toNat)) := by simp [hexA, pairN, hxa, hxb, hjn]
        have hal := a.toNat_lt
        have hbl := b.toNat_lt
        have hit2 := fun l k => fmt_hex (a.toNat * 256 + b.toNat) (H ++ l) k (hdb.old l) (by omega)
        have hput := rowS_put (n := 8) hA hjn
        have hrwl := rowS_len (A := hexA d.raw) (n := 8) (j := j) (by omega) (by omega)
        have w0 : IntKind.i64.wrap (2 * (j : Int)) = ((2 * j : Nat) : Int) := by rw [wrap_i64 (by omega)]; omega
        have w1 : IntKind.i64.wrap (((2 * j : Nat) : Int) + 1) = ((2 * j + 1 : Nat) : Int) := by rw [wrap_i64 (by omega)]; omega
        have w2 : IntKind.u64.wrap (a.toNat : Int) = (a.toNat : Int) := wrap_u64 (by omega)
        have w3 : IntKind.u64.wrap (b.toNat : Int) = (b.toNat : Int) := wrap_u64 (by omega)
        have w4 : IntKind.u64.wrap ((a.toNat : Int) * 2 ^ (min 8 64)) = ((a.toNat * 256 : Nat) : Int) := by
          have e : (2 : Int) ^ (min 8 64) = 256 := by decide
          rw [e, wrap_u64 (by omega)]; omega
        have w5 : evInt .or .u64 ((a.toNat * 256 : Nat) : Int) (b.toNat : Int) = some (.int .u64 ((a.toNat * 256 + b.toNat : Nat) : Int)) := by
          have : (BitVec.ofInt 64 ((a.toNat * 256 : Nat) : Int) ||| BitVec.ofInt 64 (b.toNat : Int)).toNat = a.toNat * 256 + b.toNat := by
            rw [BitVec.toNat_or, BitVec.ofInt_natCast, BitVec.ofInt_natCast]
            simp only [BitVec.toNat_ofNat]
            rw [Nat.mod_eq_of_lt (show a.toNat * 256 < 2 ^ 64 by omega), Nat.mod_eq_of_lt (show b.toNat < 2 ^ 64 by omega)]
            have := Nat.shiftLeft_add_eq_or_of_lt (show b.toNat < 2 ^ 8 by omega) a.toNat
            rw [Nat.shiftLeft_eq] at this
            rw [← this]
          show some (AV.int .u64 (IntKind.u64.wrap ((BitVec.ofInt 64 ((a.toNat * 256 : Nat) : Int) ||| BitVec.ofInt 64 (b.toNat : Int)).toNat : Int))) = _
          rw [this, wrap_u64 (by omega)]
        have hw := wrap_succ (show j < 9223372036854775807 by omega)
        have hjr : 2 * j < d.raw.length := by omega
        have hjr2 : 2 * j + 1 < d.raw.length := by omega
        have hjd : decide ((j : Int) < 8) = true := by simp; omega
        have dq : decide (q < T'.length + 1) = true := by simp; omega
        simp only [go_sem, simprocAttr, hl, h3, h6, h7, h26, ha, hj, hT'l, hq, hnew, hbo, Dt.l0, hxa, hxb, hit2, hput, hrwl, w0, w1, w2, w3, w4, w5, hw, hjn, hjr, hjr2, hjd]
        refine go_drawZ tFollows (by kernel_rfl) ?_
        simp only [go_sem, simprocAttr, hl, h3, h6, h7, h26, ha, hj, hT'l, hq, hnew, hbo, Dt.l0, hxa, hxb, hit2, hput, hrwl, w0, w1, w2, w3, w4, w5, hw, hjn, hjr, hjr2, hjd]
        exact ⟨by omega, by omega, (by kernel_rfl : effOk _ _ _ = true), r - 1, by omega, _, j + 1, _, by omega, by rw [hset], by simp only [go_sem, simprocAttr, he], by simp only [go_sem, simprocAttr, hl], by simp only [go_sem, simprocAttr, hl, h3], by simp only [go_sem, simprocAttr, hl, h6], by simp only [go_sem, simprocAttr, hl, h7], by simp only [go_sem, simprocAttr, hl, h26], by simp only [go_sem, simprocAttr, hl, ha], by simp only [go_sem, simprocAttr, hl]⟩
      · have hj4 : j = 8 := by omega
        subst hj4
        have hrow : rowS (hexA d.raw) 8 8 = strs (hexA d.raw) := rowS_end hAl
        rw [hrow]
        have hsv : Sv (H ++ (T' ++ [.cells (strs (hexA d.raw)) 46 .rw])) (.slice (H.length + q) 0 8 (.ex 8)) (hexA d.raw) := ⟨_, _, 46, .rw, by rw [hAl], by rw [hp_new]; exact hnew _ _, .inl (by rw [hAl]), by omega⟩
        have hjo := fun k => s_Join [58] (hexA d.raw) _ _ k hsv (by decide) (by decide) (by omega) (by intro x hx; simp only [hexA, List.mem_map] at hx; obtain ⟨b, _, rfl⟩ := hx; exact hexN_pos _) (by have := totS_le (hexA d.raw) 65536 (by intro x hx; simp only [hexA, List.mem_map] at hx; obtain ⟨b, _, rfl⟩ := hx; have h1 := hexN_le (pairN d.raw b); have h2 : pairN d.raw b ≤ 65535 := (by unfold pairN; have := ((d.raw[2 * b]?).getD 0).toNat_lt; have := ((d.raw[2 * b + 1]?).getD 0).toNat_lt; omega); omega); omega)
        obtain ⟨T2, e2, happ, _, c2, k2, _, b2⟩ := (hv'.more [.cells (strs (hexA d.raw)) 46 .rw, .cells [.str (joinS [58] (hexA d.raw))] 9 .rw]).app3 (P := Tryz.prog) (b := 16) (by decide) zok_38 [.str (joinS [58] (hexA d.raw))] 1 (by decide) rfl rfl (by simp only [fits, decide_eq_true_eq]; omega)
        have hnew2 : ∀ (x y : ABlk), (T' ++ [x, y])[q + 1]? = some y := fun x y => by rw [← hT'l, List.getElem?_append_right (by omega)]; simp
        simp only [go_sem, simprocAttr, hl, h3, h6, h7, h26, ha, hj, hT'l, hq, hnew, hnew2, hbo, bslice_str, hjo, happ]
        exact fin _ (K) _ _ _ _ hel rfl (k2 0 _ (by exact hbo _) (fun m n h => (hv0 m n h).1)) (k2 1 _ (get_app hT'1) (fun m n h => (hv0 m n h).2)) b2 (by simp only [go_sem, simprocAttr, he, c2]) (by simp only [go_sem, simprocAttr, hl]) (by simp only [go_sem, simprocAttr, hl, h3]) (by simp only [go_sem, simprocAttr, hl, hT'l]) (by simp only [go_sem, simprocAttr, hl, h7]) (by simp only [go_sem, simprocAttr, hl, h26])
    · have hit : strIter (formS t) i = (.tuple [.bool true, .int .i64 (i : Nat), .int .i32 120], i + 1) := by rw [strIter_a (form_a t), itN_s hc]; rfl
      have hel : elemS d 120 K = ((txts d.raw).getD []).map quoP := by unfold elemS; rw [if_neg (by decide), if_neg (by decide), if_neg (by decide), if_neg (by decide), if_neg (by decide), if_pos rfl]
      have hok := gx _ hcm rfl
      obtain ⟨L, hL, hLn⟩ : ∃ L, txts d.raw = some L ∧ L ≠ [] := by
        cases h : txts d.raw with
        | none => rw [txOk_none h] at hok; cases hok
        | some L =>
          cases L with
          | nil => rw [txOk_nil h] at hok; cases hok
          | cons a b => exact ⟨_, rfl, by simp⟩
      rw [hL] at hel
      simp only [Option.getD_some] at hel
      obtain ⟨⟨bv, bT⟩, hb, htx⟩ := rdata_texts d.raw (H ++ T') hd.raw
      have hB := hb L hL hLn
      obtain ⟨rfl, _, h3'⟩ | ⟨g1, g2, bm, hbv, g3⟩ := hB
      · exact absurd (List.length_eq_zero_iff.1 h3') hLn
      simp only at hbv g3 htx
      subst hbv
      have hLl2 := txts_len hL
      have htx : ∀ k, callK Tryz.prog 14 [.str d.raw] (H ++ T') k = k (.tuple [.slice (H.length + (q + bm)) 0 L.length (.op 0), .bool (txOk d.raw)], H ++ (T' ++ bT), z0) := by
        intro k; rw [htx, List.length_append, hT'l, List.append_assoc, Nat.add_assoc]
      have g3' : (T' ++ bT)[q + bm]? = some (.cells (strs L) 9 (.op 0 false)) := by rw [← hT'l, List.getElem?_append_right (by omega), Nat.add_sub_cancel_left]; exact g3
      have hvB := hv'.more bT
      have hvm : ∀ m n, v = .slice (H.length + m) 0 n (.op 0) → m < q := by
        intro m n hvm
        obtain ⟨rfl, _⟩ | ⟨g1, g2, m', rfl, g3⟩ := hv'
        · cases hvm
        · injection hvm with q1 q2 q3 q4
          have := lt_of_get g3
          omega
      simp only [go_sem, simprocAttr, hl, h3, h6, h7, h26, hb0, hb1, hT0, hT1, hT', hT'0, hT'l, hq, hbo, hd1, Dt.l0, Dt.l1, Dt.l2, hit, htx]
      refine go_rounds (fun (r : Nat) (st : St) => ∃ σ j v T e, r + j = L.length ∧ st = ⟨σ, H ++ T, e⟩ ∧ T[0]? = some (.cells d.cells 27 .rw) ∧ T[1]? = some (.iter (formS t) (i + 1)) ∧ T[q + bm]? = some (.cells (strs L) 9 (.op 0 false)) ∧ (∀ m n, v = .slice (H.length + m) 0 n (.op 0) → 0 ≠ m ∧ 1 ≠ m ∧ q + bm ≠ m) ∧
          GBuf H.length T v 9 1 (L1.length + j) (strs L1 ++ strs ((L.take j).map quoP)) ∧ clean H.length e ∧ σ.length = 169 ∧ fr σ 3 = .ptr H.length 0 ∧ fr σ 6 = v ∧ fr σ 7 = .int .i64 (K : Nat) ∧ fr σ 26 = .ptr (H.length + 1) 0 ∧ fr σ 153 = .slice (H.length + (q + bm)) 0 L.length (.op 0) ∧ fr σ 154 = .int .i64 L.length ∧ fr σ 155 = .int .i64 (j : Nat)) L.length
        ⟨_, 0, v, T' ++ bT, _, rfl, rfl, get_app hT'0, get_app hT'1, g3', fun m n h => ⟨(hv0 m n h).1, (hv0 m n h).2, by have := hvm m n h; omega⟩, by simpa [strs] using hvB, by simp only [go_sem, simprocAttr, he], by simp only [go_sem, simprocAttr, hl], by simp only [go_sem, simprocAttr, hl, h3], by simp only [go_sem, simprocAttr, hl, h6], by simp only [go_sem, simprocAttr, hl, h7], by simp only [go_sem, simprocAttr, hl, h26], by simp only [go_sem, simprocAttr, hl], by simp only [go_sem, simprocAttr, hl], by simp only [go_sem, simprocAttr, hl]⟩ ?_
      clear hl h3 h6 h7 h26 he
      rintro r _ ⟨σ, j, v, T, e, hr, rfl, hT0, hT1, hTb, hvn, hv, he, hl, h3, h6, h7, h26, h153, h154, h155⟩
      by_cases hjn : j < L.length
      · obtain ⟨x, hx⟩ : ∃ x, L[j]? = some x := ⟨_, List.getElem?_eq_getElem hjn⟩
        have hxl : x.length ≤ 1048576 := by
          have h1 := totS_snoc hx
          have h2 := totS_take L (j + 1)
          have := hd.raw
          omega
        have hxl2 : x.length ≤ 65535 := by
          have h1 := totS_snoc hx
          have h2 := totS_take L (j + 1)
          omega
        have hld := strs_ld hx
        have hbb : (H ++ T)[H.length + (q + bm)]? = some (.cells (strs L) 9 (.op 0 false)) := by rw [hp_new]; exact hTb
        have hE := fun H' k => name_Escape x true H' k (by omega)
        have hEl := escS_len true x
        have a1 := add_ok (a := [34]) (b := escS true x) (m := 1) (n := 262140) (by simp) (by omega) (by omega)
        have a2 := add_ok (a := [34] ++ escS true x) (b := [34]) (m := 262141) (n := 1) (by rw [List.length_append, List.length_singleton]; omega) (by simp) (by omega)
        obtain ⟨T2, e2, happ, hT2l, c2, k2, _, b2⟩ := (hv.more [.cells [.str (quoP x)] 9 .rw]).app3 (P := Tryz.prog) (b := 16) (by decide) zok_38 [.str (quoP x)] 1 (by decide) rfl rfl (by simp only [fits, decide_eq_true_eq]; omega)
        have hw := wrap_succ (show j < 9223372036854775807 by omega)
        have hqp : 34 :: (escS true x ++ [34]) = quoP x := rfl
        simp only [go_sem, simprocAttr, hl, h3, h6, h7, h26, h153, h154, h155, hTb, hbb, hld, hE, a1, a2, hw, hjn, bslice_str, hqp, happ]
        have hbl := lt_of_get hTb
        have h1l := lt_of_get hT1
        refine ⟨by show _ ≤ 9223372036854775807; omega, r - 1, by omega, _, j + 1, _, T2, _, by omega, rfl, k2 0 _ (get_app hT0) (fun m n h => (hvn m n h).1), k2 1 _ (get_app hT1) (fun m n h => (hvn m n h).2.1), k2 _ _ (get_app hTb) (fun m n h => (hvn m n h).2.2), ?_, ?_, by simp only [go_sem, simprocAttr, he, c2], by simp only [go_sem, simprocAttr, hl], by simp only [go_sem, simprocAttr, hl, h3], by simp only [go_sem, simprocAttr, hl]; rfl, by simp only [go_sem, simprocAttr, hl, h7], by simp only [go_sem, simprocAttr, hl, h26], by simp only [go_sem, simprocAttr, hl, h153], by simp only [go_sem, simprocAttr, hl, h154], by simp only [go_sem, simprocAttr, hl]⟩
        · intro m n h
          injection h with z1 z2 z3 z4
          refine ⟨?_, ?_, ?_⟩ <;> omega
        · rw [take_snoc hx]
          simpa [strs, Nat.add_assoc] using b2
      · have hjL : j = L.length := by omega
        subst hjL
        rw [List.take_length] at hv
        simp only [go_sem, simprocAttr, hl, h3, h6, h7, h26, h153, h154, h155, hjn]
        exact fin _ K _ _ _ _ hel rfl hT0 hT1 (by simpa using hv) (by simp only [go_sem, simprocAttr, he]) (by simp only [go_sem, simprocAttr, hl]) (by simp only [go_sem, simprocAttr, hl, h3]) (by simp only [go_sem, simprocAttr, hl, h6]) (by simp only [go_sem, simprocAttr, hl, h7]) (by simp only [go_sem, simprocAttr, hl, h26])
    · have hit : strIter (formS t) i = (.tuple [.bool true, .int .i64 (i : Nat), .int .i32 114], i + 1) := by rw [strIter_a (form_a t), itN_s hc]; rfl
      have hi1 := fun l k => itoa d.raw.length (H ++ l) k (ht.old l) (by omega)
      obtain ⟨T2, e2, happ, hT2l, c2, k2, g2, b2⟩ := (hv'.more [.cells [.str [92, 35], .str (decP d.raw.length)] 9 .rw]).app3 (P := Tryz.prog) (b := 16) (by decide) zok_38 [.str [92, 35], .str (decP d.raw.length)] 2 (by decide) rfl rfl (by simp only [fits, decide_eq_true_eq]; omega)
      have q0 := k2 0 _ (hbo _) (fun m n h => (hv0 m n h).1)
      have q1 := k2 1 _ (get_app hT'1) (fun m n h => (hv0 m n h).2)
      have hT2l : T2.length = q + 2 := by rw [hT2l, List.length_append, hT'l]; rfl
      have hbs2 : ∀ (a b : List UInt8) (H : Hp), evBuildSlice Tryz.prog 38 2 [(0, .str a), (1, .str b)] H = some (.slice H.length 0 2 (.ex 2), H ++ [.cells [.str a, .str b] 9 .rw]) := by
        intro a b H
        simp only [evBuildSlice, tsh_38, tzero_9, Option.bind_some]
        rfl
      have q0l : ∀ l : Hp, (T2 ++ l)[0]? = some (.cells d.cells 27 .rw) := fun l => get_app q0
      by_cases hr0 : d.raw = []
      · have hel : elemS d 114 K = [[92, 35], decP d.raw.length] := by unfold elemS; rw [if_neg (by decide), if_neg (by decide), if_neg (by decide), if_neg (by decide), if_neg (by decide), if_neg (by decide), if_pos hr0]; rfl
        have hne : (d.raw == []) = true := by simp [hr0]
        simp only [go_sem, simprocAttr, hl, h3, h6, h7, h26, hb0, hb1, hT0, hT1, hT', hT'0, hT'l, hq, hnew, hbo, hd1, Dt.l0, Dt.l1, Dt.l2, hit, hi1, hbs2, happ, q0, hne]
        exact fin _ K _ _ _ _ hel rfl q0 q1 b2 (by simp only [go_sem, simprocAttr, he, c2]) (by simp only [go_sem, simprocAttr, hl]) (by simp only [go_sem, simprocAttr, hl, h3]) (by simp only [go_sem, simprocAttr, hl, hT'l]) (by simp only [go_sem, simprocAttr, hl, h7]) (by simp only [go_sem, simprocAttr, hl, h26])
      · have hel : elemS d 114 K = [[92, 35], decP d.raw.length, hexP d.raw] := by unfold elemS; rw [if_neg (by decide), if_neg (by decide), if_neg (by decide), if_neg (by decide), if_neg (by decide), if_neg (by decide), if_neg hr0]; rfl
        have hne : (d.raw == []) = false := by simp [hr0]
        simp only [go_sem, simprocAttr, hl, h3, h6, h7, h26, hb0, hb1, hT0, hT1, hT', hT'0, hT'l, hq, hnew, hbo, hd1, Dt.l0, Dt.l1, Dt.l2, hit, hi1, hbs2, happ, q0, q0l, hne, hT2l]
        have hbs0 : Bld H.length (T2 ++ [.cells [.nilp, .nils] 54 .rw]) (q + 2) (hexP (d.raw.take 0)) := ⟨_, _, by rw [← hT2l, List.getElem?_append_right (Nat.le_refl _), Nat.sub_self]; rfl, .inl rfl, .inl ⟨rfl, rfl⟩⟩
        have hfx : ∀ (c : List AV) (k : Kd), fixd (.cells c 9 k) = true := by intro c k; cases k <;> rfl
        refine go_rounds (fun (r : Nat) (st : St) => ∃ σ j T e, r + j = d.raw.length ∧ st = ⟨σ, H ++ T, e⟩ ∧ T[0]? = some (.cells d.cells 27 .rw) ∧ T[1]? = some (.iter (formS t) (i + 1)) ∧ T[q + 1]? = some (.cells (strs L1 ++ [.str [92, 35], .str (decP d.raw.length)]) 9 (.op 0 false)) ∧ Bld H.length T (q + 2) (hexP (d.raw.take j)) ∧ clean H.length e ∧ σ.length = 169 ∧ fr σ 3 = .ptr H.length 0 ∧ fr σ 6 = .slice (H.length + (q + 1)) 0 (L1.length + 2) (.op 0) ∧ fr σ 7 = .int .i64 (K : Nat) ∧ fr σ 26 = .ptr (H.length + 1) 0 ∧ fr σ 18 = .ptr (H.length + (q + 2)) 0 ∧ fr σ 43 = .int .i64 d.raw.length ∧ fr σ 44 = .int .i64 (j : Nat)) d.raw.length
          ⟨_, 0, _, _, rfl, rfl, get_app q0, get_app q1, get_app (by rw [← g2, List.length_append, hT'l]; rfl), hbs0, by simp only [go_sem, simprocAttr, he, c2], by simp only [go_sem, simprocAttr, hl], by simp only [go_sem, simprocAttr, hl, h3], by simp only [go_sem, simprocAttr, hl, hT'l], by simp only [go_sem, simprocAttr, hl, h7], by simp only [go_sem, simprocAttr, hl, h26], by simp only [go_sem, simprocAttr, hl], by simp only [go_sem, simprocAttr, hl], by simp only [go_sem, simprocAttr, hl]⟩ ?_
        clear hl h3 h6 h7 h26 he
        rintro r _ ⟨σ, j, T, e, hr, rfl, hT0, hT1, hTl, hbd, he, hl, h3, h6, h7, h26, h18, h43, h44⟩
        have h2l := hbd.lt
        have hb0 : (H ++ T)[H.length]? = some (.cells d.cells 27 .rw) := by rw [hp_new0]; exact hT0
        by_cases hjn : j < d.raw.length
        · obtain ⟨b, hb⟩ : ∃ b, d.raw[j]? = some b := ⟨_, List.getElem?_eq_getElem hjn⟩
          have hbl := b.toNat_lt
          have hsn := hexP_snoc hb
          have hpl := hexP_len (d.raw.take j)
          rw [List.length_take] at hpl
          obtain ⟨T3, e3, b3, k3, c3, r3⟩ := b_wbyte H T (q + 2) _ (hexD (b.toNat / 16)) hbd (by simp only [fits, decide_eq_true_eq]; omega)
          obtain ⟨T4, e4, b4, k4, c4, r4⟩ := b_wbyte H T3 (q + 2) _ (hexD (b.toNat % 16)) b3 (by simp only [fits, decide_eq_true_eq]; rw [List.length_append, List.length_singleton]; omega)
          have c3 := c3.cln
          have c4 := c4.cln
          have k30 := k3.2 0 _ (by omega) hT0 rfl
          have k31 := k3.2 1 _ (by omega) hT1 rfl
          have k3l := k3.2 (q + 1) _ (by omega) hTl (hfx _ _)
          have k40 := k4.2 0 _ (by omega) k30 rfl
          have k41 := k4.2 1 _ (by omega) k31 rfl
          have k4l := k4.2 (q + 1) _ (by omega) k3l (hfx _ _)
          have s1 : (b.toNat : Int).fdiv (2 ^ min 4 8) = ((b.toNat / 16 : Nat) : Int) := by
            have : (2 : Int) ^ min 4 8 = 16 := by decide
            rw [this, Int.fdiv_eq_ediv_of_nonneg _ (by omega)]; omega
          have s2 : evInt .and .u8 (b.toNat : Int) 15 = some (.int .u8 ((b.toNat % 16 : Nat) : Int)) := by
            have : (BitVec.ofInt 8 (b.toNat : Int) &&& BitVec.ofInt 8 15).toNat = b.toNat % 16 := by
              rw [BitVec.toNat_and, BitVec.ofInt_natCast]
              simp only [BitVec.toNat_ofNat]
              rw [Nat.mod_eq_of_lt (show b.toNat < 2 ^ 8 by omega)]
              exact Nat.and_two_pow_sub_one_eq_mod b.toNat 4
            show some (AV.int .u8 (IntKind.u8.wrap ((BitVec.ofInt 8 (b.toNat : Int) &&& BitVec.ofInt 8 15).toNat : Int))) = _
            rw [this, wrap_u8 (by omega)]
          have hx1 := hexD_at (n := b.toNat / 16) (by omega)
          have hx2 := hexD_at (n := b.toNat % 16) (by omega)
          have hy1 : b.toNat / 16 < 16 := by omega
          have hy2 : b.toNat % 16 < 16 := by omega
          have hw := wrap_succ (show j < 9223372036854775807 by omega)
          simp only [go_sem, simprocAttr, hl, h3, h6, h7, h26, h18, h43, h44, hT0, k30, hb0, Dt.l0, hb, s1, s2, hx1, hx2, hy1, hy2, r3, r4, hw, hjn]
          exact ⟨r - 1, by omega, _, j + 1, T4, _, by omega, rfl, k40, k41, k4l, by rw [hsn]; simpa [twoP, List.append_assoc] using b4, by simp only [go_sem, simprocAttr, he, c3, c4], by simp only [go_sem, simprocAttr, hl], by simp only [go_sem, simprocAttr, hl, h3], by simp only [go_sem, simprocAttr, hl, h6], by simp only [go_sem, simprocAttr, hl, h7], by simp only [go_sem, simprocAttr, hl, h26], by simp only [go_sem, simprocAttr, hl, h18], by simp only [go_sem, simprocAttr, hl, h43], by simp only [go_sem, simprocAttr, hl]⟩
        · have hjL : j = d.raw.length := by omega
          subst hjL
          rw [List.take_length] at hbd
          have hpl := hexP_len d.raw
          obtain ⟨T3, e3, k3, c3, r3⟩ := b_stringK H T (q + 2) _ hbd (by omega)
          have k30 := k3.2 0 _ (by omega) hT0 rfl
          have k31 := k3.2 1 _ (by omega) hT1 rfl
          have k3l := k3.2 (q + 1) _ (by omega) hTl (hfx _ _)
          have gb3 : GBuf H.length T3 (.slice (H.length + (q + 1)) 0 (L1.length + 2) (.op 0)) 9 1 (L1.length + 2) (strs L1 ++ [.str [92, 35], .str (decP d.raw.length)]) := .inr ⟨by omega, by simp [strs], q + 1, rfl, k3l⟩
          obtain ⟨T4, e4, happ2, hT4l, c4, k4, _, b4⟩ := (gb3.more [.cells [.str (hexP d.raw)] 9 .rw]).app3 (P := Tryz.prog) (b := 16) (by decide) zok_38 [.str (hexP d.raw)] 1 (by decide) rfl rfl (by simp only [fits, decide_eq_true_eq]; omega)
          have hql : 1 < q := by have := lt_of_get hT'1; omega
          have kk0 := k4 0 _ (get_app k30) (fun m n h => by injection h with z1 z2 z3 z4; omega)
          have kk1 := k4 1 _ (get_app k31) (fun m n h => by injection h with z1 z2 z3 z4; omega)
          generalize hvv : AV.slice (H.length + (q + 1)) 0 (L1.length + 2) (.op 0) = vv at h6 happ2
          simp only [go_sem, simprocAttr, hl, h3, h6, h7, h26, h18, h43, h44, hjn, r3, bslice_str, happ2]
          exact fin _ K _ _ _ _ hel rfl kk0 kk1 (by simpa [strs, Nat.add_assoc] using b4) (by simp only [go_sem, simprocAttr, he, c3, c4]) (by simp only [go_sem, simprocAttr, hl]) (by simp only [go_sem, simprocAttr, hl, h3]) (by simp only [go_sem, simprocAttr, hl]) (by simp only [go_sem, simprocAttr, hl, h7]) (by simp only [go_sem, simprocAttr, hl, h26])
  · -- done
    have hi : i = (formS t).length := by omega
    have hit : strIter (formS t) i = (.tuple [.bool false], i) := by rw [strIter_a (form_a t), itN_n (by rw [hi]; simp)]
    have hst : T.set 1 (.iter (formS t) i) = T := set_get hT1
    rw [hi, List.take_length] at hv
    obtain ⟨sf1, sf2⟩ := show_fine hd hg (formS t) 0 (fun c h => h)
    have hpos := show_some t d hg
    have hLl := showL_len d hd (formS t) 0
    obtain ⟨_, _, h0⟩ | ⟨g1, g2, vm, rfl, g3⟩ := hv
    · omega
    have hsv : Sv (H ++ T) (.slice (H.length + vm) 0 (showL d (formS t) 0).length (.op 0)) (showL d (formS t) 0) := ⟨_, _, _, _, rfl, by rw [hp_new]; exact g3, .inr ⟨rfl, rfl, _, _, rfl⟩, hpos⟩
    have hjo := fun k => s_Join [32] (showL d (formS t) 0) _ _ k hsv (by decide) (by decide) (by omega) sf1 (by omega)
    simp only [go_sem, simprocAttr, hl, h3, h6, h7, h26, hb1, hT1, hd1, hit, hst, hjo]
    exact leave_flat rfl (clean_and he (by simp [clean, low]))

set_option maxRecDepth 20000 in
theorem rdata_Show0 (t : Int) (d : Dt) (H) (hk : Tk H) (hd : d.wf) (hg : goodB t d = false) : callK Tryz.prog 4 [.int .u16 t, .agg d.cells] H (fun q => q = (.tuple [.str [], .int .i64 40], H, z0)) := by
  refine callK_start (n := 169) (rs := [.tmp 4, .tmp 5]) Tryz.func4 rfl rfl rfl ?_
  intro σ hl ha
  have h0 := ha 0 (by simp)
  have h1 := ha 1 (by simp)
  clear ha
  simp only [Option.getD_some, List.getElem?_cons_zero, List.getElem?_cons_succ] at h0 h1
  have hck := fun k => rdata_Check t d (H ++ [.cells d.cells 27 .rw]) k (hk.old _) hd
  have hc0 : chk t d = 40 := if_neg (by rw [hg]; simp)
  rw [hc0] at hck
  simp only [go_sem, simprocAttr, hl, h0, h1, hck, Dt.l8, Dt.vc, Dt.len]
def tellS (t : Int) (d : Dt) : List UInt8 := if goodB t d = true then showS t d else []
theorem rdata_ShowK (t : Int) (d : Dt) (H k) (hk : Tk H) (ht : Tb H) (hdb : Db H) (hd : d.wf) : callK Tryz.prog 4 [.int .u16 t, .agg d.cells] H k = k (.tuple [.str (tellS t d), .int .i64 (chk t d)], H, z0) := by
  cases hg : goodB t d with
  | true =>
    rw [show tellS t d = showS t d from if_pos hg, show chk t d = 0 from if_pos hg]
    exact callK_eq (rdata_Show t d H hk ht hdb hd hg) k
  | false =>
    rw [show tellS t d = [] from if_neg (by rw [hg]; simp), show chk t d = 40 from if_neg (by rw [hg]; simp)]
    exact callK_eq (rdata_Show0 t d H hk hd hg) k
end Go.Proofs.YtgkpgpdkolpfkaaGreatDoor.V
namespace Go.Proofs.YtgkpgpdkolpfkaaGreatDoor.V
open Go
theorem k_makeMap {P : Program} {σ : List AV} {H : Hp} {t : TypeId} {kk : AV × Hp × Ef → Prop} (h : (match tsh P t with | some (.map _ _) => true | _ => false) = true) : opK P σ H (.makeMap t none) kk = kk (.map H.length, H ++ [.map []], z0) := by
  show stepK _ _ = _
  simp only [evOp]
  split at h
  · rename_i e; rw [e]; rfl
  · cases h
theorem callK_yI {P : Program} {b : Nat} {args : List AV} {H : Hp} {kk : AV × Hp × Ef → Prop} (h : bindK (asReady (H[b]?)) fun L => (args.length = L.ps.length ∧ noRange L.az = true) ∧ go P (rdQ P b H.length L.bd kk) [.code L.az] ⟨putAll L.σ L.ps args, H, z0⟩) :
    callK P (P.funcs.size + b) args H kk := by
  cases hb : H[b]? with
  | none => rw [hb] at h; simp [asReady, bindK] at h
  | some x =>
    rw [hb] at h
    cases x <;> try (simp [asReady, bindK] at h; done)
    rename_i s1 p1 a1 b1 m1
    cases m1 <;> try (simp [asReady, bindK] at h; done)
    have h' : (args.length = p1.length ∧ noRange a1 = true) ∧ go P (rdQ P b H.length b1 kk) [It.code a1] ⟨putAll s1 p1 args, H, z0⟩ := by simpa only [asReady, bindK] using h
    obtain ⟨⟨h1, h2⟩, h3⟩ := h'
    rw [callK_yl hb h1 h2]
    exact h3
attribute [local irreducible] go goOps goD opK callK callT stepK leaveTo nextK

set_option maxRecDepth 20000 in
theorem size16 (H k) : callK Tryz.prog 64 [] H k = k (.int .i64 2, H, z0) := by
  refine callK_eq (r := (.int .i64 2, H, z0)) ?_ k
  refine callK_start (n := 19) (rs := [.tmp 0]) Tryz.func64 rfl rfl rfl ?_
  intro σ hl ha
  clear ha
  have w2 : IntKind.u16.wrap 0 = 0 := by decide
  have w3 : IntKind.u16.wrap (-1) = 65535 := by decide
  have w4 : IntKind.u32.wrap 65535 = 65535 := by decide
  have g1 : decide ((65535 : Int).fdiv (2 ^ min 7 32) > 1) = true := by decide
  have g2 : decide ((65535 : Int).fdiv (2 ^ min 15 32) > 1) = false := by decide
  simp only [go_sem, simprocAttr, hl, w2, w3]
  rw [go_loop]
  simp only [go_sem, simprocAttr, hl, w2, w3, w4, g1]
  rw [go_loop]
  simp only [go_sem, simprocAttr, hl, w2, w3, w4, g2]

def Own (n : Nat) (T : Hp) (v : AV) (bs : List UInt8) : Prop := ∃ m, v = .slice (n + m) 0 bs.length (.op 0) ∧ T[m]? = some (.cells (u8s bs) 5 (.op 0 false))
theorem Own.rd {H T : Hp} {v : AV} {bs : List UInt8} (h : Own H.length T v bs) : Rd (H ++ T) v bs := by
  obtain ⟨m, rfl, hm⟩ := h
  exact .inr ⟨_, _, _, [], [], 5, .op 0 false, rfl, rfl, by rw [hp_new, hm]; simp, .inr ⟨rfl, rfl, 0, false, rfl⟩⟩

set_option maxRecDepth 20000 in
theorem wk_put16 (H k) : callK Tryz.prog 41 [.nils, .int .u16 10] H k = k (.slice (H.length + 3) 0 2 (.op 0), H ++ [.cells [.int .u8 0] 5 .rw, .dead, .cells [.int .u8 10] 5 .rw, .cells [.int .u8 0, .int .u8 10] 5 (.op 0 false)], z0) := by
  refine callK_eq ?_ k
  refine callK_start (n := 28) (rs := [.tmp 4]) Tryz.func41 rfl rfl rfl ?_
  intro σ hl ha
  have h0 := ha 0 (by simp)
  have h1 := ha 1 (by simp)
  clear ha
  simp only [Option.getD_some, List.getElem?_cons_zero, List.getElem?_cons_succ] at h0 h1
  have hs := fun H k => size16 H k
  have hln : ∀ H', evLen Tryz.prog 52 .nils H' = some (.int .i64 0) := by intro H'; simp only [evLen, tsh_52]
  have fits1 : fits 1 1 = true := by decide
  have fits2 : fits 2 1 = true := by decide
  have wm : IntKind.i64.wrap (-1) = -1 := by decide
  have wg : decide ((-1 : Int) ≥ 0) = false := by decide
  have w1 : IntKind.u32.wrap 10 = 10 := by decide
  have w2 : IntKind.u8.wrap ((10 : Int).fdiv (2 ^ min 8 32)) = 0 := by decide
  have w3 : IntKind.u8.wrap ((10 : Int).fdiv (2 ^ min 0 32)) = 10 := by decide
  simp only [go_sem, simprocAttr, hl, h0, h1, hs, hln]
  rw [go_loop]
  simp only [go_sem, simprocAttr, hl, h0, h1, hs, hln, w1, w2, w3, bslice1, fits1, fits2, wm, wg]
  rw [go_loop]
  simp only [go_sem, simprocAttr, hl, h0, h1, hs, hln, w1, w2, w3, bslice1, fits1, fits2, wm, wg]
  rw [go_loop]
  simp only [go_sem, simprocAttr, hl, h0, h1, hs, hln, w1, w2, w3, bslice1, fits1, fits2, wm, wg]

attribute [go_sem ↓] k_makeMap
set_option maxRecDepth 20000 in
theorem press_New (H k) : callK Tryz.prog 19 [] H k = k (.ptr (H.length + 1) 0, H ++ [.map [], .cells [.map H.length] 91 .rw], z0) := by
  refine callK_eq (r := (.ptr (H.length + 1) 0, H ++ [.map [], .cells [.map H.length] 91 .rw], z0)) ?_ k
  refine callK_start (n := 4) (rs := [.tmp 0]) Tryz.func19 rfl rfl rfl ?_
  intro σ hl ha
  clear ha
  have hbd : ∀ n, evBuild Tryz.prog 91 [(0, .map n)] = some (.agg [.map n]) := by intro n; kernel_rfl
  simp only [go_sem, simprocAttr, hl, hbd]

theorem nm_wk : nm [1, 97, 0] = some [[97]] := by decide
set_option maxRecDepth 20000 in
theorem wk_parent (H k) : callK Tryz.prog 105 [.str [1, 97, 0]] H k = k (.tuple [.str [0], .bool true], H, z0) := by
  obtain ⟨⟨bv, bT⟩, hb, hst⟩ := name_starts [1, 97, 0] H (by decide)
  have hB := hb _ nm_wk
  rw [nm_wk] at hst
  simp only [Option.isSome_some] at hst
  refine callK_eq (r := (.tuple [.str [0], .bool true], H, z0)) ?_ k
  refine callK_start (n := 24) (rs := [.tmp 2, .tmp 3]) Tryz.func105 rfl rfl rfl ?_
  intro σ hl ha
  have h0 := ha 0 (by simp)
  clear ha
  simp only [Option.getD_some, List.getElem?_cons_zero, List.getElem?_cons_succ] at h0
  obtain ⟨rfl, _, h3⟩ | ⟨h1, h2, m, hbv, h3⟩ := hB
  · cases h3
  simp only at hbv hst
  subst hbv
  simp only [go_sem, simprocAttr, hl, h0, hst]
theorem leave_nf {n m : Nat} {v : AV} {e : Ef} (hv : flat v = false) (h : clean m e) : ∃ e', (∀ H, leave n v H e = (v, H, e')) ∧ clean m e' := by
  refine ⟨⟨low n e.es, low n e.ws⟩, fun H => ?_, low_low h.1, low_low h.2⟩
  unfold leave
  rw [if_neg (by rw [hv]; simp)]
theorem arg_nilf {P : Program} {σ : List AV} : evArg P σ (.const .nilFunc) = some .nilf := rfl
theorem und_Tp : Tryz.prog.underlying 61 = some (.pointer 91) := by kernel_rfl
theorem eqTp {b o : Nat} {c : Bool} : binV Tryz.prog .eql 61 (.ptr b o) .nilp c = some (.bool false) := by simp [binV, evBin, evEq, und_Tp]
theorem eqTn {c : Bool} : binV Tryz.prog .eql 61 .nilp .nilp c = some (.bool true) := by simp [binV, evBin, evEq, und_Tp]
attribute [go_sem] arg_nilf eqTp eqTn
set_option maxRecDepth 20000 in
theorem wk_fronts (H k) : callK Tryz.prog 87 [.str [1, 97, 0]] H k = k (.func (.func 104) [] [.ptr H.length 0], H ++ [.cells [.str [1, 97, 0]] 23 .rw], z0) := by
  refine callK_eq (r := (.func (.func 104) [] [.ptr H.length 0], H ++ [.cells [.str [1, 97, 0]] 23 .rw], z0)) ?_ k
  refine callK_start (n := 4) (rs := [.tmp 2]) Tryz.func87 rfl rfl rfl ?_
  intro σ hl ha
  have h0 := ha 0 (by simp)
  clear ha
  simp only [Option.getD_some, List.getElem?_cons_zero, List.getElem?_cons_succ] at h0
  simp only [go_sem, simprocAttr, hl, h0]

set_option maxRecDepth 20000 in
set_option maxHeartbeats 2000000 in
theorem wk_row (H T : Hp) (q : Nat) (hT1 : T[1]? = some (.map [])) (hT2 : T[2]? = some (.cells [.map (H.length + 1)] 91 .rw)) (hq : T[q]? = some (.cells (u8s [0, 10]) 5 (.op 0 false))) :
    callK Tryz.prog 63 [.ptr (H.length + 2) 0, .slice (H.length + q) 0 2 (.op 0), .str [1, 97, 0], .bool false] (H ++ T) (fun r => ∃ m L e, r = (.tuple [.slice (H.length + m) 0 5 (.ex 5), .int .i64 0], H ++ (T.set 1 (.map [(.str [1, 97, 0], .int .i64 2)]) ++ L), e) ∧ clean H.length e ∧ (T.set 1 (.map [(.str [1, 97, 0], .int .i64 2)]) ++ L)[m]? = some (.cells (u8s [0, 10, 1, 97, 0]) 5 .rw)) := by
  refine callK_start (n := 76) (rs := [.cell 8 52, .cell 9 28]) Tryz.func63 rfl rfl rfl ?_
  intro σ hl ha
  have h0 := ha 0 (by simp)
  have h1 := ha 1 (by simp)
  have h2 := ha 2 (by simp)
  have h3 := ha 3 (by simp)
  clear ha
  simp only [Option.getD_some, List.getElem?_cons_zero, List.getElem?_cons_succ] at h0 h1 h2 h3
  have hck := fun H k => name_Check [1, 97, 0] H k (by decide)
  rw [nm_wk] at hck
  have hfr := fun H k => wk_fronts H k
  have hl2 := lt_of_get hT2
  have hT1l : ∀ l : Hp, (T ++ l)[1]? = some (.map []) := fun l => get_app hT1
  have hT2l : ∀ l : Hp, (T ++ l)[2]? = some (.cells [.map (H.length + 1)] 91 .rw) := fun l => get_app hT2
  have hs1 : ∀ (x : ABlk) (l : Hp), (T ++ l).set 1 x = T.set 1 x ++ l := fun x l => List.set_append_left _ _ (by omega)
  have hg1 : ∀ (x : ABlk) (l : Hp) (k : Nat), (T.set 1 x ++ l)[T.length + k]? = l[k]? := fun x l k => by
    rw [List.getElem?_append_right (by simp)]; simp
  have hs2 : ∀ (x y : ABlk) (l : Hp) (k : Nat), (T.set 1 x ++ l).set (T.length + k) y = T.set 1 x ++ l.set k y := fun x y l k => by
    rw [List.set_append_right _ _ (by simp)]; simp
  have hsh : mapSh Tryz.prog 89 = some (.str, 3) := by simp only [mapSh, tsh_89, tsh_23]
  have htz : tzeroV Tryz.prog 3 = some (.int .i64 0) := by kernel_rfl
  have hlk : ∀ (l : Hp), evLookup Tryz.prog 89 (.map (H.length + 1)) (.str [1, 97, 0]) true (H ++ (T ++ l)) = some (.tuple [.int .i64 0, .bool false]) := by
    intro l
    have hg : (H ++ (T ++ l))[H.length + 1]? = some (.map []) := by rw [hp_new]; exact hT1l l
    simp only [evLookup, hsh, hg, Option.bind_some, findK, htz, Option.map_some, if_true]
  have hms : ∀ (l : Hp) (n : Int), evMapSet Tryz.prog 89 (.map (H.length + 1)) (.str [1, 97, 0]) (.int .i64 n) (H ++ (T ++ l)) = some (H ++ (T.set 1 (.map [(.str [1, 97, 0], .int .i64 n)]) ++ l), ⟨none, some (H.length + 1)⟩) := by
    intro l n
    have hg : (H ++ (T ++ l))[H.length + 1]? = some (.map []) := by rw [hp_new]; exact hT1l l
    simp only [evMapSet, hsh, hg, Option.bind_some, findK, Option.map_some, hp_set, hs1, List.nil_append]
    rfl
  have hmk : ∀ H', evMake Tryz.prog 52 (.int .i64 0) (.int .i64 5) H' = some (.slice H'.length 0 0 (.ex 5), H' ++ [.cells [.int .u8 0, .int .u8 0, .int .u8 0, .int .u8 0, .int .u8 0] 5 .rw]) := by
    intro H'
    simp only [evMake, tsh_52, tzero_5, Option.bind_some]
    rfl
  have hq0 : ∀ l : Hp, (T ++ l)[q]? = some (.cells [.int .u8 0, .int .u8 10] 5 (.op 0 false)) := fun l => get_app hq
  simp only [go_sem, simprocAttr, hl, h0, h1, h2, h3, hck, hfr, hmk, hq0]
  refine callK_start (n := 15) (rs := []) Tryz.func104 rfl rfl rfl ?_
  intro τ tl ta
  have t0 := ta 0 (by simp)
  have t1 := ta 1 (by simp)
  clear ta
  simp only [Option.getD_some, List.getElem?_cons_zero, List.getElem?_cons_succ] at t0 t1
  simp only [go_sem, simprocAttr]
  have r0 : (([1, 97, 0] : List UInt8) == [0]) = false := rfl
  have r1 : (([0] : List UInt8) == [0]) = true := rfl
  rw [go_loop]
  simp only [go_sem, simprocAttr, tl, t0, t1, r0]
  refine callK_yI ?_
  simp only [go_sem, simprocAttr, hl, h0, h1, h2, h3]
  refine ⟨rfl, ?_⟩
  simp only [go_sem, simprocAttr, hl, h0, h1, h2, h3, hT1l, hT2l, hs1, hg1, hs2, hlk, hms]
  refine go_drawZ tFollows (by kernel_rfl) ?_
  simp only [go_sem, simprocAttr, hl, h0, h1, h2, h3, hT1l, hT2l, hs1, hg1, hs2, hlk, hms]
  refine ⟨(by kernel_rfl : effOk _ _ _ = true), ?_⟩
  try simp only [go_sem, simprocAttr, hl, h0, h1, h2, h3, hT1l, hT2l, hs1, hg1, hs2, hlk, hms]
  have hmp : List.map (fun b : UInt8 => AV.int .u8 (b.toNat : Int)) [1, 97] = [.int .u8 1, .int .u8 97] := rfl
  have hpa := fun H k => wk_parent H k
  refine go_drawZ tFollows (by kernel_rfl) ?_
  simp only [go_sem, simprocAttr, hl, h0, h1, h2, h3, hT1l, hT2l, hs1, hg1, hs2, hlk, hms, hmp, tl, t0, t1, hpa]
  refine ⟨(by kernel_rfl : effOk _ _ _ = true), ?_⟩
  obtain ⟨e1, he1, hlv⟩ := (show Cl H.length (T.length + 5) (Ef.and (Ef.and (Ef.and (Ef.and ⟨none, some (H.length + (T.length + 7))⟩ ⟨none, some (H.length + 1)⟩) ⟨none, some (H.length + (T.length + 4))⟩) ⟨some (H.length + (T.length + 5)), some (H.length + (T.length + 5))⟩) ⟨none, some (H.length + (T.length + 7))⟩) from .andl (.andr (clean_and (clean_and (by simp [clean, low]) (by simp [clean, low])) (by simp [clean, low])) ⟨_, rfl, by omega, by omega, by simp [low]⟩) (by simp [clean, low])).leave (m := H.length + (T.length + 8)) (by omega)
  simp only [go_sem, simprocAttr, hl, h0, h1, h2, h3, hT1l, hT2l, hs1, hg1, hs2, hlk, hms, hmp, tl, t0, t1, hpa, hlv, r0, r1]
  rw [go_loop]
  simp only [go_sem, simprocAttr, hl, h0, h1, h2, h3, hT1l, hT2l, hs1, hg1, hs2, hlk, hms, hmp, tl, t0, t1, hpa, hlv, r0, r1]
  obtain ⟨e2, he2, hlv2⟩ := (show Cl H.length (T.length + 5) (Ef.and e1 ⟨none, some (H.length + (T.length + 6))⟩) from .andl he1 (by simp [clean, low])).leave (m := H.length + (T.length + 8)) (by omega)
  simp only [go_sem, simprocAttr, hl, h0, h1, h2, h3, hT1l, hT2l, hs1, hg1, hs2, hlk, hms, hmp, tl, t0, t1, hpa, hlv2, bslice1]
  have c2 := he2.cln
  obtain ⟨e3, h4, h5⟩ := leave_nf (n := H.length + T.length) (m := H.length) (v := .tuple [.slice (H.length + (T.length + 4)) 0 5 (.ex 5), .int .i64 0]) (by simp [flat, flats]) (e := Ef.and (Ef.and (Ef.and (Ef.and (Ef.and ⟨none, some (H.length + (T.length + 4))⟩ ⟨some (H.length + (T.length + 5)), some (H.length + (T.length + 5))⟩) (Ef.and e2 ⟨none, some (H.length + (T.length + 7))⟩)) ⟨none, some (H.length + (T.length + 4))⟩) ⟨some (H.length + (T.length + 2)), some (H.length + (T.length + 2))⟩) ⟨none, some (H.length + (T.length + 3))⟩)
    (clean_and (clean_and (clean_and (clean_and (clean_and (by simp [clean, low]) (by simp [clean, low])) (clean_and c2 (by simp [clean, low]))) (by simp [clean, low])) (by simp [clean, low])) (by simp [clean, low]))
  refine ⟨T.length + 4, _, e3, h4 _, h5, ?_⟩
  rw [hg1]; rfl
end Go.Proofs.YtgkpgpdkolpfkaaGreatDoor.V
