/- Joined by mkclaim.py: WBackB. No conditions. -/
import Derived.Test.YtgkpgpdkolpfkaaDoorJ5
namespace Go.Proofs.YtgkpgpdkolpfkaaDoor.V
open Go
set_option linter.unusedSimpArgs false
set_option linter.unusedVariables false

def posC (ats : List Nat) : List AV := ats.map fun p => .int .i64 (p : Nat)
theorem posC_len (ats : List Nat) : (posC ats).length = ats.length := by simp [posC]
theorem posC_app (a b : List Nat) : posC (a ++ b) = posC a ++ posC b := by simp [posC]
theorem posC_at {ats : List Nat} {i p : Nat} (h : ats[i]? = some p) : (posC ats)[i]? = some (.int .i64 (p : Nat)) := by simp [posC, h]
/-- What is kept is read at its places. -/
def KR (A : List UInt8) (ats : List Nat) (ks : List Itm) : Prop := ats.length = ks.length ∧ ∀ (j : Nat) (x : Itm), ks[j]? = some x →
  ∃ p q, ats[j]? = some p ∧ (ats ++ [A.length])[j + 1]? = some q ∧ p ≤ q ∧ q ≤ A.length ∧ x.d.wf ∧ goodB x.ty x.d = true ∧ ∀ ys, Rds (A ++ ys) q x.d (formS x.ty) 0 p
theorem KR.snoc {A zs : List UInt8} {ats : List Nat} {ks : List Itm} (h : KR A ats ks) {x : Itm} (hw : x.d.wf) (hg : goodB x.ty x.d = true) (hr : ∀ ys, Rds ((A ++ zs) ++ ys) (A ++ zs).length x.d (formS x.ty) 0 A.length) : KR (A ++ zs) (ats ++ [A.length]) (ks ++ [x]) := by
  obtain ⟨h1, h2⟩ := h
  refine ⟨by simp [h1], fun j y hy => ?_⟩
  by_cases hj : j < ks.length
  · rw [List.getElem?_append_left hj] at hy
    obtain ⟨p, q, a, b, c, e, f, g, i⟩ := h2 j y hy
    refine ⟨p, q, geta a, ?_, c, by rw [List.length_append]; omega, f, g, fun ys => by rw [List.append_assoc]; exact i _⟩
    rw [List.append_assoc]
    rw [List.getElem?_append] at b ⊢
    split at b
    · rename_i hlt; rw [if_pos hlt]; exact b
    · rename_i hlt
      rw [if_neg hlt]
      have : j + 1 - ats.length = 0 := by omega
      rw [this] at b ⊢
      exact b
  · rw [List.getElem?_append_right (by omega)] at hy
    have hj0 : j - ks.length = 0 := by
      cases hq : j - ks.length with
      | zero => rfl
      | succ q => rw [hq] at hy; simp at hy
    rw [hj0] at hy
    simp only [List.getElem?_cons_zero, Option.some.injEq] at hy
    subst hy
    refine ⟨A.length, (A ++ zs).length, ?_, ?_, by rw [List.length_append]; omega, Nat.le_refl _, hw, hg, hr⟩
    · rw [List.getElem?_append_right (by omega), show j - ats.length = 0 by omega]; rfl
    · rw [List.getElem?_append_right (by simp; omega)]
      have : j + 1 - (ats ++ [A.length]).length = 0 := by simp; omega
      rw [this]; rfl
/-- What the law's first loop holds. -/
structure Bw (H Hc : Hp) (bv av kv : AV) (A : List UInt8) (tab : Tab) (ats : List Nat) (ks : List Itm) : Prop where
  m : Hc[H.length]? = some (.map (tabE tab))
  t : Hc[H.length + 1]? = some (.cells [.map H.length] 59 .rw)
  b : Bf H.length Hc bv A
  a : Og (H.length + 1) 3 Hc av (posC ats)
  k : Kp (H.length + 1) Hc kv ks
  old : ∀ (i : Nat) (x : ABlk), H[i]? = some x → Hc[i]? = some x
  n : near tab
  g : GoodT A tab
  r : KR A ats ks
theorem Bw.fresh {H Hc : Hp} {bv av kv : AV} {A : List UInt8} {tab : Tab} {ats : List Nat} {ks : List Itm} (h : Bw H Hc bv av kv A tab ats ks) : H.length + 1 < Hc.length := lt_of_get h.t
/-- A place and an item put in. -/
theorem bw_add {H Hc : Hp} {av kv : AV} {ats : List Nat} {ks : List Itm} (hf : H.length + 1 < Hc.length) (ha : Og (H.length + 1) 3 Hc av (posC ats)) (hk : Kp (H.length + 1) Hc kv ks) (p : Nat) (x : Itm) (hl : ats.length ≤ 1000) (hl2 : ks.length ≤ 1000) :
    ∃ (av1 : AV) (H1 : Hp) (e1 : Ef), (∀ kk, stepK (appTo Tryd.prog (.slice 3 1 8) av ([.int .i64 (p : Nat)], 1) (Hc ++ [.cells [.int .i64 (p : Nat)] 3 .rw])) kk = kk (av1, H1, e1)) ∧ clean H.length e1 ∧ Hc.length ≤ H1.length ∧
      Og (H.length + 1) 3 H1 av1 (posC (ats ++ [p])) ∧ (∀ (i : Nat) (y : ABlk), bk av ≠ some i → Hc[i]? = some y → H1[i]? = some y) ∧
    ∃ (kv1 : AV) (H2 : Hp) (e2 : Ef), (∀ kk, stepK (appTo Tryd.prog (.slice 39 10 88) kv (x.cells, 1) (H1 ++ [.cells x.cells 39 .rw])) kk = kk (kv1, H2, e2)) ∧ clean H.length e2 ∧ H1.length ≤ H2.length ∧
      Og (H.length + 1) 3 H2 av1 (posC (ats ++ [p])) ∧ Kp (H.length + 1) H2 kv1 (ks ++ [x]) ∧ (∀ (i : Nat) (y : ABlk), bk av ≠ some i → bk kv ≠ some i → Hc[i]? = some y → H2[i]? = some y) := by
  have hO : Og (H.length + 1) 3 (Hc ++ [.cells [.int .i64 (p : Nat)] 3 .rw]) av (posC ats) := ha.keep (fun i x _ hx => get_app hx)
  obtain ⟨av1, H1, e1, a1, a2, a3, a4, a5, a6, _, _⟩ := hO.app (w := 8) (by simp; omega) zok_28 [.int .i64 (p : Nat)] rfl (by rw [posC_len]; simp [fits]; omega)
  have a2 : Og (H.length + 1) 3 H1 av1 (posC (ats ++ [p])) := by rw [posC_app]; exact a2
  have hk1 : Kp (H.length + 1) H1 kv ks := hk.keep (fun i x hi hx => a4 i x (fun hh => by
    have c1 := (ha.cells hh).2
    have c2 := (hk.cells hi).2
    rw [c1] at c2
    simp only [Option.some.injEq, ABlk.cells.injEq] at c2
    exact absurd c2.2.1 (by decide)) (get_app hx))
  have hk2 : Kp (H.length + 1) (H1 ++ [.cells x.cells 39 .rw]) kv ks := hk1.keep (fun i x _ hx => get_app hx)
  simp only [List.length_append] at a3
  obtain ⟨kv1, H2, e2, b1, b2, b3, b4, b5⟩ := hk2.app (by simp; omega) x (by simp only [fits, decide_eq_true_eq]; omega)
  simp only [List.length_append] at b3
  refine ⟨av1, H1, e1, a1, clean_mono a5 (by omega), by omega, a2, fun i y hi hy => a4 i y hi (get_app hy), kv1, H2, e2, b1, clean_mono b5 (by omega), by omega, ?_, b2, fun i y h1 h2 hy => b4 i y h2 (get_app (a4 i y h1 (get_app hy)))⟩
  exact a2.keep (fun i y hi hy => b4 i y (fun hh => by
    have c1 := (a2.cells hi).2
    have c2 := (hk1.cells hh).2
    rw [c1] at c2
    simp only [Option.some.injEq, ABlk.cells.injEq] at c2
    exact absurd c2.2.1 (by decide)) (get_app hy))
theorem eqItm (x : Dt) : evEq Tryd.prog 20 37 (.agg x.cells) (.agg x.cells) = some true := by
  obtain ⟨r, h, m, a, b, e, f, g⟩ := x
  rw [show Dt.cells ⟨r, h, m, a, b, e, f, g⟩ = [.str r, .str h, .str m, .int .u32 a, .int .u32 b, .int .u32 e, .int .u32 f, .int .u32 g] from rfl]
  rw [eq_data]
  simp [eqD]
attribute [local irreducible] go goOps goD opK callK callT stepK leaveTo nextK
set_option maxRecDepth 20000 in
set_option maxHeartbeats 8000000 in
theorem lawBack (lv zv : AV) (R : List Itm) (Z : List UInt8) (H) (hk : Tk H) (htb : Tb H) (hdb : Db H) (hR : R.length ≤ 1048576) (hwf : ∀ x ∈ R, x.d.wf) (hz : Rd H zv Z) (hZ : Z.length ≤ 1048576)
    (hlv : (lv = .nils ∧ R = []) ∨ ∃ lb c e kd, lv = .slice lb 0 R.length c ∧ H[lb]? = some (.cells (itsC R) e kd)) : callK Tryd.prog 6 [lv, zv] H (fun q => q = (.bool true, H, z0)) := by
  have hln : ∀ H', evLen Tryd.prog 22 lv H' = some (.int .i64 R.length) := by
    obtain ⟨rfl, rfl⟩ | ⟨lb, c, e, kd, rfl, _⟩ := hlv <;> intro H' <;> simp only [evLen, tsh_22] <;> rfl
  have hwk0 := fun k => wk H k hk htb hdb
  refine callK_start (n := 122) (rs := [.tmp 4]) Tryd.func6 rfl rfl rfl ?_
  intro σ hl ha
  have h0 := ha 0 (by simp)
  have h1 := ha 1 (by simp)
  clear ha
  simp only [Option.getD_some, List.getElem?_cons_zero, List.getElem?_cons_succ] at h0 h1
  by_cases hbig : 40 < R.length
  · have g1 : decide ((R.length : Int) > 40) = true := by simp; omega
    simp only [go_sem, simprocAttr, hl, h0, hln, g1, hwk0]
  have g1 : decide ((R.length : Int) > 40) = false := by simp; omega
  have hnew := fun k => press_New H k
  simp only [go_sem, simprocAttr, hl, h0, h1, hln, g1, hnew]
  have hw0 : Bw H (H ++ [.map [], .cells [.map H.length] 59 .rw]) .nils .nils .nils [] [] [] [] :=
    ⟨by rw [hp_new0]; rfl, by rw [hp_new]; rfl, .inl ⟨rfl, rfl⟩, .inl ⟨rfl, rfl⟩, .inl ⟨rfl, rfl⟩, fun i x hx => get_app hx, fun x hx => (by cases hx), fun n p h => (by cases h), rfl, fun j x h => (by simp at h)⟩
  refine go_rounds (fun m st => ∃ σ i bv av kv A tab ats ks Hc e, m + i = R.length ∧ st = ⟨σ, Hc, e⟩ ∧ clean H.length e ∧ Bw H Hc bv av kv A tab ats ks ∧ A.length ≤ i * 1200000 ∧ ks.length ≤ i ∧ σ.length = 122 ∧ fr σ 0 = lv ∧ fr σ 1 = zv ∧ fr σ 5 = .ptr (H.length + 1) 0 ∧ fr σ 6 = bv ∧ fr σ 7 = av ∧ fr σ 8 = kv ∧ fr σ 9 = .int .i64 (i : Nat)) R.length
    ⟨_, 0, _, _, _, [], [], [], [], _, _, rfl, rfl, by simp [clean, z0, low], hw0, by simp, by simp, by simp only [go_sem, simprocAttr, hl], by simp only [go_sem, simprocAttr, hl, h0], by simp only [go_sem, simprocAttr, hl, h1], by simp only [go_sem, simprocAttr, hl], by simp only [go_sem, simprocAttr, hl], by simp only [go_sem, simprocAttr, hl], by simp only [go_sem, simprocAttr, hl], by simp only [go_sem, simprocAttr, hl]⟩ ?_
  clear h0 h1 hl
  rintro m _ ⟨σ, i, bv, av, kv, A, tab, ats, ks, Hc, e, hmi, rfl, hce, hw, hAl, hkl, hl, h0, h1, h5, h6, h7, h8, h9⟩
  by_cases hlt : i < R.length
  · obtain ⟨x, hx⟩ : ∃ x, R[i]? = some x := ⟨_, List.getElem?_eq_getElem hlt⟩
    have hxd := hwf x (List.mem_of_getElem? hx)
    obtain ⟨lb, lc, le, lk, rfl, hlb⟩ : ∃ lb c e kd, lv = .slice lb 0 R.length c ∧ H[lb]? = some (.cells (itsC R) e kd) := by
      obtain ⟨_, rfl⟩ | h := hlv
      · simp at hlt
      · exact h
    obtain ⟨l0, l1, l2⟩ := its_ld hx le lk
    have l3 := its_ldI hx le lk
    have hi' : (i : Int) < (R.length : Int) := by omega
    have hlbl := lt_of_get hlb
    have hlc := hw.old _ _ hlb
    have hwi := wrap_succ (show i < 9223372036854775807 by omega)
    have hkc := hk.old' hw.old
    have hA5 : A.length ≤ (i + 1) * 1200000 := Nat.le_trans hAl (Nat.mul_le_mul_right _ (Nat.le_succ i))
    simp only [go_sem, simprocAttr, hl, h0, h1, h5, h6, h7, h8, h9, hln, hi']
    refine go_drawZ tFollows (by kernel_rfl) ?_
    have hck := fun k => rdata_Check x.ty x.d Hc k hkc hxd
    cases hgd : goodB x.ty x.d with
    | false =>
      have hp := fun k => rdata_PutN x.ty x.d Hc (H.length + 1) bv k hkc hxd hgd
      rw [show chk x.ty x.d = 40 from if_neg (by rw [hgd]; simp)] at hck
      simp only [go_sem, simprocAttr, hl, h0, h1, h5, h6, h7, h8, h9, hln, hlt, hlc, l1, l2, hp]
      refine go_drawZ tFollows (by kernel_rfl) ?_
      simp only [go_sem, simprocAttr, hl, h0, h1, h5, h6, h7, h8, h9, hln, hlt, hlc, l1, l2, hck]
      exact ⟨m - 1, by omega, _, i + 1, bv, av, kv, A, tab, ats, ks, Hc, _, by omega, rfl, by simp only [clean_andI, clean_z, hce, true_and, and_true], hw, hA5, by omega, by simp only [go_sem, simprocAttr, hl], by simp only [go_sem, simprocAttr, hl, h0], by simp only [go_sem, simprocAttr, hl, h1], by simp only [go_sem, simprocAttr, hl, h5], by simp only [go_sem, simprocAttr, hl, h6], by simp only [go_sem, simprocAttr, hl, h7], by simp only [go_sem, simprocAttr, hl, h8], by simp only [go_sem, simprocAttr, hl, hwi]⟩
    | true =>
      have hA9 : A.length ≤ 48000000 := Nat.le_trans hAl (Nat.le_trans (Nat.mul_le_mul_right _ (show i ≤ 40 by omega)) (by decide))
      obtain ⟨xv, H3, e3, hp, p2, p3, p4, p5, p6, p7, p8, p9⟩ := rdata_PutG x.ty x.d Hc H.length (H.length + 1) tab bv A hkc hxd hgd hw.m hw.t hw.b (by omega) hw.n
      obtain ⟨hgT, ⟨zs, hzs⟩, hrd⟩ := put_rds hxd hgd hw.g
      rw [show chk x.ty x.d = 0 from if_pos hgd] at hck
      generalize putF x.d (formS x.ty) 0 tab A = Q at *
      obtain ⟨out, tab'⟩ := Q
      simp only at p3 p6 p7 p8 hgT hzs hrd
      subst hzs
      have hneO : ∀ {j : Nat}, bk av = some j → j ≠ H.length := fun {j} hj => by have := (hw.a.cells hj).1; omega
      have hneK : ∀ {j : Nat}, bk kv = some j → j ≠ H.length := fun {j} hj => by have := (hw.k.cells hj).1; omega
      have hold3 : ∀ (j : Nat) (y : ABlk), H[j]? = some y → H3[j]? = some y := fun j y hy => p9 j y (by have := lt_of_get hy; omega) (hw.old j y hy)
      have hb3 : Bf H.length H3 bv A := hw.b.keep (fun j y hj hy => p9 j y (by have := (hw.b.lt hj).1; omega) hy)
      have ha3 : Og (H.length + 1) 3 H3 av (posC ats) := hw.a.keep (fun j y hj hy => p9 j y (hneO hj) hy)
      have hk3 : Kp (H.length + 1) H3 kv ks := hw.k.keep (fun j y hj hy => p9 j y (hneK hj) hy)
      have ht3 := p9 _ _ (by omega) hw.t
      have hck3 := fun k => rdata_Check x.ty x.d H3 k (hk.old' hold3) hxd
      rw [show chk x.ty x.d = 0 from if_pos hgd] at hck3
      have hlb3 := hold3 _ _ hlb
      have hall := hw.r.1
      have hf3 : H.length + 1 < H3.length := lt_of_get ht3
      obtain ⟨av1, H5, e5, a1, a2, a3, a4, a5, kv1, H6, e6, b1, b2, b3, b4, b5, b6⟩ := bw_add (H := H) hf3 ha3 hk3 A.length x (by omega) (by omega)
      have hnd : ∀ {j : Nat} {y : ABlk}, H3[j]? = some y → (∀ cs k, y ≠ .cells cs 3 k) → bk av ≠ some j := fun {j y} hy hn hh => by
        have c1 := (ha3.cells hh).2
        rw [c1] at hy; cases hy; exact hn _ _ rfl
      have hnk : ∀ {j : Nat} {y : ABlk}, H3[j]? = some y → (∀ cs k, y ≠ .cells cs 39 k) → bk kv ≠ some j := fun {j y} hy hn hh => by
        have c1 := (hk3.cells hh).2
        rw [c1] at hy; cases hy; exact hn _ _ rfl
      have hne8 : ∀ {v : AV} {B : List UInt8} {Hx : Hp} {j : Nat} {y : ABlk}, Bf H.length Hx v B → bk v = some j → Hx[j]? = some y → ∃ cs k, y = .cells cs 5 k := fun {v B Hx j y} hB hj hy => by
        obtain ⟨post, k, hc⟩ := hB.cells hj
        rw [hc] at hy; cases hy; exact ⟨_, _, rfl⟩
      have hlow : ∀ (j : Nat) (y : ABlk), H[j]? = some y → bk av ≠ some j ∧ bk kv ≠ some j := fun j y hy => ⟨fun hh => by have := (ha3.cells hh).1; have := lt_of_get hy; omega, fun hh => by have := (hk3.cells hh).1; have := lt_of_get hy; omega⟩
      have hw6 : Bw H H6 xv av1 kv1 (A ++ zs) tab' (ats ++ [A.length]) (ks ++ [x]) := {
        m := b6 _ _ (hnd p6 (by simp)) (hnk p6 (by simp)) p6
        t := b6 _ _ (hnd ht3 (by intro cs k hh; cases hh)) (hnk ht3 (by intro cs k hh; cases hh)) ht3
        b := p3.keep (fun j y hj hy => by
          obtain ⟨cs, k, rfl⟩ := hne8 p3 hj hy
          exact b6 _ _ (hnd hy (by intro cs k hh; cases hh)) (hnk hy (by intro cs k hh; cases hh)) hy)
        a := b4
        k := b5
        old := fun j y hy => b6 j y (hlow j y hy).1 (hlow j y hy).2 (hold3 j y hy)
        n := p7
        g := hgT
        r := hw.r.snoc hxd hgd hrd }
      have hla := fun H' => hb3.rd.v.len H'
      have hlb5 : H5[lb]? = some (.cells (itsC R) le lk) := a5 _ _ (hlow _ _ hlb).1 hlb3
      have hA6 : (A ++ zs).length ≤ (i + 1) * 1200000 := by
        rw [Nat.add_mul, Nat.one_mul]
        exact Nat.le_trans p8 (Nat.add_le_add hAl (by decide))
      have hap1 : appended (H3 ++ [.cells [.int .i64 (A.length : Nat)] 3 .rw]) 1 (.slice H3.length 0 1 (.ex 1)) = some ([.int .i64 (A.length : Nat)], 1) := by
        have : V.rd (H3 ++ [ABlk.cells [.int .i64 (A.length : Nat)] 3 .rw]) H3.length 0 (1 * 1) = some [.int .i64 (A.length : Nat)] := by
          unfold V.rd
          rw [hp_new0]
          rfl
        simp only [appended, this, Option.map_some]
      have hap2 : appended (H5 ++ [.cells x.cells 39 .rw]) 10 (.slice H5.length 0 1 (.ex 1)) = some (x.cells, 1) := by
        have : V.rd (H5 ++ [ABlk.cells x.cells 39 .rw]) H5.length 0 (1 * 10) = some x.cells := by
          unfold V.rd
          rw [hp_new0]
          rfl
        simp only [appended, this, Option.map_some]
      cases hq1 : quiet (.nili, H3, e3) Hc
      all_goals
        have hq1 := fun (w : AV) => (show quiet (w, H3, e3) Hc = _ from hq1)
        simp only [go_sem, simprocAttr, hl, h0, h1, h5, h6, h7, h8, h9, hln, hlt, hlc, l1, l2, hp, hq1, nextZ_t]
        rcases tg_or 12 e3 with hh | hh <;> (try rw [hh])
        all_goals
          try refine ⟨(by kernel_rfl : effOk _ _ _ = true), ?_⟩
          refine go_drawZ tFollows (by kernel_rfl) ?_
          simp only [go_sem, simprocAttr, hl, h0, h1, h5, h6, h7, h8, h9, hln, hlt, hlb3, hlb5, l1, l2, l3, hck3, hla, bsliceI, bsliceK, hap1, ↓a1, hap2, ↓b1]
          exact ⟨m - 1, by omega, _, i + 1, xv, av1, kv1, A ++ zs, tab', ats ++ [A.length], ks ++ [x], H6, _, by omega, rfl, by simp only [clean_andI, clean_z, hce, p2, a2, b2, true_and, and_true], hw6, hA6, by simp; omega, by simp only [go_sem, simprocAttr, hl], by simp only [go_sem, simprocAttr, hl, h0], by simp only [go_sem, simprocAttr, hl, h1], by simp only [go_sem, simprocAttr, hl, h5], by simp only [go_sem, simprocAttr, hl], by simp only [go_sem, simprocAttr, hl], by simp only [go_sem, simprocAttr, hl], by simp only [go_sem, simprocAttr, hl, hwi]⟩
  · have hi : i = R.length := by omega
    subst hi
    have hall := hw.r.1
    have hA9 : A.length ≤ 48000000 := Nat.le_trans hAl (Nat.le_trans (Nat.mul_le_mul_right _ (show R.length ≤ 40 by omega)) (by decide))
    have hla := fun H' => hw.b.rd.v.len H'
    have hf1 := hw.fresh
    -- the last place
    have hO : Og (H.length + 1) 3 (Hc ++ [.cells [.int .i64 (A.length : Nat)] 3 .rw]) av (posC ats) := hw.a.keep (fun i x _ hx => get_app hx)
    obtain ⟨av1, H1, e1, a1, a2, a3, a4, a5, _, _, _⟩ := hO.app (w := 8) (by simp; omega) zok_28 [.int .i64 (A.length : Nat)] rfl (by rw [posC_len]; simp [fits]; omega)
    have a2 : Og (H.length + 1) 3 H1 av1 (posC (ats ++ [A.length])) := by rw [posC_app]; exact a2
    have a1 : ∀ kk, stepK (appTo Tryd.prog (.slice 3 1 8) av ([.int .i64 (A.length : Nat)], 1) (Hc ++ [.cells [.int .i64 (A.length : Nat)] 3 .rw])) kk = kk (av1, H1, e1) := a1
    simp only [List.length_append] at a3
    have hap1 : appended (Hc ++ [.cells [.int .i64 (A.length : Nat)] 3 .rw]) 1 (.slice Hc.length 0 1 (.ex 1)) = some ([.int .i64 (A.length : Nat)], 1) := by
      have : V.rd (Hc ++ [ABlk.cells [.int .i64 (A.length : Nat)] 3 .rw]) Hc.length 0 (1 * 1) = some [.int .i64 (A.length : Nat)] := by
        unfold V.rd
        rw [hp_new0]
        rfl
      simp only [appended, this, Option.map_some]
    have hkeep1 : ∀ (j : Nat) (y : ABlk), bk av ≠ some j → Hc[j]? = some y → H1[j]? = some y := fun j y hj hy => a4 j y hj (get_app hy)
    have hlow : ∀ (j : Nat) (y : ABlk), H[j]? = some y → bk av ≠ some j := fun j y hy hh => by have := (hw.a.cells hh).1; have := lt_of_get hy; omega
    have hnd : ∀ {j : Nat} {y : ABlk}, Hc[j]? = some y → (∀ cs k, y ≠ .cells cs 3 k) → bk av ≠ some j := fun {j y} hy hn hh => by
      have c1 := (hw.a.cells hh).2
      rw [c1] at hy; cases hy; exact hn _ _ rfl
    have hb1 : Bf H.length H1 bv A := hw.b.keep (fun j y hj hy => by
      obtain ⟨post, kd, hc⟩ := hw.b.cells hj
      rw [hc] at hy; cases hy
      exact hkeep1 _ _ (hnd hc (by intro cs k hh; cases hh)) hc)
    have hk1 : Kp (H.length + 1) H1 kv ks := hw.k.keep (fun j y hj hy => by
      have hc := (hw.k.cells hj).2
      rw [hc] at hy; cases hy
      exact hkeep1 _ _ (hnd hc (by intro cs k hh; cases hh)) hc)
    have hold1 : ∀ (j : Nat) (y : ABlk), H[j]? = some y → H1[j]? = some y := fun j y hy => hkeep1 j y (hlow j y hy) (hw.old j y hy)
    -- all the bytes
    have hapA := hb1.rd.appd
    obtain ⟨cv, H2, e2, b1, b2, b3, b4, b5, _, _, _⟩ := (show Og H1.length 5 H1 .nils [] from .inl ⟨rfl, rfl⟩).app (w := 1) (Nat.le_refl _) zok_31 (u8s A) u8s_scal (by rw [u8s_len]; simp [fits]; omega)
    rw [u8s_len] at b1
    rw [List.nil_append] at b2
    have hz2 : Rd H2 zv Z := (hz.keep hold1).keep (fun j y hy => b4 j y (by simp [bk]) hy)
    have hapZ := hz2.appd
    obtain ⟨dv, H3, e3, c1, c2, c3, c4, c5, _, _, _⟩ := b2.app (w := 1) b3 zok_31 (u8s Z) u8s_scal (by rw [u8s_len, u8s_len]; simp [fits]; omega)
    rw [u8s_len] at c1
    rw [← u8s_app] at c2
    have hk13 : ∀ (j : Nat) (y : ABlk), H1[j]? = some y → H3[j]? = some y := fun j y hy => c4 j y (fun hh => by have := (b2.cells hh).1; have := lt_of_get hy; omega) (b4 j y (by simp [bk]) hy)
    have hold3 : ∀ (j : Nat) (y : ABlk), H[j]? = some y → H3[j]? = some y := fun j y hy => hk13 j y (hold1 j y hy)
    have ha3 : Og (H.length + 1) 3 H3 av1 (posC (ats ++ [A.length])) := a2.keep (fun j y _ hy => hk13 j y hy)
    have hk3 : Kp (H.length + 1) H3 kv ks := hk1.keep (fun j y _ hy => hk13 j y hy)
    have hd3 : Rd H3 dv (A ++ Z) := c2.rd
    simp only [go_sem, simprocAttr, hl, h0, h1, h5, h6, h7, h8, h9, hln, hlt, hla, bsliceI, hap1, ↓a1, hapA, ↓b1, hapZ, ↓c1]
    have hkln := fun H' => hk3.len H'
    have hl13 : H1.length ≤ H3.length := by omega
    refine go_rounds (fun m st => ∃ σ j Hd e, m + j = ks.length ∧ st = ⟨σ, Hd, e⟩ ∧ clean H.length e ∧ H3.length ≤ Hd.length ∧ (∀ (i : Nat) (y : ABlk), H3[i]? = some y → Hd[i]? = some y) ∧ σ.length = 122 ∧ fr σ 7 = av1 ∧ fr σ 8 = kv ∧ fr σ 12 = dv ∧ fr σ 13 = .int .i64 (j : Nat)) ks.length
      ⟨_, 0, H3, _, rfl, rfl, ?_, Nat.le_refl _, fun i y hy => hy, by simp only [go_sem, simprocAttr, hl], by simp only [go_sem, simprocAttr, hl], by simp only [go_sem, simprocAttr, hl, h8], by simp only [go_sem, simprocAttr, hl], by simp only [go_sem, simprocAttr, hl]⟩ ?_
    · have a5' := clean_mono (n := H.length) a5 (by omega)
      have b5' := clean_mono (n := H.length) b5 (by omega)
      have c5' := clean_mono (n := H.length) c5 (by omega)
      simp only [clean_andI, clean_z, hce, a5', b5', c5', true_and, and_true]
    have hKR := hw.r
    clear h0 h1 h5 h6 h7 h8 h9 hl hce hw
    rintro m _ ⟨σ, j, Hd, e, hmj, rfl, hce, hHl, hkd, hl, h7, h8, h12, h13⟩
    have holdd : ∀ (j : Nat) (y : ABlk), H[j]? = some y → Hd[j]? = some y := fun j y hy => hkd j y (hold3 j y hy)
    by_cases hlt : j < ks.length
    · obtain ⟨x, hx⟩ : ∃ x, ks[j]? = some x := ⟨_, List.getElem?_eq_getElem hlt⟩
      obtain ⟨p, q, k1, k2, k3, k4, k5, k6, k7⟩ := hKR.2 j x hx
      have had : Og (H.length + 1) 3 Hd av1 (posC (ats ++ [A.length])) := ha3.keep (fun i y _ hy => hkd i y hy)
      have hkdd : Kp (H.length + 1) Hd kv ks := hk3.keep (fun i y _ hy => hkd i y hy)
      obtain ⟨b1', n1, n2, n3⟩ := had.at tsh_28 (posC_at (geta (xs := [A.length]) k1))
      obtain ⟨b2', n4, n5, n6⟩ := had.at tsh_28 (posC_at k2)
      obtain ⟨b3', n7, n8⟩ := hkdd.at hx
      obtain ⟨_, l1, l2⟩ := its_ld hx 39 (.op 0 false)
      have wj := wrap_succ (show j < 9223372036854775807 by omega)
      have wq : IntKind.i64.wrap ((q : Int) - (p : Int)) = ((q - p : Nat) : Int) := by rw [wrap_i64 (by omega)]; omega
      have hT := fun l k => rdata_Take (Hd ++ l) k dv (A ++ Z) p (q - p) x.ty x.d ((hk.old' holdd).old l) ((hd3.keep hkd).old l) (by rw [List.length_append]; omega) (by rw [List.length_append]; omega) k5 (show chk x.ty x.d = 0 from if_pos k6) (by rw [show p + (q - p) = q by omega]; exact k7 Z) (got_good k6)
      have hgn : ∀ (l : Hp) (i : Nat) (y : ABlk), Hd[i]? = some y → (Hd ++ l)[i]? = some y := fun l i y hy => get_app hy
      have m2 := fun l => hgn l _ _ n2
      have m5 := fun l => hgn l _ _ n5
      have m8 := fun l => hgn l _ _ n8
      have heq := eqItm x.d
      have q1 : x.d.cells.length = 8 := rfl
      have q3 : x.d.cells.all scal = true := rfl
      have q4 : flats x.d.cells = true := by simp [Dt.cells, flats, flat]
      simp only [go_sem, simprocAttr, hl, h7, h8, h12, h13, hkln, hlt]
      refine go_drawF tFollows (by kernel_rfl) ?_
      simp only [go_sem, simprocAttr, hl, h7, h8, h12, h13, hkln, hlt, n1, m2, n3, wj, n4, m5, n6, wq, n7, m8, l1, l2, hT, q1, q3, q4]
      refine ⟨(by kernel_rfl : effOk _ _ _ = true), ?_⟩
      have hsp : splice [.str [], .str [], .str [], .int .u32 0, .int .u32 0, .int .u32 0, .int .u32 0, .int .u32 0] 0 x.d.cells = x.d.cells := rfl
      rw [hsp]
      refine go_drawZ tFollows (by kernel_rfl) ?_
      simp only [go_sem, simprocAttr, hl, h7, h8, h12, h13, hkln, n7, m8, l1, l2, Dt.l8, heq, Bool.not_true, wj]
      exact ⟨m - 1, by omega, _, j + 1, _, _, by omega, rfl, by simp only [clean_andI, clean_z, clean_sn, hce, true_and, and_true]; omega, by simp; omega, fun i y hy => get_app (hkd i y hy), by simp only [go_sem, simprocAttr, hl], by simp only [go_sem, simprocAttr, hl, h7], by simp only [go_sem, simprocAttr, hl, h8], by simp only [go_sem, simprocAttr, hl, h12], by simp only [go_sem, simprocAttr, hl, wj]⟩
    · have hj : j = ks.length := by omega
      subst hj
      have hwk := fun k => wk Hd k (hk.old' holdd) (htb.old' holdd) (hdb.old' holdd)
      simp only [go_sem, simprocAttr, hl, h7, h8, h12, h13, hkln, hlt, hwk]
      exact leave_abs (v := .bool true) rfl hce holdd
end Go.Proofs.YtgkpgpdkolpfkaaDoor.V
