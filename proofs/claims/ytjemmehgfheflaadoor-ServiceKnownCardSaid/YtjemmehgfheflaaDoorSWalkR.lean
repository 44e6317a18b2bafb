/- The service chapter: the reference's digits, pairs, numbers, texts, as 'V' runs them. No conditions. -/
import Derived.Test.YtjemmehgfheflaaDoorSWalkQ
import Derived.Test.YtjemmehgfheflaaDoorSLoose
namespace Go.Proofs.YtjemmehgfheflaaDoor.V
open Go
set_option linter.unusedSimpArgs false
set_option linter.unusedVariables false
attribute [local irreducible] go goOps goD opK callK callT stepK leaveTo nextK

theorem digN_none {c : UInt8} (h : ∀ j, j < 16 → hexD j ≠ c) : digN c = 0 := by
  have key : ∀ c : Fin 256, (∀ x : Fin 16, hexD x.val ≠ UInt8.ofNat c.val) → digN (UInt8.ofNat c.val) = 0 := by decide +kernel
  have := key ⟨c.toNat, c.toNat_lt⟩ (fun x => by simp only [UInt8.ofNat_toNat]; exact h x.val x.isLt)
  simpa using this
theorem u8_beq (a b : UInt8) : ((a.toNat : Int) == (b.toNat : Int)) = decide (a = b) := by
  rw [Bool.eq_iff_iff]; simp only [beq_iff_eq, decide_eq_true_eq]
  constructor
  · intro h; exact UInt8.toNat.inj (by omega)
  · rintro rfl; rfl

set_option maxRecDepth 20000 in
theorem digit51 (c : UInt8) (H k) : callK Tryd.prog 51 [.int .u8 c.toNat] H k = k (.int .u8 (digN c : Nat), H, z0) := by
  refine callK_eq (r := (.int .u8 (digN c : Nat), H, z0)) ?_ k
  refine callK_start (n := 14) (rs := [.tmp 2]) Tryd.func51 rfl rfl rfl ?_
  intro σ hl ha
  have h0 := ha 0 (by simp)
  clear ha
  simp only [Option.getD_some, List.getElem?_cons_zero, List.getElem?_cons_succ] at h0
  simp only [go_sem, simprocAttr, hl, h0]
  refine go_rounds (fun n st => ∃ σ i, n + i = 16 ∧ (∀ j, j < i → hexD j ≠ c) ∧ st = ⟨σ, H, z0⟩ ∧ σ.length = 14 ∧ fr σ 0 = .int .u8 c.toNat ∧ fr σ 3 = .int .i64 (i : Nat)) 16
    ⟨_, 0, rfl, fun j hj => by omega, rfl, by simp only [go_sem, simprocAttr, hl, h0]⟩ ?_
  rintro n _ ⟨σ, i, hn, hall, rfl, hl, h0, h3⟩
  by_cases hlt : i < 16
  · have hx := hexD_at hlt
    have hw := wrap_succ (show i < 9223372036854775807 by omega)
    have g0 : decide ((i : Int) < 16) = true := by simp; omega
    have g1 := u8_beq (hexD i) c
    by_cases hc : hexD i = c
    · rw [decide_eq_true hc] at g1
      have hd : digN c = i := by rw [← hc, digN_hex hlt]
      have hw8 : IntKind.u8.wrap (i : Int) = (i : Int) := wrap_u8 (by omega)
      simp only [go_sem, simprocAttr, hl, h0, h3, g0, hx, g1, hw8, hd]
    · rw [decide_eq_false hc] at g1
      simp only [go_sem, simprocAttr, hl, h0, h3, g0, hx, g1, hw]
      refine ⟨n - 1, by omega, _, i + 1, by omega, fun j hj => ?_, rfl, by simp only [go_sem, simprocAttr, hl, h0]⟩
      by_cases hji : j = i
      · rw [hji]; exact hc
      · exact hall j (by omega)
  · have g0 : decide ((i : Int) < 16) = false := by simp; omega
    have hd : digN c = 0 := digN_none (fun j hj => hall j (by omega))
    simp only [go_sem, simprocAttr, hl, h0, h3, g0, hd]

theorem quiet_g1 {v : AV} {H : Hp} {x : ABlk} {e : Ef} : quiet (v, H ++ [x], e) H = false := by simp [quiet]
theorem quiet_g2 {v : AV} {H T : Hp} {x : ABlk} {e : Ef} : quiet (v, H ++ (T ++ [x]), e) (H ++ T) = false := by simp [quiet]
theorem quiet_g3 {v : AV} {H T : Hp} {x y : ABlk} {e : Ef} : quiet (v, H ++ y :: (T ++ [x]), e) (H ++ y :: T) = false := by simp [quiet]
attribute [go_sem] quiet_g1 quiet_g2 quiet_g3
/-- What append grew: whatever is of another kind stays. -/
theorem GBuf.app2 {H T : Hp} {v : AV} {e z b len : Nat} {cs : List AV} (h : GBuf H.length T v e z len cs) (hz : decide (0 < z) = true) (hk : zok Tryd.prog e z = true) (xs : List AV) (q : Nat) (hq : 0 < q) (hx : xs.length = q * z) (hsc : xs.all V.scal = true) (hf : fits (len + q) b = true) :
    ∃ v' T2 e2, (∀ kk, stepK (appTo Tryd.prog (.slice e z b) v (xs, q) (H ++ T)) kk = kk (v', H ++ T2, e2)) ∧ T2.length = T.length + 1 ∧ clean H.length e2 ∧ (∀ (i : Nat) x, T[i]? = some x → (∀ c fz st, x ≠ .cells c e (.op fz st)) → T2[i]? = some x) ∧ GBuf H.length T2 v' e z (len + q) (cs ++ xs) ∧ flat v' = false ∧ vcells v' = [v'] ∧ ∀ v e, quiet (v, H ++ T2, e) (H ++ T) = false := by
  have hz' : 0 < z := by simpa using hz
  obtain ⟨rfl, rfl, rfl⟩ | ⟨hpos, hcl, m, rfl, hm⟩ := h
  · refine ⟨.slice (H.length + T.length) 0 q (.op 0), T ++ [.cells xs e (.op 0 false)], z0, fun kk => ?_, by simp, ⟨rfl, rfl⟩, fun i x hx _ => get_app hx, .inr ⟨by omega, by simpa using hx, T.length, by simp, by simp⟩, by simp only [flat], rfl, fun v e => by simp [quiet]⟩
    rw [appTo_nils hz hk]
    have hd : decide (q = 0) = false := by simp; omega
    have hf : fits q b = true := by simpa using hf
    simp only [hd, guardK_ft, hf, true_and, List.length_append, List.append_assoc]
  · have hlt := lt_of_get hm
    have hg : (H ++ T)[H.length + m]? = some (.cells cs e (.op 0 false)) := by rw [hp_new, hm]
    refine ⟨.slice (H.length + T.length) 0 (len + q) (.op 0), T.set m .dead ++ [.cells (cs ++ xs) e (.op 0 false)], ⟨none, some (H.length + m)⟩, fun kk => ?_, by simp, by simp [clean, low], fun i x hx hf => ?_, .inr ⟨by omega, by rw [List.length_append, hcl, hx, Nat.add_mul], T.length, rfl, by simp⟩, by simp only [flat], rfl, fun v e => by simp [quiet]⟩
    · rw [appTo_op hz hk, hg]
      simp only [bindK_some, appO_c]
      have hqz : 0 < q * z := Nat.mul_pos hq hz'
      have hd : decide (0 + (len + q) * z ≤ cs.length) = false := by
        rw [hcl, Nat.add_mul]; simp; omega
      have ht : (List.drop 0 cs).take (len * z) ++ xs = cs ++ xs := by
        rw [List.drop_zero, List.take_of_length_le (by rw [hcl]; exact Nat.le_refl _)]
      have hle : 0 + len * z ≤ cs.length := by rw [hcl]; omega
      rw [hd, guardK_ft]
      simp only [ht, hf, hsc, hle, hp_set, List.length_append, List.append_assoc, Nat.sub_self, Nat.zero_le, true_and, and_true, Nat.zero_mul]
    · have hne : m ≠ i := by
        rintro rfl
        rw [hm] at hx; cases hx; exact absurd rfl (hf _ _ _)
      rw [get_app (x := x)]
      rw [List.getElem?_set_ne hne]; exact hx

/-- One byte appended, as a listed slice. -/
theorem Buf.push2 {H T : Hp} {v : AV} {bs : List UInt8} (h : Buf H.length T v bs) (c : UInt8) (hf : bs.length ≤ 1000000) :
    ∃ v' T2 e2, (∀ kk, stepK (appTo Tryd.prog (.slice 5 1 1) v ([.int .u8 c.toNat], 1) (H ++ (T ++ [.cells [.int .u8 c.toNat] 5 .rw]))) kk = kk (v', H ++ T2, e2)) ∧ clean H.length e2 ∧ Buf H.length T2 v' (bs ++ [c]) ∧ ∀ v e, quiet (v, H ++ T2, e) (H ++ (T ++ [.cells [.int .u8 c.toNat] 5 .rw])) = false := by
  have hg : GBuf H.length (T ++ [.cells [.int .u8 c.toNat] 5 .rw]) v 5 1 bs.length (u8s bs) := by
    obtain ⟨rfl, rfl⟩ | ⟨h1, m, rfl, hm⟩ := h
    · exact .inl ⟨rfl, rfl, rfl⟩
    · exact .inr ⟨h1, by rw [u8s_len]; omega, m, rfl, get_app hm⟩
  obtain ⟨v', T2, e2, happ, _, hcl, _, hv3, _, _, hq⟩ := hg.app2 (b := 1) (by decide) zok_59 [.int .u8 c.toNat] 1 (by decide) rfl rfl (by simp only [fits, decide_eq_true_eq]; omega)
  refine ⟨v', T2, e2, happ, hcl, ?_, hq⟩
  obtain ⟨_, _, h0⟩ | ⟨h1, _, m, rfl, hm⟩ := hv3
  · omega
  · refine .inr ⟨by simp, m, by simp, ?_⟩
    rw [hm]; simp [u8s]

theorem drop_at {α : Type} {s : List α} {i : Nat} {c : α} (h : s[i]? = some c) : s.drop i = c :: s.drop (i + 1) := by
  obtain ⟨hi, rfl⟩ := List.getElem?_eq_some_iff.1 h
  exact List.drop_eq_getElem_cons hi
theorem w16 (a : UInt8) : IntKind.u8.wrap (16 * ((digN a : Nat) : Int)) = ((16 * digN a : Nat) : Int) := by
  have := digN_lt a
  rw [wrap_u8 (by omega)]; omega
theorem wpair (a b : UInt8) : IntKind.u8.wrap (((16 * digN a : Nat) : Int) + ((digN b : Nat) : Int)) = ((pairN a b).toNat : Int) := by
  have h1 := digN_lt a
  have h2 := digN_lt b
  have : (pairN a b).toNat = 16 * digN a + digN b := UInt8.toNat_ofNat_of_lt' (by simpa using (show 16 * digN a + digN b < 256 by omega))
  rw [this, wrap_u8 (by omega)]; omega

set_option maxRecDepth 20000 in
theorem bytes29 (s : List UInt8) (H k) (hs : s.length ≤ 1000000) : callK Tryd.prog 29 [.str s] H k = k (.str (bytesL s), H, z0) := by
  refine callK_eq (r := (.str (bytesL s), H, z0)) ?_ k
  refine callK_start (n := 28) (rs := [.tmp 2]) Tryd.func29 rfl rfl rfl ?_
  intro σ hl ha
  have h0 := ha 0 (by simp)
  clear ha
  simp only [Option.getD_some, List.getElem?_cons_zero, List.getElem?_cons_succ] at h0
  simp only [go_sem, simprocAttr, hl, h0]
  refine go_rounds (fun n st => ∃ σ i b v T e, n + i = s.length + 1 ∧ b.length ≤ i ∧ bytesL s = b ++ bytesL (s.drop i) ∧ Buf H.length T v b ∧ st = ⟨σ, H ++ T, e⟩ ∧ clean H.length e ∧ σ.length = 28 ∧ fr σ 0 = .str s ∧ fr σ 3 = v ∧ fr σ 4 = .int .i64 (i : Nat)) (s.length + 1)
    ⟨_, 0, [], .nils, [], _, rfl, Nat.le_refl _, rfl, .inl ⟨rfl, rfl⟩, by rw [List.append_nil], ⟨rfl, rfl⟩, by simp only [go_sem, simprocAttr, hl, h0]⟩ ?_
  rintro n _ ⟨σ, i, b, v, T, e, hn, hbi, hb, hv, rfl, he, hl, h0, h3, h4⟩
  have w1 : IntKind.i64.wrap ((i : Int) + 1) = ((i + 1 : Nat) : Int) := by rw [wrap_i64 (by omega)]; omega
  by_cases hlt : i + 1 < s.length
  · obtain ⟨c, hc⟩ : ∃ c, s[i]? = some c := ⟨_, List.getElem?_eq_getElem (by omega)⟩
    obtain ⟨d, hd⟩ : ∃ d, s[i + 1]? = some d := ⟨_, List.getElem?_eq_getElem (by omega)⟩
    have rc := fun H k => digit51 c H k
    have rd := fun H k => digit51 d H k
    have w2 : IntKind.i64.wrap ((i : Int) + 2) = ((i + 2 : Nat) : Int) := by rw [wrap_i64 (by omega)]; omega
    have hbs := bytes_one (pairN c d)
    obtain ⟨v', T2, e2, happ, hcl, hbuf, hq⟩ := hv.push2 (pairN c d) (by omega)
    have hnext : bytesL s = (b ++ [pairN c d]) ++ bytesL (s.drop (i + 2)) := by
      rw [hb, drop_at hc, drop_at hd, List.append_assoc]; rfl
    have w3 := w16 c
    have w4 := wpair c d
    simp only [go_sem, simprocAttr, hl, h0, h3, h4, w1, hlt]
    refine go_drawZ tFollows (by kernel_rfl) ?_
    simp only [go_sem, simprocAttr, hl, h0, h3, h4, w1, w2, hc, hd, rc, rd, w3, w4, hbs, happ, hq]
    refine ⟨(by kernel_rfl : effOk _ _ = true), ?_⟩
    exact ⟨n - 2, by omega, _, i + 2, _, v', T2, _, by omega, by simp; omega, hnext, hbuf, rfl, by simp only [go_sem, simprocAttr, he, hcl], by simp only [go_sem, simprocAttr, hl, h0]⟩
  · have hst := hv.str (n := 0)
    have hend : bytesL (s.drop i) = [] := by
      match h : s.drop i with
      | [] => rfl
      | [_] => rfl
      | a :: b :: r =>
        have := congrArg List.length h
        rw [List.length_drop] at this
        simp only [List.length_cons] at this; omega
    rw [hend, List.append_nil] at hb
    rw [hb]
    simp only [go_sem, simprocAttr, hl, h0, h3, h4, w1, hlt, hst, he]

theorem foldN_lt : ∀ s : List UInt8, foldN s < 10 ^ s.length :=
  snoc_ind (by decide) (fun s c ih => by
    rw [foldN_snoc, List.length_append, List.length_singleton, Nat.pow_succ]
    have := Nat.mod_lt (digN c) (show 10 > 0 by decide)
    omega)
set_option maxRecDepth 20000 in
theorem number30 (s : List UInt8) (H k) : callK Tryd.prog 30 [.str s] H k = k (.int .u16 (numL s : Nat), H, z0) := by
  refine callK_eq (r := (.int .u16 (numL s : Nat), H, z0)) ?_ k
  refine callK_start (n := 27) (rs := [.tmp 2]) Tryd.func30 rfl rfl rfl ?_
  intro σ hl ha
  have h0 := ha 0 (by simp)
  clear ha
  simp only [Option.getD_some, List.getElem?_cons_zero, List.getElem?_cons_succ] at h0
  simp only [go_sem, simprocAttr, hl, h0]
  refine go_rounds (fun n st => ∃ σ i, n + i = 5 ∧ i ≤ s.length ∧ st = ⟨σ, H, z0⟩ ∧ σ.length = 27 ∧ fr σ 0 = .str s ∧ fr σ 3 = .int .i64 (foldN (s.take i) : Nat) ∧ fr σ 4 = .int .i64 (i : Nat)) 5
    ⟨_, 0, rfl, Nat.zero_le _, rfl, by simp only [go_sem, simprocAttr, hl, h0], by simp only [go_sem, simprocAttr, hl, h0], by simp only [go_sem, simprocAttr, hl, h0]; rfl, by simp only [go_sem, simprocAttr, hl, h0]⟩ ?_
  rintro n _ ⟨σ, i, hn, his, rfl, hl, h0, h3, h4⟩
  have hfl : foldN (s.take i) < 100000 := by
    have h1 := foldN_lt (s.take i)
    have h2 : 10 ^ (s.take i).length ≤ 10 ^ 5 := Nat.pow_le_pow_right (by decide) (by rw [List.length_take]; omega)
    have h3 : (10 : Nat) ^ 5 = 100000 := by decide
    omega
  obtain ⟨f, hf⟩ : ∃ f, foldN (s.take i) = f := ⟨_, rfl⟩
  rw [hf] at h3 hfl
  have hend : i = 5 ∨ i = s.length → numL s = f % 65536 := by
    intro h
    unfold numL
    rw [← hf]
    rcases h with rfl | h
    · rfl
    · rw [List.take_of_length_le (show s.length ≤ i by omega), List.take_of_length_le (show s.length ≤ 5 by omega)]
  have w8 : ((f : Nat) : Int).tmod 65536 = ((f % 65536 : Nat) : Int) := by rw [Int.tmod_eq_emod_of_nonneg (by omega)]; omega
  have w9 : IntKind.u16.wrap ((f % 65536 : Nat) : Int) = ((f % 65536 : Nat) : Int) := by rw [wrap_u16 (by omega)]
  by_cases hlt : i < s.length
  · by_cases h5 : i < 5
    · obtain ⟨c, hc⟩ : ∃ c, s[i]? = some c := ⟨_, List.getElem?_eq_getElem (by omega)⟩
      have rc := fun H k => digit51 c H k
      have g0 : decide ((i : Int) < 5) = true := by simp; omega
      have hdl := digN_lt c
      have w1 := wrap_succ (show i < 9223372036854775807 by omega)
      have w2 : IntKind.i64.wrap (10 * ((f : Nat) : Int)) = ((10 * f : Nat) : Int) := by rw [wrap_i64 (by omega)]; omega
      have w3 : ((digN c : Nat) : Int).tmod 10 = ((digN c % 10 : Nat) : Int) := by rw [Int.tmod_eq_emod_of_nonneg (by omega)]; omega
      have w4 : IntKind.i64.wrap ((digN c % 10 : Nat) : Int) = ((digN c % 10 : Nat) : Int) := by rw [wrap_i64 (by omega)]
      have w5 : IntKind.i64.wrap (((10 * f : Nat) : Int) + ((digN c % 10 : Nat) : Int)) = ((foldN (s.take (i + 1)) : Nat) : Int) := by
        rw [take_snoc hc, foldN_snoc, hf, wrap_i64 (by omega)]; omega
      simp only [go_sem, simprocAttr, hl, h0, h3, h4, hlt, g0, hc, rc, w1, w2, w3, w4, w5]
      exact ⟨n - 1, by omega, _, i + 1, by omega, by omega, rfl, by simp only [go_sem, simprocAttr, hl], by simp only [go_sem, simprocAttr, hl, h0], by simp only [go_sem, simprocAttr, hl], by simp only [go_sem, simprocAttr, hl]⟩
    · have g0 : decide ((i : Int) < 5) = false := by simp; omega
      rw [hend (.inl (by omega))]
      simp only [go_sem, simprocAttr, hl, h0, h3, h4, hlt, g0, w8, w9]
  · rw [hend (.inr (by omega))]
    simp only [go_sem, simprocAttr, hl, h0, h3, h4, hlt, w8, w9]

set_option maxRecDepth 20000 in
theorem plain31 (s : List UInt8) (H k) (hs : s.length ≤ 1000000) : callK Tryd.prog 31 [.str s] H k = k (.str (plainL s), H, z0) := by
  refine callK_eq (r := (.str (plainL s), H, z0)) ?_ k
  refine callK_start (n := 47) (rs := [.tmp 2]) Tryd.func31 rfl rfl rfl ?_
  intro σ hl ha
  have h0 := ha 0 (by simp)
  clear ha
  simp only [Option.getD_some, List.getElem?_cons_zero, List.getElem?_cons_succ] at h0
  simp only [go_sem, simprocAttr, hl, h0]
  refine go_rounds (fun n st => ∃ σ i b v T e, n + i = s.length ∧ b.length ≤ i ∧ plainL s = b ++ plainL (s.drop i) ∧ Buf H.length T v b ∧ st = ⟨σ, H ++ T, e⟩ ∧ clean H.length e ∧ σ.length = 47 ∧ fr σ 0 = .str s ∧ fr σ 3 = v ∧ fr σ 4 = .int .i64 (i : Nat)) s.length
    ⟨_, 0, [], .nils, [], _, rfl, Nat.le_refl _, rfl, .inl ⟨rfl, rfl⟩, by rw [List.append_nil], ⟨rfl, rfl⟩, by simp only [go_sem, simprocAttr, hl, h0]⟩ ?_
  rintro n _ ⟨σ, i, b, v, T, e, hn, hbi, hb, hv, rfl, he, hl, h0, h3, h4⟩
  by_cases hlt : i < s.length
  · obtain ⟨c, hc⟩ : ∃ c, s[i]? = some c := ⟨_, List.getElem?_eq_getElem (by omega)⟩
    have w1 : IntKind.i64.wrap ((i : Int) + 1) = ((i + 1 : Nat) : Int) := by rw [wrap_i64 (by omega)]; omega
    have w2 : IntKind.i64.wrap ((i : Int) + 2) = ((i + 2 : Nat) : Int) := by rw [wrap_i64 (by omega)]; omega
    have w2' : IntKind.i64.wrap (((i + 2 : Nat) : Int) + 1) = ((i + 3 : Nat) : Int) := by rw [wrap_i64 (by omega)]; omega
    by_cases h37 : c = 37 ∧ i + 2 < s.length
    · obtain ⟨rfl, hlt2⟩ := h37
      obtain ⟨x, hx⟩ : ∃ c, s[i + 1]? = some c := ⟨_, List.getElem?_eq_getElem (by omega)⟩
      obtain ⟨y, hy⟩ : ∃ c, s[i + 2]? = some c := ⟨_, List.getElem?_eq_getElem (by omega)⟩
      have g1 : (((37 : UInt8).toNat : Int) == 37) = true := rfl
      have rc := fun H k => digit51 x H k
      have rd := fun H k => digit51 y H k
      have hbs := bytes_one (pairN x y)
      obtain ⟨v', T2, e2, happ, hcl, hbuf, hq⟩ := hv.push2 (pairN x y) (by omega)
      have hnext : plainL s = (b ++ [pairN x y]) ++ plainL (s.drop (i + 3)) := by
        rw [hb, drop_at hc, drop_at hx, drop_at hy, plainL_37, List.append_assoc]; rfl
      have w3 := w16 x
      have w4 := wpair x y
      simp only [go_sem, simprocAttr, hl, h0, h3, h4, hlt, hc, g1, w2, hlt2]
      refine go_drawZ tFollows (by kernel_rfl) ?_
      simp only [go_sem, simprocAttr, hl, h0, h3, h4, w1, w2, hx, hy, rc, rd, w3, w4, hbs, happ, hq]
      refine ⟨(by kernel_rfl : effOk _ _ = true), ?_⟩
      simp only [go_sem, simprocAttr, hl, h0, h3, h4, w1, w2, w2', hx, hy, rc, rd, w3, w4, hbs, happ, hq]
      exact ⟨n - 3, by omega, _, i + 3, _, v', T2, _, by omega, by simp; omega, hnext, hbuf, rfl, by simp only [go_sem, simprocAttr, he, hcl], by simp only [go_sem, simprocAttr, hl, h0]⟩
    · have hnext : plainL s = (b ++ [c]) ++ plainL (s.drop (i + 1)) := by
        rw [hb, drop_at hc, List.append_assoc]
        congr 1
        by_cases h : c = 37
        · refine plainL_few ?_
          rw [List.length_drop]
          have : ¬ i + 2 < s.length := fun h' => h37 ⟨h, h'⟩
          omega
        · exact plainL_other h _
      have hbs := bytes_one c
      obtain ⟨v', T2, e2, happ, hcl, hbuf, hq⟩ := hv.push2 c (by omega)
      by_cases h : c = 37
      · have hlt2 : ¬ i + 2 < s.length := fun h' => h37 ⟨h, h'⟩
        have g1 : ((c.toNat : Int) == 37) = true := by rw [h]; rfl
        simp only [go_sem, simprocAttr, hl, h0, h3, h4, hlt, hc, g1, w1, w2, hlt2, hbs, happ, hq]
        exact ⟨n - 1, by omega, _, i + 1, _, v', T2, _, by omega, by simp; omega, hnext, hbuf, rfl, by simp only [go_sem, simprocAttr, he, hcl], by simp only [go_sem, simprocAttr, hl, h0]⟩
      · have g1 : ((c.toNat : Int) == 37) = false := by
          rw [beq_eq_false_iff_ne]
          intro h'
          exact h (UInt8.toNat.inj (by have : (37 : UInt8).toNat = 37 := rfl; omega))
        simp only [go_sem, simprocAttr, hl, h0, h3, h4, hlt, hc, g1, w1, hbs, happ, hq]
        exact ⟨n - 1, by omega, _, i + 1, _, v', T2, _, by omega, by simp; omega, hnext, hbuf, rfl, by simp only [go_sem, simprocAttr, he, hcl], by simp only [go_sem, simprocAttr, hl, h0]⟩
  · have hst := hv.str (n := 0)
    have hend : s.drop i = [] := List.drop_eq_nil_of_le (by omega)
    rw [hend] at hb
    have hb' : plainL s = b := by rw [hb]; exact List.append_nil _
    rw [hb']
    simp only [go_sem, simprocAttr, hl, h0, h3, h4, hlt, hst, he]
end Go.Proofs.YtjemmehgfheflaaDoor.V
