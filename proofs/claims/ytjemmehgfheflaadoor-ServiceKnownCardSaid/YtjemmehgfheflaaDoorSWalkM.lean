/- The service chapter: a number, a text in its safe form, a service read, as 'V' runs the program's functions. No conditions. -/
import Derived.Test.YtjemmehgfheflaaDoorSWalkL
namespace Go.Proofs.YtjemmehgfheflaaDoor.V
open Go
set_option linter.unusedSimpArgs false
set_option linter.unusedVariables false
attribute [local irreducible] go goOps goD opK callK callT stepK leaveTo nextK

set_option maxRecDepth 20000 in
theorem number49 (s : List UInt8) (H) (hs : s.length ≤ 1000000) : ∃ r, NumR s r ∧ ∀ k, callK Tryd.prog 49 [.str s] H k = k (.tuple [.int .u16 r.1, .bool r.2], H, z0) := by
  refine (fun h : ∃ r : {r : Int × Bool // NumR s r}, ∀ k, callK Tryd.prog 49 [.str s] H k = k (.tuple [.int .u16 r.1.1, .bool r.1.2], H, z0) => ?_) (callK_ex (fun r : {r : Int × Bool // NumR s r} => (.tuple [.int .u16 r.1.1, .bool r.1.2], H, z0)) ?_)
  · obtain ⟨⟨r, h1⟩, hr⟩ := h
    exact ⟨r, h1, hr⟩
  refine callK_start (n := 53) (rs := [.tmp 2, .tmp 3]) Tryd.func49 rfl rfl rfl ?_
  intro σ hl ha
  have h0 := ha 0 (by simp)
  clear ha
  simp only [Option.getD_some, List.getElem?_cons_zero, List.getElem?_cons_succ] at h0
  simp only [go_sem, simprocAttr, hl, h0]
  have hvb : ∀ i, i ≤ 5 → (s.take i).all digC = true → valP (s.take i) < 10 ^ i := by
    intro i
    induction i with
    | zero => intro _ _; simp [valP]
    | succ i ih =>
      intro hi hall
      by_cases hlt : i < s.length
      · have hc := List.getElem?_eq_getElem hlt
        rw [take_snoc hc] at hall ⊢
        rw [List.all_append, Bool.and_eq_true] at hall
        have := ih (by omega) hall.1
        have hd : digC s[i] = true := by simpa using hall.2
        simp only [digC, decide_eq_true_eq] at hd
        rw [valP_snoc, Nat.pow_succ]; omega
      · rw [List.take_of_length_le (by omega)] at hall ⊢
        have h2 := ih (by omega) (by rw [List.take_of_length_le (by omega)]; exact hall)
        rw [List.take_of_length_le (by omega)] at h2
        rw [Nat.pow_succ]; omega
  refine go_rounds (fun n st => ∃ σ i, n + i = s.length ∧ i ≤ 5 ∧ (s.take i).all digC = true ∧ st = ⟨σ, H, z0⟩ ∧ σ.length = 53 ∧ fr σ 0 = .str s ∧ fr σ 4 = .int .i64 (valP (s.take i) : Nat) ∧ fr σ 7 = .int .i64 s.length ∧ fr σ 8 = .int .i64 (i : Nat)) s.length
    ⟨_, 0, rfl, by decide, rfl, rfl, by simp only [go_sem, simprocAttr, hl, h0, valP, List.foldl_nil]⟩ ?_
  rintro n _ ⟨σ, i, hn, hi5, hall, rfl, hl, h0, h4, h7, h8⟩
  have hv := hvb i hi5 hall
  have hv5 : valP (s.take i) < 100000 := Nat.lt_of_lt_of_le hv (Nat.pow_le_pow_right (n := 10) (by decide) hi5)
  by_cases hlt : i < s.length
  · obtain ⟨c, hc⟩ : ∃ c, s[i]? = some c := ⟨_, List.getElem?_eq_getElem hlt⟩
    have hw := wrap_succ (show i < 9223372036854775807 by omega)
    have hcl := c.toNat_lt
    by_cases hbad : digC c = true ∧ i < 5
    · obtain ⟨hd, hi⟩ := hbad
      have hd' := hd
      simp only [digC, decide_eq_true_eq] at hd'
      have g1 : decide ((c.toNat : Int) < 48) = false := by simp; omega
      have g2 : decide ((c.toNat : Int) > 57) = false := by simp; omega
      have g3 : decide ((i : Int) ≥ 5) = false := by simp; omega
      have w1 : IntKind.i64.wrap (10 * (valP (s.take i) : Int)) = ((10 * valP (s.take i) : Nat) : Int) := by rw [wrap_i64 (by omega)]; omega
      have w2 : IntKind.u8.wrap ((c.toNat : Int) - 48) = ((c.toNat - 48 : Nat) : Int) := by rw [wrap_u8 (by omega)]; omega
      have w3 : IntKind.i64.wrap ((c.toNat - 48 : Nat) : Int) = ((c.toNat - 48 : Nat) : Int) := wrap_i64 (by omega)
      have w4 : IntKind.i64.wrap (((10 * valP (s.take i) : Nat) : Int) + ((c.toNat - 48 : Nat) : Int)) = ((valP (s.take (i + 1)) : Nat) : Int) := by
        rw [take_snoc hc, valP_snoc, wrap_i64 (by omega)]; omega
      simp only [go_sem, simprocAttr, hl, h0, h4, h7, h8, hlt, hc, g1, g2, g3, w1, w2, w3, w4, hw]
      exact ⟨n - 1, by omega, _, i + 1, by omega, by omega, all_take_succ hc hall hd, rfl, by simp only [go_sem, simprocAttr, hl, h0, h7]⟩
    · have hno : NumR s (0, false) := num_bad (fun m hm he => by
        subst he
        by_cases hd : digC c = true
        · have := decP_len m (by omega)
          exact hbad ⟨hd, by omega⟩
        · apply hd
          have := dec_digit (List.mem_of_getElem? hc)
          simp only [digC, decide_eq_true_eq]; exact this)
      have hor : (c.toNat : Int) < 48 ∨ (c.toNat : Int) > 57 ∨ (i : Int) ≥ 5 := by
        simp only [digC, decide_eq_true_eq] at hbad
        omega
      repeat' first
        | refine guardK_split (fun hb => ?_) (fun hb => ?_)
        | refine condK_split (fun hb => ?_) (fun hb => ?_)
        | simp only [go_sem, simprocAttr, hl, h0, h4, h7, h8, hlt, hc, *]
      all_goals first
        | exact ⟨⟨_, hno⟩, rfl⟩
        | (exfalso
           simp only [decide_eq_true_eq, decide_eq_false_iff_not, Bool.not_true, Bool.not_false] at *
           omega)
  · have hie : s.take i = s := List.take_of_length_le (by omega)
    rw [hie] at h4 hall hv5
    -- the end
    have hend : ∀ ok : Bool, ok = (decide (0 < s.length) && (decide (valP s < 65536) && (decide (s.length = 1) || !(s[0]? == some 48)))) → NumR s (IntKind.u16.wrap (valP s : Int), ok) := by
      intro ok hok
      constructor
      · intro h
        simp only at h
        rw [h] at hok
        have hok := hok.symm
        simp only [Bool.and_eq_true, Bool.or_eq_true, decide_eq_true_eq, Bool.not_eq_true', beq_eq_false_iff_ne] at hok
        obtain ⟨o1, o2, o3⟩ := hok
        have hw : IntKind.u16.wrap (valP s : Int) = (valP s : Int) := wrap_u16 (by omega)
        rw [hw]
        exact ⟨⟨by simp, by simp; omega⟩, dec_val s hall (by rintro rfl; simp at o1) o3⟩
      · intro m hm he
        have h1 := val_dec m
        have h2 := dec_head m
        rw [he] at h1 h2
        have hl0 : 0 < s.length := List.length_pos_iff.2 h1.2.2
        have : ok = true := by
          rw [hok]
          simp only [Bool.and_eq_true, Bool.or_eq_true, decide_eq_true_eq, Bool.not_eq_true', beq_eq_false_iff_ne]
          exact ⟨hl0, by rw [h1.1]; exact hm, h2⟩
        rw [this, h1.1, wrap_u16 (by omega)]
    simp only [go_sem, simprocAttr, hl, h0, h4, h7, h8, hlt]
    refine go_drawZ tFollows (by kernel_rfl) ?_
    by_cases hl0 : 0 < s.length
    · obtain ⟨c, hc⟩ : ∃ c, s[0]? = some c := ⟨_, List.getElem?_eq_getElem hl0⟩
      repeat' first
        | refine guardK_split (fun hb => ?_) (fun hb => ?_)
        | refine condK_split (fun hb => ?_) (fun hb => ?_)
        | simp only [go_sem, simprocAttr, hl, h0, h4, h7, h8, hc, *]
      all_goals
        refine ⟨⟨(_, _), hend _ ?_⟩, rfl⟩
        rw [hc]
        have e48 : (c = 48) = (c.toNat = 48) := by rw [← UInt8.toNat_inj]; rfl
        simp only [decide_eq_true_eq, decide_eq_false_iff_not, beq_iff_eq, beq_eq_false_iff_ne, ne_eq, Bool.not_true, Bool.not_false] at *
        rw [Bool.eq_iff_iff]
        simp only [Bool.and_eq_true, Bool.or_eq_true, decide_eq_true_eq, Bool.not_eq_true', beq_eq_false_iff_ne, beq_iff_eq, bne_iff_ne, ne_eq, Option.some.injEq, e48, eq_self, true_iff, iff_true, false_iff, iff_false, Bool.false_eq_true]
        first
          | omega
          | (by_cases h48 : c.toNat = 48
             · have hq : ((c.toNat : Int) == 48) = true := by rw [h48]; rfl
               simp only [hq, Bool.false_eq_true, false_iff]
               omega
             · have hq : ((c.toNat : Int) == 48) = false := by rw [beq_eq_false_iff_ne]; omega
               simp only [hq, eq_self, true_iff]
               omega)
    · have he : s = [] := by cases s <;> simp_all
      subst he
      simp only [go_sem, simprocAttr, hl, h0, h4, h7, h8, List.length_nil]
      exact ⟨⟨_, hend _ rfl⟩, rfl⟩

theorem plain_no {s : List UInt8} {i : Nat} {d f : UInt8} {r : List UInt8} (hd : s.drop i = 37 :: d :: f :: r) (h : ∀ c, safeP c = false → twoP c ≠ [d, f]) : ∀ c t, s.drop i ≠ byteP c ++ t := by
  intro c t e
  rw [hd] at e
  unfold byteP at e
  split at e
  · rename_i hs
    simp only [List.cons_append, List.nil_append, List.cons.injEq] at e
    rw [← e.1, safe37] at hs; cases hs
  · rename_i hs
    simp only [List.cons_append, List.cons.injEq, true_and] at e
    have h1 : [d, f] ++ r = twoP c ++ t := e
    have := (List.append_inj h1 rfl).1
    exact h c (by simpa using hs) this.symm

set_option maxRecDepth 20000 in
theorem plain50 (s : List UInt8) (H) (hs : s.length ≤ 1000000) : ∃ r, PlainR s r ∧ ∀ k, callK Tryd.prog 50 [.str s] H k = k (.tuple [.str r.1, .bool r.2], H, z0) := by
  refine (fun h : ∃ r : {r : List UInt8 × Bool // PlainR s r}, ∀ k, callK Tryd.prog 50 [.str s] H k = k (.tuple [.str r.1.1, .bool r.1.2], H, z0) => ?_) (callK_ex (fun r : {r : List UInt8 × Bool // PlainR s r} => (.tuple [.str r.1.1, .bool r.1.2], H, z0)) ?_)
  · obtain ⟨⟨r, h1⟩, hr⟩ := h
    exact ⟨r, h1, hr⟩
  refine callK_start (n := 61) (rs := [.tmp 2, .tmp 3]) Tryd.func50 rfl rfl rfl ?_
  intro σ hl ha
  have h0 := ha 0 (by simp)
  clear ha
  simp only [Option.getD_some, List.getElem?_cons_zero, List.getElem?_cons_succ] at h0
  simp only [go_sem, simprocAttr, hl, h0]
  refine go_rounds (fun n st => ∃ σ i b v T e, n + i = s.length ∧ b.length ≤ i ∧ textP b = s.take i ∧ Buf H.length T v b ∧ st = ⟨σ, H ++ T, e⟩ ∧ clean H.length e ∧ σ.length = 61 ∧ fr σ 0 = .str s ∧ fr σ 4 = v ∧ fr σ 5 = .int .i64 (i : Nat)) s.length
    ⟨_, 0, [], .nils, [], _, rfl, by decide, rfl, .inl ⟨rfl, rfl⟩, by rw [List.append_nil], ⟨rfl, rfl⟩, by simp only [go_sem, simprocAttr, hl, h0]⟩ ?_
  rintro n _ ⟨σ, i, b, v, T, e, hn, hbi, hb, hv, rfl, he, hl, h0, h4, h5⟩
  by_cases hlt : i < s.length
  · obtain ⟨c, hc⟩ : ∃ c, s[i]? = some c := ⟨_, List.getElem?_eq_getElem hlt⟩
    have rs := fun H k => safe38 c H k
    have hw := wrap_succ (show i < 9223372036854775807 by omega)
    have hdrop : s.drop i = c :: s.drop (i + 1) := by
      have hce : s[i] = c := by
        rw [List.getElem?_eq_getElem hlt] at hc
        exact Option.some.inj hc
      rw [List.drop_eq_getElem_cons hlt, hce]
    have w2 : IntKind.i64.wrap ((i : Int) + 2) = ((i + 2 : Nat) : Int) := by rw [wrap_i64 (by omega)]; omega
    have w3 : IntKind.i64.wrap ((i : Int) + 3) = ((i + 3 : Nat) : Int) := by rw [wrap_i64 (by omega)]; omega
    simp only [go_sem, simprocAttr, hl, h0, h4, h5, hlt, hc, rs]
    refine condK_split (fun hsafe => ?_) (fun hsafe => ?_)
    · obtain ⟨v', T2, e2, happ, hcl, _, hbuf⟩ := hv.push c (by omega)
      have hbs := bytes_one c
      have hnext : textP (b ++ [c]) = s.take (i + 1) := by
        rw [textP_app, hb, take_snoc hc]
        congr 1
        show byteP c ++ [] = [c]
        simp [byteP, hsafe]
      simp only [go_sem, simprocAttr, hl, h0, h4, h5, hc, hbs, happ, hw]
      exact ⟨n - 1, by omega, _, i + 1, _, v', T2, _, by omega, by simp; omega, hnext, hbuf, rfl, by simp only [go_sem, simprocAttr, he, hcl], by simp only [go_sem, simprocAttr, hl, h0]⟩
    · by_cases hok : c = 37 ∧ i + 2 < s.length
      · obtain ⟨h37, hl2⟩ := hok
        obtain ⟨d, hd⟩ : ∃ d, s[i + 1]? = some d := ⟨_, List.getElem?_eq_getElem (by omega)⟩
        obtain ⟨f, hf⟩ : ∃ f, s[i + 2]? = some f := ⟨_, List.getElem?_eq_getElem (by omega)⟩
        have g1 : ((c.toNat : Int) != 37) = false := by rw [h37]; rfl
        have g2 : decide (s.length ≤ i + 2) = false := by simp; omega
        have hsl : (s.drop (i + 1)).take 2 = [d, f] := by
          rw [List.drop_eq_getElem_cons (by omega), List.drop_eq_getElem_cons (by omega), List.take_succ_cons, List.take_succ_cons, List.take_zero]
          rw [List.getElem?_eq_getElem (by omega)] at hd hf
          simp only [Option.some.injEq] at hd hf
          rw [hd, hf]
        have b1 : i + 3 ≤ s.length := by omega
        have b2 : i + 1 ≤ i + 3 := by omega
        have b3 : i + 3 - (i + 1) = 2 := by omega
        obtain ⟨r, hr, rr⟩ := raw26 [d, f] (H ++ T) (by simp)
        have htk : s.take (i + 3) = s.take i ++ [c, d, f] := by rw [take_snoc hf, take2 hc hd]; simp
        simp only [go_sem, simprocAttr, hl, h0, h4, h5, hc, g1, g2, w2, w3, hw, b1, b2, b3, hsl, rr]
        have hdr3 : s.drop i = 37 :: d :: f :: s.drop (i + 3) := by
          have hd1 : s.drop (i + 1) = d :: f :: s.drop (i + 3) := by
            rw [List.drop_eq_getElem_cons (by omega), List.drop_eq_getElem_cons (by omega)]
            have e1 : s[i + 1] = d := by rw [List.getElem?_eq_getElem (by omega)] at hd; exact Option.some.inj hd
            have e2 : s[i + 1 + 1] = f := by rw [List.getElem?_eq_getElem (by omega)] at hf; exact Option.some.inj hf
            rw [e1, e2]
          rw [hdrop, h37, hd1]
        obtain ⟨rb, ro⟩ := r
        cases ro with
        | false =>
          have hbad : PlainR s ([], false) := plain_bad hb (plain_no hdr3 (fun c' _ h2 => by
            have := hr.2 [c'] (by simp) (by simpa [hexP] using h2)
            cases this)) hlt
          simp only [go_sem, simprocAttr, hl, he]
          exact ⟨⟨_, hbad⟩, rfl⟩
        | true =>
          obtain ⟨hr1, hr2⟩ := hr.1 rfl
          have hr2 : hexP rb = [d, f] := hr2
          obtain ⟨x, rfl⟩ : ∃ x, rb = [x] := by
            have hl2 : 2 * rb.length = 2 := by rw [← hexP_len, hr2]; rfl
            match rb, hl2 with
            | [x], _ => exact ⟨x, rfl⟩
          have hx2 : twoP x = [d, f] := by simpa [hexP] using hr2
          have rx := fun H k => safe38 x H k
          simp only [go_sem, simprocAttr, hl, rx]
          refine condK_split (fun hxs => ?_) (fun hxs => ?_)
          · have hbad : PlainR s ([], false) := plain_bad hb (plain_no hdr3 (fun c' h1 h2 => by
              have := twoP_inj (h2.trans hx2.symm)
              rw [this, hxs] at h1; cases h1)) hlt
            simp only [go_sem, simprocAttr, hl, he]
            exact ⟨⟨_, hbad⟩, rfl⟩
          · obtain ⟨v', T2, e2, happ, hcl, _, hbuf⟩ := hv.push x (by omega)
            have hbs := bytes_one x
            have w4 : IntKind.i64.wrap (((i + 2 : Nat) : Int) + 1) = ((i + 3 : Nat) : Int) := by rw [wrap_i64 (by omega)]; omega
            have hnext : textP (b ++ [x]) = s.take (i + 3) := by
              rw [textP_app, hb, htk, h37]
              congr 1
              show byteP x ++ [] = _
              simp [byteP, hxs, hx2]
            simp only [go_sem, simprocAttr, hl, h0, h4, h5, hbs, happ, w2, w4]
            exact ⟨n - 3, by omega, _, i + 3, _, v', T2, _, by omega, by simp; omega, hnext, hbuf, rfl, by simp only [go_sem, simprocAttr, he, hcl], by simp only [go_sem, simprocAttr, hl, h0]⟩
      · have hno : ∀ c' t, s.drop i ≠ byteP c' ++ t := by
          intro c' t h
          rw [hdrop] at h
          unfold byteP at h
          split at h
          · rename_i hs'
            simp only [List.cons_append, List.nil_append, List.cons.injEq] at h
            rw [h.1, hs'] at hsafe; cases hsafe
          · simp only [List.cons_append, List.cons.injEq] at h
            apply hok
            refine ⟨h.1, ?_⟩
            have h2 := congrArg List.length h.2
            rw [List.length_drop, List.length_append] at h2
            have : (twoP c').length = 2 := rfl
            omega
        have hbad : PlainR s ([], false) := plain_bad hb hno hlt
        have hor : c ≠ 37 ∨ s.length ≤ i + 2 := by
          by_cases h37 : c = 37
          · right
            by_cases h : i + 2 < s.length
            · exact absurd ⟨h37, h⟩ hok
            · omega
          · exact .inl h37
        rcases hor with h37 | hle
        · have g1 : ((c.toNat : Int) != 37) = true := by
            rw [bne_iff_ne]
            intro e
            apply h37
            rw [← UInt8.toNat_inj]
            have : (37 : UInt8).toNat = 37 := rfl
            omega
          simp only [go_sem, simprocAttr, hl, h0, h4, h5, hc, g1, he]
          exact ⟨⟨_, hbad⟩, rfl⟩
        · have g2 : decide (s.length ≤ i + 2) = true := by simp; omega
          cases g1 : ((c.toNat : Int) != 37) with
          | true =>
            simp only [go_sem, simprocAttr, hl, h0, h4, h5, hc, g1, he]
            exact ⟨⟨_, hbad⟩, rfl⟩
          | false =>
            simp only [go_sem, simprocAttr, hl, h0, h4, h5, hc, g1, g2, w2, he]
            exact ⟨⟨_, hbad⟩, rfl⟩
  · have hst := hv.str (n := 0)
    have hie : s.take i = s := List.take_of_length_le (by omega)
    rw [hie] at hb
    simp only [go_sem, simprocAttr, hl, h0, h4, h5, hlt, hst, he]
    exact ⟨⟨_, plain_end hb⟩, rfl⟩
end Go.Proofs.YtjemmehgfheflaaDoor.V
