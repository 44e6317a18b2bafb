/- The service chapter: split texts, digits, numbers, the safe form, a service read, as 'V' runs the program's functions. No conditions. -/
import Derived.Test.YtjemmehgfheflaaDoorSWalkK
namespace Go.Proofs.YtjemmehgfheflaaDoor.V
open Go
set_option linter.unusedSimpArgs false
set_option linter.unusedVariables false
attribute [local irreducible] go goOps goD opK callK callT stepK leaveTo nextK

/-- Texts as cells. -/
def strs (R : List (List UInt8)) : List AV := R.map .str
theorem strs_len {R : List (List UInt8)} : (strs R).length = R.length := by simp [strs]
theorem rep_str : ∀ n, rep [.str []] n = List.replicate n (AV.str [])
  | 0 => rfl
  | n + 1 => by rw [rep, rep_str n]; rfl
theorem make37 {n : Nat} {H : Hp} (h : n ≤ 1000000) : evMake Tryd.prog 37 (.int .i64 (n : Nat)) (.int .i64 (n : Nat)) H = some (.slice H.length 0 n (.ex n), H ++ [.cells (List.replicate n (.str [])) 9 .rw]) := by
  simp only [evMake, tsh_37, tzero_9, Option.bind_some]
  rw [if_pos ⟨by omega, by omega, by omega, by omega⟩]
  simp [rep_str]
/-- Cells: so many pieces, the rest empty. -/
theorem splice_strs {R : List (List UInt8)} {i z : Nat} {p : List UInt8} (hp : R[i]? = some p) : splice (strs (R.take i) ++ List.replicate (z + 1) (.str [])) i [.str p] = strs (R.take (i + 1)) ++ List.replicate z (.str []) := by
  have hi := (List.getElem?_eq_some_iff.1 hp).1
  have hl : (strs (R.take i)).length = i := by rw [strs_len, List.length_take]; omega
  unfold splice
  rw [List.take_left' hl, take_snoc hp]
  have : strs (R.take i ++ [p]) = strs (R.take i) ++ [.str p] := by simp [strs]
  rw [this]
  congr 1
  rw [List.length_singleton, List.drop_append, hl, List.drop_eq_nil_of_le (by rw [hl]; omega), List.nil_append, List.drop_replicate]
  congr 1; omega
theorem split_drop {c : UInt8} {s p : List UInt8} {R : List (List UInt8)} (h : splitC c s = (p, R)) : s = p ++ joinC c R := by
  have := split_join c s
  rw [h] at this; exact this
theorem split_rest {c : UInt8} {s p q : List UInt8} {R : List (List UInt8)} (h : splitC c s = (p, q :: R)) : splitC c (q ++ joinC c R) = (q, R) := by
  have hn := split_no c s
  rw [h] at hn
  exact split_of c q R (hn.2 q (by simp)) (fun r hr => hn.2 r (by simp [hr]))

set_option maxRecDepth 20000 in
theorem gens56 (s : List UInt8) (c : UInt8) (H) (hs : s.length ≤ 100000) :
    ∃ L : Hp, L[0]? = some (.cells (strs ((splitC c s).1 :: (splitC c s).2)) 9 .rw) ∧ ∀ k, callK Tryd.prog 56 [.str s, .str [c], .int .i64 0, .int .i64 (-1)] H k = k (.slice H.length 0 ((splitC c s).2.length + 1) (.ex ((splitC c s).2.length + 1)), H ++ L, z0) := by
  have hrl : ∀ s : List UInt8, (splitC c s).2.length ≤ s.length := by
    intro s
    rw [← count_eq]
    exact List.count_le_length
  obtain ⟨n, hn⟩ : ∃ n, (splitC c s).2.length = n := ⟨_, rfl⟩
  obtain ⟨A, hA⟩ : ∃ A, (splitC c s).1 :: (splitC c s).2 = A := ⟨_, rfl⟩
  have hAl : A.length = n + 1 := by rw [← hA, List.length_cons, hn]
  have hns := hrl s
  refine (fun h : ∃ r : {L : Hp // L[0]? = some (.cells (strs A) 9 .rw)}, ∀ k, callK Tryd.prog 56 [.str s, .str [c], .int .i64 0, .int .i64 (-1)] H k = k (.slice H.length 0 (n + 1) (.ex (n + 1)), H ++ r.1, z0) => ?_) (callK_ex (fun r : {L : Hp // L[0]? = some (.cells (strs A) 9 .rw)} => (.slice H.length 0 (n + 1) (.ex (n + 1)), H ++ r.1, z0)) ?_)
  · obtain ⟨⟨L, h1⟩, hr⟩ := h
    rw [hA, hn]
    exact ⟨L, h1, hr⟩
  refine callK_start (n := 66) (rs := [.tmp 8]) Tryd.func56 rfl rfl rfl ?_
  intro σ hl ha
  have h0 := ha 0 (by simp)
  have h1 := ha 1 (by simp)
  have h2 := ha 2 (by simp)
  have h3 := ha 3 (by simp)
  clear ha
  simp only [Option.getD_some, List.getElem?_cons_zero, List.getElem?_cons_succ] at h0 h1 h2 h3
  have rc := fun H k => cnt64 s c H k
  rw [hn] at rc
  have g1 : (([c] : List UInt8) == []) = false := rfl
  have w1 : IntKind.i64.wrap ((n : Int) + 1) = ((n + 1 : Nat) : Int) := by rw [wrap_i64 (by omega)]; omega
  have w2 : IntKind.i64.wrap ((s.length : Int) + 1) = ((s.length + 1 : Nat) : Int) := by rw [wrap_i64 (by omega)]; omega
  have w3 : IntKind.i64.wrap (((n + 1 : Nat) : Int) - 1) = ((n : Nat) : Int) := by rw [wrap_i64 (by omega)]; omega
  have hmin : evMin2 (.int .i64 ((n + 1 : Nat) : Int)) (.int .i64 ((s.length + 1 : Nat) : Int)) = some (.int .i64 ((n + 1 : Nat) : Int)) := by
    simp only [evMin2]
    rw [if_neg (by omega)]
  have hmk := fun H => make37 (n := n + 1) (H := H) (by omega)
  simp only [go_sem, simprocAttr, hl, h0, h1, h2, h3, g1, rc, w1, w2, w3, hmin, hmk]
  refine go_rounds (fun m st => ∃ σ i p R e z, m + i = n ∧ z + i = n ∧ i ≤ n ∧ A.drop i = p :: R ∧ splitC c (p ++ joinC c R) = (p, R) ∧ (p ++ joinC c R).length ≤ 100000 ∧ st = ⟨σ, H ++ [.cells (strs (A.take i) ++ List.replicate (z + 1) (.str [])) 9 .rw], e⟩ ∧ clean H.length e ∧ σ.length = 66 ∧ fr σ 0 = .str (p ++ joinC c R) ∧ fr σ 1 = .str [c] ∧ fr σ 2 = .int .i64 0 ∧ fr σ 3 = .int .i64 (n : Nat) ∧ fr σ 9 = .slice H.length 0 (n + 1) (.ex (n + 1)) ∧ fr σ 10 = .int .i64 (i : Nat)) n
    ⟨_, 0, (splitC c s).1, (splitC c s).2, _, n, rfl, rfl, by omega, by rw [← hA]; rfl, by rw [← split_join c s], by rw [← split_join c s]; exact hs, rfl, ⟨rfl, rfl⟩, by simp only [go_sem, simprocAttr, hl, h0, h1, h2, ← split_join c s, strs, List.map_nil]⟩ ?_
  rintro m _ ⟨σ, i, p, R, e, z, hm, hz, hi, hd, hsp, hpl, rfl, he, hl, h0, h1, h2, h3, h9, h10⟩
  have hai : A[i]? = some p := by
    have : (A.drop i)[0]? = some p := by rw [hd]; rfl
    simpa using this
  have hRl : R.length + 1 + i = n + 1 := by
    have := congrArg List.length hd
    rw [List.length_drop, hAl, List.length_cons] at this; omega
  have hcl : (strs (A.take i) ++ List.replicate (z + 1) (AV.str [])).length = n + 1 := by
    rw [List.length_append, strs_len, List.length_take, List.length_replicate, hAl]; omega
  by_cases hlt : i < n
  · cases R with
    | nil => simp at hRl; omega
    | cons q R' =>
      obtain ⟨e1, e2⟩ := ix_some hsp
      have hsp' := split_rest hsp
      have hp2 : (p ++ joinC c (q :: R')).length = p.length + (1 + (q ++ joinC c R').length) := by
        rw [e2]
        have : joinC c (q :: R') = c :: (q ++ joinC c R') := rfl
        rw [List.length_append, List.length_cons]; omega
      obtain ⟨u, hu⟩ : ∃ u, p ++ joinC c (q :: R') = u := ⟨_, rfl⟩
      rw [hu] at h0 hp2 hpl hsp
      have ri := fun H k => ix65 u c H k
      obtain ⟨e1, e2⟩ := ix_some hsp
      rw [e1] at ri
      have g2 : decide ((p.length : Int) < 0) = false := by simp
      have w4 : IntKind.i64.wrap ((p.length : Int) + 0) = ((p.length : Nat) : Int) := by rw [wrap_i64 (by omega)]; omega
      have w5 : IntKind.i64.wrap ((p.length : Int) + 1) = ((p.length + 1 : Nat) : Int) := by rw [wrap_i64 (by omega)]; omega
      have w6 := wrap_succ (show i < 9223372036854775807 by omega)
      have t1 : u.take p.length = p := by rw [e2, List.take_left]
      have t2 : (u.drop (p.length + 1)).take (u.length - (p.length + 1)) = q ++ joinC c R' := by
        rw [List.take_of_length_le (by rw [List.length_drop]; exact Nat.le_refl _), e2, ← List.drop_drop, List.drop_left]; rfl
      have b1 : p.length ≤ u.length := by omega
      have b2 : p.length + 1 ≤ u.length := by omega
      have b3 : i < n + 1 := by omega
      obtain ⟨z', rfl⟩ : ∃ z', z = z' + 1 := ⟨z - 1, by omega⟩
      have hsp2 := splice_strs (z := z' + 1) hai
      have hfl : flats [AV.str p] = true := by simp only [flats, flat, Bool.and_self]
      simp only [go_sem, simprocAttr, hl, he, h0, h1, h2, h3, h9, h10, hlt, ri, g2, w4, w5, w6, t1, t2, b1, b2, b3, Nat.sub_zero, List.drop_zero, Nat.mul_one, hcl, hsp2, hfl]
      have hd' : A.drop (i + 1) = q :: R' := by
        rw [← List.drop_drop, hd]; rfl
      have hql : (q ++ joinC c R').length ≤ 100000 := by omega
      exact ⟨by omega, m - 1, by omega, _, i + 1, q, R', _, z', by omega, by omega, by omega, hd', hsp', by rw [← List.length_append]; exact hql, rfl, by simp only [go_sem, simprocAttr, he], by simp only [go_sem, simprocAttr, hl, h1, h2, h3, h9]⟩
  · have hin : i = n := by omega
    subst hin
    have hR0 : R = [] := List.length_eq_zero_iff.1 (by omega)
    subst hR0
    have hpe : p ++ joinC c [] = p := by simp [joinC]
    rw [hpe] at h0
    have w6 := wrap_succ (show i < 9223372036854775807 by omega)
    have hz0 : z = 0 := by omega
    subst hz0
    have hsp2 := splice_strs (z := 0) hai
    have hte : A.take (i + 1) = A := List.take_of_length_le (by omega)
    have hre : strs (A.take (i + 1)) ++ List.replicate 0 (AV.str []) = strs A := by rw [hte]; simp
    rw [hre] at hsp2
    have hsp2 : splice (strs (A.take i) ++ [AV.str []]) i [AV.str p] = strs A := hsp2
    have hfl : flats [AV.str p] = true := by simp only [flats, flat, Bool.and_self]
    have b3 : i < i + 1 := by omega
    have b4 : i ≤ i := Nat.le_refl i
    simp only [go_sem, simprocAttr, hl, he, h0, h1, h2, h3, h9, h10, hlt, w6, b3, b4, Nat.mul_one, hcl, hsp2, hfl, Nat.sub_zero]
    exact ⟨by rw [strs_len, List.length_take]; omega, ⟨_, rfl⟩, rfl⟩

/-! digits to the base 16 -/
theorem ixh (c : UInt8) : (Lib.indexByte [48, 49, 50, 51, 52, 53, 54, 55, 56, 57, 97, 98, 99, 100, 101, 102] c = -1 ∧ ¬ isHex c) ∨ ∃ x : Nat, x < 16 ∧ hexD x = c ∧ Lib.indexByte [48, 49, 50, 51, 52, 53, 54, 55, 56, 57, 97, 98, 99, 100, 101, 102] c = (x : Int) := by
  have key : ∀ c : Fin 256, (Lib.indexByte [48, 49, 50, 51, 52, 53, 54, 55, 56, 57, 97, 98, 99, 100, 101, 102] (UInt8.ofNat c.val) = -1 ∧ ∀ x : Fin 16, hexD x.val ≠ UInt8.ofNat c.val) ∨ ∃ x : Fin 16, hexD x.val = UInt8.ofNat c.val ∧ Lib.indexByte [48, 49, 50, 51, 52, 53, 54, 55, 56, 57, 97, 98, 99, 100, 101, 102] (UInt8.ofNat c.val) = (x.val : Int) := by decide +kernel
  have h := key ⟨c.toNat, c.toNat_lt⟩
  simp only [UInt8.ofNat_toNat] at h
  rcases h with ⟨h1, h2⟩ | ⟨x, h1, h2⟩
  · exact .inl ⟨h1, fun ⟨x, hx, hc⟩ => h2 ⟨x, hx⟩ hc⟩
  · exact .inr ⟨x.val, x.isLt, h1, h2⟩
theorem or16 {x y : Nat} (hx : x < 16) (hy : y < 16) : evInt .or .i64 ((16 * x : Nat) : Int) (y : Int) = some (.int .i64 ((16 * x + y : Nat) : Int)) := by
  have key : ∀ x y : Fin 16, (IntKind.i64.wrap (BitVec.ofInt IntKind.i64.bits ((16 * x.val : Nat) : Int) ||| BitVec.ofInt IntKind.i64.bits (y.val : Int)).toNat) = ((16 * x.val + y.val : Nat) : Int) := by decide +kernel
  rw [i_or]
  exact congrArg (fun n => some (AV.int .i64 n)) (key ⟨x, hx⟩ ⟨y, hy⟩)
theorem take2 {s : List UInt8} {i : Nat} {c d : UInt8} (hc : s[i]? = some c) (hd : s[i + 1]? = some d) : s.take (i + 2) = s.take i ++ [c, d] := by
  rw [take_snoc hd, take_snoc hc]; simp
theorem bytes_one (c : UInt8) (H : Hp) : evBuildSlice Tryd.prog 59 1 [(0, .int .u8 c.toNat)] H = some (.slice H.length 0 1 (.ex 1), H ++ [.cells [.int .u8 c.toNat] 5 .rw]) := by
  simp only [evBuildSlice, tsh_59, tzero_5, Option.bind_some]
  rfl
/-- A row of bytes as a text. -/
theorem Buf.str {n : Nat} {H T : Hp} {v : AV} {bs : List UInt8} (h : Buf H.length T v bs) : evConv Tryd.prog 59 9 v (H ++ T) = some (.str bs, H ++ T) := by
  obtain ⟨rfl, rfl⟩ | ⟨hp, m, rfl, hm⟩ := h
  · exact conv_59_9n
  · rw [conv_59_9]
    have : rd (H ++ T) (H.length + m) 0 bs.length = some (u8s bs) := by
      unfold rd
      rw [hp_new, hm]
      show (if _ then _ else _) = _
      rw [if_pos (by rw [u8s_len]; omega), List.drop_zero, List.take_of_length_le (by rw [u8s_len]; exact Nat.le_refl _)]
    rw [this]
    simp [conv_u8s]
/-- One byte appended, as a listed slice. -/
theorem Buf.push {H T : Hp} {v : AV} {bs : List UInt8} (h : Buf H.length T v bs) (c : UInt8) (hf : bs.length ≤ 1000000) :
    ∃ v' T2 e2, (∀ kk, stepK (appTo Tryd.prog (.slice 5 1 1) v ([.int .u8 c.toNat], 1) (H ++ (T ++ [.cells [.int .u8 c.toNat] 5 .rw]))) kk = kk (v', H ++ T2, e2)) ∧ clean H.length e2 ∧ (∀ (i : Nat) x, T[i]? = some x → fixd x = true → T2[i]? = some x) ∧ Buf H.length T2 v' (bs ++ [c]) := by
  have h' : Buf H.length (T ++ [.cells [.int .u8 c.toNat] 5 .rw]) v bs := by
    obtain h | ⟨hp, m, rfl, hm⟩ := h
    · exact .inl h
    · exact .inr ⟨hp, m, rfl, get_app hm⟩
  obtain ⟨v', T2, e2, happ, _, hcl, hkeep, hbuf⟩ := h'.app [c] (by simp only [fits, decide_eq_true_eq, List.length_cons, List.length_nil]; omega)
  refine ⟨v', T2, e2, ?_, hcl, fun i x hi hx => hkeep i x (get_app hi) hx, hbuf⟩
  simpa only [u8s, List.map_cons, List.map_nil, List.length_cons, List.length_nil, Nat.zero_add] using happ

set_option maxRecDepth 20000 in
theorem raw26 (s : List UInt8) (H) (hs : s.length ≤ 1000000) : ∃ r, RawR s r ∧ ∀ k, callK Tryd.prog 26 [.str s] H k = k (.tuple [.str r.1, .bool r.2], H, z0) := by
  refine (fun h : ∃ r : {r : List UInt8 × Bool // RawR s r}, ∀ k, callK Tryd.prog 26 [.str s] H k = k (.tuple [.str r.1.1, .bool r.1.2], H, z0) => ?_) (callK_ex (fun r : {r : List UInt8 × Bool // RawR s r} => (.tuple [.str r.1.1, .bool r.1.2], H, z0)) ?_)
  · obtain ⟨⟨r, h1⟩, hr⟩ := h
    exact ⟨r, h1, hr⟩
  refine callK_start (n := 49) (rs := [.tmp 2, .tmp 3]) Tryd.func26 rfl rfl rfl ?_
  intro σ hl ha
  have h0 := ha 0 (by simp)
  clear ha
  simp only [Option.getD_some, List.getElem?_cons_zero, List.getElem?_cons_succ] at h0
  simp only [go_sem, simprocAttr, hl, h0]
  refine go_rounds (fun n st => ∃ σ i b v T e, n + i = s.length ∧ i = 2 * b.length ∧ hexP b = s.take i ∧ Buf H.length T v b ∧ st = ⟨σ, H ++ T, e⟩ ∧ clean H.length e ∧ σ.length = 49 ∧ fr σ 0 = .str s ∧ fr σ 4 = v ∧ fr σ 5 = .int .i64 (i : Nat)) s.length
    ⟨_, 0, [], .nils, [], _, rfl, rfl, rfl, .inl ⟨rfl, rfl⟩, by rw [List.append_nil], ⟨rfl, rfl⟩, by simp only [go_sem, simprocAttr, hl, h0]⟩ ?_
  rintro n _ ⟨σ, i, b, v, T, e, hn, hi, hb, hv, rfl, he, hl, h0, h4, h5⟩
  have w1 : IntKind.i64.wrap ((i : Int) + 1) = ((i + 1 : Nat) : Int) := by rw [wrap_i64 (by omega)]; omega
  by_cases hlt : i + 1 < s.length
  · obtain ⟨c, hc⟩ : ∃ c, s[i]? = some c := ⟨_, List.getElem?_eq_getElem (by omega)⟩
    obtain ⟨d, hd⟩ : ∃ d, s[i + 1]? = some d := ⟨_, List.getElem?_eq_getElem (by omega)⟩
    have rc := fun H k => ixb47 [48, 49, 50, 51, 52, 53, 54, 55, 56, 57, 97, 98, 99, 100, 101, 102] c H k
    have rd := fun H k => ixb47 [48, 49, 50, 51, 52, 53, 54, 55, 56, 57, 97, 98, 99, 100, 101, 102] d H k
    have w2 : IntKind.i64.wrap ((i : Int) + 2) = ((i + 2 : Nat) : Int) := by rw [wrap_i64 (by omega)]; omega
    simp only [go_sem, simprocAttr, hl, h0, h4, h5, w1, hlt]
    refine go_drawZ tFollows (by kernel_rfl) ?_
    rcases ixh c with ⟨xc, nc⟩ | ⟨x, hx, ex, xc⟩
    · rw [xc] at rc
      simp only [go_sem, simprocAttr, hl, h0, h4, h5, w1, hc, hd, rc, rd, he]
      exact ⟨⟨_, raw_bad (List.mem_of_getElem? hc) nc⟩, rfl⟩
    · rw [xc] at rc
      have gx : decide ((x : Int) < 0) = false := by simp
      rcases ixh d with ⟨xd, nd⟩ | ⟨y, hy, ey, xd⟩
      · rw [xd] at rd
        simp only [go_sem, simprocAttr, hl, h0, h4, h5, w1, hc, hd, rc, rd, gx, he]
        exact ⟨⟨_, raw_bad (List.mem_of_getElem? hd) nd⟩, rfl⟩
      · rw [xd] at rd
        have gy : decide ((y : Int) < 0) = false := by simp
        have w3 : IntKind.i64.wrap ((x : Int) * 2 ^ min (Int.toNat 4) 64) = ((16 * x : Nat) : Int) := by
          have : (2 : Int) ^ min (Int.toNat 4) 64 = 16 := by decide
          rw [this, wrap_i64 (by omega)]; omega
        have w3' : IntKind.i64.wrap ((x : Int) * 2 ^ min 4 64) = ((16 * x : Nat) : Int) := w3
        have w4 := or16 hx hy
        have w5 : IntKind.u8.wrap ((16 * x + y : Nat) : Int) = ((UInt8.ofNat (16 * x + y)).toNat : Int) := by
          have : (UInt8.ofNat (16 * x + y)).toNat = 16 * x + y := UInt8.toNat_ofNat_of_lt' (by simpa using (show 16 * x + y < 256 by omega))
          rw [this, wrap_u8 (by omega)]
        have hbs := bytes_one (UInt8.ofNat (16 * x + y))
        have hbl : b.length ≤ 1000000 := by omega
        obtain ⟨v', T2, e2, happ, hcl, _, hbuf⟩ := hv.push (UInt8.ofNat (16 * x + y)) hbl
        have hnext : hexP (b ++ [UInt8.ofNat (16 * x + y)]) = s.take (i + 2) := by
          rw [take2 hc hd, hexP_app, hb]
          congr 1
          show twoP _ ++ [] = _
          rw [twoP_of hx hy, ex, ey]; rfl
        simp only [go_sem, simprocAttr, hl, h0, h4, h5, w1, w2, hc, hd, rc, rd, gx, gy, w3, w3', w4, w5, hbs, happ]
        exact ⟨n - 2, by omega, _, i + 2, _, v', T2, _, by omega, by simp; omega, hnext, hbuf, rfl, by simp only [go_sem, simprocAttr, he, hcl], by simp only [go_sem, simprocAttr, hl, h0]⟩
  · have hst := hv.str (n := 0)
    have hi2 : i = 2 * (s.length / 2) := by omega
    rw [hi2] at hb
    have hend := raw_end hb
    have w6 : (s.length : Int).tmod 2 = ((s.length % 2 : Nat) : Int) := by rw [Int.tmod_eq_emod_of_nonneg (by omega)]; omega
    by_cases h2 : s.length % 2 = 0
    · have g1 : (((s.length % 2 : Nat) : Int) == 0) = true := by rw [h2]; rfl
      have g2 : decide ((s.length : Int) > 0) = decide (0 < s.length) := by
        rw [Bool.eq_iff_iff]; simp
      simp only [go_sem, simprocAttr, hl, h0, h4, h5, w1, hlt, hst, w6, g1, g2, he]
      exact ⟨⟨_, hend⟩, by simp only [h2, decide_true, Bool.true_and]⟩
    · have g1 : (((s.length % 2 : Nat) : Int) == 0) = false := by
        rw [beq_eq_false_iff_ne]; omega
      simp only [go_sem, simprocAttr, hl, h0, h4, h5, w1, hlt, hst, w6, g1, he]
      exact ⟨⟨_, hend⟩, by simp only [h2, decide_false, Bool.false_and]⟩
end Go.Proofs.YtjemmehgfheflaaDoor.V
