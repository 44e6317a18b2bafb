/- Rows of bytes; numbers and short texts read out of them: as 'V' runs the program's functions. No conditions. -/
import Derived.Test.YtgkpgpdkolpfkaaDoorWNameB
namespace Go.Proofs.YtgkpgpdkolpfkaaDoor.V
open Go
set_option linter.unusedSimpArgs false
set_option linter.unusedVariables false
attribute [local irreducible] go goOps goD opK callK callT stepK leaveTo nextK

/-- A slice that reads as bytes. -/
def Rd (H : Hp) (v : AV) (bs : List UInt8) : Prop := (v = .nils ∧ bs = []) ∨
  ∃ b o c pre post e k, v = .slice b o bs.length c ∧ pre.length = o ∧ H[b]? = some (.cells (pre ++ (u8s bs ++ post)) e k) ∧ ((∃ n, c = .ex n ∧ bs.length ≤ n) ∨ (c = .op o ∧ e = 5 ∧ ∃ fz st, k = .op fz st))
/-- Or one that is empty and lies anywhere. -/
def Rv (H : Hp) (v : AV) (bs : List UInt8) : Prop := Rd H v bs ∨ ∃ b, v = .slice b 0 0 (.op 0) ∧ H[b]? = some .void ∧ bs = []
theorem Rd.old {H : Hp} {v : AV} {bs : List UInt8} (h : Rd H v bs) (l : Hp) : Rd (H ++ l) v bs := by
  obtain h | ⟨b, o, c, pre, post, e, k, h1, h2, h3, h4⟩ := h
  · exact .inl h
  · exact .inr ⟨b, o, c, pre, post, e, k, h1, h2, hp_old h3, h4⟩
theorem Rv.old {H : Hp} {v : AV} {bs : List UInt8} (h : Rv H v bs) (l : Hp) : Rv (H ++ l) v bs := by
  obtain h | ⟨b, h1, h2, h3⟩ := h
  · exact .inl (h.old l)
  · exact .inr ⟨b, h1, hp_old h2, h3⟩
theorem Rd.v {H : Hp} {v : AV} {bs : List UInt8} (h : Rd H v bs) : Rv H v bs := .inl h
theorem Rd.scl {H : Hp} {v : AV} {bs : List UInt8} (h : Rd H v bs) : scal v = true := by
  obtain ⟨rfl, rfl⟩ | ⟨b, o, c, pre, post, e, k, rfl, h2, h3, h4⟩ := h <;> rfl
theorem Rv.len {H : Hp} {v : AV} {bs : List UInt8} (h : Rv H v bs) (H' : Hp) : evLen Tryd.prog 31 v H' = some (.int .i64 bs.length) := by
  obtain (⟨rfl, rfl⟩ | ⟨b, o, c, pre, post, e, k, rfl, h2, h3, h4⟩) | ⟨b, rfl, h2, rfl⟩ := h <;> simp only [evLen, tsh_31] <;> rfl
theorem Rv.at {H : Hp} {v : AV} {bs : List UInt8} (h : Rv H v bs) {i : Nat} {c : UInt8} (hc : bs[i]? = some c) :
    ∃ b j row e k, evIndexAddr Tryd.prog 31 v (.int .i64 (i : Nat)) = some (.ptr b j) ∧ (∀ l : Hp, (H ++ l)[b]? = some (.cells row e k)) ∧ H[b]? = some (.cells row e k) ∧ ldC j 1 false (.cells row e k) = some (.int .u8 c.toNat) := by
  have hi : i < bs.length := (List.getElem?_eq_some_iff.1 hc).1
  obtain (⟨rfl, rfl⟩ | ⟨b, o, cc, pre, post, e, k, rfl, h2, h3, h4⟩) | ⟨b, rfl, h2, rfl⟩ := h
  · simp at hi
  · refine ⟨b, o + i, _, e, k, ?_, fun l => hp_old h3, h3, ?_⟩
    · simp only [evIndexAddr, tsh_31]
      rw [if_pos (by omega)]
      simp
    · rw [ldC_f, ← h2, List.getElem?_append_right (by omega), Nat.add_sub_cancel_left, List.getElem?_append_left (by rw [u8s_len]; exact hi)]
      exact u8s_at hc
  · simp at hi
theorem u8s_mid {pre post : List AV} {bs : List UInt8} {lo hi : Nat} (h1 : lo ≤ hi) (h2 : hi ≤ bs.length) : pre ++ (u8s bs ++ post) = (pre ++ u8s (bs.take lo)) ++ (u8s ((bs.drop lo).take (hi - lo)) ++ (u8s (bs.drop hi) ++ post)) := by
  have : bs = bs.take lo ++ ((bs.drop lo).take (hi - lo) ++ bs.drop hi) := by
    have e : bs.drop hi = (bs.drop lo).drop (hi - lo) := by rw [List.drop_drop]; congr 1; omega
    rw [e, List.take_append_drop, List.take_append_drop]
  conv => lhs; rw [this]
  simp only [u8s_app, List.append_assoc]
theorem Rd.sl {H : Hp} {v : AV} {bs : List UInt8} (h : Rd H v bs) {lo hi : Nat} (h1 : lo ≤ hi) (h2 : hi ≤ bs.length) :
    ∃ y L, (∀ kk, slK Tryd.prog 31 v (some (.int .i64 (lo : Nat))) (some (.int .i64 (hi : Nat))) none H kk = kk (y, H ++ L, z0)) ∧ Rv (H ++ L) y ((bs.drop lo).take (hi - lo)) := by
  have b1 : (0 : Int) ≤ (hi : Nat) := by omega
  have b2 : (0 : Int) ≤ (lo : Nat) := by omega
  have b3 : ((lo : Nat) : Int) ≤ (hi : Nat) := by omega
  obtain ⟨rfl, rfl⟩ | ⟨b, o, c, pre, post, e, k, rfl, ho, hb, hc⟩ := h
  · have : hi = 0 := by simpa using h2
    subst this
    have : lo = 0 := by omega
    subst this
    refine ⟨.nils, [], fun kk => ?_, .inl (.inl ⟨rfl, rfl⟩)⟩
    simp only [go_sem, simprocAttr, List.append_nil]
  · have hmid := u8s_mid (pre := pre) (post := post) h1 h2
    have hlen : ((bs.drop lo).take (hi - lo)).length = hi - lo := by rw [List.length_take, List.length_drop]; omega
    have hpl : (pre ++ u8s (bs.take lo)).length = o + lo := by rw [List.length_append, u8s_len, List.length_take, ho]; omega
    have hrow : (pre ++ (u8s bs ++ post)).length = o + (bs.length + post.length) := by rw [List.length_append, List.length_append, u8s_len, ho]
    have hb0 := hb
    rw [hmid] at hb
    obtain ⟨n, rfl, hn⟩ | ⟨rfl, rfl, fz, st, rfl⟩ := hc
    · have c1 : hi ≤ n := by omega
      by_cases hq : n = lo
      · refine ⟨.slice b o (hi - lo) (.ex (n - lo)), [], fun kk => ?_, .inl (.inr ⟨b, o, _, pre, u8s (bs.take lo) ++ (u8s (bs.drop hi) ++ post), e, k, by rw [hlen], ho, ?_, .inl ⟨_, rfl, by rw [hlen]; omega⟩⟩)⟩
        · simp only [go_sem, simprocAttr, b1, b2, b3, c1, hq, List.append_nil]
          simp [show lo ≤ hi from h1, show hi ≤ lo by omega]
        · have : (bs.drop lo).take (hi - lo) = [] := by rw [show hi - lo = 0 by omega, List.take_zero]
          rw [this] at hb ⊢
          simpa [u8s] using hb
      · refine ⟨.slice b (o + lo) (hi - lo) (.ex (n - lo)), [], fun kk => ?_, .inl (.inr ⟨b, o + lo, _, pre ++ u8s (bs.take lo), u8s (bs.drop hi) ++ post, e, k, by rw [hlen], hpl, by rw [List.append_nil]; exact hb, .inl ⟨_, rfl, by rw [hlen]; omega⟩⟩)⟩
        simp only [go_sem, simprocAttr, b1, b2, b3, c1, hq, List.append_nil]
    · have hrule : ∀ kk, slK Tryd.prog 31 (.slice b o bs.length (.op o)) (some (.int .i64 (lo : Nat))) (some (.int .i64 (hi : Nat))) none H kk = guardK (.bool (decide (lo = 0 ∨ lo < bs.length + post.length))) true (kk (.slice b (o + lo) (hi - lo) (.op (o + lo)), H, z0)) (lo = hi ∧ kk (.slice H.length 0 0 (.op 0), H ++ [.void], z0)) := by
        intro kk
        rw [slK_op (by rw [tsh_31]; rfl), tsh_31, bindK_some, hb0, bindK_some, knC_c, if_pos ⟨rfl, by decide, by omega⟩, bindK_some, bnd_lh, hrow, Nat.div_one, Nat.add_sub_cancel_left]
        simp only [Int.toNat_natCast, shZ_s, Nat.mul_one]
        have q1 : ((0 : Int) ≤ (hi : Nat) ∧ ((hi : Nat) : Int) ≤ ((bs.length + post.length : Nat) : Int)) = True := eq_true ⟨b1, by omega⟩
        have q2 : ((0 : Int) ≤ (lo : Nat) ∧ ((lo : Nat) : Int) ≤ ((hi : Nat) : Int)) = True := eq_true ⟨b2, b3⟩
        rw [q1, q2, true_and, true_and, show o + lo * 1 = o + lo by omega]
      by_cases hq : lo = 0 ∨ lo < bs.length + post.length
      · refine ⟨.slice b (o + lo) (hi - lo) (.op (o + lo)), [], fun kk => ?_, .inl (.inr ⟨b, o + lo, _, pre ++ u8s (bs.take lo), u8s (bs.drop hi) ++ post, _, _, by rw [hlen], hpl, by rw [List.append_nil]; exact hb, .inr ⟨rfl, rfl, fz, st, rfl⟩⟩)⟩
        rw [hrule, decide_eq_true hq, guardK_tt, List.append_nil]
      · refine ⟨.slice H.length 0 0 (.op 0), [.void], fun kk => ?_, .inr ⟨H.length, rfl, by simp, ?_⟩⟩
        · rw [hrule, decide_eq_false hq, guardK_ft]
          simp only [show lo = hi by omega, true_and]
        · rw [show hi - lo = 0 by omega, List.take_zero]
theorem bytesOf_u8s (s : List UInt8) : evConv.bytesOf (u8s s) = some s := conv_u8s s
theorem Rv.rd {H : Hp} {v : AV} {bs : List UInt8} (h : Rv H v bs) : v = .nils ∧ bs = [] ∨ ∃ b o c, v = .slice b o bs.length c ∧ rd H b o bs.length = some (u8s bs) := by
  obtain (⟨rfl, rfl⟩ | ⟨b, o, c, pre, post, e, k, rfl, h2, h3, h4⟩) | ⟨b, rfl, h2, rfl⟩ := h
  · exact .inl ⟨rfl, rfl⟩
  · refine .inr ⟨b, o, c, rfl, ?_⟩
    unfold V.rd
    rw [h3]
    show (if _ then _ else _) = _
    rw [if_pos (by rw [List.length_append, List.length_append, u8s_len]; omega), ← h2, List.drop_left, List.take_left' (by rw [u8s_len])]
  · refine .inr ⟨b, 0, .op 0, rfl, ?_⟩
    unfold V.rd
    rw [h2]
    rfl
theorem Rv.str {H : Hp} {v : AV} {bs : List UInt8} (h : Rv H v bs) : evConv Tryd.prog 31 9 v H = some (.str bs, H) := by
  obtain ⟨rfl, rfl⟩ | ⟨b, o, c, rfl, hr⟩ := h.rd
  · exact conv_31_9n
  · rw [conv_31_9, hr, Option.bind_some, bytesOf_u8s]; rfl

/-! ### octet -/
set_option maxRecDepth 20000 in
theorem size8 (H k) : callK Tryd.prog 108 [] H k = k (.int .i64 1, H, z0) := by
  refine callK_eq (r := (.int .i64 1, H, z0)) ?_ k
  refine callK_start (n := 19) (rs := [.tmp 0]) Tryd.func108 rfl rfl rfl ?_
  intro σ hl ha
  clear ha
  have w2 : IntKind.u8.wrap 0 = 0 := by decide
  have w3 : IntKind.u8.wrap (-1) = 255 := by decide
  have w4 : IntKind.u32.wrap 255 = 255 := by decide
  have g1 : decide ((255 : Int).fdiv (2 ^ min 7 32) > 1) = false := by decide
  simp only [go_sem, simprocAttr, hl, w2, w3]
  rw [go_loop]
  simp only [go_sem, simprocAttr, hl, w2, w3, w4, g1]

/-- What lies at a place: a byte, and where the next one lies; an error. -/
def tk8 (bs : List UInt8) (at_ : Nat) : Nat × Nat × Nat := if bs.length < at_ then (0, 0, 1) else match bs[at_]? with | some c => (c.toNat, at_ + 1, 0) | none => (0, 0, 6)
set_option maxRecDepth 20000 in
theorem take8 (bs : List UInt8) (a : Nat) (H k) (v : AV) (hv : Rd H v bs) (hn : bs.length ≤ 4611686018427387904) (ha' : a ≤ 4611686018427387904) :
    callK Tryd.prog 94 [v, .int .i64 (a : Nat)] H k = k (.tuple [.int .u8 ((tk8 bs a).1 : Nat), .int .i64 ((tk8 bs a).2.1 : Nat), .int .i64 ((tk8 bs a).2.2 : Nat)], H, z0) := by
  refine callK_eq (r := (.tuple [.int .u8 ((tk8 bs a).1 : Nat), .int .i64 ((tk8 bs a).2.1 : Nat), .int .i64 ((tk8 bs a).2.2 : Nat)], H, z0)) ?_ k
  refine callK_start (n := 50) (rs := [.tmp 4, .tmp 5, .tmp 6]) Tryd.func94 rfl rfl rfl ?_
  intro σ hl ha
  have h0 := ha 0 (by simp)
  have h1 := ha 1 (by simp)
  clear ha
  simp only [Option.getD_some, List.getElem?_cons_zero, List.getElem?_cons_succ] at h0 h1
  have hs := fun H k => size8 H k
  have hlen := fun H' => hv.v.len H'
  have g0 : decide ((a : Int) < 0) = false := by simp
  by_cases hbig : bs.length < a
  · have ht : tk8 bs a = (0, 0, 1) := if_pos hbig
    simp only [go_sem, simprocAttr, hl, h0, h1, hs, hlen, g0, hbig, ht, gt_iff_lt]
  · have w1 : IntKind.i64.wrap ((bs.length : Int) - (a : Int)) = ((bs.length - a : Nat) : Int) := by rw [wrap_i64 (by omega)]; omega
    cases hc : bs[a]? with
    | none =>
      have ht : tk8 bs a = (0, 0, 6) := by unfold tk8; rw [if_neg hbig, hc]
      have hl' : bs.length ≤ a := by simpa using hc
      have g2 : decide (((bs.length - a : Nat) : Int) < 1) = true := by simp; omega
      simp only [go_sem, simprocAttr, hl, h0, h1, hs, hlen, g0, hbig, w1, g2, ht]
    | some c =>
      have ht : tk8 bs a = (c.toNat, a + 1, 0) := by unfold tk8; rw [if_neg hbig, hc]
      have hlt : a < bs.length := (List.getElem?_eq_some_iff.1 hc).1
      have g2 : decide (((bs.length - a : Nat) : Int) < 1) = false := by simp; omega
      have w2 : IntKind.i64.wrap ((a : Int) + 1) = ((a + 1 : Nat) : Int) := by rw [wrap_i64 (by omega)]; omega
      obtain ⟨y, L, hsl, hy⟩ := hv.sl (lo := a) (hi := a + 1) (by omega) (by omega)
      have hy1 : (bs.drop a).take (a + 1 - a) = [c] := by rw [Nat.add_sub_cancel_left, drop_at hc]; rfl
      rw [hy1] at hy
      have hylen := fun H' => hy.len H'
      obtain ⟨b, j, row, e, kd, hix, hg, hg0, hld⟩ := hy.at (i := 0) (c := c) rfl
      have hix : evIndexAddr Tryd.prog 31 y (.int .i64 0) = some (.ptr b j) := hix
      have g3 : decide ((0 : Int) < ((([c] : List UInt8).length : Nat) : Int)) = true := by simp
      have hcl := c.toNat_lt
      have w3 : IntKind.u32.wrap (c.toNat : Int) = (c.toNat : Int) := wrap_u32 (by omega)
      have w4 : IntKind.u8.wrap (c.toNat : Int) = (c.toNat : Int) := wrap_u8 (by omega)
      have w5 : IntKind.u32.wrap (BitVec.ofInt 32 0 ||| BitVec.ofInt 32 (c.toNat : Int)).toNat = (c.toNat : Int) := by
        have : (BitVec.ofInt 32 0 ||| BitVec.ofInt 32 (c.toNat : Int)).toNat = c.toNat := by
          simp [BitVec.ofInt_natCast]
        rw [this]; exact w3
      simp only [go_sem, simprocAttr, hl, h0, h1, hs, hlen, g0, hbig, w1, g2, w2, hsl, hylen, ht]
      rw [go_loop]
      have w6 : IntKind.u32.wrap 0 = 0 := rfl
      simp only [go_sem, simprocAttr, hl, g3, hix, hg, hg0, hld, w3, i_orT]
      rw [go_loop]
      simp only [go_sem, simprocAttr, hl, hs, h1, w2, w6, ht]
      refine congrArg (fun n => (AV.tuple [AV.int IntKind.u8 n, AV.int IntKind.i64 ((a + 1 : Nat) : Int), AV.int IntKind.i64 0], H, z0)) ?_
      show IntKind.u8.wrap (IntKind.u32.wrap (BitVec.ofInt 32 0 ||| BitVec.ofInt 32 (c.toNat : Int)).toNat) = (c.toNat : Int)
      rw [w5, w4]
end Go.Proofs.YtgkpgpdkolpfkaaDoor.V
