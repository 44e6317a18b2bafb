/- The service chapter: the text of a meta, as 'V' runs the program's function. No conditions. -/
import Derived.Test.YtjemmehgfheflaaDoorSWalkG
namespace Go.Proofs.YtjemmehgfheflaaDoor.V
open Go
set_option linter.unusedSimpArgs false
set_option linter.unusedVariables false

/-- What holds where a piece of code ends, whichever way it took. -/
def cutQ (P : Program) (Q : Ex → St → Prop) (k : List It) (I : St → Prop) : Ex → St → Prop
  | .normal, s => I s
  | .exit i, s => leaveTo P Q i k s
  | ex, s => contQ P Q k ex s
section
variable {P : Program} {Q : Ex → St → Prop} {k : List It} {σ : List AV} {H : Hp} {e : Ef} {I : St → Prop}
theorem cutQ_n : cutQ P Q k I .normal ⟨σ, H, e⟩ = I ⟨σ, H, e⟩ := rfl
theorem cutQ_e {i : Nat} : cutQ P Q k I (.exit i) ⟨σ, H, e⟩ = leaveTo P Q i k ⟨σ, H, e⟩ := rfl
theorem cutQ_r : cutQ P Q k I .ret ⟨σ, H, e⟩ = Q .ret ⟨σ, H, e⟩ := contQ_ret k _
theorem go_cut {c : Code} {s : St} (I : St → Prop) (h : go P (cutQ P Q k I) [.code c] s) (h2 : ∀ s, I s → go P Q k s) : go P Q (.code c :: k) s := by
  refine goCode_mono (Q := cutQ P Q k I) h (fun ex s hq => ?_)
  cases ex with
  | normal => exact h2 s hq
  | exit i => exact hq
  | goto l => exact hq
  | ret => exact hq
theorem condK_cut {b : Bool} {a a' : Code} {s : St} (I : St → Prop) (h : b = true → go P (cutQ P Q k I) [.code a] s) (h' : b = false → go P (cutQ P Q k I) [.code a'] s) (h2 : ∀ s, I s → go P Q k s) :
    condK (some (.bool b)) (go P Q (.code a :: k) s) (go P Q (.code a' :: k) s) :=
  condK_split (fun hb => go_cut I (h hb) h2) (fun hb => go_cut I (h' hb) h2)
end
attribute [go_sem ↓] cutQ_n cutQ_e cutQ_r
attribute [irreducible] cutQ
attribute [local irreducible] go goOps goD opK callK callT stepK leaveTo nextK
theorem vcells_fn {f : Fn} {a b : List AV} : vcells (.func f a b) = [.func f a b] := rfl
attribute [go_sem] vcells_fn
theorem build_nums (H : Hp) (u v w : Int) : evBuildSlice Tryd.prog 69 3 [(0, .int .u16 u), (1, .int .u16 v), (2, .int .u16 w)] H = some (.slice H.length 0 3 (.ex 3), H ++ [.cells [.int .u16 u, .int .u16 v, .int .u16 w] 39 .rw]) := by
  simp only [evBuildSlice, tsh_69, tzero_39, Option.bind_some]
  rfl

set_option maxRecDepth 20000 in
set_option maxHeartbeats 1000000 in
theorem told20 (a b c : List UInt8) (H k x ss) (hx : Sw H x ss) (ht : Tb H) (hs : Small a b c ss) : callK Tryd.prog 20 [.agg [.str a, .str b, .str c, x]] H k = k (.str (toldP a b c ss), H, z0) := by
  refine callK_eq (r := (.str (toldP a b c ss), H, z0)) ?_ k
  refine callK_start (n := 88) (rs := [.tmp 2]) Tryd.func20 rfl rfl rfl ?_
  intro σ hl ha0
  have h0 := ha0 0 (by simp)
  clear ha0
  have xl := hx.sv.len
  have hlen := head_len hs
  simp only [Option.getD_some, List.getElem?_cons_zero, List.getElem?_cons_succ] at h0
  have hsm := hs
  obtain ⟨⟨m1, m2, m3, m4⟩, m5, m6⟩ := hs
  -- the builder, the method value
  have b0 : Bld H.length [.cells [.str a, .str b, .str c, x] 24 .rw, .cells [.nilp, .nils] 61 .rw, .cells [.func (.func 34) [.ptr (H.length + 1) 0] []] 62 .rw] 1 [] := ⟨_, _, rfl, .inl rfl, .inl ⟨rfl, rfl⟩⟩
  have p0 : Put H.length [.cells [.str a, .str b, .str c, x] 24 .rw, .cells [.nilp, .nils] 61 .rw, .cells [.func (.func 34) [.ptr (H.length + 1) 0] []] 62 .rw] 2 1 := rfl
  obtain ⟨T1, e1, b1, k1, c1, r1⟩ := wstr34 H _ 1 [] a b0 m5 (by simp only [fits, decide_eq_true_eq, List.length_nil]; omega)
  have p1 := p0.keep k1 (by decide)
  have z1 := k1.2 0 _ (by decide) rfl rfl
  obtain ⟨T2, e2, b2, k2, c2, r2⟩ := hexw_any H T1 2 1 _ [32, 52, 61] b b1 p1 (by decide) (by decide) (by simp; omega)
  have p2 := p1.keep k2 (by decide)
  have z2 := k2.2 0 _ (by decide) z1 rfl
  have hl1 := hexw_len [32, 52, 61] b
  obtain ⟨T3, e3, b3, k3, c3, r3⟩ := hexw_any H T2 2 1 _ [32, 54, 61] c b2 p2 (by decide) (by decide) (by simp only [List.length_append, List.length_cons, List.length_nil] at *; omega)
  have p3 := p2.keep k3 (by decide)
  have z3 := k3.2 0 _ (by decide) z2 rfl
  simp only [go_sem, simprocAttr, hl, h0, r1, r2, r3, z1, z2, z3, xl]
  generalize hP : [] ++ a ++ hexw [32, 52, 61] b ++ hexw [32, 54, 61] c = P0 at b3
  have hP0 : P0.length ≤ 30000 := by rw [← hP]; simpa using hlen
  refine go_rounds (fun n st => ∃ σ i T e, n + i = ss.length ∧ st = ⟨σ, H ++ T, e⟩ ∧ Bld H.length T 1 (P0 ++ (ss.take i).flatMap svcP) ∧ Put H.length T 2 1 ∧ clean H.length e ∧ σ.length = 88 ∧ fr σ 3 = .ptr (H.length + 1) 0 ∧ fr σ 4 = .ptr (H.length + 2) 0 ∧ fr σ 5 = .func (.func 35) [] [.ptr (H.length + 2) 0, .ptr (H.length + 1) 0] ∧ fr σ 27 = x ∧ fr σ 28 = .int .i64 ss.length ∧ fr σ 29 = .int .i64 (i : Nat)) ss.length
    ⟨_, 0, T3, _, rfl, rfl, by simpa using b3, p3, clean_and (clean_and (clean_and (by simp [clean, low]) c1.cln) c2) c3, by simp only [go_sem, simprocAttr, hl]⟩ ?_
  rintro n _ ⟨σ, i, T, e, hi, rfl, hb, hp, he, hl, h3, h4, h5, h27, h28, h29⟩
  by_cases hlt : i < ss.length
  · obtain ⟨s, hss⟩ : ∃ s, ss[i]? = some s := ⟨_, List.getElem?_eq_getElem hlt⟩
    obtain ⟨bx, csx, ex, kx, xa, xb⟩ := hx.sv.at hss
    have lx := sflat_ld ss i csx (e := ex) (k := kx) hss
    have hw := wrap_succ (show i < 9223372036854775807 by omega)
    have hpl : (P0 ++ (ss.take i).flatMap svcP).length ≤ 11000000 := by
      have := told_len hsm i
      rw [List.length_append]; omega
    obtain ⟨⟨s1, s2⟩, s3, s4, s5, s6⟩ := m6 s (List.mem_of_getElem? hss)
    have hT : 2 < T.length := lt_of_get hp
    have hb' := hb.more [.cells s.cells 41 .rw]
    have hp' := hp.more [.cells s.cells 41 .rw]
    obtain ⟨q, hq⟩ : ∃ q, T.length = q := ⟨_, rfl⟩
    have hq' : (T ++ [.cells s.cells 41 .rw])[q]? = some (.cells s.cells 41 .rw) := by subst hq; simp
    have hq2 : q ≠ 1 := by omega
    simp only [go_sem, simprocAttr, hl, h3, h4, h5, h27, h28, h29, hlt, xa, xb, lx]
    generalize hB : P0 ++ (ss.take i).flatMap svcP = B at *
    refine condK_cut (fun st => ∃ σ T e, st = ⟨σ, H ++ T, e⟩ ∧ Bld H.length T 1 (B ++ (if s.dg = true then [32, 117, 61] else [32, 116, 61])) ∧ Put H.length T 2 1 ∧ T[q]? = some (.cells s.cells 41 .rw) ∧ clean H.length e ∧ σ.length = 88 ∧ fr σ 3 = .ptr (H.length + 1) 0 ∧ fr σ 4 = .ptr (H.length + 2) 0 ∧ fr σ 5 = .func (.func 35) [] [.ptr (H.length + 2) 0, .ptr (H.length + 1) 0] ∧ fr σ 7 = .ptr (H.length + q) 0 ∧ fr σ 27 = x ∧ fr σ 28 = .int .i64 ss.length ∧ fr σ 29 = .int .i64 (i : Nat))
      (fun hdg => ?_) (fun hdg => ?_) ?_
    · obtain ⟨T1, e1, b1, k1, c1, r1⟩ := wstr34 H _ 1 B [32, 117, 61] hb' (by decide) (by simp only [fits, decide_eq_true_eq, List.length_cons, List.length_nil]; omega)
      have hp2 : (T ++ [.cells s.cells 41 .rw])[2]? = some (.cells [.func (.func 34) [.ptr (H.length + 1) 0] []] 62 .rw) := hp'
      have c1 := c1.cln
      simp only [go_sem, simprocAttr, hl, h3, h4, h5, h27, h28, h29, hp2, r1, hq]
      exact ⟨_, T1, _, rfl, by simp only [hdg, if_true]; exact b1, hp'.keep k1 (by decide), k1.2 q _ hq2 hq' rfl, by simp only [go_sem, simprocAttr, he, c1], by simp only [go_sem, simprocAttr, hl, h3, h4, h5, h27, h28, h29]⟩
    · obtain ⟨T1, e1, b1, k1, c1, r1⟩ := wstr34 H _ 1 B [32, 116, 61] hb' (by decide) (by simp only [fits, decide_eq_true_eq, List.length_cons, List.length_nil]; omega)
      have hp2 : (T ++ [.cells s.cells 41 .rw])[2]? = some (.cells [.func (.func 34) [.ptr (H.length + 1) 0] []] 62 .rw) := hp'
      have c1 := c1.cln
      simp only [go_sem, simprocAttr, hl, h3, h4, h5, h27, h28, h29, hp2, r1, hq]
      exact ⟨_, T1, _, rfl, by simp only [hdg, Bool.false_eq_true, if_false]; exact b1, hp'.keep k1 (by decide), k1.2 q _ hq2 hq' rfl, by simp only [go_sem, simprocAttr, he, c1], by simp only [go_sem, simprocAttr, hl, h3, h4, h5, h27, h28, h29]⟩
    · rintro _ ⟨σ, T1, e1, rfl, b1, p1, q1, he1, hl, h3, h4, h5, h7, h27, h28, h29⟩
      have hlh : (B ++ (if s.dg = true then [32, 117, 61] else [32, 116, 61])).length ≤ 11000003 := by rw [List.length_append]; split <;> simp <;> omega
      obtain ⟨T2, e2, b2, k2, c2, r2⟩ := wstr34 H T1 1 _ s.label b1 s1 (by simp only [fits, decide_eq_true_eq]; omega)
      have hbh : B ++ (if s.dg = true then [32, 117, 61] else [32, 116, 61]) ++ s.label = B ++ svcH s := by rw [List.append_assoc]; rfl
      rw [hbh] at b2
      have hlh2 : (B ++ svcH s).length ≤ 11006000 := by rw [← hbh, List.length_append]; omega
      have p2 := p1.keep k2 (by decide)
      have q2 := k2.2 q _ hq2 q1 rfl
      have hp1 : T1[2]? = some (.cells [.func (.func 34) [.ptr (H.length + 1) 0] []] 62 .rw) := p1
      have c2 := c2.cln
      obtain ⟨w, hw2⟩ : ∃ w, T2.length = w := ⟨_, rfl⟩
      have hwn : w ≠ 1 := by have := lt_of_get p2; omega
      simp only [go_sem, simprocAttr, hl, h3, h4, h5, h7, h27, h28, h29, hp1, q1, q2, r2, build_nums, hw2]
      refine go_rounds (fun m st => ∃ σ r T e, m + r = 3 ∧ st = ⟨σ, H ++ T, e⟩ ∧ Bld H.length T 1 (B ++ svcH s ++ ([s.port, s.prio, s.weight].take r).flatMap numP) ∧ Put H.length T 2 1 ∧ T[q]? = some (.cells s.cells 41 .rw) ∧ T[w]? = some (.cells [.int .u16 s.port, .int .u16 s.prio, .int .u16 s.weight] 39 .rw) ∧ clean H.length e ∧ σ.length = 88 ∧ fr σ 3 = .ptr (H.length + 1) 0 ∧ fr σ 4 = .ptr (H.length + 2) 0 ∧ fr σ 5 = .func (.func 35) [] [.ptr (H.length + 2) 0, .ptr (H.length + 1) 0] ∧ fr σ 7 = .ptr (H.length + q) 0 ∧ fr σ 27 = x ∧ fr σ 28 = .int .i64 ss.length ∧ fr σ 29 = .int .i64 (i : Nat) ∧ fr σ 49 = .slice (H.length + w) 0 3 (.ex 3) ∧ fr σ 50 = .int .i64 3 ∧ fr σ 51 = .int .i64 (r : Nat)) 3
        ⟨_, 0, _, _, rfl, rfl, by simpa using b2.more _, p2.more _, get_app q2, by subst hw2; simp, by simp only [go_sem, simprocAttr, he1, c2], by simp only [go_sem, simprocAttr, hl, h3, h4, h5, h7, h27, h28, h29]⟩ ?_
      rintro m _ ⟨σ, r, T3, e3, hr, rfl, b3, p3, q3, w3, he3, hl, h3, h4, h5, h7, h27, h28, h29, h49, h50, h51⟩
      by_cases hr3 : r < 3
      · obtain ⟨v, hv, hv0, hvl⟩ : ∃ v, [s.port, s.prio, s.weight][r]? = some v ∧ (0 ≤ v ∧ v < 65536) ∧ ([.int .u16 s.port, .int .u16 s.prio, .int .u16 s.weight] : List AV)[r]? = some (.int .u16 v) := by
          have : r = 0 ∨ r = 1 ∨ r = 2 := by omega
          rcases this with rfl | rfl | rfl
          · exact ⟨_, rfl, s4, rfl⟩
          · exact ⟨_, rfl, s5, rfl⟩
          · exact ⟨_, rfl, s6, rfl⟩
        have hln : (([s.port, s.prio, s.weight].take r).flatMap numP).length ≤ 18 := by
          have h1 := flat_len (l := [s.port, s.prio, s.weight].take r) (f := numP) (m := 6) (fun v hv => by
            have := List.mem_of_mem_take hv
            simp only [List.mem_cons, List.mem_nil_iff, or_false] at this
            rcases this with rfl | rfl | rfl
            · exact numP_len s4
            · exact numP_len s5
            · exact numP_len s6)
          have : ([s.port, s.prio, s.weight].take r).length ≤ 3 := by rw [List.length_take]; omega
          omega
        have hl3 : (B ++ svcH s ++ ([s.port, s.prio, s.weight].take r).flatMap numP).length ≤ 11007000 := by rw [List.length_append]; omega
        have hdl := decP_len v.toNat (by omega)
        have hdp : 0 < (decP v.toNat).length := by
          rw [decP]; split <;> simp
        obtain ⟨T4, e4, b4, k4, c4, r4⟩ := wbyte36 H T3 1 _ 58 b3 (by simp only [fits, decide_eq_true_eq]; omega)
        have p4 := p3.keep k4 (by decide)
        obtain ⟨T5, e5, b5, k5, c5, r5⟩ := wstr34 H T4 1 _ (decP v.toNat) b4 hdp (by simp only [fits, decide_eq_true_eq, List.length_append, List.length_cons, List.length_nil] at *; omega)
        have hloud := c5.loud
        have ri := fun k => itoa37 v.toNat (H ++ T4) k (ht.old _) (by omega)
        have wv : IntKind.i64.wrap v = ((v.toNat : Nat) : Int) := by rw [wrap_i64 (by omega)]; omega
        have wr := wrap_succ (show r < 9223372036854775807 by omega)
        have hp4 : T4[2]? = some (.cells [.func (.func 34) [.ptr (H.length + 1) 0] []] 62 .rw) := p4
        simp only [show ((58 : UInt8).toNat : Int) = 58 from rfl] at r4
        have hr3' : decide ((r : Int) < 3) = true := by simp; omega
        have hr3i : (r : Int) < 3 := by omega
        simp only [go_sem, simprocAttr, hl, h3, h4, h5, h7, h27, h28, h29, h49, h50, h51, hr3', hr3i, w3, hvl, r4, Nat.mul_one]
        refine go_drawZ tFollows (by kernel_rfl) ?_
        simp only [go_sem, simprocAttr, hl, h3, h4, h5, h7, h27, h28, h29, h49, h50, h51, hp4, wv, ri, r5, hloud]
        refine ⟨(by kernel_rfl : effOk _ _ = true), ?_⟩
        have hbn : B ++ svcH s ++ ([s.port, s.prio, s.weight].take (r + 1)).flatMap numP = B ++ svcH s ++ ([s.port, s.prio, s.weight].take r).flatMap numP ++ [58] ++ decP v.toNat := by
          rw [flat_snoc hv]; simp [numP]
        have c4 := c4.cln
        have c5 := c5.cln
        simp only [go_sem, simprocAttr, hl, h3, h4, h5, h7, h27, h28, h29, h49, h50, h51, wr]
        exact ⟨m - 1, by omega, _, r + 1, T5, _, by omega, rfl, by rw [← List.append_assoc, hbn]; exact b5, p4.keep k5 (by decide), k5.2 q _ hq2 (k4.2 q _ hq2 q3 rfl) rfl, k5.2 w _ hwn (k4.2 w _ hwn w3 rfl) rfl, by simp only [go_sem, simprocAttr, he3, c4, c5], by simp only [go_sem, simprocAttr, hl, h3, h4, h5, h7, h27, h28, h29, h49, h50]⟩
      · have hr3e : r = 3 := by omega
        subst hr3e
        have hbn : B ++ svcH s ++ ([s.port, s.prio, s.weight].take 3).flatMap numP = B ++ svcH s ++ svcN s := rfl
        rw [hbn] at b3
        have hln : (svcN s).length ≤ 18 := by
          have := numP_len s4
          have := numP_len s5
          have := numP_len s6
          simp only [svcN, List.flatMap_cons, List.flatMap_nil, List.length_append, List.length_nil]; omega
        have hl3 : (B ++ svcH s ++ svcN s).length ≤ 11007000 := by rw [List.length_append]; omega
        obtain ⟨T4, e4, b4, k4, c4, r4⟩ := wbyte36 H T3 1 _ 58 b3 (by simp only [fits, decide_eq_true_eq]; omega)
        have p4 := p3.keep k4 (by decide)
        have q4 := k4.2 q _ hq2 q3 rfl
        have c4 := c4.cln
        simp only [show ((58 : UInt8).toNat : Int) = 58 from rfl] at r4
        have hr3' : decide (((3 : Nat) : Int) < 3) = false := by decide
        simp only [go_sem, simprocAttr, hl, h3, h4, h5, h7, h27, h28, h29, h49, h50, h51, hr3', r4, q4]
        generalize hB2 : B ++ svcH s ++ svcN s = B2 at *
        refine go_rounds (fun m st => ∃ σ r T e, m + r = s.text.length ∧ st = ⟨σ, H ++ T, e⟩ ∧ Bld H.length T 1 (B2 ++ 58 :: textP (s.text.take r)) ∧ Put H.length T 2 1 ∧ T[q]? = some (.cells s.cells 41 .rw) ∧ clean H.length e ∧ σ.length = 88 ∧ fr σ 3 = .ptr (H.length + 1) 0 ∧ fr σ 4 = .ptr (H.length + 2) 0 ∧ fr σ 5 = .func (.func 35) [] [.ptr (H.length + 2) 0, .ptr (H.length + 1) 0] ∧ fr σ 7 = .ptr (H.length + q) 0 ∧ fr σ 27 = x ∧ fr σ 28 = .int .i64 ss.length ∧ fr σ 29 = .int .i64 (i : Nat) ∧ fr σ 65 = .int .i64 s.text.length ∧ fr σ 66 = .int .i64 (r : Nat)) s.text.length
          ⟨_, 0, _, _, rfl, rfl, by simpa [textP] using b4, p4, q4, by simp only [go_sem, simprocAttr, he3, c4], by simp only [go_sem, simprocAttr, hl, h3, h4, h5, h7, h27, h28, h29]⟩ ?_
        rintro m _ ⟨σ, r, T5, e5, hr, rfl, b5, p5, q5, he5, hl, h3, h4, h5, h7, h27, h28, h29, h65, h66⟩
        by_cases hrl : r < s.text.length
        · obtain ⟨ch, hch⟩ : ∃ ch, s.text[r]? = some ch := ⟨_, List.getElem?_eq_getElem hrl⟩
          have wr := wrap_succ (show r < 9223372036854775807 by omega)
          have hlt2 := textP_len (s.text.take r)
          have htl : (s.text.take r).length ≤ 5000 := by rw [List.length_take]; omega
          have hl5 : (B2 ++ 58 :: textP (s.text.take r)).length ≤ 11023000 := by rw [List.length_append, List.length_cons]; omega
          have rs := fun H k => safe38 ch H k
          have htn : textP (s.text.take (r + 1)) = textP (s.text.take r) ++ byteP ch := flat_snoc hch
          simp only [go_sem, simprocAttr, hl, h3, h4, h5, h7, h27, h28, h29, h65, h66, hrl, q5, hch, rs]
          refine condK_split (fun hsafe => ?_) (fun hsafe => ?_)
          · obtain ⟨T6, e6, b6, k6, c6, r6⟩ := wbyte36 H T5 1 _ ch b5 (by simp only [fits, decide_eq_true_eq]; omega)
            have c6 := c6.cln
            have hbn : B2 ++ 58 :: textP (s.text.take (r + 1)) = B2 ++ 58 :: textP (s.text.take r) ++ [ch] := by
              rw [htn]; simp [byteP, hsafe]
            simp only [go_sem, simprocAttr, hl, h3, h4, h5, h7, h27, h28, h29, h65, h66, r6, wr]
            exact ⟨m - 1, by omega, _, r + 1, T6, _, by omega, rfl, by rw [hbn]; exact b6, p5.keep k6 (by decide), k6.2 q _ hq2 q5 rfl, by simp only [go_sem, simprocAttr, he5, c6], by simp only [go_sem, simprocAttr, hl, h3, h4, h5, h7, h27, h28, h29, h65]⟩
          · obtain ⟨T6, e6, b6, k6, c6, r6⟩ := hexw35 H T5 2 1 _ [37] [ch] b5 p5 (by decide) (by decide) (by simp) (by simp only [List.length_cons, List.length_nil] at *; omega)
            have c6 := c6.cln
            have hbn : B2 ++ 58 :: textP (s.text.take (r + 1)) = B2 ++ 58 :: textP (s.text.take r) ++ ([37] ++ hexP [ch]) := by
              rw [htn]; simp [byteP, hsafe, hexP]
            have d1 : r + 1 - r = 1 := by omega
            have d2 : (s.text.drop r).take 1 = [ch] := by
              rw [List.drop_eq_getElem_cons hrl, List.take_succ_cons, List.take_zero]
              rw [List.getElem?_eq_getElem hrl] at hch
              simpa using hch
            have d3 : r + 1 ≤ s.text.length := by omega
            have d4 : r ≤ r + 1 := by omega
            simp only [go_sem, simprocAttr, hl, h3, h4, h5, h7, h27, h28, h29, h65, h66, q5, d1, d2, d3, d4, wr, r6]
            exact ⟨m - 1, by omega, _, r + 1, T6, _, by omega, rfl, by rw [hbn]; exact b6, p5.keep k6 (by decide), k6.2 q _ hq2 q5 rfl, by simp only [go_sem, simprocAttr, he5, c6], by simp only [go_sem, simprocAttr, hl, h3, h4, h5, h7, h27, h28, h29, h65]⟩
        · have hte : s.text.take r = s.text := List.take_of_length_le (by omega)
          rw [hte] at b5
          have hbe : P0 ++ (ss.take (i + 1)).flatMap svcP = B2 ++ 58 :: textP s.text := by
            rw [flat_snoc hss, ← List.append_assoc, hB, ← hB2]; simp [svcP]
          simp only [go_sem, simprocAttr, hl, h3, h4, h5, h7, h27, h28, h29, h65, h66, hrl, hw]
          exact ⟨n - 1, by omega, _, i + 1, T5, _, by omega, rfl, by rw [hbe]; exact b5, p5, he5, by simp only [go_sem, simprocAttr, hl, h3, h4, h5, h27, h28]⟩
  · have hti : ss.take i = ss := List.take_of_length_le (by omega)
    rw [hti] at hb
    obtain ⟨T', e', c', r'⟩ := string39 H T 1 _ hb (by have := told_len hsm ss.length; rw [List.take_length] at this; rw [List.length_append]; omega)
    have hfin : P0 ++ ss.flatMap svcP = toldP a b c ss := by rw [← hP]; simp [toldP]
    simp only [go_sem, simprocAttr, hl, h3, h4, h5, h27, h28, h29, hlt, r', he, c', hfin]
end Go.Proofs.YtjemmehgfheflaaDoor.V
