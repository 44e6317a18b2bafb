/- The service chapter: the text of a meta, as 'V' runs the document's function. No conditions. -/
import Derived.Test.YtjemmehgfheflaaDoorSWalkH
namespace Go.Proofs.YtjemmehgfheflaaDoor.V
open Go
set_option linter.unusedSimpArgs false
set_option linter.unusedVariables false
attribute [local irreducible] go goOps goD opK callK callT stepK leaveTo nextK

theorem add_ok {a b : List UInt8} {m n : Nat} (ha : a.length ≤ m) (hb : b.length ≤ n) (h : m + n ≤ 9223372036854775807) : evStr .add a b = some (.str (a ++ b)) := by
  rw [s_add, if_pos (by show _ ≤ 9223372036854775807; omega)]

set_option maxRecDepth 20000 in
set_option maxHeartbeats 1000000 in
theorem told22 (a b c : List UInt8) (H k x ss) (hx : Sw H x ss) (hs : Small a b c ss) : callK Tryd.prog 22 [.agg [.str a, .str b, .str c, x]] H k = k (.str (toldP a b c ss), H, z0) := by
  refine callK_eq (r := (.str (toldP a b c ss), H, z0)) ?_ k
  refine callK_start (n := 98) (rs := [.tmp 2]) Tryd.func22 rfl rfl rfl ?_
  intro σ hl ha0
  have h0 := ha0 0 (by simp)
  clear ha0
  have xl := hx.sv.len
  have hlen := head_len hs
  simp only [Option.getD_some, List.getElem?_cons_zero, List.getElem?_cons_succ] at h0
  have hsm := hs
  obtain ⟨⟨m1, m2, m3, m4⟩, m5, m6⟩ := hs
  have rb := fun H k => hexed41 b H k (by omega)
  have rc := fun H k => hexed41 c H k (by omega)
  simp only [go_sem, simprocAttr, hl, h0]
  refine condK_cut (fun st => ∃ σ, st = ⟨σ, H ++ [.cells [.str a, .str b, .str c, x] 24 .rw], z0⟩ ∧ σ.length = 98 ∧ fr σ 1 = .ptr H.length 0 ∧ fr σ 3 = .str (a ++ hexw [32, 52, 61] b)) (fun hb => ?_) (fun hb => ?_) ?_
  · have hne : b ≠ [] := by rintro rfl; simp at hb
    have q1 := add_ok (a := a) (b := [32, 52, 61]) (m := 5000) (n := 3) m1 (by decide) (by decide)
    have q2 := add_ok (a := a ++ [32, 52, 61]) (b := hexP b) (m := 5003) (n := 10000) (by simp; omega) (by rw [hexP_len]; omega) (by decide)
    simp only [List.append_assoc] at q2
    simp only [go_sem, simprocAttr, hl, h0, q1, q2, rb]
    have hw1 : hexw [32, 52, 61] b = [32, 52, 61] ++ hexP b := by simp [hexw, hne]
    exact ⟨_, rfl, by simp only [go_sem, simprocAttr, hl, hw1]⟩
  · have hne : b = [] := by
      have : ¬ 0 < b.length := by simp only [decide_eq_false_iff_not] at hb; omega
      cases b <;> simp_all
    have hw1 : hexw [32, 52, 61] b = [] := by simp [hexw, hne]
    simp only [go_sem, simprocAttr]
    exact ⟨_, rfl, by simp only [go_sem, simprocAttr, hl, hw1, List.append_nil]⟩
  · rintro _ ⟨σ, rfl, hl, h1, h3⟩
    have l1 : (a ++ hexw [32, 52, 61] b).length ≤ 15003 := by
      have := hexw_len [32, 52, 61] b
      rw [List.length_append]; simp only [List.length_cons, List.length_nil] at this; omega
    simp only [go_sem, simprocAttr, hl, h1, h3]
    refine condK_cut (fun st => ∃ σ, st = ⟨σ, H ++ [.cells [.str a, .str b, .str c, x] 24 .rw], z0⟩ ∧ σ.length = 98 ∧ fr σ 1 = .ptr H.length 0 ∧ fr σ 3 = .str (a ++ hexw [32, 52, 61] b ++ hexw [32, 54, 61] c)) (fun hb => ?_) (fun hb => ?_) ?_
    · have hne : c ≠ [] := by rintro rfl; simp at hb
      have q1 := add_ok (a := a ++ hexw [32, 52, 61] b) (b := [32, 54, 61]) (m := 15003) (n := 3) l1 (by decide) (by decide)
      have q2 := add_ok (a := a ++ hexw [32, 52, 61] b ++ [32, 54, 61]) (b := hexP c) (m := 15006) (n := 10000) (by rw [List.length_append]; simp only [List.length_cons, List.length_nil]; omega) (by rw [hexP_len]; omega) (by decide)
      simp only [List.append_assoc] at q1 q2
      have hw1 : hexw [32, 54, 61] c = [32, 54, 61] ++ hexP c := by simp [hexw, hne]
      simp only [go_sem, simprocAttr, hl, h1, h3, q1, q2, rc]
      exact ⟨_, rfl, by simp only [go_sem, simprocAttr, hl, h1, hw1]⟩
    · have hne : c = [] := by
        have : ¬ 0 < c.length := by simp only [decide_eq_false_iff_not] at hb; omega
        cases c <;> simp_all
      have hw1 : hexw [32, 54, 61] c = [] := by simp [hexw, hne]
      simp only [go_sem, simprocAttr]
      exact ⟨_, rfl, by simp only [go_sem, simprocAttr, hl, h1, h3, hw1, List.append_nil]⟩
    · rintro _ ⟨σ, rfl, hl, h1, h3⟩
      generalize hP : a ++ hexw [32, 52, 61] b ++ hexw [32, 54, 61] c = P0 at *
      simp only [go_sem, simprocAttr, hl, h1, h3]
      refine go_rounds (fun n st => ∃ σ i e l, n + i = ss.length ∧ st = ⟨σ, H ++ (.cells [.str a, .str b, .str c, x] 24 .rw :: l), e⟩ ∧ clean H.length e ∧ σ.length = 98 ∧ fr σ 1 = .ptr H.length 0 ∧ fr σ 3 = .str (P0 ++ (ss.take i).flatMap svcP) ∧ fr σ 4 = .int .i64 (i : Nat)) ss.length
        ⟨_, 0, _, [], rfl, rfl, ⟨rfl, rfl⟩, by simp only [go_sem, simprocAttr, hl, h1, h3, List.flatMap_nil, List.append_nil]⟩ ?_
      rintro n _ ⟨σ, i, e, l, hi, rfl, he, hl, h1, h3, h4⟩
      by_cases hlt : i < ss.length
      · obtain ⟨s, hss⟩ : ∃ s, ss[i]? = some s := ⟨_, List.getElem?_eq_getElem hlt⟩
        obtain ⟨bx, csx, ex, kx, xa, xb⟩ := hx.sv.at hss
        have lx := sflat_ld ss i csx (e := ex) (k := kx) hss
        have hw := wrap_succ (show i < 9223372036854775807 by omega)
        have hpl : (P0 ++ (ss.take i).flatMap svcP).length ≤ 11000000 := by
          have := told_len hsm i
          rw [List.length_append]; omega
        obtain ⟨⟨s1, s2⟩, s3, s4, s5, s6⟩ := m6 s (List.mem_of_getElem? hss)
        generalize hB : P0 ++ (ss.take i).flatMap svcP = B at *
        simp only [go_sem, simprocAttr, hl, h1, h3, h4, hlt, xa, xb, xl, lx]
        refine condK_cut (fun st => ∃ σ e, st = ⟨σ, H ++ (.cells [.str a, .str b, .str c, x] 24 .rw :: (l ++ [.cells s.cells 41 .rw])), e⟩ ∧ clean H.length e ∧ σ.length = 98 ∧ fr σ 1 = .ptr H.length 0 ∧ fr σ 3 = .str B ∧ fr σ 4 = .int .i64 (i : Nat) ∧ fr σ 5 = .ptr (H.length + (l.length + 1)) 0 ∧ fr σ 6 = .str (if s.dg = true then [32, 117, 61] else [32, 116, 61])) (fun hb => ?_) (fun hb => ?_) ?_
        · simp only [go_sem, simprocAttr]
          exact ⟨_, _, rfl, by simp only [go_sem, simprocAttr, he], by simp only [go_sem, simprocAttr, hl, h1, h3, h4, hb]⟩
        · simp only [go_sem, simprocAttr]
          exact ⟨_, _, rfl, by simp only [go_sem, simprocAttr, he], by simp only [go_sem, simprocAttr, hl, h1, h3, h4, hb]⟩
        · rintro _ ⟨σ, e, rfl, he, hl, h1, h3, h4, h5, h6⟩
          generalize hD : (if s.dg = true then [32, 117, 61] else [32, 116, 61] : List UInt8) = D at *
          have hDl : D.length ≤ 3 := by rw [← hD]; split <;> decide
          simp only [go_sem, simprocAttr, hl, h1, h3, h4, h5, h6]
          refine go_drawZ tFollows (by kernel_rfl) ?_
          have v1 : IntKind.i64.wrap s.port = ((s.port.toNat : Nat) : Int) := by rw [wrap_i64 (by omega)]; omega
          have v2 : IntKind.i64.wrap s.prio = ((s.prio.toNat : Nat) : Int) := by rw [wrap_i64 (by omega)]; omega
          have v3 : IntKind.i64.wrap s.weight = ((s.weight.toNat : Nat) : Int) := by rw [wrap_i64 (by omega)]; omega
          have r1 := fun H k => dec42 s.port.toNat H k (by omega)
          have r2 := fun H k => dec42 s.prio.toNat H k (by omega)
          have r3 := fun H k => dec42 s.weight.toNat H k (by omega)
          have d1 := decP_len s.port.toNat (by omega)
          have d2 := decP_len s.prio.toNat (by omega)
          have d3 := decP_len s.weight.toNat (by omega)
          simp only [go_sem, simprocAttr, hl, h1, h3, h4, h5, h6, v1, v2, v3, r1, r2, r3]
          have hM : maxI = 9223372036854775807 := rfl
          refine ⟨by omega, by omega, by omega, by omega, by omega, by omega, by omega, by omega, by omega, ?_⟩
          have hln : (svcN s).length ≤ 18 := by
            have := numP_len s4
            have := numP_len s5
            have := numP_len s6
            simp only [svcN, List.flatMap_cons, List.flatMap_nil, List.length_append, List.length_nil]; omega
          have hlh : (svcH s).length ≤ 5003 := by
            have : svcH s = D ++ s.label := by rw [← hD]; rfl
            rw [this, List.length_append]; omega
          have hst : B ++ svcH s ++ svcN s ++ [58] = B ++ (D ++ (s.label ++ 58 :: (decP s.port.toNat ++ 58 :: (decP s.prio.toNat ++ 58 :: (decP s.weight.toNat ++ [58]))))) := by
            rw [← hD]; simp [svcH, svcN, numP]
          generalize hB2 : B ++ svcH s ++ svcN s = B2 at *
          have hB2l : B2.length ≤ 11008000 := by rw [← hB2]; simp only [List.length_append]; omega
          refine go_rounds (fun m st => ∃ σ r, m + r = s.text.length ∧ st = ⟨σ, H ++ (.cells [.str a, .str b, .str c, x] 24 .rw :: (l ++ [.cells s.cells 41 .rw])), e⟩ ∧ σ.length = 98 ∧ fr σ 1 = .ptr H.length 0 ∧ fr σ 3 = .str (B2 ++ 58 :: textP (s.text.take r)) ∧ fr σ 4 = .int .i64 (i : Nat) ∧ fr σ 5 = .ptr (H.length + (l.length + 1)) 0 ∧ fr σ 7 = .int .i64 (r : Nat)) s.text.length
            ⟨_, 0, rfl, rfl, by simp only [go_sem, simprocAttr, hl, h1, h4, h5, List.flatMap_nil, textP, hst]⟩ ?_
          rintro m _ ⟨σ, r, hr, rfl, hl, h1, h3, h4, h5, h7⟩
          by_cases hrl : r < s.text.length
          · obtain ⟨ch, hch⟩ : ∃ ch, s.text[r]? = some ch := ⟨_, List.getElem?_eq_getElem hrl⟩
            have wr := wrap_succ (show r < 9223372036854775807 by omega)
            have hlt2 := textP_len (s.text.take r)
            have htl : (s.text.take r).length ≤ 5000 := by rw [List.length_take]; omega
            have hl5 : (B2 ++ 58 :: textP (s.text.take r)).length ≤ 11025000 := by rw [List.length_append, List.length_cons]; omega
            have rs := fun H k => safe43 ch H k
            have rt := fun H k => two44 ch H k
            have htn : textP (s.text.take (r + 1)) = textP (s.text.take r) ++ byteP ch := flat_snoc hch
            simp only [go_sem, simprocAttr, hl, h1, h3, h4, h5, h7, hrl, hch, rs]
            refine condK_split (fun hsafe => ?_) (fun hsafe => ?_)
            · have hbn : B2 ++ 58 :: textP (s.text.take (r + 1)) = B2 ++ 58 :: (textP (s.text.take r) ++ [ch]) := by
                rw [htn]; simp [byteP, hsafe]
              have d1 : r + 1 - r = 1 := by omega
              have d2 : (s.text.drop r).take 1 = [ch] := by
                rw [List.drop_eq_getElem_cons hrl, List.take_succ_cons, List.take_zero]
                rw [List.getElem?_eq_getElem hrl] at hch
                simpa using hch
              have d3 : r + 1 ≤ s.text.length := by omega
              have d4 : r ≤ r + 1 := by omega
              have qa := add_ok (a := B2 ++ 58 :: textP (s.text.take r)) (b := [ch]) (m := 11025000) (n := 1) hl5 (by simp) (by decide)
              simp only [List.append_assoc, List.cons_append] at qa
              simp only [go_sem, simprocAttr, hl, h1, h3, h4, h5, h7, d1, d2, d3, d4, wr, qa]
              exact ⟨m - 1, by omega, _, r + 1, by omega, rfl, by simp only [go_sem, simprocAttr, hl, h1, h4, h5, hbn]⟩
            · have hbn : B2 ++ 58 :: textP (s.text.take (r + 1)) = B2 ++ 58 :: (textP (s.text.take r) ++ 37 :: twoP ch) := by
                rw [htn]; simp [byteP, hsafe]
              have qa := add_ok (a := B2 ++ 58 :: textP (s.text.take r)) (b := [37]) (m := 11025000) (n := 1) hl5 (by simp) (by decide)
              have qb := add_ok (a := B2 ++ 58 :: (textP (s.text.take r) ++ [37])) (b := twoP ch) (m := 11025001) (n := 2) (by simp only [List.length_append, List.length_cons, List.length_nil] at *; omega) (by simp [twoP]) (by decide)
              simp only [List.append_assoc, List.cons_append, List.nil_append] at qa qb
              simp only [go_sem, simprocAttr, hl, h1, h3, h4, h5, h7, hch, rt, wr, qa, qb]
              exact ⟨m - 1, by omega, _, r + 1, by omega, rfl, by simp only [go_sem, simprocAttr, hl, h1, h4, h5, hbn]⟩
          · have hte : s.text.take r = s.text := List.take_of_length_le (by omega)
            rw [hte] at h3
            have hbe : P0 ++ (ss.take (i + 1)).flatMap svcP = B2 ++ 58 :: textP s.text := by
              rw [flat_snoc hss, ← List.append_assoc, hB, ← hB2]; simp [svcP]
            simp only [go_sem, simprocAttr, hl, h1, h3, h4, h5, h7, hrl, hw]
            exact ⟨n - 1, by omega, _, i + 1, _, _, by omega, rfl, he, by simp only [go_sem, simprocAttr, hl, h1, h3, hbe]⟩
      · have hti : ss.take i = ss := List.take_of_length_le (by omega)
        rw [hti] at h3
        have hfin : P0 ++ ss.flatMap svcP = toldP a b c ss := by rw [← hP]; simp [toldP]
        simp only [go_sem, simprocAttr, hl, h1, h3, h4, hlt, he, xl, hfin]
end Go.Proofs.YtjemmehgfheflaaDoor.V
