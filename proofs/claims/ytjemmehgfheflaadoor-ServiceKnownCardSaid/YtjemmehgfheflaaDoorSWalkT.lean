/- The service chapter: the reference's reading of a meta, as 'V' runs it; the law of reading answers true. No conditions. -/
import Derived.Test.YtjemmehgfheflaaDoorSWalkS
namespace Go.Proofs.YtjemmehgfheflaaDoor.V
open Go
set_option linter.unusedSimpArgs false
set_option linter.unusedVariables false
attribute [local irreducible] go goOps goD opK callK callT stepK leaveTo nextK

theorem strs_at {A : List (List UInt8)} {i : Nat} {p : List UInt8} (h : A[i]? = some p) : (strs A)[i]? = some (.str p) := by simp [strs, h]

theorem piece_len {c : UInt8} {s q : List UInt8} (h : q ∈ (splitC c s).1 :: (splitC c s).2) : q.length ≤ s.length := by
  have hj := congrArg List.length (split_join c s)
  rw [List.length_append] at hj
  rcases List.mem_cons.1 h with rfl | h
  · omega
  · have : ∀ R : List (List UInt8), q ∈ R → q.length ≤ (joinC c R).length := by
      intro R
      induction R with
      | nil => intro h; cases h
      | cons p R ih =>
        intro h
        rw [join_len]
        rcases List.mem_cons.1 h with rfl | h
        · omega
        · have := ih h; omega
    have := this _ h
    omega
theorem pieces_len (c : UInt8) (s : List UInt8) : (splitC c s).2.length ≤ s.length := by
  have hj := congrArg List.length (split_join c s)
  rw [List.length_append] at hj
  have := joinC_ge c (splitC c s).2
  omega
theorem strs_ld {A : List (List UInt8)} {i : Nat} {p : List UInt8} (h : A[i]? = some p) (e : TypeId) (k : Kd) : ldC (i * 1) 1 false (.cells (strs A) e k) = some (.str p) := by
  rw [ldC_f, Nat.mul_one]; exact strs_at h

/-- The reading's own memory. -/
structure PR (n : Nat) (T : Hp) (j q : Nat) (A : List (List UInt8)) (m : Mt) (x : AV) : Prop where
  h0 : T[0]? = some (.cells [.str [], .str [], .str [], .nils] 24 .rw)
  ha : T[q]? = some (.cells (strs A) 9 (.op 0 false))
  hm : T[j]? = some (.cells [.str m.a, .str m.b, .str m.c, x] 24 .rw)
  gb : GBuf n T x 41 6 m.ss.length (sflat m.ss)
  j0 : 0 < j
theorem PR.more {n : Nat} {T : Hp} {j q : Nat} {A : List (List UInt8)} {m : Mt} {x : AV} (h : PR n T j q A m x) (l : Hp) : PR n (T ++ l) j q A m x :=
  ⟨get_app h.h0, get_app h.ha, get_app h.hm, h.gb.more l, h.j0⟩
theorem PR.set {n : Nat} {T' : Hp} {j q : Nat} {A : List (List UInt8)} {m m' : Mt} {x x' : AV} (h0 : T'[0]? = some (.cells [.str [], .str [], .str [], .nils] 24 .rw)) (ha : T'[q]? = some (.cells (strs A) 9 (.op 0 false)))
    (hm : T'[j]? = some (.cells [.str m.a, .str m.b, .str m.c, x] 24 .rw)) (j0 : 0 < j) (gb : GBuf n T' x' 41 6 m'.ss.length (sflat m'.ss)) : PR n (T'.set j (.cells [.str m'.a, .str m'.b, .str m'.c, x'] 24 .rw)) j q A m' x' := by
  refine ⟨?_, ?_, ?_, gb.set hm, j0⟩
  · rw [List.getElem?_set_ne (by omega)]; exact h0
  · have : j ≠ q := by rintro rfl; rw [hm] at ha; simp at ha
    rw [List.getElem?_set_ne this]; exact ha
  · rw [List.getElem?_set_self (lt_of_get hm)]
theorem step_svc {m : Mt} {k c : UInt8} {d : List UInt8} (h4 : ([k, c] == [52, 61]) = false) (h6 : ([k, c] == [54, 61]) = false) : stepL m (k :: c :: d) = stepL.svcL m k d := by
  by_cases hc : c = 61
  · subst hc
    have k4 : k ≠ 52 := by rintro rfl; simp at h4
    have k6 : k ≠ 54 := by rintro rfl; simp at h6
    simp [stepL, k4, k6]
  · unfold stepL
    split
    · rename_i heq
      simp only [List.cons.injEq] at heq
      exact absurd heq.2.1 hc
    · rename_i heq
      simp only [List.cons.injEq] at heq
      obtain ⟨rfl, _, rfl⟩ := heq
      rfl
    · rename_i h1 h2
      exact absurd rfl (h2 _ _ _)
theorem svcL_few {m : Mt} {k : UInt8} {d : List UInt8} (h : (splitC 58 d).2.length ≠ 4) : stepL.svcL m k d = none := by
  unfold stepL.svcL
  split
  · rename_i hs
    rw [hs] at h; simp at h
  · rfl
theorem four_of {R : List (List UInt8)} (h : R.length = 4) : ∃ a b c d, R = [a, b, c, d] := by
  match R, h with
  | [a, b, c, d], _ => exact ⟨a, b, c, d, rfl⟩
theorem build41x (l t : List UInt8) (b : Bool) (p q w : Int) : evBuild Tryd.prog 41 [(0, .str l), (1, .bool b), (2, .int .u16 p), (3, .int .u16 q), (4, .int .u16 w), (5, .str t)] = some (.agg (Svc.cells ⟨l, b, p, q, w, t⟩)) := by
  simp only [evBuild, tsh_41, tzero_41, tplaces_41, Option.bind_some]
  rfl

set_option maxRecDepth 20000 in
set_option maxHeartbeats 2000000 in
theorem refParse15 (s : List UInt8) (H) : ∃ b : (Mt × Int) × AV × Hp, Ans s H b.1.1 b.1.2 b.2.1 b.2.2 ∧ ∀ k, callK Tryd.prog 15 [.str s] H k = k (ansG H b) := by
  refine callK_exP (fun b : (Mt × Int) × AV × Hp => Ans s H b.1.1 b.1.2 b.2.1 b.2.2) (ansG H) ?_
  show callK _ _ _ _ (ansQ s H)
  refine callK_start (n := 111) (rs := [.cell 2 24, .tmp 3]) Tryd.func15 rfl rfl rfl ?_
  intro σ hl ha
  have h0 := ha 0 (by simp)
  clear ha
  simp only [Option.getD_some, List.getElem?_cons_zero, List.getElem?_cons_succ] at h0
  by_cases h400 : 400 < s.length
  · have g1 : decide ((s.length : Int) > 400) = true := by simp; omega
    simp only [go_sem, simprocAttr, hl, h0, g1, build_nil]
    exact ans_bad (.inl ⟨h400, rfl, rfl⟩)
  have hs : s.length ≤ 400 := by omega
  have g1 : decide ((s.length : Int) > 400) = false := by simp; omega
  obtain ⟨p0, R0, hsp⟩ : ∃ p0 R0, splitC 32 s = (p0, R0) := ⟨_, _, rfl⟩
  obtain ⟨⟨L, q⟩, hL, rs⟩ := split28 s 32 (H ++ [.cells [.str [], .str [], .str [], .nils] 24 .rw]) (by omega)
  rw [hsp] at rs hL
  simp only at rs hL
  replace rs : ∀ k, callK Tryd.prog 28 [.str s, .int .u8 32] (H ++ [.cells [.str [], .str [], .str [], .nils] 24 .rw]) k = k (.slice ((H ++ [ABlk.cells [.str [], .str [], .str [], .nils] 24 .rw]).length + q) 0 (R0.length + 1) (.op 0), H ++ [.cells [.str [], .str [], .str [], .nils] 24 .rw] ++ L, z0) := rs
  rw [List.append_assoc, List.length_append, Nat.add_assoc] at rs
  obtain ⟨T1, hT1⟩ : ∃ T1, ([ABlk.cells [.str [], .str [], .str [], .nils] 24 .rw] ++ L : Hp) = T1 := ⟨_, rfl⟩
  have t0 : T1[0]? = some (.cells [.str [], .str [], .str [], .nils] 24 .rw) := by rw [← hT1]; rfl
  have tq : T1[1 + q]? = some (.cells (strs (p0 :: R0)) 9 (.op 0 false)) := by rw [← hT1, Nat.add_comm]; exact hL
  obtain ⟨q1, hq1⟩ : ∃ q1, 1 + q = q1 := ⟨_, rfl⟩
  rw [hT1, List.length_singleton, hq1] at rs
  rw [hq1] at tq
  have a0 : ldC 0 1 false (.cells (strs (p0 :: R0)) 9 (.op 0 false)) = some (.str p0) := rfl
  have b0 : 0 < ((R0.length + 1 : Nat) : Int) := by omega
  simp only [go_sem, simprocAttr, hl, h0, g1, rs, tq, a0, b0, build_a]
  refine go_rounds (fun n st => ∃ σ T e i j m x, n + i = R0.length + 1 ∧ 1 ≤ i ∧ st = ⟨σ, H ++ T, e⟩ ∧ PR H.length T j q1 (p0 :: R0) m x ∧ WL m (i - 1) ∧ foldL m ((p0 :: R0).drop i) = looseM s ∧ clean H.length e ∧ σ.length = 111 ∧ fr σ 0 = .str s ∧ fr σ 2 = .ptr H.length 0 ∧ fr σ 4 = .slice (H.length + q1) 0 (R0.length + 1) (.op 0) ∧ fr σ 5 = .ptr (H.length + j) 0 ∧ fr σ 6 = .int .i64 (i : Nat)) R0.length
    ⟨_, _, _, 1, T1.length, ⟨p0, [], [], []⟩, .nils, rfl, Nat.le_refl _, rfl, ⟨get_app t0, get_app tq, by simp, .inl ⟨rfl, rfl, rfl⟩, lt_of_get t0⟩, ⟨Nat.le_trans (piece_len (c := 32) (s := s) (by rw [hsp]; simp : p0 ∈ _)) hs, Nat.zero_le _, Nat.zero_le _, Nat.zero_le _, by simp⟩, by unfold looseM; rw [hsp]; rfl, by simp only [go_sem, simprocAttr], by simp only [go_sem, simprocAttr, hl], by simp only [go_sem, simprocAttr, hl, h0], by simp only [go_sem, simprocAttr, hl], by simp only [go_sem, simprocAttr, hl], by simp only [go_sem, simprocAttr, hl], by simp only [go_sem, simprocAttr, hl]⟩ ?_
  rintro n _ ⟨σ, T, e, i, j, m, x, hn, hi1, rfl, hP, hW, hF, he, hl, h0, h2, h4, h5, h6⟩
  by_cases hlt : i < R0.length + 1
  · obtain ⟨p, hp⟩ : ∃ p, (p0 :: R0)[i]? = some p := ⟨_, List.getElem?_eq_getElem (by simpa using hlt)⟩
    rw [drop_at hp] at hF
    have apl : p.length ≤ 400 := Nat.le_trans (piece_len (c := 32) (s := s) (by rw [hsp]; exact List.mem_of_getElem? hp)) hs
    have hRl : R0.length ≤ 400 := by
      have := pieces_len 32 s
      rw [hsp] at this
      exact Nat.le_trans this hs
    have tq := hP.ha
    have w1 := wrap_succ (show i < 9223372036854775807 by omega)
    have hai := strs_ld hp
    have v0 := hP.h0
    have dv0 : decide (0 < T.length) = true := by simpa using lt_of_get v0
    by_cases h2l : p.length < 2
    · have g2 : decide ((p.length : Int) < 2) = true := by simp; omega
      have hno : looseM s = none := by
        rw [← hF]
        match p, h2l with
        | [], _ => rfl
        | [_], _ => rfl
      simp only [go_sem, simprocAttr, hl, h0, h2, h4, h5, h6, hlt, tq, hai, g2, v0, dv0, build_nil, he]
      exact ans_bad (loose_bad hs hno)
    have g2 : decide ((p.length : Int) < 2) = false := by simp; omega
    obtain ⟨k, c, d, rfl⟩ : ∃ k c d, p = k :: c :: d := by
      match p, h2l with
      | [], h => exact absurd (by simp) h
      | [_], h => exact absurd (by simp) h
      | k :: c :: d, _ => exact ⟨k, c, d, rfl⟩
    have hpd : (k :: c :: d).length = d.length + 2 := rfl
    have b2 : (2 : Int) ≤ ((d.length + 2 : Nat) : Int) := by omega
    have hdt : d.take d.length = d := List.take_length
    rw [hpd] at g2
    have htm := hP.hm
    have dj : decide (j < T.length) = true := by simpa using lt_of_get htm
    have hnext : ∀ {m'}, stepL m (k :: c :: d) = some m' → WL m' (i + 1 - 1) ∧ foldL m' ((p0 :: R0).drop (i + 1)) = looseM s := by
      intro m' hst
      refine ⟨?_, ?_⟩
      · have := hW.step apl hst
        rwa [show i + 1 - 1 = i - 1 + 1 by omega]
      · rw [← hF]
        show _ = (stepL m (k :: c :: d)).bind _
        rw [hst]; rfl
    cases c4 : ([k, c] == [52, 61]) with
    | true =>
      obtain ⟨rfl, rfl⟩ : k = 52 ∧ c = 61 := by simpa using c4
      have rb := fun H k => bytes29 d H k (by simp only [List.length_cons] at apl; omega)
      obtain ⟨hW', hF'⟩ := hnext (m' := { m with b := bytesL d }) rfl
      have hP' : PR H.length _ j q1 (p0 :: R0) { m with b := bytesL d } x := PR.set hP.h0 hP.ha hP.hm hP.j0 hP.gb
      simp only [go_sem, simprocAttr, hl, h0, h2, h4, h5, h6, hlt, tq, hai, hpd, g2, b2, c4, hdt, rb, htm, dj, w1]
      exact ⟨n - 1, by omega, _, _, _, i + 1, j, _, x, by omega, by omega, rfl, hP', hW', hF', by simp only [go_sem, simprocAttr, he], by simp only [go_sem, simprocAttr, hl], by simp only [go_sem, simprocAttr, hl, h0], by simp only [go_sem, simprocAttr, hl, h2], by simp only [go_sem, simprocAttr, hl, h4], by simp only [go_sem, simprocAttr, hl, h5], by simp only [go_sem, simprocAttr, hl]⟩
    | false =>
    cases c6 : ([k, c] == [54, 61]) with
    | true =>
      obtain ⟨rfl, rfl⟩ : k = 54 ∧ c = 61 := by simpa using c6
      have rb := fun H k => bytes29 d H k (by simp only [List.length_cons] at apl; omega)
      obtain ⟨hW', hF'⟩ := hnext (m' := { m with c := bytesL d }) rfl
      have hP' : PR H.length _ j q1 (p0 :: R0) { m with c := bytesL d } x := PR.set hP.h0 hP.ha hP.hm hP.j0 hP.gb
      simp only [go_sem, simprocAttr, hl, h0, h2, h4, h5, h6, hlt, tq, hai, hpd, g2, b2, c4, c6, hdt, rb, htm, dj, w1]
      exact ⟨n - 1, by omega, _, _, _, i + 1, j, _, x, by omega, by omega, rfl, hP', hW', hF', by simp only [go_sem, simprocAttr, he], by simp only [go_sem, simprocAttr, hl], by simp only [go_sem, simprocAttr, hl, h0], by simp only [go_sem, simprocAttr, hl, h2], by simp only [go_sem, simprocAttr, hl, h4], by simp only [go_sem, simprocAttr, hl, h5], by simp only [go_sem, simprocAttr, hl]⟩
    | false =>
    have hst := step_svc (m := m) (d := d) c4 c6
    have hdl : d.length ≤ 400 := by simp only [List.length_cons] at apl; omega
    obtain ⟨⟨L2, q2⟩, hL2, rs2⟩ := split28 d 58 (H ++ T) (by omega)
    replace rs2 : ∀ k, callK Tryd.prog 28 [.str d, .int .u8 58] (H ++ T) k = k (.slice ((H ++ T).length + q2) 0 ((splitC 58 d).2.length + 1) (.op 0), H ++ T ++ L2, z0) := rs2
    rw [List.append_assoc, List.length_append, Nat.add_assoc] at rs2
    simp only at hL2
    have hP2 := hP.more L2
    obtain ⟨T2, hT2⟩ : ∃ T2, T ++ L2 = T2 := ⟨_, rfl⟩
    have tq2 : T2[T.length + q2]? = some (.cells (strs ((splitC 58 d).1 :: (splitC 58 d).2)) 9 (.op 0 false)) := by
      rw [← hT2, List.getElem?_append_right (by omega), Nat.add_sub_cancel_left]; exact hL2
    obtain ⟨q3, hq3⟩ : ∃ q3, T.length + q2 = q3 := ⟨_, rfl⟩
    rw [hT2, hq3] at rs2
    rw [hT2] at hP2
    rw [hq3] at tq2
    have v2 := hP2.h0
    have dv2 : decide (0 < T2.length) = true := by simpa using lt_of_get v2
    by_cases h4n : (splitC 58 d).2.length = 4
    · obtain ⟨n1, n2, n3, t, hR⟩ := four_of h4n
      obtain ⟨l, hlb⟩ : ∃ l, (splitC 58 d).1 = l := ⟨_, rfl⟩
      rw [hR, hlb] at tq2
      rw [hR] at rs2
      have hsv : stepL.svcL m k d = some { m with ss := m.ss ++ [⟨l, decide (k = 117), (numL n1 : Nat), (numL n2 : Nat), (numL n3 : Nat), plainL t⟩] } := by
        have hsp2 : splitC 58 d = (l, [n1, n2, n3, t]) := by rw [← hlb, ← hR]
        unfold stepL.svcL
        rw [hsp2]
      have htl : t.length ≤ 400 := by
        have := piece_len (c := 58) (s := d) (q := t) (by rw [hR]; simp)
        omega
      obtain ⟨v, hv⟩ : ∃ v : Svc, v = ⟨l, decide (k = 117), (numL n1 : Nat), (numL n2 : Nat), (numL n3 : Nat), plainL t⟩ := ⟨_, rfl⟩
      rw [← hv] at hsv
      obtain ⟨hW', hF'⟩ := hnext (hst.trans hsv)
      have r1 := fun H k => number30 n1 H k
      have r2 := fun H k => number30 n2 H k
      have r3 := fun H k => number30 n3 H k
      have r4 := fun H k => plain31 t H k (by omega)
      have gk := u8_beq k 117
      replace gk : ((k.toNat : Int) == 117) = decide (k = 117) := gk
      have hbd := build41x l (plainL t) (decide (k = 117)) (numL n1 : Nat) (numL n2 : Nat) (numL n3 : Nat)
      rw [← hv] at hbd
      have hmn := hW.n
      have gb2 : GBuf H.length (T2 ++ [.cells v.cells 41 .rw]) x 41 6 m.ss.length (sflat m.ss) := hP2.gb.more _
      obtain ⟨x', T3, e3, happ, hlen3, ce3, keep3, gb3, hfx, hvc, hqt⟩ := gb2.app2 (b := 40) (by decide) zok_22 v.cells 1 (by decide) rfl (svc_scal v) (by simp only [fits, decide_eq_true_eq]; omega)
      have hsfl : sflat m.ss ++ v.cells = sflat (m.ss ++ [v]) := by simp [sflat]
      rw [hsfl] at gb3
      have w3 := keep3 j _ (get_app hP2.hm) (by simp)
      have d3 : decide (j < T3.length) = true := by simpa using lt_of_get w3
      have hP' : PR H.length _ j q1 (p0 :: R0) { m with ss := m.ss ++ [v] } x' := PR.set (keep3 0 _ (get_app hP2.h0) (by simp)) (keep3 q1 _ (get_app hP2.ha) (by simp)) w3 hP.j0 (by simpa using gb3)
      have tm2 := hP2.hm
      have ta2 := hP2.ha
      have s0 : ldC 0 1 false (.cells (strs [l, n1, n2, n3, t]) 9 (.op 0 false)) = some (.str l) := rfl
      have s1 : ldC 1 1 false (.cells (strs [l, n1, n2, n3, t]) 9 (.op 0 false)) = some (.str n1) := rfl
      have s2 : ldC 2 1 false (.cells (strs [l, n1, n2, n3, t]) 9 (.op 0 false)) = some (.str n2) := rfl
      have s3 : ldC 3 1 false (.cells (strs [l, n1, n2, n3, t]) 9 (.op 0 false)) = some (.str n3) := rfl
      have s4 : ldC 4 1 false (.cells (strs [l, n1, n2, n3, t]) 9 (.op 0 false)) = some (.str t) := rfl
      have hbs := bslice_mark
      have hscx := gb3.scl
      have hrd : ∀ (e : TypeId) (k : Kd), rdC 0 6 (.cells v.cells e k) = some v.cells := fun _ _ => rfl
      simp only [go_sem, simprocAttr, hl, h0, h2, h4, h5, h6, hlt, tq, hai, hpd, g2, b2, c4, c6, hdt, rs2]
      refine go_drawZ tFollows (by kernel_rfl) ?_
      simp only [go_sem, simprocAttr, hl, h0, h2, h4, h5, h6, hlt, tq, hai, hpd, tq2, tm2, ta2, s0, s1, s2, s3, s4, r1, r2, r3, r4, gk, hbd, hbs, hrd, happ, hqt, w1, w3, d3, hscx, hvc, hfx]
      refine ⟨(by kernel_rfl : effOk _ _ = true), ?_⟩
      exact ⟨n - 1, by omega, _, _, _, i + 1, j, _, x', by omega, by omega, rfl, hP', hW', hF', by simp only [go_sem, simprocAttr, he, ce3], by simp only [go_sem, simprocAttr, hl], by simp only [go_sem, simprocAttr, hl, h0], by simp only [go_sem, simprocAttr, hl, h2], by simp only [go_sem, simprocAttr, hl, h4], by simp only [go_sem, simprocAttr, hl, h5], by simp only [go_sem, simprocAttr, hl]⟩
    · have g5 : (((splitC 58 d).2.length + 1 : Nat) : Int) != 5 := by
        rw [bne_iff_ne]; omega
      have hno : looseM s = none := by
        rw [← hF]
        show (stepL m (k :: c :: d)).bind _ = none
        rw [hst, svcL_few h4n]; rfl
      simp only [go_sem, simprocAttr, hl, h0, h2, h4, h5, h6, hlt, tq, hai, hpd, g2, b2, c4, c6, hdt, rs2, g5, v2, dv2, build_nil, he]
      exact ans_bad (loose_bad hs hno)
  · have htm := hP.hm
    have hlm : looseM s = some m := by
      rw [← hF, List.drop_eq_nil_of_le (by simp; omega)]; rfl
    have hRl : R0.length ≤ 400 := by
      have := pieces_len 32 s
      rw [hsp] at this
      exact Nat.le_trans this hs
    have hsw : Sw (H ++ T) x m.ss := gbuf_sw hP.gb
    have hnum : m.nums := fun s hs => (hW.s s hs).2.2
    have hwf : Wf m.a m.b m.c m.ss := ⟨⟨by have := hW.a; omega, by have := hW.b; omega, by have := hW.c; omega, by have := hW.n; omega⟩, fun w hw => ⟨by have := (hW.s w hw).1; omega, by have := (hW.s w hw).2.1; omega, hnum w hw⟩⟩
    have rc := fun k => pack11 m.a m.b m.c (H ++ T) k x m.ss hsw hwf
    have hle := loose_end hs hlm hnum
    have v0 := hP.h0
    have dv0 : decide (0 < T.length) = true := by simpa using lt_of_get v0
    rcases pack_or m with ⟨t, ht⟩ | ⟨e', ht, he'⟩
    · have ht' : packP m.a m.b m.c m.ss = (t, 0) := ht
      rw [ht'] at rc
      by_cases hts : t = s
      · subst hts
        have g5 : (t == t) = true := by simp
        simp only [go_sem, simprocAttr, hl, h0, h2, h4, h5, h6, hlt, htm, rc, g5, v0, dv0, hsw.sv.scal]
        have hg := hle.1 ht
        have hsw2 := gbuf_sw (hP.gb.set (x := .cells [.str m.a, .str m.b, .str m.c, x] 24 .rw) v0)
        have hce : clean H.length (e.and ⟨if flat x = true then none else some H.length, some H.length⟩) := by
          rw [clean_andT, clean_ifT (Nat.le_refl _)]; exact ⟨he, trivial⟩
        cases hfx : flat x with
        | true =>
          rw [hfx] at hce
          rw [leave_flat (by simp only [flat, flats, hfx, Bool.and_self]) hce]
          have hxn : x = .nils ∧ m.ss = [] := by
            obtain ⟨rfl, _, h0⟩ | ⟨_, _, mm, rfl, _⟩ := hP.gb
            · exact ⟨rfl, List.length_eq_zero_iff.1 h0⟩
            · simp only [flat] at hfx; cases hfx
          refine ⟨((m, 0), x, []), ⟨hg, .inl hxn⟩, by unfold ansG; simp only [List.append_nil]⟩
        | false =>
          rw [hfx] at hce
          rw [leave_keep (by simp only [flat, flats, hfx, Bool.and_false, Bool.false_and, Bool.and_true, Bool.true_and]) hce]
          exact ⟨((m, 0), x, _), ⟨hg, hsw2⟩, rfl⟩
      · have g5 : (t == s) = false := by simpa using hts
        have hb := hle.2 (by rw [ht]; simpa using hts)
        simp only [go_sem, simprocAttr, hl, h0, h2, h4, h5, h6, hlt, htm, rc, g5, v0, dv0, build_nil, he]
        exact ans_bad hb
    · have ht' : packP m.a m.b m.c m.ss = ([], e') := ht
      rw [ht'] at rc
      have g5 : (e' != 0) = true := by simpa using he'
      have hb := hle.2 (by rw [ht]; simp [he'])
      simp only [go_sem, simprocAttr, hl, h0, h2, h4, h5, h6, hlt, htm, rc, g5, v0, dv0, build_nil, he]
      exact ans_bad hb

theorem parse_nil {m : Mt} {e : Int} (h : ParseR [] m e) : e = 210 := by
  rcases h with ⟨h, _⟩ | ⟨_, ⟨_, h, _⟩ | ⟨h, _⟩⟩
  · simp at h
  · obtain ⟨hm, _, ht, _⟩ := pack_iff.1 h
    rw [Mt.told_eq] at ht
    have := host_len hm.1.1
    have := congrArg List.length ht
    rw [List.length_append, List.length_nil] at this
    omega
  · exact h

set_option maxRecDepth 20000 in
theorem law4 (s : List UInt8) (H) (ht : Tb H) : callK Tryd.prog 4 [.str s] H (fun q => q = (.bool true, H, z0)) := by
  refine callK_start (n := 35) (rs := [.tmp 2]) Tryd.func4 rfl rfl rfl ?_
  intro σ hl ha
  have h0 := ha 0 (by simp)
  clear ha
  simp only [Option.getD_some, List.getElem?_cons_zero, List.getElem?_cons_succ] at h0
  obtain ⟨⟨⟨m, e⟩, x, L⟩, hp, rp⟩ := parse14 s H ht
  have px : ParseR s m e := hp.is
  have sx : Sw (H ++ L) x m.ss := hp.sw
  simp only [ansG] at rp
  have xsc : scal x = true := sx.sv.scal
  obtain ⟨T1, hT1⟩ : ∃ T1, L ++ [.cells [.str m.a, .str m.b, .str m.c, x] 24 .rw] = T1 := ⟨_, rfl⟩
  have t1 : T1[L.length]? = some (.cells [.str m.a, .str m.b, .str m.c, x] 24 .rw) := by rw [← hT1]; simp
  have sx1 : Sw (H ++ T1) x m.ss := by rw [← hT1, ← List.append_assoc]; exact sx.old _
  obtain ⟨⟨⟨m', e'⟩, y, L2⟩, hp2, rp2⟩ := refParse15 s (H ++ T1)
  have py : ParseR s m' e' := hp2.is
  have sy : Sw (H ++ T1 ++ L2) y m'.ss := hp2.sw
  obtain ⟨rfl, rfl⟩ := parse_uniq px py
  have ysc : scal y = true := sy.sv.scal
  simp only [ansG] at rp2
  rw [List.append_assoc] at rp2 sy
  obtain ⟨T2, hT2⟩ : ∃ T2, T1 ++ (L2 ++ [.cells [.str m.a, .str m.b, .str m.c, y] 24 .rw]) = T2 := ⟨_, rfl⟩
  have t2 : T2[T1.length + L2.length]? = some (.cells [.str m.a, .str m.b, .str m.c, y] 24 .rw) := by
    rw [← hT2, ← List.append_assoc, ← List.length_append]; simp
  have t1' : T2[L.length]? = some (.cells [.str m.a, .str m.b, .str m.c, x] 24 .rw) := by rw [← hT2]; exact get_app t1
  have sx2 : Sw (H ++ T2) x m.ss := by rw [← hT2, ← List.append_assoc]; exact sx1.old _
  have sy2 : Sw (H ++ T2) y m.ss := by
    rw [← hT2]
    have := sy.old [.cells [.str m.a, .str m.b, .str m.c, y] 24 .rw]
    simpa using this
  obtain ⟨⟨⟨m3, e3⟩, z, L3⟩, hp3, rp3⟩ := parse14 [] (H ++ T2) (ht.old _)
  have pz : ParseR [] m3 e3 := hp3.is
  have sz : Sw (H ++ T2 ++ L3) z m3.ss := hp3.sw
  have zsc : scal z = true := sz.sv.scal
  obtain rfl := parse_nil pz
  simp only [ansG] at rp3
  rw [List.append_assoc] at rp3
  have hlen : m.ss.length ≤ 9223372036854775807 := by
    rcases px with ⟨_, h, _⟩ | ⟨_, ⟨_, h, _⟩ | ⟨_, h, _⟩⟩
    · rw [h]; decide
    · have := (pack_iff.1 h).2.1; omega
    · rw [h]; decide
  have rs : ∀ M k, callK Tryd.prog 16 [.agg [.str m.a, .str m.b, .str m.c, x], .agg [.str m.a, .str m.b, .str m.c, y]] (H ++ (T2 ++ M)) k = k (.bool true, H ++ (T2 ++ M), z0) := by
    intro M k
    have := same16 m m (H ++ (T2 ++ M)) k x y (by have := (sx2.old M).sv; simpa using this) (by have := (sy2.old M).sv; simpa using this) hlen
    rw [sameM_t rfl] at this
    exact this
  have g1 : (e == e) = true := by simp
  have t1x : ∀ M, (T2 ++ M)[L.length]? = some (.cells [.str m.a, .str m.b, .str m.c, x] 24 .rw) := fun M => get_app t1'
  have t2x : ∀ M, (T2 ++ M)[T1.length + L2.length]? = some (.cells [.str m.a, .str m.b, .str m.c, y] 24 .rw) := fun M => get_app t2
  simp only [go_sem, simprocAttr, hl, h0, rp, xsc, hT1, rp2, ysc, hT2, rp3, zsc, t1x, t2x, rs, g1]
end Go.Proofs.YtjemmehgfheflaaDoor.V
