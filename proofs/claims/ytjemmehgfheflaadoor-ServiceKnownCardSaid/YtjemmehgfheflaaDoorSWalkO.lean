/- The service chapter: a whole meta read, as 'V' runs the program's function. No conditions. -/
import Derived.Test.YtjemmehgfheflaaDoorSWalkN
namespace Go.Proofs.YtjemmehgfheflaaDoor.V
open Go
set_option linter.unusedSimpArgs false
set_option linter.unusedVariables false
attribute [local irreducible] go goOps goD opK callK callT stepK leaveTo nextK

theorem rest_split {p : List UInt8} {R : List (List UInt8)} (h : ∀ q ∈ p :: R, (32 : UInt8) ∉ q) : splitC 32 (restOf 32 (p :: R)) = (p, R) := by
  show splitC 32 (p ++ joinC 32 R) = _
  exact split_of 32 p R (h p (by simp)) (fun q hq => h q (by simp [hq]))
theorem pre_of {g : UInt8} {p : List UInt8} {R : List (List UInt8)} (hg : g ≠ 32) (h : ((restOf 32 (p :: R)).take 2 == [g, 61]) = true) : ∃ d, p = g :: 61 :: d := by
  have h : (p ++ joinC 32 R).take 2 = [g, 61] := by simpa [restOf, joinC] using h
  match p, h with
  | [], h =>
    cases R with
    | nil => simp [joinC] at h
    | cons q R =>
      have : joinC 32 (q :: R) = 32 :: (q ++ joinC 32 R) := rfl
      rw [this, List.nil_append, List.take_succ_cons, List.cons.injEq] at h
      exact absurd h.1.symm hg
  | [a], h =>
    cases R with
    | nil => simp [joinC] at h
    | cons q R =>
      have : joinC 32 (q :: R) = 32 :: (q ++ joinC 32 R) := rfl
      rw [this] at h
      simp at h
  | a :: b :: d, h =>
    simp only [List.cons_append, List.take_succ_cons, List.take_zero, List.cons.injEq, and_true] at h
    exact ⟨d, by rw [h.1, h.2]⟩
theorem pre_not {g : UInt8} {p : List UInt8} {R : List (List UInt8)} (h : ((restOf 32 (p :: R)).take 2 == [g, 61]) = false) : ∀ d Q, p :: R ≠ (g :: 61 :: d) :: Q := by
  rintro d Q e
  simp only [List.cons.injEq] at e
  obtain ⟨rfl, rfl⟩ := e
  simp [restOf, joinC] at h

theorem take_pre {p : List UInt8} {g : UInt8} (h : (p.take 2 == [g, 61]) = true) : ∃ d, p = g :: 61 :: d := by
  match p, h with
  | [], h => simp at h
  | [a], h => simp at h
  | a :: b :: d, h =>
    simp only [List.take_succ_cons, List.take_zero, beq_iff_eq, List.cons.injEq, and_true] at h
    exact ⟨d, by rw [h.1, h.2]⟩
theorem joinC_ge (c : UInt8) (R : List (List UInt8)) : R.length ≤ (joinC c R).length := flat_ge (fun x => by simp)
theorem gbuf_sw {H T : Hp} {x : AV} {ss : List Svc} (h : GBuf H.length T x 41 6 ss.length (sflat ss)) : Sw (H ++ T) x ss := by
  obtain ⟨rfl, _, h0⟩ | ⟨_, _, m, rfl, hm⟩ := h
  · exact .inl ⟨rfl, List.length_eq_zero_iff.1 h0⟩
  · exact .inr (.inr ⟨H.length + m, [], 0, false, rfl, by rw [hp_new, hm, List.append_nil]⟩)
/-- What stands of the reading behind r of the two addresses. -/
def Heads (R0 : List (List UInt8)) (r : Nat) (v4 v6 : List UInt8) (ok : Bool) (R : List (List UInt8)) : Prop :=
  (r = 0 ∧ v4 = [] ∧ v6 = [] ∧ ok = true ∧ R = R0) ∨ (r = 1 ∧ v6 = [] ∧ HdR 52 4 R0 v4 ok R) ∨ (r = 2 ∧ ∃ k4 k6 R1, HdR 52 4 R0 v4 k4 R1 ∧ HdR 54 16 R1 v6 k6 R ∧ ok = (k4 && k6))

/-- The reading's own memory: the answer, what is left, is there more, the meta, the two addresses' heads. -/
structure PS (n : Nat) (T : Hp) (rest : List UInt8) (more : Bool) (p0 v4 v6 : List UInt8) (x : AV) : Prop where
  h0 : T[0]? = some (.cells [.str [], .str [], .str [], .nils] 24 .rw)
  h1 : T[1]? = some (.cells [.str rest] 9 .rw)
  h2 : T[2]? = some (.cells [.bool more] 4 .rw)
  h3 : T[3]? = some (.cells [.str p0, .str v4, .str v6, x] 24 .rw)
  h4 : T[4]? = some (.cells [.str [52, 61], .int .i64 4, .ptr (n + 3) 1, .str [54, 61], .int .i64 16, .ptr (n + 3) 2] 47 .rw)
theorem PS.more {n : Nat} {T : Hp} {rest : List UInt8} {m : Bool} {p0 v4 v6 : List UInt8} {x : AV} (h : PS n T rest m p0 v4 v6 x) (l : Hp) : PS n (T ++ l) rest m p0 v4 v6 x :=
  ⟨get_app h.h0, get_app h.h1, get_app h.h2, get_app h.h3, get_app h.h4⟩
theorem PS.set3 {n : Nat} {T : Hp} {rest : List UInt8} {m : Bool} {p0 v4 v6 w4 w6 : List UInt8} {x y : AV} (h : PS n T rest m p0 v4 v6 x) : PS n (T.set 3 (.cells [.str p0, .str w4, .str w6, y] 24 .rw)) rest m p0 w4 w6 y := by
  have hl := lt_of_get h.h3
  exact ⟨by rw [List.getElem?_set_ne (by decide)]; exact h.h0, by rw [List.getElem?_set_ne (by decide)]; exact h.h1, by rw [List.getElem?_set_ne (by decide)]; exact h.h2, by rw [List.getElem?_set_self hl], by rw [List.getElem?_set_ne (by decide)]; exact h.h4⟩
theorem PS.next {H T : Hp} {rest : List UInt8} {m : Bool} {p0 v4 v6 : List UInt8} {x : AV} (h : PS H.length T rest m p0 v4 v6 x) {p : List UInt8} {R : List (List UInt8)} (hsp : splitC 32 rest = (p, R)) (hl : rest.length ≤ 1000000) :
    ∃ T2 e, PS H.length T2 (restOf 32 R) (moreOf R) p0 v4 v6 x ∧ T2.length = T.length ∧ (∀ i, i ≠ 1 → i ≠ 2 → T2[i]? = T[i]?) ∧ clean H.length e ∧ ∀ k, callK Tryd.prog 23 [.ptr (H.length + 1) 0, .ptr (H.length + 2) 0] (H ++ T) k = k (.str p, H ++ T2, e) := by
  obtain ⟨e, he, hr⟩ := next23 H T 1 2 m p R rest h.h1 h.h2 (by decide) hl hsp
  have l1 := lt_of_get h.h1
  have l2 := lt_of_get h.h2
  refine ⟨_, e, ⟨?_, ?_, ?_, ?_, ?_⟩, by simp, fun i h1 h2 => ?_, he, hr⟩
  · rw [List.getElem?_set_ne (by decide), List.getElem?_set_ne (by decide)]; exact h.h0
  · rw [List.getElem?_set_ne (by decide), List.getElem?_set_self l1]
  · rw [List.getElem?_set_self (by simpa using l2)]
  · rw [List.getElem?_set_ne (by decide), List.getElem?_set_ne (by decide)]; exact h.h3
  · rw [List.getElem?_set_ne (by decide), List.getElem?_set_ne (by decide)]; exact h.h4
  · rw [List.getElem?_set_ne (Ne.symm h2), List.getElem?_set_ne (Ne.symm h1)]
theorem build47 (h : List UInt8) (n : Int) (b o : Nat) : evBuild Tryd.prog 47 [(0, .str h), (1, .int .i64 n), (2, .ptr b o)] = some (.agg [.str h, .int .i64 n, .ptr b o]) := by
  simp only [evBuild, tsh_47, tzero_47, tplaces_47, Option.bind_some]
  rfl
theorem heads48 (H : Hp) (h g : List UInt8) (n m : Int) (b o q : Nat) : evBuildSlice Tryd.prog 48 2 [(0, .agg [.str h, .int .i64 n, .ptr b o]), (1, .agg [.str g, .int .i64 m, .ptr b q])] H = some (.slice H.length 0 2 (.ex 2), H ++ [.cells [.str h, .int .i64 n, .ptr b o, .str g, .int .i64 m, .ptr b q] 47 .rw]) := by
  simp only [evBuildSlice, tsh_48, tzero_47, Option.bind_some]
  rfl
theorem build_a (p : List UInt8) : evBuild Tryd.prog 24 [(0, .str p)] = some (.agg [.str p, .str [], .str [], .nils]) := by
  simp only [evBuild, tsh_24, tzero_24, tplaces_24, Option.bind_some]
  rfl

/-- What a reading answers. -/
structure Ans (s : List UInt8) (H : Hp) (m : Mt) (e : Int) (x : AV) (L : Hp) : Prop where
  is : ParseR s m e
  sw : Sw (H ++ L) x m.ss

theorem callK_exP {α : Type} {P : Program} {f : FuncId} {args : List AV} {H : Hp} (p : α → Prop) (g : α → AV × Hp × Ef) (h : callK P f args H (fun q => ∃ b, p b ∧ q = g b)) : ∃ b, p b ∧ ∀ k, callK P f args H k = k (g b) := by
  obtain ⟨r, hr⟩ := callK_ex (fun r : {b : α // p b} => g r.1) (callK_mono h (fun q ⟨b, hb, hq⟩ => ⟨⟨b, hb⟩, hq⟩))
  exact ⟨r.1, r.2, hr⟩
def ansG (H : Hp) (b : (Mt × Int) × AV × Hp) : AV × Hp × Ef := (.tuple [.agg [.str b.1.1.a, .str b.1.1.b, .str b.1.1.c, b.2.1], .int .i64 b.1.2], H ++ b.2.2, z0)
def ansQ (s : List UInt8) (H : Hp) (q : AV × Hp × Ef) : Prop := ∃ b : (Mt × Int) × AV × Hp, Ans s H b.1.1 b.1.2 b.2.1 b.2.2 ∧ q = ansG H b
theorem ans_bad {s : List UInt8} {H : Hp} {e : Int} (h : ParseR s Mt.nil e) : ansQ s H (.tuple [.agg [.str [], .str [], .str [], .nils], .int .i64 e], H, z0) :=
  ⟨((Mt.nil, e), .nils, []), ⟨h, .inl ⟨rfl, rfl⟩⟩, by unfold ansG; simp only [List.append_nil]; rfl⟩

set_option maxRecDepth 20000 in
set_option maxHeartbeats 2000000 in
theorem parse14 (s : List UInt8) (H) (ht : Tb H) : ∃ b : (Mt × Int) × AV × Hp, Ans s H b.1.1 b.1.2 b.2.1 b.2.2 ∧ ∀ k, callK Tryd.prog 14 [.str s] H k = k (ansG H b) := by
  refine callK_exP (fun b : (Mt × Int) × AV × Hp => Ans s H b.1.1 b.1.2 b.2.1 b.2.2) (ansG H) ?_
  show callK _ _ _ _ (ansQ s H)
  refine callK_start (n := 107) (rs := [.cell 2 24, .tmp 3]) Tryd.func14 rfl rfl rfl ?_
  intro σ hl ha
  have h0 := ha 0 (by simp)
  clear ha
  simp only [Option.getD_some, List.getElem?_cons_zero, List.getElem?_cons_succ] at h0
  by_cases h400 : 400 < s.length
  · have g1 : decide ((s.length : Int) > 400) = true := by simp; omega
    simp only [go_sem, simprocAttr, hl, h0, g1, build_nil]
    exact ans_bad (.inl ⟨h400, rfl, rfl⟩)
  have hs : s.length ≤ 400 := by omega
  have g1 : decide ((s.length : Int) > 400) = false := by simp; omega
  obtain ⟨p0, R0, hsp⟩ : ∃ p0 R0, splitC 32 s = (p0, R0) := ⟨_, _, rfl⟩
  have hno := split_no 32 s
  rw [hsp] at hno
  have hjn := split_drop hsp
  have hjl : (joinC 32 R0).length ≤ 400 := by
    have := congrArg List.length hjn
    rw [List.length_append] at this; omega
  obtain ⟨ec, hec, rn⟩ := next23 H [.cells [.str [], .str [], .str [], .nils] 24 .rw, .cells [.str s] 9 .rw, .cells [.bool true] 4 .rw] 1 2 true p0 R0 s rfl rfl (by decide) (by omega) hsp
  simp only [List.set_cons_succ, List.set_cons_zero] at rn
  simp only [go_sem, simprocAttr, hl, h0, g1, rn, build_a, build47, heads48]
  refine go_rounds (fun m st => ∃ σ r T e v4 v6 ok R, m + r = 2 ∧ st = ⟨σ, H ++ T, e⟩ ∧ PS H.length T (restOf 32 R) (moreOf R) p0 v4 v6 .nils ∧ Heads R0 r v4 v6 ok R ∧ (∀ q ∈ R, (32 : UInt8) ∉ q) ∧ (joinC 32 R).length ≤ 400 ∧ clean H.length e ∧ σ.length = 107 ∧ fr σ 2 = .ptr H.length 0 ∧ fr σ 4 = .ptr (H.length + 1) 0 ∧ fr σ 5 = .ptr (H.length + 2) 0 ∧ fr σ 6 = .func (.func 23) [] [.ptr (H.length + 1) 0, .ptr (H.length + 2) 0] ∧ fr σ 7 = .ptr (H.length + 3) 0 ∧ fr σ 8 = .bool ok ∧ fr σ 29 = .slice (H.length + 4) 0 2 (.ex 2) ∧ fr σ 30 = .int .i64 2 ∧ fr σ 31 = .int .i64 (r : Nat)) 2
    ⟨_, 0, _, _, [], [], true, R0, rfl, rfl, ⟨rfl, rfl, rfl, rfl, rfl⟩, .inl ⟨rfl, rfl, rfl, rfl, rfl⟩, hno.2, hjl, by simp only [go_sem, simprocAttr, hec], by simp only [go_sem, simprocAttr, hl]⟩ ?_
  rintro m _ ⟨σ, r, T, e, v4, v6, ok, R, hm, rfl, hps, hH, hnoR, hjR, he, hl, h2, h4, h5, h6, h7, h8, h29, h30, h31⟩
  rcases hH with ⟨rfl, rfl, rfl, rfl, rfl⟩ | ⟨rfl, rfl, hH⟩ | ⟨rfl, k4, k6, R1, hH4, hH6, hok⟩
  · -- the first address
    obtain ⟨q, hq⟩ : ∃ q, T.length = q := ⟨_, rfl⟩
    have hq5 : 4 < q := by have := lt_of_get hps.h4; omega
    have hps1 := hps.more [.cells [.str [52, 61], .int .i64 4, .ptr (H.length + 3) 1] 47 .rw]
    have hcp : (T ++ [.cells [.str [52, 61], .int .i64 4, .ptr (H.length + 3) 1] 47 .rw])[q]? = some (.cells [.str [52, 61], .int .i64 4, .ptr (H.length + 3) 1] 47 .rw) := by subst hq; simp
    have t1 := hps1.h1
    have t2 := hps1.h2
    have t4 := hps.h4
    cases R with
    | nil =>
      replace t2 : (T ++ [.cells [.str [52, 61], .int .i64 4, .ptr (H.length + 3) 1] 47 .rw])[2]? = some (.cells [.bool false] 4 .rw) := t2
      simp only [go_sem, simprocAttr, hl, h2, h4, h5, h6, h7, h8, h29, h30, h31, t2, t4]
      exact ⟨m - 1, by omega, _, 1, _, _, [], [], true, [], by omega, rfl, hps1, .inr (.inl ⟨rfl, rfl, .inl ⟨fun d Q h => (by cases h), rfl, rfl, rfl⟩⟩), hnoR, hjR, by simp only [go_sem, simprocAttr, he], by simp only [go_sem, simprocAttr, hl, h2, h4, h5, h6, h7, h8, h29, h30, h31]⟩
    | cons p R' =>
      replace t2 : (T ++ [.cells [.str [52, 61], .int .i64 4, .ptr (H.length + 3) 1] 47 .rw])[2]? = some (.cells [.bool true] 4 .rw) := t2
      have hrl : (restOf 32 (p :: R')).length ≤ 400 := by
        unfold restOf
        rw [List.length_drop]; omega
      have rh := fun H k => hasp25 (restOf 32 (p :: R')) [52, 61] H k
      have hpre : ∀ b : Bool, ((restOf 32 (p :: R')).take 2 == [52, 61]) = b → ∀ H k, callK Tryd.prog 25 [.str (restOf 32 (p :: R')), .str [52, 61]] H k = k (.bool b, H, z0) := by
        intro b hb H k
        rw [← hb]; exact rh H k
      cases hb : ((restOf 32 (p :: R')).take 2 == [52, 61]) with
      | false =>
        have rp := hpre false hb
        simp only [go_sem, simprocAttr, hl, h2, h4, h5, h6, h7, h8, h29, h30, h31, t1, t2, t4, rp]
        exact ⟨m - 1, by omega, _, 1, _, _, [], [], true, p :: R', by omega, rfl, hps1, .inr (.inl ⟨rfl, rfl, .inl ⟨pre_not hb, rfl, rfl, rfl⟩⟩), hnoR, hjR, by simp only [go_sem, simprocAttr, he], by simp only [go_sem, simprocAttr, hl, h2, h4, h5, h6, h7, h8, h29, h30, h31]⟩
      | true =>
        have rp := hpre true hb
        obtain ⟨d, rfl⟩ := pre_of (by decide) hb
        have hsR := rest_split hnoR
        obtain ⟨T2, e2, ps2, len2, keep2, ce2, rn2⟩ := hps1.next hsR (by omega)
        have hjn2 : (joinC 32 ((52 :: 61 :: d) :: R')).length = d.length + 2 + 1 + (joinC 32 R').length := by rw [join_len]; rfl
        obtain ⟨⟨rb, ro⟩, hr, rr⟩ := raw26 d (H ++ T2) (by omega)
        have c2 : T2[q]? = some (.cells [.str [52, 61], .int .i64 4, .ptr (H.length + 3) 1] 47 .rw) := by rw [keep2 q (by omega) (by omega)]; exact hcp
        have u3 := ps2.h3
        have hl3 := lt_of_get u3
        have d3 : decide (3 < T2.length) = true := by simpa using hl3
        have hd2 : (52 :: 61 :: d : List UInt8).length = d.length + 2 := rfl
        have bb1 : (2 : Int) ≤ ((d.length + 2 : Nat) : Int) := by omega
        have hdt : d.take d.length = d := List.take_length
        have hse : (T ++ [.cells [.str [52, 61], .int .i64 4, .ptr (H.length + 3) 1] 47 .rw])[q]? = some (.cells [.str [52, 61], .int .i64 4, .ptr (H.length + 3) 1] 47 .rw) := hcp
        have hps3 := ps2.set3 (w4 := rb) (w6 := []) (y := .nils)
        have hnoR' : ∀ q ∈ R', (32 : UInt8) ∉ q := fun q hq => hnoR q (by simp [hq])
        have hhd : HdR 52 4 ((52 :: 61 :: d) :: R') rb (ro && decide (rb.length = 4)) R' := .inr ⟨d, (rb, ro), rfl, hr, rfl, rfl⟩
        have glen : ((rb.length : Int) == 4) = decide (rb.length = 4) := by
          rw [Bool.eq_iff_iff]; simp only [beq_iff_eq, decide_eq_true_eq]; omega
        simp only [go_sem, simprocAttr, hl, h2, h4, h5, h6, h7, h8, h29, h30, h31, t1, t2, t4, rp, rn2, hd2, bb1, hdt, rr]
        cases ro with
        | false =>
          simp only [go_sem, simprocAttr, hl, h2, h4, h5, h6, h7, h8, h29, h30, h31, hq, c2, u3, d3]
          exact ⟨m - 1, by omega, _, 1, _, _, rb, [], false, R', by omega, rfl, hps3, .inr (.inl ⟨rfl, rfl, hhd⟩), hnoR', by omega, by simp only [go_sem, simprocAttr, he, ce2], by simp only [go_sem, simprocAttr, hl, h2, h4, h5, h6, h7, h8, h29, h30, h31]⟩
        | true =>
          simp only [go_sem, simprocAttr, hl, h2, h4, h5, h6, h7, h8, h29, h30, h31, hq, c2, u3, d3, glen]
          exact ⟨m - 1, by omega, _, 1, _, _, rb, [], decide (rb.length = 4), R', by omega, rfl, hps3, .inr (.inl ⟨rfl, rfl, hhd⟩), hnoR', by omega, by simp only [go_sem, simprocAttr, he, ce2], by simp only [go_sem, simprocAttr, hl, h2, h4, h5, h6, h7, h8, h29, h30, h31]⟩
  · -- the second address
    obtain ⟨q, hq⟩ : ∃ q, T.length = q := ⟨_, rfl⟩
    have hq5 : 4 < q := by have := lt_of_get hps.h4; omega
    have hps1 := hps.more [.cells [.str [54, 61], .int .i64 16, .ptr (H.length + 3) 2] 47 .rw]
    have hcp : (T ++ [.cells [.str [54, 61], .int .i64 16, .ptr (H.length + 3) 2] 47 .rw])[q]? = some (.cells [.str [54, 61], .int .i64 16, .ptr (H.length + 3) 2] 47 .rw) := by subst hq; simp
    have t1 := hps1.h1
    have t2 := hps1.h2
    have t4 := hps.h4
    cases R with
    | nil =>
      replace t2 : (T ++ [.cells [.str [54, 61], .int .i64 16, .ptr (H.length + 3) 2] 47 .rw])[2]? = some (.cells [.bool false] 4 .rw) := t2
      simp only [go_sem, simprocAttr, hl, h2, h4, h5, h6, h7, h8, h29, h30, h31, t2, t4]
      exact ⟨m - 1, by omega, _, 2, _, _, v4, [], ok, [], by omega, rfl, hps1, .inr (.inr ⟨rfl, ok, true, _, hH, .inl ⟨fun d Q h => (by cases h), rfl, rfl, rfl⟩, by simp⟩), hnoR, hjR, by simp only [go_sem, simprocAttr, he], by simp only [go_sem, simprocAttr, hl, h2, h4, h5, h6, h7, h8, h29, h30, h31]⟩
    | cons p R' =>
      replace t2 : (T ++ [.cells [.str [54, 61], .int .i64 16, .ptr (H.length + 3) 2] 47 .rw])[2]? = some (.cells [.bool true] 4 .rw) := t2
      have hrl : (restOf 32 (p :: R')).length ≤ 400 := by
        unfold restOf
        rw [List.length_drop]; omega
      have rh := fun H k => hasp25 (restOf 32 (p :: R')) [54, 61] H k
      have hpre : ∀ b : Bool, ((restOf 32 (p :: R')).take 2 == [54, 61]) = b → ∀ H k, callK Tryd.prog 25 [.str (restOf 32 (p :: R')), .str [54, 61]] H k = k (.bool b, H, z0) := by
        intro b hb H k
        rw [← hb]; exact rh H k
      cases hb : ((restOf 32 (p :: R')).take 2 == [54, 61]) with
      | false =>
        have rp := hpre false hb
        simp only [go_sem, simprocAttr, hl, h2, h4, h5, h6, h7, h8, h29, h30, h31, t1, t2, t4, rp]
        exact ⟨m - 1, by omega, _, 2, _, _, v4, [], ok, p :: R', by omega, rfl, hps1, .inr (.inr ⟨rfl, ok, true, _, hH, .inl ⟨pre_not hb, rfl, rfl, rfl⟩, by simp⟩), hnoR, hjR, by simp only [go_sem, simprocAttr, he], by simp only [go_sem, simprocAttr, hl, h2, h4, h5, h6, h7, h8, h29, h30, h31]⟩
      | true =>
        have rp := hpre true hb
        obtain ⟨d, rfl⟩ := pre_of (by decide) hb
        have hsR := rest_split hnoR
        obtain ⟨T2, e2, ps2, len2, keep2, ce2, rn2⟩ := hps1.next hsR (by omega)
        have hjn2 : (joinC 32 ((54 :: 61 :: d) :: R')).length = d.length + 2 + 1 + (joinC 32 R').length := by rw [join_len]; rfl
        obtain ⟨⟨rb, ro⟩, hr, rr⟩ := raw26 d (H ++ T2) (by omega)
        have c2 : T2[q]? = some (.cells [.str [54, 61], .int .i64 16, .ptr (H.length + 3) 2] 47 .rw) := by rw [keep2 q (by omega) (by omega)]; exact hcp
        have u3 := ps2.h3
        have hl3 := lt_of_get u3
        have d3 : decide (3 < T2.length) = true := by simpa using hl3
        have hd2 : (54 :: 61 :: d : List UInt8).length = d.length + 2 := rfl
        have bb1 : (2 : Int) ≤ ((d.length + 2 : Nat) : Int) := by omega
        have hdt : d.take d.length = d := List.take_length
        have hse : (T ++ [.cells [.str [54, 61], .int .i64 16, .ptr (H.length + 3) 2] 47 .rw])[q]? = some (.cells [.str [54, 61], .int .i64 16, .ptr (H.length + 3) 2] 47 .rw) := hcp
        have hps3 := ps2.set3 (w4 := v4) (w6 := rb) (y := .nils)
        have hnoR' : ∀ q ∈ R', (32 : UInt8) ∉ q := fun q hq => hnoR q (by simp [hq])
        have hhd : HdR 54 16 ((54 :: 61 :: d) :: R') rb (ro && decide (rb.length = 16)) R' := .inr ⟨d, (rb, ro), rfl, hr, rfl, rfl⟩
        have glen : ((rb.length : Int) == 16) = decide (rb.length = 16) := by
          rw [Bool.eq_iff_iff]; simp only [beq_iff_eq, decide_eq_true_eq]; omega
        simp only [go_sem, simprocAttr, hl, h2, h4, h5, h6, h7, h8, h29, h30, h31, t1, t2, t4, rp, rn2, hd2, bb1, hdt, rr]
        cases ok with
        | false =>
          simp only [go_sem, simprocAttr, hl, h2, h4, h5, h6, h7, h8, h29, h30, h31, hq, c2, u3, d3]
          exact ⟨m - 1, by omega, _, 2, _, _, v4, rb, false, R', by omega, rfl, hps3, .inr (.inr ⟨rfl, false, _, _, hH, hhd, rfl⟩), hnoR', by omega, by simp only [go_sem, simprocAttr, he, ce2], by simp only [go_sem, simprocAttr, hl, h2, h4, h5, h6, h7, h8, h29, h30, h31]⟩
        | true =>
          cases ro with
          | false =>
            simp only [go_sem, simprocAttr, hl, h2, h4, h5, h6, h7, h8, h29, h30, h31, hq, c2, u3, d3]
            exact ⟨m - 1, by omega, _, 2, _, _, v4, rb, false, R', by omega, rfl, hps3, .inr (.inr ⟨rfl, true, false, _, hH, hhd, rfl⟩), hnoR', by omega, by simp only [go_sem, simprocAttr, he, ce2], by simp only [go_sem, simprocAttr, hl, h2, h4, h5, h6, h7, h8, h29, h30, h31]⟩
          | true =>
            simp only [go_sem, simprocAttr, hl, h2, h4, h5, h6, h7, h8, h29, h30, h31, hq, c2, u3, d3, glen]
            exact ⟨m - 1, by omega, _, 2, _, _, v4, rb, decide (rb.length = 16), R', by omega, rfl, hps3, .inr (.inr ⟨rfl, true, _, _, hH, hhd, rfl⟩), hnoR', by omega, by simp only [go_sem, simprocAttr, he, ce2], by simp only [go_sem, simprocAttr, hl, h2, h4, h5, h6, h7, h8, h29, h30, h31]⟩
  · -- both read
    have hokE : ok = (k4 && k6) := hok
    simp only [go_sem, simprocAttr, hl, h2, h4, h5, h6, h7, h8, h29, h30, h31]
    have hH4' : HdR 52 4 (splitC 32 s).2 v4 k4 R1 := by rw [hsp]; exact hH4
    cases hk : (k4 && k6) with
    | false =>
      rw [hk] at hok
      subst hok
      have hb := parse_head_bad hs hH4' hH6 hk
      have t0 := hps.h0
      have t2 := hps.h2
      have hl0 := lt_of_get t0
      have d0 : decide (0 < T.length) = true := by simpa using hl0
      rw [go_loop]
      cases hmr : moreOf R with
      | true =>
        rw [hmr] at t2
        simp only [go_sem, simprocAttr, hl, h2, h4, h5, h6, h7, h8, t0, t2, d0, build_nil, he]
        exact ans_bad hb
      | false =>
        rw [hmr] at t2
        simp only [go_sem, simprocAttr, hl, h2, h4, h5, h6, h7, h8, t0, t2, d0, build_nil, he]
        exact ans_bad hb
    | true =>
      rw [hk] at hok
      subst hok
      refine go_rounds (fun m st => ∃ σ T e ss ok R' x, m = R'.length ∧ st = ⟨σ, H ++ T, e⟩ ∧ PS H.length T (restOf 32 R') (moreOf R') p0 v4 v6 x ∧ GBuf H.length T x 41 6 ss.length (sflat ss) ∧ SvR R ss ok R' ∧ ss.length + R'.length ≤ 400 ∧ (∀ q ∈ R', (32 : UInt8) ∉ q) ∧ (joinC 32 R').length ≤ 400 ∧ clean H.length e ∧ σ.length = 107 ∧ fr σ 2 = .ptr H.length 0 ∧ fr σ 4 = .ptr (H.length + 1) 0 ∧ fr σ 5 = .ptr (H.length + 2) 0 ∧ fr σ 6 = .func (.func 23) [] [.ptr (H.length + 1) 0, .ptr (H.length + 2) 0] ∧ fr σ 7 = .ptr (H.length + 3) 0 ∧ fr σ 8 = .bool ok) R.length
        ⟨_, _, _, [], true, R, .nils, rfl, rfl, hps, .inl ⟨rfl, rfl, rfl⟩, SvR.start R, by have := joinC_ge 32 R; simp only [List.length_nil]; omega, hnoR, hjR, he, by simp only [go_sem, simprocAttr, hl, h2, h4, h5, h6, h7, h8]⟩ ?_
      clear h29 h30 h31 h8 h7 h6 h5 h4 h2 hl he hps
      rintro m _ ⟨σ, T, e, ss, ok, R', x, rfl, rfl, hps, hgb, hsv, hcount, hnoR', hjR', he, hl, h2, h4, h5, h6, h7, h8⟩
      have t0 := hps.h0
      have t1 := hps.h1
      have t2 := hps.h2
      have t3 := hps.h3
      have hl0 := lt_of_get t0
      have d0 : decide (0 < T.length) = true := by simpa using hl0
      cases ok with
      | false =>
        have hb := parse_end_bad hs hH4' hH6 hsv
        cases hmr : moreOf R' with
        | true =>
          rw [hmr] at t2
          simp only [go_sem, simprocAttr, hl, h2, h4, h5, h6, h7, h8, t0, t2, d0, build_nil, he]
          exact ans_bad hb
        | false =>
          rw [hmr] at t2
          simp only [go_sem, simprocAttr, hl, h2, h4, h5, h6, h7, h8, t0, t2, d0, build_nil, he]
          exact ans_bad hb
      | true =>
      cases R' with
      | nil =>
        replace t2 : T[2]? = some (.cells [.bool false] 4 .rw) := t2
        obtain ⟨q1, q2⟩ := parse_end hs hH4' hH6 hk hsv
        have hnum := (hsv.1 rfl).2
        have hRs := (hsv.1 rfl).1
        have hk' := hk
        rw [Bool.and_eq_true] at hk'
        have htold : (Mt.mk (splitC 32 s).1 v4 v6 ss).told = s := by
          have a4 := hH4'
          have a6 := hH6
          rw [hk'.1] at a4
          rw [hk'.2] at a6
          rw [List.append_nil] at hRs
          rw [hRs] at a6
          exact read_told a4 a6
        have hbd := told_bounds (Mt.mk (splitC 32 s).1 v4 v6 ss)
        rw [htold] at hbd
        simp only [hsp] at hbd q1 q2
        have hwf : Wf p0 v4 v6 ss := ⟨⟨by have := hbd.1.1; omega, by have := hbd.1.2.1; omega, by have := hbd.1.2.2.1; omega, by have := hbd.1.2.2.2; omega⟩,
          fun w hw => ⟨by have := (hbd.2 w hw).1; omega, by have := (hbd.2 w hw).2; omega, hnum w hw⟩⟩
        have hsw : Sw (H ++ T) x ss := gbuf_sw hgb
        have rc := fun k => check12 p0 v4 v6 (H ++ T) k x ss hsw (ht.old _) hwf
        simp only [go_sem, simprocAttr, hl, h2, h4, h5, h6, h7, h8, t0, t2, t3, rc]
        cases hz : ((packP p0 v4 v6 ss).2 == 0) with
        | false =>
          have hb := q2 (by simpa [Mt.pack] using hz)
          have hz' : ((packP p0 v4 v6 ss).2 != 0) = true := by rw [bne, hz]; rfl
          simp only [go_sem, simprocAttr, hl, h2, h4, h5, h6, h7, h8, hz', t0, d0, build_nil, he]
          exact ans_bad hb
        | true =>
          have hg := q1 (by simpa [Mt.pack] using hz)
          have hz' : ((packP p0 v4 v6 ss).2 != 0) = false := by rw [bne, hz]; rfl
          simp only [go_sem, simprocAttr, hl, h2, h4, h5, h6, h7, h8, hz', t0, t3, d0, hsw.sv.scal]
          have hsw2 := gbuf_sw (hgb.set (x := .cells [.str p0, .str v4, .str v6, x] 24 .rw) t0)
          have hce : clean H.length (e.and ⟨if flat x = true then none else some H.length, some H.length⟩) := by
            rw [clean_andT, clean_ifT (Nat.le_refl _)]; exact ⟨he, trivial⟩
          cases hfx : flat x with
          | true =>
            rw [hfx] at hce
            rw [leave_flat (by simp only [flat, flats, hfx, Bool.and_self]) hce]
            have hxn : x = .nils ∧ ss = [] := by
              obtain ⟨rfl, _, h0⟩ | ⟨_, _, mm, rfl, _⟩ := hgb
              · exact ⟨rfl, List.length_eq_zero_iff.1 h0⟩
              · simp only [flat] at hfx; cases hfx
            obtain ⟨rfl, rfl⟩ := hxn
            exact ⟨((⟨p0, v4, v6, []⟩, 0), .nils, []), ⟨hg, .inl ⟨rfl, rfl⟩⟩, by unfold ansG; simp only [List.append_nil]⟩
          | false =>
            rw [hfx] at hce
            rw [leave_keep (by simp only [flat, flats, hfx, Bool.and_false, Bool.false_and, Bool.and_true, Bool.true_and]) hce]
            exact ⟨((⟨p0, v4, v6, ss⟩, 0), x, _), ⟨hg, hsw2⟩, rfl⟩
      | cons p R2' =>
        replace t2 : T[2]? = some (.cells [.bool true] 4 .rw) := t2
        have hrl : (restOf 32 (p :: R2')).length ≤ 400 := by
          unfold restOf
          rw [List.length_drop]; omega
        have hsR := rest_split hnoR'
        obtain ⟨T2, e2, ps2, len2, keep2, ce2, rn2⟩ := hps.next hsR (by omega)
        have hjn2 : (joinC 32 (p :: R2')).length = p.length + 1 + (joinC 32 R2').length := join_len
        have v0 := ps2.h0
        have hlv0 := lt_of_get v0
        have dv0 : decide (0 < T2.length) = true := by simpa using hlv0
        have gbT2 : GBuf H.length T2 x 41 6 ss.length (sflat ss) := by
          obtain h | ⟨g1, g2, mm, rfl, hm⟩ := hgb
          · exact .inl h
          · refine .inr ⟨g1, g2, mm, rfl, ?_⟩
            rw [keep2 mm (by rintro rfl; rw [t1] at hm; simp at hm) (by rintro rfl; rw [t2] at hm; simp at hm)]
            exact hm
        have hnoR2 : ∀ q ∈ R2', (32 : UInt8) ∉ q := fun q hq => hnoR' q (by simp [hq])
        have hcount2 : ss.length + (R2'.length + 1) ≤ 400 := by simpa using hcount
        have ru := fun H k => hasp25 p [117, 61] H k
        have rt := fun H k => hasp25 p [116, 61] H k
        simp only [List.length_cons, List.length_nil, Nat.reduceAdd] at ru rt
        cases hu : (p.take 2 == [117, 61]) with
        | true =>
          rw [hu] at ru
          obtain ⟨d, rfl⟩ : ∃ d, p = 117 :: 61 :: d := take_pre hu
          have hd2 : (117 :: 61 :: d : List UInt8).length = d.length + 2 := rfl
          have bb1 : (2 : Int) ≤ ((d.length + 2 : Nat) : Int) := by omega
          have hdt : d.take d.length = d := List.take_length
          obtain ⟨r, hr, rr⟩ := offered27 d true (H ++ (T2 ++ [.cells [.str [], .bool false, .int .u16 0, .int .u16 0, .int .u16 0, .str []] 41 .rw])) (by omega)
          have hsv' := hsv.next (h := 117) (d := d) (r := r) (by left; rfl) hr
          have gb2 : GBuf H.length (T2 ++ [.cells r.1.cells 41 .rw, .cells r.1.cells 41 .rw]) x 41 6 ss.length (sflat ss) := (gbT2).more _
          obtain ⟨x', T3, e3, happ, hlen3, ce3, keep3, gb3, hfx⟩ := gb2.app (b := 40) (by decide) zok_22 r.1.cells 1 (by decide) rfl (svc_scal r.1) (by simp only [fits, decide_eq_true_eq]; omega)
          have u3 : (T2 ++ [ABlk.cells r.1.cells 41 .rw, ABlk.cells r.1.cells 41 .rw])[3]? = some (.cells [.str p0, .str v4, .str v6, x] 24 .rw) := get_app ps2.h3
          have u3' : ∀ l, (T2 ++ l)[3]? = some (.cells [.str p0, .str v4, .str v6, x] 24 .rw) := fun l => get_app ps2.h3
          have w3 := keep3 3 _ u3 rfl
          have hl3 := lt_of_get w3
          have d3 : decide (3 < T3.length) = true := by simpa using hl3
          have ps3 : PS H.length T3 (restOf 32 R2') (moreOf R2') p0 v4 v6 x := ⟨keep3 0 _ (get_app ps2.h0) rfl, keep3 1 _ (get_app ps2.h1) rfl, keep3 2 _ (get_app ps2.h2) rfl, w3, keep3 4 _ (get_app ps2.h4) rfl⟩
          have ps4 := ps3.set3 (w4 := v4) (w6 := v6) (y := x')
          have gb4 := gb3.set (x := .cells [.str p0, .str v4, .str v6, x'] 24 .rw) w3
          have hsfl : sflat ss ++ r.1.cells = sflat (ss ++ [r.1]) := by simp [sflat]
          rw [hsfl] at gb4
          have hscx := gb3.scl
          have hvcx : vcells x' = [x'] := by
            obtain ⟨rfl, _⟩ | ⟨_, _, _, rfl, _⟩ := gb3 <;> rfl
          have hbs := bslice_mark
          have hrd : ∀ (e : TypeId) (k : Kd), rdC 0 6 (.cells r.1.cells e k) = some r.1.cells := fun _ _ => rfl
          simp only [go_sem, simprocAttr, hl, h2, h4, h5, h6, h7, h8, t2, rn2, ru]
          refine go_drawF tFollows (by kernel_rfl) ?_
          simp only [go_sem, simprocAttr, hl, h2, h4, h5, h6, h7, h8, hd2, bb1, hdt, rr]
          refine ⟨(by kernel_rfl : effOk _ _ = true), ?_⟩
          simp only [go_sem, simprocAttr, hl, h2, h4, h5, h6, h7, h8, u3', u3, hbs, hrd, happ, w3, d3, hscx, hvcx, hfx]
          exact ⟨R2'.length, by simp, _, _, _, ss ++ [r.1], r.2, R2', x', rfl, rfl, ps4, by simpa using gb4, hsv', by simp; omega, hnoR2, by omega, by simp only [go_sem, simprocAttr, he, ce2, ce3], by simp only [go_sem, simprocAttr, hl, h2, h4, h5, h6, h7]⟩
        | false =>
          rw [hu] at ru
          cases hv : (p.take 2 == [116, 61]) with
          | true =>
            rw [hv] at rt
            obtain ⟨d, rfl⟩ : ∃ d, p = 116 :: 61 :: d := take_pre hv
            have hd2 : (116 :: 61 :: d : List UInt8).length = d.length + 2 := rfl
            have bb1 : (2 : Int) ≤ ((d.length + 2 : Nat) : Int) := by omega
            have hdt : d.take d.length = d := List.take_length
            obtain ⟨r, hr, rr⟩ := offered27 d false (H ++ (T2 ++ [.cells [.str [], .bool false, .int .u16 0, .int .u16 0, .int .u16 0, .str []] 41 .rw])) (by omega)
            have hsv' := hsv.next (h := 116) (d := d) (r := r) (by right; rfl) hr
            have gb2 : GBuf H.length (T2 ++ [.cells r.1.cells 41 .rw, .cells r.1.cells 41 .rw]) x 41 6 ss.length (sflat ss) := (gbT2).more _
            obtain ⟨x', T3, e3, happ, hlen3, ce3, keep3, gb3, hfx⟩ := gb2.app (b := 40) (by decide) zok_22 r.1.cells 1 (by decide) rfl (svc_scal r.1) (by simp only [fits, decide_eq_true_eq]; omega)
            have u3 : (T2 ++ [ABlk.cells r.1.cells 41 .rw, ABlk.cells r.1.cells 41 .rw])[3]? = some (.cells [.str p0, .str v4, .str v6, x] 24 .rw) := get_app ps2.h3
            have u3' : ∀ l, (T2 ++ l)[3]? = some (.cells [.str p0, .str v4, .str v6, x] 24 .rw) := fun l => get_app ps2.h3
            have w3 := keep3 3 _ u3 rfl
            have hl3 := lt_of_get w3
            have d3 : decide (3 < T3.length) = true := by simpa using hl3
            have ps3 : PS H.length T3 (restOf 32 R2') (moreOf R2') p0 v4 v6 x := ⟨keep3 0 _ (get_app ps2.h0) rfl, keep3 1 _ (get_app ps2.h1) rfl, keep3 2 _ (get_app ps2.h2) rfl, w3, keep3 4 _ (get_app ps2.h4) rfl⟩
            have ps4 := ps3.set3 (w4 := v4) (w6 := v6) (y := x')
            have gb4 := gb3.set (x := .cells [.str p0, .str v4, .str v6, x'] 24 .rw) w3
            have hsfl : sflat ss ++ r.1.cells = sflat (ss ++ [r.1]) := by simp [sflat]
            rw [hsfl] at gb4
            have hscx := gb3.scl
            have hvcx : vcells x' = [x'] := by
              obtain ⟨rfl, _⟩ | ⟨_, _, _, rfl, _⟩ := gb3 <;> rfl
            have hbs := bslice_mark
            have hrd : ∀ (e : TypeId) (k : Kd), rdC 0 6 (.cells r.1.cells e k) = some r.1.cells := fun _ _ => rfl
            simp only [go_sem, simprocAttr, hl, h2, h4, h5, h6, h7, h8, t2, rn2, ru, rt]
            refine go_drawF tFollows (by kernel_rfl) ?_
            simp only [go_sem, simprocAttr, hl, h2, h4, h5, h6, h7, h8, hd2, bb1, hdt, rr]
            refine ⟨(by kernel_rfl : effOk _ _ = true), ?_⟩
            simp only [go_sem, simprocAttr, hl, h2, h4, h5, h6, h7, h8, u3', u3, hbs, hrd, happ, w3, d3, hscx, hvcx, hfx]
            exact ⟨R2'.length, by simp, _, _, _, ss ++ [r.1], r.2, R2', x', rfl, rfl, ps4, by simpa using gb4, hsv', by simp; omega, hnoR2, by omega, by simp only [go_sem, simprocAttr, he, ce2, ce3], by simp only [go_sem, simprocAttr, hl, h2, h4, h5, h6, h7]⟩
          | false =>
            rw [hv] at rt
            have hb := parse_bad hs hH4' hH6 hsv (fun d => ⟨by rintro rfl; simp at hu, by rintro rfl; simp at hv⟩)
            simp only [go_sem, simprocAttr, hl, h2, h4, h5, h6, h7, h8, t2, rn2, ru, rt, v0, dv0, build_nil, he, ce2]
            exact ans_bad hb
end Go.Proofs.YtjemmehgfheflaaDoor.V
