/- The service chapter: a service read, and a whole meta read, as 'V' runs the program's functions. No conditions. -/
import Derived.Test.YtjemmehgfheflaaDoorSWalkM
namespace Go.Proofs.YtjemmehgfheflaaDoor.V
open Go
set_option linter.unusedSimpArgs false
set_option linter.unusedVariables false
attribute [local irreducible] go goOps goD opK callK callT stepK leaveTo nextK

set_option maxRecDepth 20000 in
theorem split48 (s : List UInt8) (c : UInt8) (H) (hs : s.length ≤ 100000) :
    ∃ L : Hp, L[0]? = some (.cells (strs ((splitC c s).1 :: (splitC c s).2)) 9 .rw) ∧ ∀ k, callK Tryd.prog 48 [.str s, .str [c]] H k = k (.slice H.length 0 ((splitC c s).2.length + 1) (.ex ((splitC c s).2.length + 1)), H ++ L, z0) := by
  obtain ⟨L, hL, hr⟩ := gens56 s c H hs
  refine ⟨L, hL, fun k => ?_⟩
  refine callK_eq ?_ k
  refine callK_start (n := 8) (rs := [.tmp 4]) Tryd.func48 rfl rfl rfl ?_
  intro σ hl ha
  have h0 := ha 0 (by simp)
  have h1 := ha 1 (by simp)
  clear ha
  simp only [Option.getD_some, List.getElem?_cons_zero, List.getElem?_cons_succ] at h0 h1
  simp only [go_sem, simprocAttr, hl, h0, h1, hr]

/-- The next piece, and what is left. -/
theorem next23 (H T : Hp) (i j : Nat) (c : Bool) (p : List UInt8) (R : List (List UInt8)) (rest : List UInt8) (hi : T[i]? = some (.cells [.str rest] 9 .rw)) (hj : T[j]? = some (.cells [.bool c] 4 .rw)) (hij : i ≠ j) (hl : rest.length ≤ 1000000) (hsp : splitC 32 rest = (p, R)) :
    ∃ e, clean H.length e ∧ ∀ k, callK Tryd.prog 23 [.ptr (H.length + i) 0, .ptr (H.length + j) 0] (H ++ T) k = k (.str p, H ++ (T.set i (.cells [.str (restOf 32 R)] 9 .rw)).set j (.cells [.bool (moreOf R)] 4 .rw), e) := by
  have rc := fun H k => cut24 rest 32 H k hl
  rw [hsp] at rc
  have hli := lt_of_get hi
  have hlj := lt_of_get hj
  have d1 : decide (i < T.length) = true := by simpa using hli
  have d2 : decide (j < T.length) = true := by simpa using hlj
  have d3 : (i == j) = false := by simpa using hij
  refine ⟨⟨none, low (H.length + T.length) (omin (some (H.length + i)) (some (H.length + j)))⟩, ⟨rfl, low_low (n := H.length) (m := H.length + T.length) (o := omin (some (H.length + i)) (some (H.length + j))) (by rw [low_oT, low_w, low_w]; omega)⟩, fun k => ?_⟩
  refine callK_eq ?_ k
  refine callK_start (n := 11) (rs := [.tmp 2]) Tryd.func23 rfl rfl rfl ?_
  intro σ hl ha
  have h0 := ha 0 (by simp)
  have h1 := ha 1 (by simp)
  clear ha
  simp only [Option.getD_some, List.getElem?_cons_zero, List.getElem?_cons_succ] at h0 h1
  have hj2 : (T.set i (.cells [.str (restOf 32 R)] 9 .rw))[j]? = some (.cells [.bool c] 4 .rw) := by rw [List.getElem?_set_ne hij]; exact hj
  simp only [go_sem, simprocAttr, hl, h0, h1, hi, hj, hj2, d1, d2, d3, rc]
  exact leave_same (w := omin (some (H.length + i)) (some (H.length + j))) rfl (by simp)

/-- What append grew: nothing, or a row of its own, z cells an element. -/
def GBuf (n : Nat) (T : Hp) (v : AV) (e z len : Nat) (cs : List AV) : Prop := (v = .nils ∧ cs = [] ∧ len = 0) ∨ (0 < len ∧ cs.length = len * z ∧ ∃ m, v = .slice (n + m) 0 len (.op 0) ∧ T[m]? = some (.cells cs e (.op 0 false)))
theorem GBuf.scl {n : Nat} {T : Hp} {v : AV} {e z len : Nat} {cs : List AV} (h : GBuf n T v e z len cs) : scal v = true := by
  obtain ⟨rfl, _⟩ | ⟨_, _, m, rfl, _⟩ := h <;> rfl
theorem GBuf.more {n : Nat} {T : Hp} {v : AV} {e z len : Nat} {cs : List AV} (h : GBuf n T v e z len cs) (l : Hp) : GBuf n (T ++ l) v e z len cs := by
  obtain h | ⟨h1, h2, m, rfl, hm⟩ := h
  · exact .inl h
  · exact .inr ⟨h1, h2, m, rfl, get_app hm⟩
theorem GBuf.set {n : Nat} {T : Hp} {v : AV} {e z len : Nat} {cs : List AV} (h : GBuf n T v e z len cs) {j : Nat} {c : List AV} {e' : TypeId} {x : ABlk} (hj : T[j]? = some (.cells c e' .rw)) : GBuf n (T.set j x) v e z len cs := by
  obtain h | ⟨h1, h2, m, rfl, hm⟩ := h
  · exact .inl h
  · refine .inr ⟨h1, h2, m, rfl, ?_⟩
    have : j ≠ m := by rintro rfl; rw [hj] at hm; cases hm
    rw [List.getElem?_set_ne this]; exact hm
theorem GBuf.app {H T : Hp} {v : AV} {e z b len : Nat} {cs : List AV} (h : GBuf H.length T v e z len cs) (hz : decide (0 < z) = true) (hk : zok Tryd.prog e z = true) (xs : List AV) (q : Nat) (hq : 0 < q) (hx : xs.length = q * z) (hsc : xs.all V.scal = true) (hf : fits (len + q) b = true) :
    ∃ v' T2 e2, (∀ kk, stepK (appTo Tryd.prog (.slice e z b) v (xs, q) (H ++ T)) kk = kk (v', H ++ T2, e2)) ∧ T.length ≤ T2.length ∧ clean H.length e2 ∧ (∀ (i : Nat) x, T[i]? = some x → fixd x = true → T2[i]? = some x) ∧ GBuf H.length T2 v' e z (len + q) (cs ++ xs) ∧ flat v' = false := by
  have hz' : 0 < z := by simpa using hz
  obtain ⟨rfl, rfl, rfl⟩ | ⟨hpos, hcl, m, rfl, hm⟩ := h
  · refine ⟨.slice (H.length + T.length) 0 q (.op 0), T ++ [.cells xs e (.op 0 false)], z0, fun kk => ?_, by simp, ⟨rfl, rfl⟩, fun i x hx _ => get_app hx, .inr ⟨by omega, by simpa using hx, T.length, by simp, by simp⟩, by simp only [flat]⟩
    rw [appTo_nils hz hk]
    have hd : decide (q = 0) = false := by simp; omega
    have hf : fits q b = true := by simpa using hf
    simp only [hd, guardK_ft, hf, true_and, List.length_append, List.append_assoc]
  · have hlt := lt_of_get hm
    have hg : (H ++ T)[H.length + m]? = some (.cells cs e (.op 0 false)) := by rw [hp_new, hm]
    refine ⟨.slice (H.length + T.length) 0 (len + q) (.op 0), T.set m .dead ++ [.cells (cs ++ xs) e (.op 0 false)], ⟨none, some (H.length + m)⟩, fun kk => ?_, by simp, by simp [clean, low], fun i x hx hf => ?_, .inr ⟨by omega, by rw [List.length_append, hcl, hx, Nat.add_mul], T.length, rfl, by simp⟩, by simp only [flat]⟩
    · rw [appTo_op hz hk, hg]
      simp only [bindK_some, appO_c]
      have hqz : 0 < q * z := Nat.mul_pos hq hz'
      have hd : decide (0 + (len + q) * z ≤ cs.length) = false := by
        rw [hcl, Nat.add_mul]; simp; omega
      have ht : (List.drop 0 cs).take (len * z) ++ xs = cs ++ xs := by
        rw [List.drop_zero, List.take_of_length_le (by rw [hcl]; exact Nat.le_refl _)]
      have hle : 0 + len * z ≤ cs.length := by rw [hcl]; omega
      rw [hd, guardK_ft]
      simp only [ht, hf, hsc, hle, hp_set, List.length_append, List.append_assoc, Nat.sub_self, Nat.zero_le, true_and, and_true, Nat.zero_mul]
    · have hne : m ≠ i := by
        rintro rfl
        rw [hm] at hx; cases hx; cases hf
      rw [get_app (x := x)]
      rw [List.getElem?_set_ne hne]; exact hx

set_option maxRecDepth 20000 in
theorem offered27 (s : List UInt8) (dg : Bool) (H) (hs : s.length ≤ 100000) : ∃ r, OffR s dg r ∧ ∀ k, callK Tryd.prog 27 [.str s, .bool dg] H k = k (.tuple [.agg r.1.cells, .bool r.2], H, z0) := by
  refine (fun h : ∃ r : {r : Svc × Bool // OffR s dg r}, ∀ k, callK Tryd.prog 27 [.str s, .bool dg] H k = k (.tuple [.agg r.1.1.cells, .bool r.1.2], H, z0) => ?_) (callK_ex (fun r : {r : Svc × Bool // OffR s dg r} => (.tuple [.agg r.1.1.cells, .bool r.1.2], H, z0)) ?_)
  · obtain ⟨⟨r, h1⟩, hr⟩ := h
    exact ⟨r, h1, hr⟩
  refine callK_start (n := 66) (rs := [.cell 4 41, .tmp 5]) Tryd.func27 rfl rfl rfl ?_
  intro σ hl ha
  have h0 := ha 0 (by simp)
  have h1 := ha 1 (by simp)
  clear ha
  simp only [Option.getD_some, List.getElem?_cons_zero, List.getElem?_cons_succ] at h0 h1
  obtain ⟨L, hL, rs⟩ := split48 s 58 (H ++ [.cells [.str [], .bool false, .int .u16 0, .int .u16 0, .int .u16 0, .str []] 41 .rw]) hs
  have hsum := split_join 58 s
  have hlen : ∀ q ∈ (splitC 58 s).1 :: (splitC 58 s).2, q.length ≤ 100000 := by
    intro q hq
    have h2 := congrArg List.length hsum
    rw [List.length_append] at h2
    rcases List.mem_cons.1 hq with rfl | hq
    · omega
    · have : ∀ R : List (List UInt8), q ∈ R → q.length ≤ (joinC 58 R).length := by
        intro R
        induction R with
        | nil => intro h; cases h
        | cons p R ih =>
          intro h
          rw [join_len]
          rcases List.mem_cons.1 h with rfl | h
          · omega
          · have := ih h; omega
      have := this _ hq
      omega
  by_cases h4 : (splitC 58 s).2.length = 4
  · obtain ⟨l, R, hsp⟩ : ∃ l R, splitC 58 s = (l, R) := ⟨_, _, rfl⟩
    rw [hsp] at h4 hL rs hlen
    match R, h4 with
    | [n1, n2, n3, t], _ =>
      simp only [List.length_cons, List.length_nil, Nat.reduceAdd] at rs
      have hL : L[0]? = some (.cells [.str l, .str n1, .str n2, .str n3, .str t] 9 .rw) := hL
      obtain ⟨r1, hr1, c1⟩ := number49 n1 (H ++ (.cells [.str [], .bool false, .int .u16 0, .int .u16 0, .int .u16 0, .str []] 41 .rw :: (L ++ [.cells [.str l, .bool dg, .int .u16 0, .int .u16 0, .int .u16 0, .str []] 41 .rw]))) (by have := hlen n1 (by simp); omega)
      obtain ⟨r2, hr2, c2⟩ := number49 n2 (H ++ (.cells [.str [], .bool false, .int .u16 0, .int .u16 0, .int .u16 0, .str []] 41 .rw :: (L ++ [.cells [.str l, .bool dg, .int .u16 r1.1, .int .u16 0, .int .u16 0, .str []] 41 .rw]))) (by have := hlen n2 (by simp); omega)
      obtain ⟨r3, hr3, c3⟩ := number49 n3 (H ++ (.cells [.str [], .bool false, .int .u16 0, .int .u16 0, .int .u16 0, .str []] 41 .rw :: (L ++ [.cells [.str l, .bool dg, .int .u16 r1.1, .int .u16 r2.1, .int .u16 0, .str []] 41 .rw]))) (by have := hlen n3 (by simp); omega)
      obtain ⟨r4, hr4, c4⟩ := plain50 t (H ++ (.cells [.str [], .bool false, .int .u16 0, .int .u16 0, .int .u16 0, .str []] 41 .rw :: (L ++ [.cells [.str l, .bool dg, .int .u16 r1.1, .int .u16 r2.1, .int .u16 r3.1, .str []] 41 .rw]))) (by have := hlen t (by simp); omega)
      have hend := off_all (dg := dg) hsp hr1 hr2 hr3 hr4
      have hb1 : ∀ l : List UInt8, evBuild Tryd.prog 41 [(0, .str l), (1, .bool dg)] = some (.agg [.str l, .bool dg, .int .u16 0, .int .u16 0, .int .u16 0, .str []]) := by
        intro l
        simp only [evBuild, tsh_41, tzero_41, tplaces_41, Option.bind_some]
        rfl
      have hLa := fun l => get_app (l := l) hL
      obtain ⟨v1, o1⟩ := r1
      obtain ⟨v2, o2⟩ := r2
      obtain ⟨v3, o3⟩ := r3
      obtain ⟨v4, o4⟩ := r4
      refine (fun h => ?_) hend
      simp only [go_sem, simprocAttr, hl, h0, h1, rs, hL, hLa, hb1, c1, c2, c3, c4]
      cases o1
      · simp only [go_sem, simprocAttr, hl]
        exact ⟨⟨_, h⟩, rfl⟩
      cases o2
      · simp only [go_sem, simprocAttr, hl]
        exact ⟨⟨_, h⟩, rfl⟩
      cases o3
      · simp only [go_sem, simprocAttr, hl]
        exact ⟨⟨_, h⟩, rfl⟩
      · simp only [go_sem, simprocAttr, hl]
        exact ⟨⟨_, h⟩, rfl⟩
  · have hne : (((splitC 58 s).2.length + 1 : Nat) : Int) ≠ 5 := by omega
    have g1 : ((((splitC 58 s).2.length + 1 : Nat) : Int) != 5) = true := by simpa using hne
    simp only [go_sem, simprocAttr, hl, h0, h1, rs, g1]
    exact ⟨⟨(⟨[], false, 0, 0, 0, []⟩, false), off_few h4⟩, rfl⟩
end Go.Proofs.YtjemmehgfheflaaDoor.V
