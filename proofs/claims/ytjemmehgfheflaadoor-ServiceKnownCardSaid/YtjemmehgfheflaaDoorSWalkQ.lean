/- The service chapter: the example meta; the laws there-and-back and apart, as 'V' runs them: they answer true. No conditions beyond the arguments' reading. -/
import Derived.Test.YtjemmehgfheflaaDoorSWalkP
namespace Go.Proofs.YtjemmehgfheflaaDoor.V
open Go
set_option linter.unusedSimpArgs false
set_option linter.unusedVariables false
attribute [local irreducible] go goOps goD opK callK callT stepK leaveTo nextK

theorem told_print {m : Mt} (h : m.may) {c : UInt8} (hc : c ∈ m.told) : 32 ≤ c.toNat ∧ c.toNat ≤ 126 := by
  rw [Mt.told_eq, List.mem_append] at hc
  rcases hc with hc | hc
  · have := (ink_host h.1.1 hc).1
    unfold inkC at this; omega
  · unfold joinC at hc
    obtain ⟨p, hp, hc⟩ := List.mem_flatMap.1 hc
    rcases List.mem_cons.1 hc with rfl | hc
    · decide
    · have := Mt.segs_ink h hp hc
      unfold inkC at this; omega

def exS : Svc := ⟨[104, 116, 116, 112], false, 80, 0, 0, [118, 32, 49]⟩
def exM : Mt := ⟨[97], [10, 0, 0, 1], [], [exS]⟩
def exT : List UInt8 := [97, 32, 52, 61, 48, 97, 48, 48, 48, 48, 48, 49, 32, 116, 61, 104, 116, 116, 112, 58, 56, 48, 58, 48, 58, 48, 58, 118, 37, 50, 48, 49]
theorem dec80 : decP 80 = [56, 48] := by
  rw [decP_ge (by decide), decP_lt (by decide)]; rfl
theorem dec0 : decP 0 = [48] := by
  rw [decP_lt (by decide)]; rfl
theorem exM_nums : exM.nums := by
  intro s hs
  simp only [exM, List.mem_singleton] at hs
  subst hs
  exact ⟨⟨by decide, by decide⟩, ⟨by decide, by decide⟩, ⟨by decide, by decide⟩⟩
theorem exM_told : exM.told = exT := by
  have h : svcN exS = 58 :: decP 80 ++ (58 :: decP 0 ++ (58 :: decP 0 ++ [])) := rfl
  have h2 : exM.told = [97] ++ hexw [32, 52, 61] [10, 0, 0, 1] ++ hexw [32, 54, 61] [] ++ (svcH exS ++ svcN exS ++ 58 :: textP exS.text ++ []) := rfl
  rw [h2, h, dec80, dec0]
  decide
theorem exM_may : exM.may := by
  refine ⟨⟨by decide, .inr rfl, .inl rfl⟩, fun i s hs => ?_⟩
  match i, hs with
  | 0, hs =>
    simp only [exM, List.getElem?_cons_zero, Option.some.injEq] at hs
    subst hs
    exact ⟨by decide, by decide, fun j t hj => absurd hj (Nat.not_lt_zero _)⟩
  | i + 1, hs => simp [exM] at hs
theorem exM_pack : exM.pack = (exT, 0) := pack_iff.2 ⟨exM_may, by decide, exM_told, by decide⟩

theorem exB41 : evBuild Tryd.prog 41 [(0, AV.str [104, 116, 116, 112]), (2, AV.int IntKind.u16 80), (5, AV.str [118, 32, 49])] = some (.agg exS.cells) := by kernel_rfl
theorem exB24 (b o n : Nat) (c) : evBuild Tryd.prog 24 [(0, AV.str [97]), (1, AV.str [10, 0, 0, 1]), (3, .slice b o n c)] = some (.agg [.str [97], .str [10, 0, 0, 1], .str [], .slice b o n c]) := by kernel_rfl
set_option maxRecDepth 20000 in
theorem tells17 (H k) (ht : Tb H) : callK Tryd.prog 17 [] H k = k (.bool true, H, z0) := by
  refine callK_eq (r := (.bool true, H, z0)) ?_ k
  refine callK_start (n := 34) (rs := [.tmp 0]) Tryd.func17 rfl rfl rfl ?_
  intro σ hl ha
  clear ha
  simp only [go_sem, simprocAttr, hl, exB41, bslice_mark, exB24]
  have hsw : ∀ M, Sw (H ++ .cells exS.cells 41 .rw :: M) (.slice H.length 0 1 (.ex 1)) exM.ss := fun M => .inr (.inl ⟨H.length, 1, [], 41, .rw, rfl, by decide, by
    rw [List.getElem?_append_right (Nat.le_refl _), Nat.sub_self]; rfl⟩)
  have hwf : Wf exM.a exM.b exM.c exM.ss := ⟨by decide, fun s hs => by
    simp only [exM, List.mem_singleton] at hs
    subst hs
    decide⟩
  have rp : ∀ M k, callK Tryd.prog 10 [.agg [.str [97], .str [10, 0, 0, 1], .str [], .slice H.length 0 1 (.ex 1)]] (H ++ .cells exS.cells 41 .rw :: M) k = k (.tuple [.str exT, .int .i64 0], H ++ .cells exS.cells 41 .rw :: M, z0) := by
    intro M k
    have := pack10 exM.a exM.b exM.c (H ++ .cells exS.cells 41 .rw :: M) k _ exM.ss (hsw M) (ht.old _) hwf
    have he : packP exM.a exM.b exM.c exM.ss = (exT, 0) := exM_pack
    rw [he] at this
    exact this
  obtain ⟨⟨⟨m, e⟩, y, L⟩, ha, rq⟩ := parse14 exT (H ++ [.cells exS.cells 41 .rw, .cells [.str [97], .str [10, 0, 0, 1], .str [], .slice H.length 0 1 (.ex 1)] 24 .rw]) (ht.old _)
  obtain ⟨rfl, rfl⟩ : m = exM ∧ e = 0 := parse_uniq ha.is (.inr ⟨by decide, .inl ⟨rfl, exM_pack, exM_nums⟩⟩)
  have hy := ha.sw
  simp only [ansG, exM] at rq
  have rs : ∀ M k, callK Tryd.prog 16 [.agg [.str [97], .str [10, 0, 0, 1], .str [], .slice H.length 0 1 (.ex 1)], .agg [.str [97], .str [10, 0, 0, 1], .str [], y]] (H ++ .cells exS.cells 41 .rw :: .cells [.str [97], .str [10, 0, 0, 1], .str [], .slice H.length 0 1 (.ex 1)] 24 .rw :: (L ++ M)) k = k (.bool true, H ++ .cells exS.cells 41 .rw :: .cells [.str [97], .str [10, 0, 0, 1], .str [], .slice H.length 0 1 (.ex 1)] 24 .rw :: (L ++ M), z0) := by
    intro M k
    have := same16 exM exM _ k _ y (hsw (.cells [.str [97], .str [10, 0, 0, 1], .str [], .slice H.length 0 1 (.ex 1)] 24 .rw :: (L ++ M))).sv (by have := (hy.old M).sv; simpa using this) (by decide)
    rw [sameM_t rfl] at this
    exact this
  have ysc := hy.sv.scal
  have het : (exT == [97, 32, 52, 61, 48, 97, 48, 48, 48, 48, 48, 49, 32, 116, 61, 104, 116, 116, 112, 58, 56, 48, 58, 48, 58, 48, 58, 118, 37, 50, 48, 49]) = true := by decide
  simp only [go_sem, simprocAttr, hl, rp, rq, rs, ysc, het]

theorem pack_or (m : Mt) : (∃ s, m.pack = (s, 0)) ∨ ∃ e, m.pack = ([], e) ∧ e ≠ 0 := by
  unfold Mt.pack packP
  split
  · exact .inr ⟨2, rfl, by decide⟩
  · split
    · split
      · exact .inr ⟨2, rfl, by decide⟩
      · exact .inl ⟨_, rfl⟩
    · exact .inr ⟨210, rfl, by decide⟩
theorem pack_wf {m : Mt} {s : List UInt8} (h : m.pack = (s, 0)) (hn : m.nums) : Wf m.a m.b m.c m.ss := by
  obtain ⟨_, _, h3, h4⟩ := pack_iff.1 h
  obtain ⟨⟨b1, b2, b3, b4⟩, b5⟩ := told_bounds m
  rw [h3] at b1 b2 b3 b4 b5
  refine ⟨⟨by omega, by omega, by omega, by omega⟩, fun s hs => ?_⟩
  have := b5 s hs
  exact ⟨by omega, by omega, hn s hs⟩

set_option maxRecDepth 20000 in
theorem law5 (a b c w : List UInt8) (H x ss) (hx : Sw H x ss) (ht : Tb H) (hw : Wf a b c ss) (hwl : w.length ≤ 9223372036854775807) : callK Tryd.prog 5 [.agg [.str a, .str b, .str c, x], .str w] H (fun q => q = (.bool true, H, z0)) := by
  refine callK_start (n := 92) (rs := [.tmp 4]) Tryd.func5 rfl rfl rfl ?_
  intro σ hl ha
  have h0 := ha 0 (by simp)
  have h1 := ha 1 (by simp)
  clear ha
  simp only [Option.getD_some, List.getElem?_cons_zero, List.getElem?_cons_succ] at h0 h1
  obtain ⟨⟨g, hgf⟩, hg⟩ := large_ex a b c _ x ss (hx.sv.old [.cells [.str a, .str b, .str c, x] 24 .rw]) (by have := hw.1; omega)
  obtain ⟨m, hm⟩ : ∃ m : Mt, m = ⟨a, b, c, ss⟩ := ⟨_, rfl⟩
  have rp : ∀ M k, callK Tryd.prog 10 [.agg [.str a, .str b, .str c, x]] (H ++ M) k = k (.tuple [.str m.pack.1, .int .i64 m.pack.2], H ++ M, z0) :=
    fun M k => by rw [hm]; exact pack10 a b c (H ++ M) k _ ss (hx.old M) (ht.old _) hw
  simp only [go_sem, simprocAttr, hl, h0, h1, hg]
  refine condK_split (fun hb => ?_) (fun hb => ?_)
  · simp only [go_sem, simprocAttr, hl]
  · simp only [go_sem, simprocAttr, hl, h0, h1, rp]
    refine condK_cut (fun st => ∃ σ T e, st = ⟨σ, H ++ T, e⟩ ∧ clean H.length e ∧ σ.length = 92 ∧ fr σ 1 = .str w) (fun hb => ?_) (fun hb => ?_) ?_
    · obtain ⟨p, hp⟩ : ∃ p, m.pack = (p, 0) := by
        rcases pack_or m with h | ⟨e, h, he⟩
        · exact h
        · rw [h] at hb; simp at hb; exact absurd hb he
      have hnum : m.nums := by rw [hm]; exact fun s hs => (hw.2 s hs).2.2
      obtain ⟨hmay, h16, htold, hplen⟩ := pack_iff.1 hp
      obtain ⟨⟨⟨m', e⟩, y, L⟩, ha, rq⟩ := parse14 p (H ++ [.cells [.str a, .str b, .str c, x] 24 .rw]) (ht.old _)
      obtain ⟨rfl, rfl⟩ : m' = m ∧ e = 0 := parse_uniq ha.is (.inr ⟨hplen, .inl ⟨rfl, hp, hnum⟩⟩)
      have hy := ha.sw
      have ysc := hy.sv.scal
      have rs : ∀ M k, callK Tryd.prog 16 [.agg [.str a, .str b, .str c, x], .agg [.str m'.a, .str m'.b, .str m'.c, y]] (H ++ .cells [.str a, .str b, .str c, x] 24 .rw :: (L ++ M)) k = k (.bool true, H ++ .cells [.str a, .str b, .str c, x] 24 .rw :: (L ++ M), z0) := by
        intro M k
        have := same16 m' m' (H ++ .cells [.str a, .str b, .str c, x] 24 .rw :: (L ++ M)) k x y (by have := (hx.old (.cells [.str a, .str b, .str c, x] 24 .rw :: (L ++ M))).sv; rw [hm]; exact this) (by have := (hy.old M).sv; simpa using this) (by omega)
        rw [sameM_t rfl] at this
        rw [← this]; rw [hm]
      have g4 : decide ((p.length : Int) > 400) = false := by simp; omega
      simp only [ansG] at rq
      simp only [go_sem, simprocAttr, hl, h0, h1, hp, rq, rs, ysc, g4]
      have hcl : clean H.length ⟨if flat y = true then none else some (H.length + (L.length + 1)), some (H.length + (L.length + 1))⟩ := by
        rw [clean_ifT (by omega)]; trivial
      refine go_rounds (fun n st => ∃ σ T e i, n + i = p.length ∧ st = ⟨σ, H ++ T, e⟩ ∧ clean H.length e ∧ σ.length = 92 ∧ fr σ 1 = .str w ∧ fr σ 5 = .str p ∧ fr σ 9 = .int .i64 (i : Nat)) p.length
        ⟨_, _, _, 0, Nat.add_zero _, rfl, hcl, by simp only [go_sem, simprocAttr, hl], by simp only [go_sem, simprocAttr, hl, h1], by simp only [go_sem, simprocAttr, hl], by simp only [go_sem, simprocAttr, hl]⟩ ?_
      rintro n _ ⟨σ, T, e, i, hi, rfl, he, hl, h1, h5, h9⟩
      by_cases hlt : i < p.length
      · obtain ⟨c, hc⟩ : ∃ c, p[i]? = some c := ⟨_, List.getElem?_eq_getElem hlt⟩
        have hwr := wrap_succ (show i < 9223372036854775807 by omega)
        have hpr := told_print hmay (htold ▸ List.mem_of_getElem? hc)
        have g1 : decide ((c.toNat : Int) < 32) = false := by simp; omega
        have g2 : decide ((c.toNat : Int) > 126) = false := by simp; omega
        simp only [go_sem, simprocAttr, hl, h1, h5, h9, hlt, hc, hwr, g1, g2]
        exact ⟨n - 1, by omega, _, _, _, i + 1, by omega, rfl, he, by simp only [go_sem, simprocAttr, hl], by simp only [go_sem, simprocAttr, hl, h1], by simp only [go_sem, simprocAttr, hl, h5], by simp only [go_sem, simprocAttr, hl]⟩
      · simp only [go_sem, simprocAttr, hl, h1, h5, h9, hlt]
        exact ⟨_, _, _, rfl, he, by simp only [go_sem, simprocAttr, hl], by simp only [go_sem, simprocAttr, hl, h1]⟩
    · obtain ⟨e, hp, he⟩ : ∃ e, m.pack = ([], e) ∧ e ≠ 0 := by
        rcases pack_or m with ⟨s, h⟩ | h
        · rw [h] at hb; simp at hb
        · exact h
      simp only [go_sem, simprocAttr, hl, h0, h1, hp]
      exact ⟨_, _, _, rfl, clean_z0 ▸ trivial, by simp only [go_sem, simprocAttr, hl], by simp only [go_sem, simprocAttr, hl, h1]⟩
    · rintro _ ⟨σ, T, e0, rfl, he0, hl, h1⟩
      obtain ⟨⟨⟨m', e⟩, y, L⟩, ha, rq⟩ := parse14 w (H ++ T) (ht.old _)
      simp only [ansG] at rq
      have his : ParseR w m' e := ha.is
      have hy := ha.sw
      have ysc := hy.sv.scal
      have rt : ∀ M k, callK Tryd.prog 17 [] (H ++ M) k = k (.bool true, H ++ M, z0) := fun M k => tells17 _ k (ht.old _)
      simp only [go_sem, simprocAttr, hl, h1, rq, ysc]
      refine condK_split (fun hb => ?_) (fun hb => ?_)
      · have hnil : m' = Mt.nil := by
          rcases his with ⟨_, h, _⟩ | ⟨_, ⟨h, _⟩ | ⟨_, h, _⟩⟩
          · exact h
          · rw [h] at hb; simp at hb
          · exact h
        have rs : ∀ M k, callK Tryd.prog 16 [.agg [.str m'.a, .str m'.b, .str m'.c, y], .agg [.str [], .str [], .str [], .nils]] (H ++ (T ++ (L ++ M))) k = k (.bool true, H ++ (T ++ (L ++ M)), z0) := by
          intro M k
          have := same16 m' Mt.nil (H ++ (T ++ (L ++ M))) k y .nils (by have := (hy.old M).sv; simpa using this) (.inl ⟨rfl, rfl⟩) (by rw [hnil]; decide)
          rw [sameM_t hnil] at this
          exact this
        simp only [go_sem, simprocAttr, hl, h1, ysc, build_nil, rs, rt]
        exact leave_flat rfl (by rw [clean_andT, clean_ifT (by omega)]; exact ⟨he0, trivial⟩)
      · obtain ⟨rfl, hpk, hnm⟩ : e = 0 ∧ m'.pack = (w, 0) ∧ m'.nums := by
          rcases his with ⟨_, _, h⟩ | ⟨_, h | ⟨h, _⟩⟩
          · rw [h] at hb; simp at hb
          · exact h
          · rw [h] at hb; simp at hb
        have hwf := pack_wf hpk hnm
        have rp : ∀ M k, callK Tryd.prog 10 [.agg [.str m'.a, .str m'.b, .str m'.c, y]] (H ++ (T ++ (L ++ M))) k = k (.tuple [.str w, .int .i64 0], H ++ (T ++ (L ++ M)), z0) := by
          intro M k
          have := pack10 m'.a m'.b m'.c (H ++ (T ++ (L ++ M))) k y m'.ss (by have := hy.old M; simpa using this) (ht.old _) hwf
          have he : packP m'.a m'.b m'.c m'.ss = (w, 0) := hpk
          rw [he] at this
          exact this
        have rc : ∀ M k, callK Tryd.prog 12 [.agg [.str m'.a, .str m'.b, .str m'.c, y]] (H ++ (T ++ (L ++ M))) k = k (.int .i64 0, H ++ (T ++ (L ++ M)), z0) := by
          intro M k
          have := check12 m'.a m'.b m'.c (H ++ (T ++ (L ++ M))) k y m'.ss (by have := hy.old M; simpa using this) (ht.old _) hwf
          have he : packP m'.a m'.b m'.c m'.ss = (w, 0) := hpk
          rw [he] at this
          exact this
        have hww : (w == w) = true := by simp
        simp only [go_sem, simprocAttr, hl, h1, ysc, rp, rc, rt, hww]
        exact leave_flat rfl (by rw [clean_andT, clean_ifT (by omega)]; exact ⟨he0, trivial⟩)

theorem apart {m n : Mt} {p q : List UInt8} (hm : m.pack = (p, 0)) (hn : n.pack = (q, 0)) (h1 : m.nums) (h2 : n.nums) : (p == q) = sameM m n := by
  by_cases h : p = q
  · subst h
    rw [sameM_t (pack_inj h1 h2 hm hn)]; simp
  · have hne : m ≠ n := fun he => h (by rw [he, hn] at hm; simpa using hm.symm)
    rw [sameM_f hne]; simpa using h

set_option maxRecDepth 20000 in
theorem law6 (m n : Mt) (H x y) (hx : Sw H x m.ss) (hy : Sw H y n.ss) (ht : Tb H) (hwm : Wf m.a m.b m.c m.ss) (hwn : Wf n.a n.b n.c n.ss) : callK Tryd.prog 6 [.agg [.str m.a, .str m.b, .str m.c, x], .agg [.str n.a, .str n.b, .str n.c, y]] H (fun q => q = (.bool true, H, z0)) := by
  refine callK_start (n := 42) (rs := [.tmp 4]) Tryd.func6 rfl rfl rfl ?_
  intro σ hl ha
  have h0 := ha 0 (by simp)
  have h1 := ha 1 (by simp)
  clear ha
  simp only [Option.getD_some, List.getElem?_cons_zero, List.getElem?_cons_succ] at h0 h1
  obtain ⟨⟨g, hgf⟩, hg⟩ := large_ex m.a m.b m.c _ x m.ss (hx.sv.old [.cells [.str m.a, .str m.b, .str m.c, x] 24 .rw, .cells [.str n.a, .str n.b, .str n.c, y] 24 .rw]) (by have := hwm.1; omega)
  obtain ⟨⟨g', hgf'⟩, hg'⟩ := large_ex n.a n.b n.c _ y n.ss (hy.sv.old [.cells [.str m.a, .str m.b, .str m.c, x] 24 .rw, .cells [.str n.a, .str n.b, .str n.c, y] 24 .rw]) (by have := hwn.1; omega)
  have rp : ∀ M k, callK Tryd.prog 10 [.agg [.str m.a, .str m.b, .str m.c, x]] (H ++ M) k = k (.tuple [.str m.pack.1, .int .i64 m.pack.2], H ++ M, z0) :=
    fun M k => pack10 m.a m.b m.c (H ++ M) k _ m.ss (hx.old M) (ht.old _) hwm
  have rp' : ∀ M k, callK Tryd.prog 10 [.agg [.str n.a, .str n.b, .str n.c, y]] (H ++ M) k = k (.tuple [.str n.pack.1, .int .i64 n.pack.2], H ++ M, z0) :=
    fun M k => pack10 n.a n.b n.c (H ++ M) k _ n.ss (hy.old M) (ht.old _) hwn
  have rs : ∀ M k, callK Tryd.prog 16 [.agg [.str m.a, .str m.b, .str m.c, x], .agg [.str n.a, .str n.b, .str n.c, y]] (H ++ M) k = k (.bool (sameM m n), H ++ M, z0) :=
    fun M k => same16 m n (H ++ M) k x y (hx.old M).sv (hy.old M).sv (by have := hwm.1; omega)
  have rt : ∀ M k, callK Tryd.prog 17 [] (H ++ M) k = k (.bool true, H ++ M, z0) := fun M k => tells17 _ k (ht.old _)
  simp only [go_sem, simprocAttr, hl, h0, h1]
  repeat' first
    | refine guardK_split (fun hb => ?_) (fun hb => ?_)
    | refine condK_split (fun hb => ?_) (fun hb => ?_)
    | simp only [go_sem, simprocAttr, hl, h0, h1, hg, hg', rp, rp', rs, rt, *]
  rename_i e1 e2 
  have k1 : ∃ p, m.pack = (p, 0) := by
    rcases pack_or m with h | ⟨e, h, he⟩
    · exact h
    · rw [h] at e1; simp at e1; exact absurd e1 he
  have k2 : ∃ p, n.pack = (p, 0) := by
    rcases pack_or n with h | ⟨e, h, he⟩
    · exact h
    · rw [h] at e2; simp at e2; exact absurd e2 he
  obtain ⟨p, k1⟩ := k1
  obtain ⟨q, k2⟩ := k2
  rw [k1, k2, apart k1 k2 (fun s hs => (hwm.2 s hs).2.2) (fun s hs => (hwn.2 s hs).2.2)] at hb
  simp at hb
end Go.Proofs.YtjemmehgfheflaaDoor.V
