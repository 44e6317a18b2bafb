/- The service chapter: the closed law, its first half: what is refused, what is read. No conditions. -/
import Derived.Test.YtjemmehgfheflaaDoorSWalkT
import Derived.Test.YtjemmehgfheflaaDoorSKnown
namespace Go.Proofs.YtjemmehgfheflaaDoor.V
open Go
set_option linter.unusedSimpArgs false
set_option linter.unusedVariables false
attribute [local irreducible] go goOps goD opK callK callT stepK leaveTo nextK

theorem many_len (s : List UInt8) : ∀ n, (manyP s n).length = n * s.length
  | 0 => by simp [manyP]
  | n + 1 => by rw [manyP, List.length_append, many_len s n, Nat.add_mul, Nat.one_mul]
set_option maxRecDepth 20000 in
theorem many18 (s : List UInt8) (n : Nat) (H k) (hs : s.length = 1) (hn : n ≤ 100000) : callK Tryd.prog 18 [.str s, .int .i64 (n : Nat)] H k = k (.str (manyP s n), H, z0) := by
  refine callK_eq (r := (.str (manyP s n), H, z0)) ?_ k
  refine callK_start (n := 16) (rs := [.tmp 4]) Tryd.func18 rfl rfl rfl ?_
  intro σ hl ha
  have h0 := ha 0 (by simp)
  have h1 := ha 1 (by simp)
  clear ha
  simp only [Option.getD_some, List.getElem?_cons_zero, List.getElem?_cons_succ] at h0 h1
  simp only [go_sem, simprocAttr, hl, h0, h1]
  refine go_rounds (fun q st => ∃ σ i, q + i = n ∧ st = ⟨σ, H, z0⟩ ∧ σ.length = 16 ∧ fr σ 0 = .str s ∧ fr σ 1 = .int .i64 (n : Nat) ∧ fr σ 5 = .str (manyP s i) ∧ fr σ 6 = .int .i64 (i : Nat)) n
    ⟨_, 0, rfl, rfl, by simp only [go_sem, simprocAttr, hl], by simp only [go_sem, simprocAttr, hl, h0], by simp only [go_sem, simprocAttr, hl, h1], by simp only [go_sem, simprocAttr, hl]; rfl, by simp only [go_sem, simprocAttr, hl]⟩ ?_
  rintro q _ ⟨σ, i, hi, rfl, hl, h0, h1, h5, h6⟩
  have w1 := wrap_succ (show i < 9223372036854775807 by omega)
  by_cases hlt : i < n
  · have g0 : decide ((i : Int) < (n : Int)) = true := by simp; omega
    simp only [go_sem, simprocAttr, hl, h0, h1, h5, h6, g0, hlt, w1]
    exact ⟨by rw [many_len, hs]; have : maxI = 9223372036854775807 := rfl; omega, q - 1, by omega, _, i + 1, by omega, rfl, by simp only [go_sem, simprocAttr, hl], by simp only [go_sem, simprocAttr, hl, h0], by simp only [go_sem, simprocAttr, hl, h1], by simp only [go_sem, simprocAttr, hl]; rfl, by simp only [go_sem, simprocAttr, hl]⟩
  · have hin : i = n := by omega
    subst hin
    have g0 : decide ((i : Int) < (i : Int)) = false := by simp
    simp only [go_sem, simprocAttr, hl, h0, h1, h5, h6, g0, hlt]

/-- A text read, as it can be computed. -/
theorem parseK {s : List UInt8} {m : Mt} {e : Int} (h : parseB s = (m, e)) (H : Hp) (T : Hp) (ht : Tb H) : ∃ x L, Sw (H ++ (T ++ L)) x m.ss ∧ scal x = true ∧ ∀ k, callK Tryd.prog 14 [.str s] (H ++ T) k = k (.tuple [.agg [.str m.a, .str m.b, .str m.c, x], .int .i64 e], H ++ (T ++ L), z0) := by
  obtain ⟨⟨⟨m', e'⟩, x, L⟩, hp, rp⟩ := parse14 s (H ++ T) (ht.old T)
  have px : ParseR s m' e' := hp.is
  have sx : Sw (H ++ T ++ L) x m'.ss := hp.sw
  have := parseB_ok s
  rw [h] at this
  obtain ⟨rfl, rfl⟩ := parse_uniq px this
  simp only [ansG] at rp
  rw [List.append_assoc] at rp sx
  exact ⟨x, L, sx, sx.sv.scal, rp⟩

theorem bad_at {i : Nat} {s : List UInt8} (h : bads[i]? = some s) : parseB s = (Mt.nil, 210) :=
  isBad_eq (List.all_eq_true.1 bads_bad s (List.mem_of_getElem? h))
set_option maxRecDepth 100000 in
theorem bslice_bads (H : Hp) : evBuildSlice Tryd.prog 37 30 [(0, .str []), (1, .str [65]), (2, .str [45, 97]), (3, .str [97, 45]), (4, .str [97, 32]), (5, .str [32, 97]), (6, .str [97, 32, 32, 116, 61, 98, 58, 49, 58, 48, 58, 48, 58]), (7, .str [97, 32, 116, 61, 98, 58, 48, 49, 58, 48, 58, 48, 58]), (8, .str [97, 32, 116, 61, 98, 58, 49, 58, 48, 58, 48]), (9, .str [97, 32, 116, 61, 98, 58, 49, 58, 48, 58, 48, 58, 58]), (10, .str [97, 32, 116, 61, 98, 58, 49, 58, 48, 58, 48, 58, 37, 50, 68]), (11, .str [97, 32, 116, 61, 98, 58, 49, 58, 48, 58, 48, 58, 37, 50, 100]), (12, .str [97, 32, 116, 61, 98, 58, 49, 58, 48, 58, 48, 58, 37, 48]), (13, .str [97, 32, 116, 61, 98, 58, 49, 58, 48, 58, 48, 58, 37]), (14, .str [97, 32, 54, 61, 48, 48, 32, 52, 61, 48, 48, 48, 48, 48, 48, 48, 48]), (15, .str [97, 32, 54, 61, 48, 48, 48, 48, 48, 48, 48, 48, 48, 48, 48, 48, 48, 48, 48, 48, 48, 48, 48, 48, 48, 48, 48, 48, 48, 48, 48, 48, 48, 48, 48, 48, 32, 52, 61, 48, 48, 48, 48, 48, 48, 48, 48]), (16, .str [97, 32, 52, 61]), (17, .str [97, 32, 52, 61, 48, 97, 48, 48, 48, 48, 48]), (18, .str [97, 32, 52, 61, 48, 65, 48, 48, 48, 48, 48, 49]), (19, .str [97, 32, 116, 61, 98, 58, 54, 53, 53, 51, 54, 58, 48, 58, 48, 58]), (20, .str [97, 32, 116, 61, 98, 58, 58, 48, 58, 48, 58]), (21, .str [97, 32, 116, 61, 66, 58, 49, 58, 48, 58, 48, 58]), (22, .str [97, 32, 120, 61, 98, 58, 49, 58, 48, 58, 48, 58]), (23, .str [97, 32, 116, 61, 98, 58, 49, 58, 48, 58, 48, 58, 32, 116, 61, 98, 58, 50, 58, 48, 58, 48, 58]), (24, .str [97, 32, 116, 61, 98, 58, 49, 58, 48, 58, 48, 58, 32, 52, 61, 48, 48, 48, 48, 48, 48, 48, 48]), (25, .str [97, 32, 52, 61, 48, 48, 48, 48, 48, 48, 48, 48, 32, 52, 61, 48, 48, 48, 48, 48, 48, 48, 48]), (26, .str [97, 9, 116, 61, 98, 58, 49, 58, 48, 58, 48, 58]), (27, .str [97, 32, 117]), (28, .str [97, 32, 116, 61, 98, 58, 49, 48, 48, 48, 48, 48, 58, 48, 58, 48, 58]), (29, .str [97, 32, 116, 61, 98, 58, 43, 49, 58, 48, 58, 48, 58])] H = some (.slice H.length 0 30 (.ex 30), H ++ [.cells (strs bads) 9 .rw]) := by
  simp only [evBuildSlice, tsh_37, tzero_9, Option.bind_some]
  rfl

/-- One service of a meta, its cells one by one. -/
theorem Sw.field {H : Hp} {x : AV} {ss : List Svc} (h : Sw H x ss) {i : Nat} {s : Svc} (hs : ss[i]? = some s) : ∃ b, evIndexAddr Tryd.prog 22 x (.int .i64 (i : Nat)) = some (.ptr b (i * 6)) ∧ ∀ l : Hp, ∃ y, (H ++ l)[b]? = some y ∧ ∀ j, j < 6 → ldC (i * 6 + j) 1 false y = s.cells[j]? := by
  obtain ⟨b, cs, e, k, h1, h2⟩ := h.sv.at hs
  exact ⟨b, h1, fun l => ⟨_, h2 l, fun j hj => sflat_f ss i j cs hs hj⟩⟩

/-- Two grown rows, apart: the one is appended to, the other stays. -/
def Apt (n : Nat) (v w : AV) (lv lw : Nat) : Prop := ∀ m, v = .slice (n + m) 0 lv (.op 0) → w ≠ .slice (n + m) 0 lw (.op 0)
theorem GBuf.app3 {H T : Hp} {v : AV} {e z b len : Nat} {cs : List AV} (h : GBuf H.length T v e z len cs) (hz : decide (0 < z) = true) (hk : zok Tryd.prog e z = true) (xs : List AV) (q : Nat) (hq : 0 < q) (hx : xs.length = q * z) (hsc : xs.all V.scal = true) (hf : fits (len + q) b = true) :
    ∃ v' T2 e2, (∀ kk, stepK (appTo Tryd.prog (.slice e z b) v (xs, q) (H ++ T)) kk = kk (v', H ++ T2, e2)) ∧ clean H.length e2 ∧ GBuf H.length T2 v' e z (len + q) (cs ++ xs) ∧ (∀ v e, quiet (v, H ++ T2, e) (H ++ T) = false) ∧ ∀ w lw csw, GBuf H.length T w e z lw csw → Apt H.length v w len lw → GBuf H.length T2 w e z lw csw ∧ Apt H.length v' w (len + q) lw ∧ Apt H.length w v' lw (len + q) := by
  have hz' : 0 < z := by simpa using hz
  obtain ⟨rfl, rfl, rfl⟩ | ⟨hpos, hcl, m, rfl, hm⟩ := h
  · refine ⟨.slice (H.length + T.length) 0 q (.op 0), T ++ [.cells xs e (.op 0 false)], z0, fun kk => ?_, ⟨rfl, rfl⟩, .inr ⟨by omega, by simpa using hx, T.length, by simp, by simp⟩, fun v e => by simp [quiet], fun w lw csw hw _ => ⟨hw.more _, ?_⟩⟩
    · rw [appTo_nils hz hk]
      have hd : decide (q = 0) = false := by simp; omega
      have hf : fits q b = true := by simpa using hf
      simp only [hd, guardK_ft, hf, true_and, List.length_append, List.append_assoc]
    · obtain ⟨rfl, _⟩ | ⟨_, _, m, rfl, hm⟩ := hw
      · exact ⟨fun m h1 h2 => (by cases h2), fun m h1 h2 => (by cases h1)⟩
      · have := lt_of_get hm
        refine ⟨fun m' h1 h2 => ?_, fun m' h1 h2 => ?_⟩
        · simp only [AV.slice.injEq] at h1 h2; omega
        · simp only [AV.slice.injEq] at h1 h2; omega
  · have hlt := lt_of_get hm
    have hg : (H ++ T)[H.length + m]? = some (.cells cs e (.op 0 false)) := by rw [hp_new, hm]
    refine ⟨.slice (H.length + T.length) 0 (len + q) (.op 0), T.set m .dead ++ [.cells (cs ++ xs) e (.op 0 false)], ⟨none, some (H.length + m)⟩, fun kk => ?_, by simp [clean, low], .inr ⟨by omega, by rw [List.length_append, hcl, hx, Nat.add_mul], T.length, rfl, by simp⟩, fun v e => by simp [quiet], fun w lw csw hw ha => ?_⟩
    · rw [appTo_op hz hk, hg]
      simp only [bindK_some, appO_c]
      have hqz : 0 < q * z := Nat.mul_pos hq hz'
      have hd : decide (0 + (len + q) * z ≤ cs.length) = false := by
        rw [hcl, Nat.add_mul]; simp; omega
      have ht : (List.drop 0 cs).take (len * z) ++ xs = cs ++ xs := by
        rw [List.drop_zero, List.take_of_length_le (by rw [hcl]; exact Nat.le_refl _)]
      have hle : 0 + len * z ≤ cs.length := by rw [hcl]; omega
      rw [hd, guardK_ft]
      simp only [ht, hf, hsc, hle, hp_set, List.length_append, List.append_assoc, Nat.sub_self, Nat.zero_le, true_and, and_true, Nat.zero_mul]
    · obtain ⟨rfl, h1, h2⟩ | ⟨h1, h2, m', rfl, hm'⟩ := hw
      · exact ⟨.inl ⟨rfl, h1, h2⟩, fun m h1 h2 => (by cases h2), fun m h1 h2 => (by cases h1)⟩
      · have hlt' := lt_of_get hm'
        have hne : m ≠ m' := by
          rintro rfl
          exact ha m rfl rfl
        refine ⟨.inr ⟨h1, h2, m', rfl, get_app (by rw [List.getElem?_set_ne hne]; exact hm')⟩, fun k h1 h2 => ?_, fun k h1 h2 => ?_⟩
        · simp only [AV.slice.injEq] at h1 h2; omega
        · simp only [AV.slice.injEq] at h1 h2; omega

theorem build41b (l t : List UInt8) : evBuild Tryd.prog 41 [(0, .str l), (5, .str t)] = some (.agg (Svc.cells ⟨l, false, 0, 0, 0, t⟩)) := by
  simp only [evBuild, tsh_41, tzero_41, tplaces_41, Option.bind_some]
  rfl
theorem build41c (l t : List UInt8) (p : Int) : evBuild Tryd.prog 41 [(0, .str l), (2, .int .u16 p), (5, .str t)] = some (.agg (Svc.cells ⟨l, false, p, 0, 0, t⟩)) := by
  simp only [evBuild, tsh_41, tzero_41, tplaces_41, Option.bind_some]
  rfl
theorem bslice_two (H : Hp) (s t : Svc) : evBuildSlice Tryd.prog 22 2 [(0, .agg s.cells), (1, .agg t.cells)] H = some (.slice H.length 0 2 (.ex 2), H ++ [.cells (sflat [s, t]) 41 .rw]) := by
  simp only [evBuildSlice, tsh_22, tzero_41, Option.bind_some]
  rfl
theorem build24c (p : List UInt8) (b o n : Nat) (c : Cap) : evBuild Tryd.prog 24 [(0, .str p), (3, .slice b o n c)] = some (.agg [.str p, .str [], .str [], .slice b o n c]) := by
  simp only [evBuild, tsh_24, tzero_24, tplaces_24, Option.bind_some]
  rfl
theorem build24d (p q : List UInt8) : evBuild Tryd.prog 24 [(0, .str p), (1, .str q)] = some (.agg [.str p, .str q, .str [], .nils]) := by
  simp only [evBuild, tsh_24, tzero_24, tplaces_24, Option.bind_some]
  rfl
theorem build24e (p q : List UInt8) : evBuild Tryd.prog 24 [(0, .str p), (2, .str q)] = some (.agg [.str p, .str [], .str q, .nils]) := by
  simp only [evBuild, tsh_24, tzero_24, tplaces_24, Option.bind_some]
  rfl
/-- Packing and checking, as they can be computed. -/
theorem packK {m : Mt} {s : List UInt8} {e : Int} (h : packB m = (s, e)) (hw : Wf m.a m.b m.c m.ss) {H : Hp} {x : AV} (hx : Sw H x m.ss) (ht : Tb H) (k) : callK Tryd.prog 10 [.agg [.str m.a, .str m.b, .str m.c, x]] H k = k (.tuple [.str s, .int .i64 e], H, z0) := by
  have := pack10 m.a m.b m.c H k x m.ss hx ht hw
  have he : packP m.a m.b m.c m.ss = (s, e) := by rw [← h, ← packB_eq (fun s hs => (hw.2 s hs).2.2)]; rfl
  rw [he] at this
  exact this
theorem checkK {m : Mt} {e : Int} (h : (packB m).2 = e) (hw : Wf m.a m.b m.c m.ss) {H : Hp} {x : AV} (hx : Sw H x m.ss) (ht : Tb H) (k) : callK Tryd.prog 12 [.agg [.str m.a, .str m.b, .str m.c, x]] H k = k (.int .i64 e, H, z0) := by
  have := check12 m.a m.b m.c H k x m.ss hx ht hw
  have he : (packP m.a m.b m.c m.ss).2 = e := by rw [← h, ← packB_eq (fun s hs => (hw.2 s hs).2.2)]; rfl
  rw [he] at this
  exact this
theorem sw_two {H T : Hp} {ss : List Svc} {j c : Nat} (h : T[j]? = some (.cells (sflat ss) 41 .rw)) (hc : ss.length ≤ c) : Sw (H ++ T) (.slice (H.length + j) 0 ss.length (.ex c)) ss :=
  .inr (.inl ⟨H.length + j, c, [], 41, .rw, rfl, hc, by rw [hp_new, h, List.append_nil]⟩)
theorem wf_F : Wf [97] [] [] [svF1, svF2 232] := by unfold Wf; decide +kernel
theorem wf_G : Wf [97] [] [] [svF1, svF2 233] := by unfold Wf; decide +kernel
theorem wf_H : Wf [97] [] [] (letters.take 16) := by unfold Wf; decide +kernel
theorem wf_I : Wf [65] [] [] letters := by unfold Wf; decide +kernel
theorem wf_J : Wf [97] [97, 98, 99] [] [] := by unfold Wf; decide +kernel
theorem wf_K : Wf [97] [] [97, 98, 99, 100] [] := by unfold Wf; decide +kernel
theorem wf_Z : Wf [97] [] [] [svZ] := by unfold Wf; decide +kernel
def abcq : List UInt8 := [97, 98, 99, 100, 101, 102, 103, 104, 105, 106, 107, 108, 109, 110, 111, 112, 113]
theorem abcq_at {i : Nat} (h : i < 17) : (abcq.drop i).take (i + 1 - i) = (letter i).label := by
  have : ∀ i : Fin 17, (abcq.drop i.val).take (i.val + 1 - i.val) = (letter i.val).label := by decide
  exact this ⟨i, h⟩
theorem letters_at {i : Nat} (h : i < 17) : letters[i]? = some (letter i) := by
  unfold letters
  rw [List.getElem?_map, List.getElem?_range h]; rfl
theorem letters_snoc {i : Nat} (h : i < 17) : sflat (letters.take i) ++ (letter i).cells = sflat (letters.take (i + 1)) := by
  rw [take_snoc (letters_at h)]; simp [sflat]

set_option maxRecDepth 20000 in
set_option maxHeartbeats 2000000 in
theorem law7 (H) (ht : Tb H) : callK Tryd.prog 7 [] H (fun q => q = (.bool true, H, z0)) := by
  refine callK_start (n := 212) (rs := [.tmp 0]) Tryd.func7 rfl rfl rfl ?_
  intro σ hl ha
  clear ha
  have hbads := bslice_bads
  simp only [go_sem, simprocAttr, hl, hbads]
  refine go_rounds (fun n st => ∃ σ T e i, n + i = 30 ∧ st = ⟨σ, H ++ T, e⟩ ∧ T[0]? = some (.cells (strs bads) 9 .rw) ∧ clean H.length e ∧ σ.length = 212 ∧ fr σ 1 = .slice H.length 0 30 (.ex 30) ∧ fr σ 2 = .int .i64 (i : Nat)) 30
    ⟨_, _, _, 0, rfl, rfl, rfl, ⟨rfl, rfl⟩, by simp only [go_sem, simprocAttr, hl], by simp only [go_sem, simprocAttr, hl], by simp only [go_sem, simprocAttr, hl]⟩ ?_
  rintro n _ ⟨σ, T, e, i, hn, rfl, t0, he, hl, h1, h2⟩
  by_cases hlt : i < 30
  · have g0 : decide ((i : Int) < 30) = true := by simp; omega
    obtain ⟨s, hs⟩ : ∃ s, bads[i]? = some s := ⟨_, List.getElem?_eq_getElem (show i < bads.length from hlt)⟩
    have w1 := wrap_succ (show i < 9223372036854775807 by omega)
    have hai := strs_ld hs
    have hi30 : (i : Int) < 30 := by omega
    obtain ⟨x, L, sx, xsc, rp⟩ := parseK (bad_at hs) H T ht
    have rs : ∀ M k, callK Tryd.prog 16 [.agg [.str [], .str [], .str [], x], .agg [.str [], .str [], .str [], .nils]] (H ++ (T ++ (L ++ M))) k = k (.bool true, H ++ (T ++ (L ++ M)), z0) := by
      intro M k
      have := same16 Mt.nil Mt.nil (H ++ (T ++ (L ++ M))) k x .nils (by have := (sx.old M).sv; simpa using this) (.inl ⟨rfl, rfl⟩) (by decide)
      rw [sameM_t rfl] at this
      exact this
    simp only [Mt.nil] at rp
    simp only [go_sem, simprocAttr, hl, h1, h2, g0, hi30, t0, hai, rp, xsc, rs, build_nil, w1]
    exact ⟨n - 1, by omega, _, _, _, i + 1, by omega, rfl, get_app t0, by rw [clean_andT, clean_ifT (by omega)]; exact ⟨he, trivial⟩, by simp only [go_sem, simprocAttr, hl], by simp only [go_sem, simprocAttr, hl, h1], by simp only [go_sem, simprocAttr, hl]⟩
  · have g0 : decide ((i : Int) < 30) = false := by simp; omega
    simp only [go_sem, simprocAttr, hl, h1, h2, g0]
    clear hbads t0 h1 h2
    have r8a : ∀ H k, callK Tryd.prog 18 [.str [97], .int .i64 62] H k = k (.str (manyP [97] 62), H, z0) := fun H k => many18 [97] 62 H k rfl (by decide)
    have r8b : ∀ H k, callK Tryd.prog 18 [.str [98], .int .i64 62] H k = k (.str (manyP [98] 62), H, z0) := fun H k => many18 [98] 62 H k rfl (by decide)
    have r8c : ∀ H k, callK Tryd.prog 18 [.str [99], .int .i64 255] H k = k (.str (manyP [99] 255), H, z0) := fun H k => many18 [99] 255 H k rfl (by decide)
    have r9a : ∀ H k, callK Tryd.prog 18 [.str [97], .int .i64 63] H k = k (.str (manyP [97] 63), H, z0) := fun H k => many18 [97] 63 H k rfl (by decide)
    have r9b : ∀ H k, callK Tryd.prog 18 [.str [97], .int .i64 401] H k = k (.str (manyP [97] 401), H, z0) := fun H k => many18 [97] 401 H k rfl (by decide)
    have r9c : ∀ H k, callK Tryd.prog 18 [.str [99], .int .i64 256] H k = k (.str (manyP [99] 256), H, z0) := fun H k => many18 [99] 256 H k rfl (by decide)
    -- four texts
    obtain ⟨x1, L1, sx1, xs1, rp1⟩ := parseK parse_A' H T ht
    obtain ⟨T1, hT1⟩ : ∃ T1, T ++ (L1 ++ [.cells [.str (manyP [97] 62), .str [], .str [], x1] 24 .rw]) = T1 := ⟨_, rfl⟩
    obtain ⟨x2, L2, sx2, xs2, rp2⟩ := parseK parse_B H T1 ht
    obtain ⟨T2, hT2⟩ : ∃ T2, T1 ++ (L2 ++ [.cells [.str [], .str [], .str [], x2] 24 .rw]) = T2 := ⟨_, rfl⟩
    obtain ⟨x3, L3, sx3, xs3, rp3⟩ := parseK parse_C H T2 ht
    obtain ⟨T3, hT3⟩ : ∃ T3, T2 ++ (L3 ++ [.cells [.str [], .str [], .str [], x3] 24 .rw]) = T3 := ⟨_, rfl⟩
    obtain ⟨x4, L4, sx4, xs4, rp4⟩ := parseK parse_D H T3 ht
    obtain ⟨T4, hT4⟩ : ∃ T4, T3 ++ (L4 ++ [.cells [.str [], .str [], .str [], x4] 24 .rw]) = T4 := ⟨_, rfl⟩
    simp only [strA, List.append_assoc, List.cons_append, List.nil_append, Mt.nil] at rp1 rp2 rp3 rp4
    have lA := many_len [97] 62
    have lB := many_len [98] 62
    have lC := many_len [99] 255
    have lD := many_len [99] 256
    simp only [List.length_cons, List.length_nil, Nat.reduceAdd, Nat.reduceMul] at lA lB lC lD
    have hmx : ∀ n, n ≤ 1000 → (n ≤ maxI) = True := fun n h => eq_true (by have : maxI = 9223372036854775807 := rfl; omega)
    simp only [go_sem, simprocAttr, hl, r8a, r8b, r8c, r9a, r9b, r9c, lA, lB, lC, lD, hmx, Nat.reduceLeDiff, rp1, hT1, xs1, rp2, hT2, xs2, rp3, hT3, xs3, rp4, hT4, xs4]
    -- what the first one reads
    have j1 : T4[T.length + L1.length]? = some (.cells [.str (manyP [97] 62), .str [], .str [], x1] 24 .rw) := by
      rw [← hT4, get_app (x := .cells [.str (manyP [97] 62), .str [], .str [], x1] 24 .rw)]
      rw [← hT3, get_app (x := .cells [.str (manyP [97] 62), .str [], .str [], x1] 24 .rw)]
      rw [← hT2, get_app (x := .cells [.str (manyP [97] 62), .str [], .str [], x1] 24 .rw)]
      rw [← hT1, ← List.append_assoc, ← List.length_append]; simp
    have sx : Sw (H ++ T4) x1 [svA] := by
      have := sx1.old ([.cells [.str (manyP [97] 62), .str [], .str [], x1] 24 .rw] ++ (L2 ++ [.cells [.str [], .str [], .str [], x2] 24 .rw]) ++ (L3 ++ [.cells [.str [], .str [], .str [], x3] 24 .rw]) ++ (L4 ++ [.cells [.str [], .str [], .str [], x4] 24 .rw]))
      rw [← hT4, ← hT3, ← hT2, ← hT1]
      simpa using this
    have xl : ∀ H', evLen Tryd.prog 22 x1 H' = some (.int .i64 1) := sx.sv.len
    obtain ⟨b, xa, xb⟩ := sx.field (i := 0) (s := svA) rfl
    replace xa : evIndexAddr Tryd.prog 22 x1 (.int .i64 0) = some (.ptr b 0) := by simpa using xa
    obtain ⟨y, hy, yf⟩ := xb []
    rw [List.append_nil] at hy
    have y2 : ldC 2 1 false y = some (.int .u16 65535) := yf 2 (by decide)
    obtain ⟨x5, L5, sx5, xs5, rp5⟩ := parseK parse_E H T4 ht
    obtain ⟨T5, hT5⟩ : ∃ T5, T4 ++ (L5 ++ [.cells [.str [97], .str [], .str [], x5] 24 .rw]) = T5 := ⟨_, rfl⟩
    have j5 : T5[T4.length + L5.length]? = some (.cells [.str [97], .str [], .str [], x5] 24 .rw) := by
      rw [← hT5, ← List.append_assoc, ← List.length_append]; simp
    have s5 : Sw (H ++ T5) x5 [svE1, svE2] := by
      have := sx5.old [.cells [.str [97], .str [], .str [], x5] 24 .rw]
      rw [← hT5]
      simpa using this
    have xl5 : ∀ H', evLen Tryd.prog 22 x5 H' = some (.int .i64 2) := s5.sv.len
    obtain ⟨b5, xa5, xb5⟩ := s5.field (i := 0) (s := svE1) rfl
    replace xa5 : evIndexAddr Tryd.prog 22 x5 (.int .i64 0) = some (.ptr b5 0) := by simpa using xa5
    obtain ⟨y5, hy5, yf5⟩ := xb5 []
    rw [List.append_nil] at hy5
    have y51 : ldC 1 1 false y5 = some (.bool true) := yf5 1 (by decide)
    obtain ⟨b6, xa6, xb6⟩ := s5.field (i := 1) (s := svE2) rfl
    replace xa6 : evIndexAddr Tryd.prog 22 x5 (.int .i64 1) = some (.ptr b6 6) := by simpa using xa6
    obtain ⟨y6, hy6, yf6⟩ := xb6 []
    rw [List.append_nil] at hy6
    have y64 : ldC 10 1 false y6 = some (.int .u16 2) := yf6 4 (by decide)
    simp only [go_sem, simprocAttr, hl, j1, xl, xa, hy, y2, rp5, hT5, xs5, j5, xl5, xa5, hy5, y51, xa6, hy6, y64]
    clear j1 xl xa hy y2 j5 xl5 xa5 hy5 y51 xa6 hy6 y64 rp1 rp2 rp3 rp4 rp5 hT1 hT2 hT3 hT4 hT5
    have r17 : ∀ H k, callK Tryd.prog 18 [.str [97], .int .i64 145] H k = k (.str (manyP [97] 145), H, z0) := fun H k => many18 [97] 145 H k rfl (by decide)
    have r18 : ∀ H k, callK Tryd.prog 18 [.str [100], .int .i64 232] H k = k (.str (manyP [100] 232), H, z0) := fun H k => many18 [100] 232 H k rfl (by decide)
    have r19 : ∀ H k, callK Tryd.prog 18 [.str [100], .int .i64 233] H k = k (.str (manyP [100] 233), H, z0) := fun H k => many18 [100] 233 H k rfl (by decide)
    have f1 : evBuild Tryd.prog 41 [(0, .str [98]), (5, .str (manyP [97] 145))] = some (.agg svF1.cells) := build41b _ _
    have f2 : ∀ n, evBuild Tryd.prog 41 [(0, .str [99]), (5, .str (manyP [100] n))] = some (.agg (svF2 n).cells) := fun n => build41b _ _
    obtain ⟨T6, hT6⟩ : ∃ T6, T5 ++ [.cells (sflat [svF1, svF2 232]) 41 .rw, .cells [.str [97], .str [], .str [], .slice (H.length + T5.length) 0 2 (.ex 2)] 24 .rw, .cells (sflat [svF1, svF2 233]) 41 .rw, .cells [.str [97], .str [], .str [], .slice (H.length + (T5.length + 2)) 0 2 (.ex 2)] 24 .rw] = T6 := ⟨_, rfl⟩
    have q0 : T6[T5.length]? = some (.cells (sflat [svF1, svF2 232]) 41 .rw) := by
      rw [← hT6, List.getElem?_append_right (Nat.le_refl _), Nat.sub_self]; rfl
    have q1 : T6[T5.length + 1]? = some (.cells [.str [97], .str [], .str [], .slice (H.length + T5.length) 0 2 (.ex 2)] 24 .rw) := by
      rw [← hT6, List.getElem?_append_right (by omega), Nat.add_sub_cancel_left]; rfl
    have q2 : T6[T5.length + 2]? = some (.cells (sflat [svF1, svF2 233]) 41 .rw) := by
      rw [← hT6, List.getElem?_append_right (by omega), Nat.add_sub_cancel_left]; rfl
    have q3 : T6[T5.length + 3]? = some (.cells [.str [97], .str [], .str [], .slice (H.length + (T5.length + 2)) 0 2 (.ex 2)] 24 .rw) := by
      rw [← hT6, List.getElem?_append_right (by omega), Nat.add_sub_cancel_left]; rfl
    obtain ⟨tF, htF⟩ : ∃ t, toldB ⟨[97], [], [], [svF1, svF2 232]⟩ = t := ⟨_, rfl⟩
    have hpF := pack_F
    rw [htF] at hpF
    have lF := hpF.2
    have rF : ∀ k, callK Tryd.prog 10 [.agg [.str [97], .str [], .str [], .slice (H.length + T5.length) 0 2 (.ex 2)]] (H ++ T6) k = k (.tuple [.str tF, .int .i64 0], H ++ T6, z0) :=
      packK (m := ⟨[97], [], [], [svF1, svF2 232]⟩) hpF.1 wf_F (sw_two (c := 2) q0 (by decide)) (ht.old _)
    have rG : ∀ k, callK Tryd.prog 12 [.agg [.str [97], .str [], .str [], .slice (H.length + (T5.length + 2)) 0 2 (.ex 2)]] (H ++ T6) k = k (.int .i64 2, H ++ T6, z0) :=
      checkK (m := ⟨[97], [], [], [svF1, svF2 233]⟩) (by rw [pack_G]) wf_G (sw_two (c := 2) q2 (by decide)) (ht.old _)
    simp only [go_sem, simprocAttr, hl, r17, r18, r19, f1, f2, bslice_two, build24c, hT6, q1, q3, rF, rG, lF]
    clear q0 q1 q2 q3 rF rG hT6 f1 f2 r17 r18 r19 lA lB lC lD r8a r8b r8c r9a r9b r9c
    refine go_rounds (fun n st => ∃ σ T e i v w, n + i = 17 ∧ st = ⟨σ, H ++ T, e⟩ ∧ GBuf H.length T w 41 6 i (sflat (letters.take i)) ∧ GBuf H.length T v 41 6 (min i 16) (sflat (letters.take (min i 16))) ∧ Apt H.length w v i (min i 16) ∧ clean H.length e ∧ σ.length = 212 ∧ fr σ 18 = v ∧ fr σ 19 = w ∧ fr σ 20 = .int .i64 (i : Nat)) 17
      ⟨_, _, _, 0, .nils, .nils, rfl, rfl, .inl ⟨rfl, rfl, rfl⟩, .inl ⟨rfl, rfl, rfl⟩, fun m h1 h2 => (by cases h1), by simp only [go_sem, simprocAttr, he], by simp only [go_sem, simprocAttr, hl], by simp only [go_sem, simprocAttr, hl], by simp only [go_sem, simprocAttr, hl], by simp only [go_sem, simprocAttr, hl]⟩ ?_
    rintro n _ ⟨σ, T, e, i, v, w, hn, rfl, hw, hv, hap, he, hl, h18, h19, h20⟩
    by_cases hlt : i < 17
    · have g0 : decide ((i : Int) < 17) = true := by simp; omega
      have w1 := wrap_succ (show i < 9223372036854775807 by omega)
      have b1 : (i : Int) ≤ ((i + 1 : Nat) : Int) := by omega
      have b2 : ((i + 1 : Nat) : Int) ≤ 17 := by omega
      have t1 := abcq_at hlt
      have bl := build41b (letter i).label [45]
      replace bl : evBuild Tryd.prog 41 [(0, .str (letter i).label), (5, .str [45])] = some (.agg (letter i).cells) := bl
      obtain ⟨w', T2, e2, happ, hcl, hw2, hq2, hoth⟩ := (hw.more [.cells (letter i).cells 41 .rw]).app3 (b := 40) (by decide) zok_22 (letter i).cells 1 (by decide) rfl (svc_scal _) (by simp only [fits, decide_eq_true_eq]; omega)
      obtain ⟨hv2, hap2, hap2'⟩ := hoth _ _ _ (hv.more _) hap
      rw [letters_snoc hlt] at hw2
      have hrd : ∀ (e : TypeId) (k : Kd), rdC 0 6 (.cells (letter i).cells e k) = some (letter i).cells := fun _ _ => rfl
      have hbs := bslice_mark
      unfold abcq at t1
      by_cases h16 : i < 16
      · have g1 : decide ((i : Int) < 16) = true := by simp; omega
        have hm : min i 16 = i := by omega
        have hm1 : min (i + 1) 16 = i + 1 := by omega
        rw [hm] at hv2 hap2'
        obtain ⟨v', T3, e3, happ3, hcl3, hv3, hq3, hoth3⟩ := (hv2.more [.cells (letter i).cells 41 .rw]).app3 (b := 40) (by decide) zok_22 (letter i).cells 1 (by decide) rfl (svc_scal _) (by simp only [fits, decide_eq_true_eq]; omega)
        obtain ⟨hw3, hap3, hap3'⟩ := hoth3 _ _ _ (hw2.more _) hap2'
        rw [letters_snoc hlt] at hv3
        simp only [go_sem, simprocAttr, hl, h18, h19, h20, g0, w1, b1, b2, t1, bl, hbs, hrd, happ, g1, happ3]
        exact ⟨n - 1, by omega, _, T3, _, i + 1, v', w', by omega, rfl, hw3, by rw [hm1]; exact hv3, by rw [hm1]; exact hap3', by simp only [go_sem, simprocAttr, he, hcl, hcl3], by simp only [go_sem, simprocAttr, hl], by simp only [go_sem, simprocAttr, hl], by simp only [go_sem, simprocAttr, hl], by simp only [go_sem, simprocAttr, hl]⟩
      · have g1 : decide ((i : Int) < 16) = false := by simp; omega
        have hm1 : min (i + 1) 16 = min i 16 := by omega
        simp only [go_sem, simprocAttr, hl, h18, h19, h20, g0, w1, b1, b2, t1, bl, hbs, hrd, happ, g1]
        exact ⟨n - 1, by omega, _, T2, _, i + 1, v, w', by omega, rfl, hw2, by rw [hm1]; exact hv2, by rw [hm1]; exact hap2, by simp only [go_sem, simprocAttr, he, hcl], by simp only [go_sem, simprocAttr, hl], by simp only [go_sem, simprocAttr, hl, h18], by simp only [go_sem, simprocAttr, hl], by simp only [go_sem, simprocAttr, hl]⟩
    · have hi17 : i = 17 := by omega
      subst hi17
      have g0 : decide (((17 : Nat) : Int) < 17) = false := by decide
      replace h20 : fr σ 20 = .int .i64 17 := h20
      have r30 : ∀ H k, callK Tryd.prog 18 [.str [116], .int .i64 256] H k = k (.str (manyP [116] 256), H, z0) := fun H k => many18 [116] 256 H k rfl (by decide)
      have fz : evBuild Tryd.prog 41 [(0, .str [122]), (2, .int .u16 65535), (5, .str (manyP [116] 256))] = some (.agg svZ.cells) := build41c _ _ _
      have ldz : ldC 0 6 true (.cells svZ.cells 41 .rw) = some (.agg svZ.cells) := rfl
      have hv : GBuf H.length T v 41 6 16 (sflat (letters.take 16)) := hv
      have hwt : letters.take 17 = letters := List.take_of_length_le (by unfold letters; simp)
      obtain ⟨_, _, h0'⟩ | ⟨_, _, mv, rfl, hmv⟩ := hv
      · omega
      obtain ⟨_, _, h0'⟩ | ⟨_, _, mw, rfl, hmw⟩ := hw
      · omega
      rw [hwt] at hmw
      obtain ⟨T1, hT1⟩ : ∃ T1, T ++ [.cells svZ.cells 41 .rw] = T1 := ⟨_, rfl⟩
      have z1 : T1[T.length]? = some (.cells svZ.cells 41 .rw) := by rw [← hT1]; simp
      have swH : Sw (H ++ T1) (.slice (H.length + mv) 0 16 (.op 0)) (letters.take 16) := by
        refine .inr (.inr ⟨H.length + mv, [], 0, false, ?_, ?_⟩)
        · rfl
        · rw [hp_new, List.append_nil, ← hT1]; exact get_app hmv
      have swI : Sw (H ++ T1) (.slice (H.length + mw) 0 17 (.op 0)) letters := by
        refine .inr (.inr ⟨H.length + mw, [], 0, false, ?_, ?_⟩)
        · rfl
        · rw [hp_new, List.append_nil, ← hT1]; exact get_app hmw
      have rH : ∀ k, callK Tryd.prog 12 [.agg [.str [97], .str [], .str [], .slice (H.length + mv) 0 16 (.op 0)]] (H ++ T1) k = k (.int .i64 0, H ++ T1, z0) :=
        checkK (m := ⟨[97], [], [], letters.take 16⟩) pack_H wf_H swH (ht.old _)
      have rI : ∀ k, callK Tryd.prog 12 [.agg [.str [65], .str [], .str [], .slice (H.length + mw) 0 17 (.op 0)]] (H ++ T1) k = k (.int .i64 2, H ++ T1, z0) :=
        checkK (m := ⟨[65], [], [], letters⟩) pack_I wf_I swI (ht.old _)
      have rJ : ∀ k, callK Tryd.prog 12 [.agg [.str [97], .str [97, 98, 99], .str [], .nils]] (H ++ T1) k = k (.int .i64 210, H ++ T1, z0) :=
        checkK (m := ⟨[97], [97, 98, 99], [], []⟩) pack_J wf_J (.inl ⟨rfl, rfl⟩) (ht.old _)
      have rK : ∀ k, callK Tryd.prog 12 [.agg [.str [97], .str [], .str [97, 98, 99, 100], .nils]] (H ++ T1) k = k (.int .i64 210, H ++ T1, z0) :=
        checkK (m := ⟨[97], [], [97, 98, 99, 100], []⟩) pack_K wf_K (.inl ⟨rfl, rfl⟩) (ht.old _)
      have z2 : (T1 ++ [.cells svZ.cells 41 .rw])[T1.length]? = some (.cells (sflat [svZ]) 41 .rw) := by simp [sflat]
      have rZ : ∀ k, callK Tryd.prog 12 [.agg [.str [97], .str [], .str [], .slice (H.length + T1.length) 0 1 (.ex 1)]] (H ++ (T1 ++ [.cells svZ.cells 41 .rw])) k = k (.int .i64 210, H ++ (T1 ++ [.cells svZ.cells 41 .rw]), z0) :=
        checkK (m := ⟨[97], [], [], [svZ]⟩) pack_Z wf_Z (sw_two (ss := [svZ]) (c := 1) z2 (by decide)) (ht.old _)
      have rt : ∀ M k, callK Tryd.prog 17 [] (H ++ M) k = k (.bool true, H ++ M, z0) := fun M k => tells17 _ k (ht.old _)
      have hbs := bslice_mark
      have hvz : vcells (.agg svZ.cells) = svZ.cells := rfl
      simp only [go_sem, simprocAttr, hl, h18, h19, h20, g0, r30, fz, ldz, hT1, z1, build24c, build24d, build24e, rH, rI, rJ, rK, rZ, rt, hbs, he]
end Go.Proofs.YtjemmehgfheflaaDoor.V
