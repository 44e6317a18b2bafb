/- The service chapter: the reference's cuts, as 'V' runs them. No conditions. -/
import Derived.Test.YtjemmehgfheflaaDoorSWalkR
namespace Go.Proofs.YtjemmehgfheflaaDoor.V
open Go
set_option linter.unusedSimpArgs false
set_option linter.unusedVariables false
attribute [local irreducible] go goOps goD opK callK callT stepK leaveTo nextK

theorem bslice_str (p : List UInt8) (H : Hp) : evBuildSlice Tryd.prog 37 1 [(0, .str p)] H = some (.slice H.length 0 1 (.ex 1), H ++ [.cells [.str p] 9 .rw]) := by
  simp only [evBuildSlice, tsh_37, tzero_9, Option.bind_some]
  rfl
theorem strs_snoc {A : List (List UInt8)} {k : Nat} {q : List UInt8} (h : A[k]? = some q) : strs (A.take k) ++ [.str q] = strs (A.take (k + 1)) := by
  rw [take_snoc h]; simp [strs]

set_option maxRecDepth 20000 in
theorem split28 (s : List UInt8) (c : UInt8) (H) (hs : s.length ≤ 100000) :
    ∃ r : Hp × Nat, r.1[r.2]? = some (.cells (strs ((splitC c s).1 :: (splitC c s).2)) 9 (.op 0 false)) ∧ ∀ k, callK Tryd.prog 28 [.str s, .int .u8 c.toNat] H k = k (.slice (H.length + r.2) 0 ((splitC c s).2.length + 1) (.op 0), H ++ r.1, z0) := by
  obtain ⟨A, hA⟩ : ∃ A, (splitC c s).1 :: (splitC c s).2 = A := ⟨_, rfl⟩
  have hAl : (splitC c s).2.length + 1 = A.length := by rw [← hA, List.length_cons]
  rw [hAl, hA]
  have hno : ∀ q ∈ A, c ∉ q := by
    have := split_no c s
    rw [← hA]
    intro q hq
    rcases List.mem_cons.1 hq with rfl | hq
    · exact this.1
    · exact this.2 q hq
  have hAs : A.length ≤ s.length + 1 := by
    have hrl : (splitC c s).2.length ≤ s.length := by
      rw [← count_eq]
      exact List.count_le_length
    omega
  refine callK_exP (fun r : Hp × Nat => r.1[r.2]? = some (.cells (strs A) 9 (.op 0 false))) (fun r => (.slice (H.length + r.2) 0 A.length (.op 0), H ++ r.1, z0)) ?_
  refine callK_start (n := 35) (rs := [.tmp 4]) Tryd.func28 rfl rfl rfl ?_
  intro σ hl ha
  have h0 := ha 0 (by simp)
  have h1 := ha 1 (by simp)
  clear ha
  simp only [Option.getD_some, List.getElem?_cons_zero, List.getElem?_cons_succ] at h0 h1
  simp only [go_sem, simprocAttr, hl, h0, h1]
  refine go_rounds (fun n st => ∃ σ i k q v T e, n + i = s.length + 1 ∧ q ≤ i ∧ ((∃ p R, A.drop k = p :: R ∧ s.drop q = p ++ joinC c R ∧ i ≤ q + p.length ∧ q ≤ s.length) ∨ (k = A.length ∧ i = s.length + 1)) ∧ k ≤ A.length ∧ GBuf H.length T v 9 1 k (strs (A.take k)) ∧ st = ⟨σ, H ++ T, e⟩ ∧ clean H.length e ∧ σ.length = 35 ∧ fr σ 0 = .str s ∧ fr σ 1 = .int .u8 c.toNat ∧ fr σ 5 = v ∧ fr σ 6 = .int .i64 (q : Nat) ∧ fr σ 7 = .int .i64 (i : Nat)) (s.length + 1)
    ⟨_, 0, 0, 0, .nils, [], _, rfl, Nat.le_refl _, .inl ⟨(splitC c s).1, (splitC c s).2, by rw [← hA]; rfl, split_join c s, Nat.zero_le _, Nat.zero_le _⟩, Nat.zero_le _, .inl ⟨rfl, rfl, rfl⟩, by rw [List.append_nil], ⟨rfl, rfl⟩, by simp only [go_sem, simprocAttr, hl], by simp only [go_sem, simprocAttr, hl, h0], by simp only [go_sem, simprocAttr, hl, h1], by simp only [go_sem, simprocAttr, hl], by simp only [go_sem, simprocAttr, hl]⟩ ?_
  rintro n _ ⟨σ, i, k, q, v, T, e, hn, hqi, hmode, hkA, hv, rfl, he, hl, h0, h1, h5, h6, h7⟩
  rcases hmode with ⟨p, R, hd, hsd, hip, hqs⟩ | ⟨rfl, rfl⟩
  · have hpA : p ∈ A := List.mem_of_mem_drop (by rw [hd]; simp)
    have hcp := hno p hpA
    have hAk : A[k]? = some p := by
      have : (A.drop k)[0]? = some p := by rw [hd]; rfl
      simpa using this
    have hsl := congrArg List.length hsd
    rw [List.length_drop, List.length_append] at hsl
    have w1 := wrap_succ (show i < 9223372036854775807 by omega)
    have g0 : i ≤ s.length := by omega
    by_cases hin : i < q + p.length
    · -- inside a piece
      obtain ⟨d, hd'⟩ : ∃ d, p[i - q]? = some d := ⟨_, List.getElem?_eq_getElem (by omega)⟩
      have hsi : s[i]? = some d := by
        have : (s.drop q)[i - q]? = some d := by rw [hsd, List.getElem?_append_left (by omega)]; exact hd'
        rw [List.getElem?_drop] at this
        rw [show q + (i - q) = i by omega] at this; exact this
      have hdc : d ≠ c := by rintro rfl; exact hcp (List.mem_of_getElem? hd')
      have g1 : ((i : Int) == (s.length : Int)) = false := by
        rw [beq_eq_false_iff_ne]; omega
      have g2 := u8_beq d c
      rw [decide_eq_false hdc] at g2
      have hlt : i < s.length := by omega
      simp only [go_sem, simprocAttr, hl, h0, h1, h5, h6, h7, g0, g1, g2, hsi, w1]
      exact ⟨n - 1, by omega, _, i + 1, k, q, v, T, _, by omega, by omega, .inl ⟨p, R, hd, hsd, by omega, hqs⟩, hkA, hv, rfl, he, by simp only [go_sem, simprocAttr, hl], by simp only [go_sem, simprocAttr, hl, h0], by simp only [go_sem, simprocAttr, hl, h1], by simp only [go_sem, simprocAttr, hl, h5], by simp only [go_sem, simprocAttr, hl, h6], by simp only [go_sem, simprocAttr, hl]⟩
    · have hie : i = q + p.length := by omega
      have hkl : k < A.length := (List.getElem?_eq_some_iff.1 hAk).1
      have b1 : q ≤ i := hqi
      have b2 : i ≤ s.length := by omega
      have t1 : (s.drop q).take (i - q) = p := by rw [hsd, hie, Nat.add_sub_cancel_left, List.take_left]
      have hbs := bslice_str p
      have hv2 : GBuf H.length (T ++ [.cells [.str p] 9 .rw]) v 9 1 k (strs (A.take k)) := hv.more _
      obtain ⟨v', T2, e2, happ, _, hcl, _, hv3, _, _, hq⟩ := hv2.app2 (b := 16) (by decide) zok_37 [.str p] 1 (by decide) rfl rfl (by simp only [fits, decide_eq_true_eq]; omega)
      rw [strs_snoc hAk] at hv3
      have hdk : A.drop (k + 1) = R := by rw [← List.drop_drop, hd]; rfl
      cases R with
      | nil =>
        have hil : i = s.length := by simp [joinC] at hsl; omega
        have g1 : ((i : Int) == (s.length : Int)) = true := by rw [hil]; simp
        have hkA' : k + 1 = A.length := by
          have := congrArg List.length hdk
          rw [List.length_drop, List.length_nil] at this; omega
        simp only [go_sem, simprocAttr, hl, h0, h1, h5, h6, h7, g0, g1, w1, b1, b2, t1, hbs, happ]
        exact ⟨n - 1, by omega, _, i + 1, k + 1, i + 1, v', T2, _, by omega, by omega, .inr ⟨hkA', by omega⟩, by omega, hv3, rfl, by simp only [go_sem, simprocAttr, he, hcl], by simp only [go_sem, simprocAttr, hl], by simp only [go_sem, simprocAttr, hl, h0], by simp only [go_sem, simprocAttr, hl, h1], by simp only [go_sem, simprocAttr, hl], by simp only [go_sem, simprocAttr, hl], by simp only [go_sem, simprocAttr, hl]⟩
      | cons p' R' =>
        have hj : joinC c (p' :: R') = c :: (p' ++ joinC c R') := rfl
        have hsi : s[i]? = some c := by
          have : (s.drop q)[i - q]? = some c := by
            rw [hsd, hie, Nat.add_sub_cancel_left, List.getElem?_append_right (Nat.le_refl _), Nat.sub_self, hj]; rfl
          rw [List.getElem?_drop] at this
          rw [show q + (i - q) = i by omega] at this; exact this
        have hlt : i < s.length := (List.getElem?_eq_some_iff.1 hsi).1
        have hsd' : s.drop (i + 1) = p' ++ joinC c R' := by
          rw [show i + 1 = q + (p.length + 1) by omega, ← List.drop_drop, hsd, ← List.drop_drop, List.drop_left, hj]; rfl
        have g1 : ((i : Int) == (s.length : Int)) = false := by
          rw [beq_eq_false_iff_ne]; omega
        have g2 := u8_beq c c
        rw [decide_eq_true rfl] at g2
        simp only [go_sem, simprocAttr, hl, h0, h1, h5, h6, h7, g0, g1, g2, hsi, w1, b1, b2, t1, hbs, happ]
        exact ⟨n - 1, by omega, _, i + 1, k + 1, i + 1, v', T2, _, by omega, by omega, .inl ⟨p', R', hdk, hsd', by omega, by omega⟩, by omega, hv3, rfl, by simp only [go_sem, simprocAttr, he, hcl], by simp only [go_sem, simprocAttr, hl], by simp only [go_sem, simprocAttr, hl, h0], by simp only [go_sem, simprocAttr, hl, h1], by simp only [go_sem, simprocAttr, hl], by simp only [go_sem, simprocAttr, hl], by simp only [go_sem, simprocAttr, hl]⟩
  · have g0 : ¬ s.length + 1 ≤ s.length := by omega
    rw [List.take_length] at hv
    obtain ⟨_, _, h0'⟩ | ⟨_, _, m, rfl, hm⟩ := hv
    · omega
    · simp only [go_sem, simprocAttr, hl, h0, h1, h5, h6, h7, g0, he]
      exact ⟨(T, m), hm, rfl⟩

end Go.Proofs.YtjemmehgfheflaaDoor.V
