/- Joined by mkclaim.py: WName WNameB WByte WText WBld WEsc WTextN WJoin WRefEsc WNum. No conditions. -/
import Derived.Test.YtgkpgpdkolpfkaaDoorJ2
namespace Go.Proofs.YtgkpgpdkolpfkaaDoor.V
open Go
set_option linter.unusedSimpArgs false
set_option linter.unusedVariables false
attribute [local irreducible] go goOps goD opK callK callT stepK leaveTo nextK

/-- A name's labels, by its bytes. -/
def labF : Nat → List UInt8 → Option (List (List UInt8))
  | 0, _ => none
  | _ + 1, [] => none
  | n + 1, k :: t => if k.toNat = 0 then (if t.length = 0 then some [] else none) else if 63 < k.toNat ∨ t.length < k.toNat then none else (labF n (t.drop k.toNat)).map (t.take k.toNat :: ·)
theorem labF_more : ∀ (n m : Nat) (s : List UInt8), s.length < n → s.length < m → labF n s = labF m s
  | 0, _, s, h, _ => by omega
  | _ + 1, 0, s, _, h => by omega
  | n + 1, m + 1, [], _, _ => rfl
  | n + 1, m + 1, k :: t, h, h' => by
    simp only [labF]
    simp only [List.length_cons] at h h'
    rw [labF_more n m (t.drop k.toNat) (by rw [List.length_drop]; omega) (by rw [List.length_drop]; omega)]
def lab (s : List UInt8) : Option (List (List UInt8)) := labF (s.length + 1) s
theorem lab_nil : lab [] = none := rfl
theorem lab_cons (k : UInt8) (t : List UInt8) : lab (k :: t) = if k.toNat = 0 then (if t.length = 0 then some [] else none) else if 63 < k.toNat ∨ t.length < k.toNat then none else (lab (t.drop k.toNat)).map (t.take k.toNat :: ·) := by
  unfold lab
  rw [List.length_cons, labF, labF_more (t.length + 1) _ (t.drop k.toNat) (by rw [List.length_drop]; omega) (Nat.lt_succ_self _)]
def nm (s : List UInt8) : Option (List (List UInt8)) := if 255 < s.length then none else lab s
/-- How many bytes labels take; where each begins. -/
def tot (L : List (List UInt8)) : Nat := (L.map fun l => 1 + l.length).sum
def posn : Nat → List (List UInt8) → List Nat
  | _, [] => []
  | a, l :: L => a :: posn (a + (1 + l.length)) L
def posA (L : List (List UInt8)) : List AV := (posn 0 L).map fun n => .int .i64 (n : Nat)
theorem tot_snoc (L : List (List UInt8)) (l : List UInt8) : tot (L ++ [l]) = tot L + (1 + l.length) := by simp [tot]
theorem posn_snoc : ∀ (L : List (List UInt8)) (a : Nat) (l : List UInt8), posn a (L ++ [l]) = posn a L ++ [a + tot L]
  | [], a, l => by simp [posn, tot]
  | m :: L, a, l => by
    have := posn_snoc L (a + (1 + m.length)) l
    simp only [List.cons_append, posn, this]
    simp [tot]; omega
theorem posA_snoc (L : List (List UInt8)) (l : List UInt8) : posA (L ++ [l]) = posA L ++ [.int .i64 (tot L : Nat)] := by
  simp only [posA, posn_snoc, List.map_append, List.map_cons, List.map_nil, Nat.zero_add]
theorem posA_len (L : List (List UInt8)) : (posA L).length = L.length := by
  have : ∀ (L : List (List UInt8)) a, (posn a L).length = L.length := by
    intro L
    induction L with
    | nil => intro a; rfl
    | cons m L ih => intro a; simp [posn, ih]
  simp [posA, this]

/-- One more label of s, read at i. -/
theorem lab_step {s : List UInt8} {i : Nat} {c : UInt8} {L1 : List (List UInt8)} (hc : s[i]? = some c) (hl : lab s = (lab (s.drop i)).map (L1 ++ ·)) :
    (c.toNat = 0 → lab s = if i + 1 = s.length then some L1 else none) ∧ (63 < c.toNat → lab s = none) ∧
    (c.toNat ≠ 0 → c.toNat ≤ 63 → (s.length < i + (1 + c.toNat) ∧ lab s = none) ∨ (i + (1 + c.toNat) ≤ s.length ∧ ((s.drop (i + 1)).take c.toNat).length = c.toNat ∧ lab s = (lab (s.drop (i + (1 + c.toNat)))).map ((L1 ++ [(s.drop (i + 1)).take c.toNat]) ++ ·))) := by
  have hi : i < s.length := (List.getElem?_eq_some_iff.1 hc).1
  rw [drop_at hc, lab_cons] at hl
  refine ⟨fun h0 => ?_, fun h => ?_, fun h0 h1 => ?_⟩
  · rw [if_pos h0] at hl
    rw [hl, List.length_drop]
    by_cases h : i + 1 = s.length
    · rw [if_pos h, if_pos (by omega)]; simp
    · rw [if_neg h, if_neg (by omega)]; rfl
  · rw [if_neg (by omega), if_pos (.inl h)] at hl
    exact hl
  · rw [if_neg h0, List.length_drop] at hl
    by_cases h : s.length < i + (1 + c.toNat)
    · rw [if_pos (by omega)] at hl
      exact .inl ⟨h, hl⟩
    · rw [if_neg (by omega)] at hl
      refine .inr ⟨by omega, by rw [List.length_take, List.length_drop]; omega, ?_⟩
      rw [hl, List.drop_drop, show i + 1 + c.toNat = i + (1 + c.toNat) by omega, Option.map_map]
      congr 1
      funext x
      simp
theorem lab_end {s : List UInt8} {i : Nat} {L1 : List (List UInt8)} (hi : i = s.length) (hl : lab s = (lab (s.drop i)).map (L1 ++ ·)) : lab s = none := by
  rw [hl, hi, List.drop_length, lab_nil]; rfl

theorem bslice_int (n : Int) (H : Hp) : evBuildSlice Tryd.prog 28 1 [(0, .int .i64 n)] H = some (.slice H.length 0 1 (.ex 1), H ++ [.cells [.int .i64 n] 3 .rw]) := by
  simp only [evBuildSlice, tsh_28, tzero_3, Option.bind_some]
  rfl

set_option maxRecDepth 20000 in
theorem name_starts (s : List UInt8) (H) (hs : s.length ≤ maxI) : ∃ b : AV × Hp, (∀ L, nm s = some L → GBuf H.length b.2 b.1 3 1 L.length (posA L)) ∧
    ∀ k, callK Tryd.prog 78 [.str s] H k = k (.tuple [b.1, .bool (nm s).isSome], H ++ b.2, z0) := by
  refine callK_exP (fun b : AV × Hp => ∀ L, nm s = some L → GBuf H.length b.2 b.1 3 1 L.length (posA L)) (fun b => (.tuple [b.1, .bool (nm s).isSome], H ++ b.2, z0)) ?_
  refine callK_start (n := 40) (rs := [.tmp 2, .tmp 3]) Tryd.func78 rfl rfl rfl ?_
  intro σ hl ha
  have h0 := ha 0 (by simp)
  clear ha
  have hs : s.length ≤ 9223372036854775807 := hs
  simp only [Option.getD_some, List.getElem?_cons_zero, List.getElem?_cons_succ] at h0
  by_cases hbig : 255 < s.length
  · have g : decide ((s.length : Int) > 255) = true := by simp; omega
    have hn : nm s = none := if_pos hbig
    simp only [go_sem, simprocAttr, hl, h0, g]
    exact ⟨(.nils, []), by simp [hn], by simp [hn]⟩
  have g : decide ((s.length : Int) > 255) = false := by simp; omega
  have hnm : nm s = lab s := if_neg hbig
  simp only [go_sem, simprocAttr, hl, h0, g]
  rw [hnm]
  refine go_rounds (fun n st => ∃ σ i L1 v T e, n + i = 400 ∧ i < 320 ∧ i = tot L1 ∧ ((i ≤ s.length ∧ lab s = (lab (s.drop i)).map (L1 ++ ·)) ∨ (s.length < i ∧ lab s = none)) ∧ L1.length ≤ i ∧ GBuf H.length T v 3 1 L1.length (posA L1) ∧ st = ⟨σ, H ++ T, e⟩ ∧ clean H.length e ∧ σ.length = 40 ∧ fr σ 0 = .str s ∧ fr σ 4 = v ∧ fr σ 5 = .int .i64 (i : Nat)) 400
    ⟨_, 0, [], .nils, [], _, rfl, by omega, rfl, .inl ⟨Nat.zero_le _, by simp⟩, Nat.le_refl _, .inl ⟨rfl, rfl, rfl⟩, by rw [List.append_nil], ⟨rfl, rfl⟩, by simp only [go_sem, simprocAttr, hl], by simp only [go_sem, simprocAttr, hl, h0], by simp only [go_sem, simprocAttr, hl], by simp only [go_sem, simprocAttr, hl]⟩ ?_
  rintro n _ ⟨σ, i, L1, v, T, e, hn, hi, hit, hm, hLi, hv, rfl, he, hl, h0, h4, h5⟩
  have fin : ∀ b : Bool, (∀ L, lab s = some L → L = L1 ∧ b = true) → (lab s = none → b = false) →
      ∃ b1 : AV × Hp, (∀ L, lab s = some L → GBuf H.length b1.2 b1.1 3 1 L.length (posA L)) ∧ leave H.length (.tuple [v, .bool b]) (H ++ T) e = (.tuple [b1.1, .bool (lab s).isSome], H ++ b1.2, z0) := by
    intro b hb1 hb2
    have hb : b = (lab s).isSome := by
      cases hs : lab s with
      | none => exact hb2 hs
      | some L => exact (hb1 L hs).2
    subst hb
    obtain ⟨rfl, h2, h3⟩ | ⟨h1, h2, m, rfl, h3⟩ := hv
    · refine ⟨(.nils, []), fun L hL => .inl ?_, ?_⟩
      · obtain ⟨rfl, _⟩ := hb1 L hL
        exact ⟨rfl, h2, h3⟩
      · rw [leave_flat rfl he, List.append_nil]
    · refine ⟨(.slice (H.length + m) 0 L1.length (.op 0), T), fun L hL => .inr ?_, ?_⟩
      · obtain ⟨rfl, _⟩ := hb1 L hL
        exact ⟨h1, h2, m, rfl, h3⟩
      · rw [leave_keep (by simp [flat, flats]) he]
  by_cases hlt : i < s.length
  · obtain ⟨c, hc⟩ : ∃ c, s[i]? = some c := ⟨_, List.getElem?_eq_getElem hlt⟩
    have hlb : lab s = (lab (s.drop i)).map (L1 ++ ·) := by
      rcases hm with ⟨_, h⟩ | ⟨h, _⟩
      · exact h
      · omega
    obtain ⟨s0, s1, s2⟩ := lab_step hc hlb
    have g0 : decide ((i : Int) < (s.length : Int)) = true := by simp; omega
    have hcl := c.toNat_lt
    by_cases hz : c.toNat = 0
    · have g1 : ((c.toNat : Int) != 0) = false := by simp; omega
      have w1 : IntKind.i64.wrap ((s.length : Int) - 1) = (s.length : Int) - 1 := by rw [wrap_i64 (by omega)]
      simp only [go_sem, simprocAttr, hl, h0, h4, h5, g0, hc, hlt, g1, w1]
      refine fin _ (fun L hL => ?_) (fun hL => ?_)
      · rw [s0 hz] at hL
        split at hL
        · rename_i h; cases hL; exact ⟨rfl, by simp; omega⟩
        · cases hL
      · rw [s0 hz] at hL
        split at hL
        · cases hL
        · rename_i h; simp; omega
    · have g1 : ((c.toNat : Int) != 0) = true := by simp; omega
      by_cases hb : 63 < c.toNat
      · have g2 : decide ((c.toNat : Int) > 63) = true := by simp; omega
        have hN := s1 hb
        simp only [go_sem, simprocAttr, hl, h0, h4, h5, g0, hc, hlt, g1, g2, he]
        exact ⟨(.nils, []), by simp [hN], by simp [hN]⟩
      · have g2 : decide ((c.toNat : Int) > 63) = false := by simp; omega
        have w0 : IntKind.i64.wrap (c.toNat : Int) = (c.toNat : Int) := by rw [wrap_i64 (by omega)]
        have w1 : IntKind.i64.wrap (1 + (c.toNat : Int)) = ((1 + c.toNat : Nat) : Int) := by rw [wrap_i64 (by omega)]; omega
        have w2 : IntKind.i64.wrap ((i : Int) + ((1 + c.toNat : Nat) : Int)) = ((i + (1 + c.toNat) : Nat) : Int) := by rw [wrap_i64 (by omega)]; omega
        have hbs := bslice_int (i : Nat)
        obtain ⟨v', T2, e2, happ, _, hcl2, _, hv3, _, _, _⟩ := (hv.more [.cells [.int .i64 (i : Nat)] 3 .rw]).app2 (P := Tryd.prog) (b := 8) (by decide) zok_28 [.int .i64 (i : Nat)] 1 (by decide) rfl rfl (by simp only [fits, decide_eq_true_eq]; omega)
        simp only [go_sem, simprocAttr, hl, h0, h4, h5, g0, hc, hlt, g1, g2, w0, w1, w2, hbs, happ]
        obtain ⟨ll, hll, hm'⟩ : ∃ l : List UInt8, l.length = c.toNat ∧ ((i + (1 + c.toNat) ≤ s.length ∧ lab s = (lab (s.drop (i + (1 + c.toNat)))).map ((L1 ++ [l]) ++ ·)) ∨ (s.length < i + (1 + c.toNat) ∧ lab s = none)) := by
          rcases s2 hz (by omega) with h | ⟨h1, h2, h3⟩
          · exact ⟨List.replicate c.toNat 0, by simp, .inr h⟩
          · exact ⟨_, h2, .inl ⟨h1, h3⟩⟩
        rw [show posA L1 ++ [.int .i64 (i : Nat)] = posA (L1 ++ [ll]) by rw [posA_snoc, hit]] at hv3
        refine ⟨n - (1 + c.toNat), by omega, _, i + (1 + c.toNat), L1 ++ [ll], v', T2, _, by omega, by omega, by rw [tot_snoc, hll, hit], hm', by simp; omega, by simpa using hv3, rfl, by simp only [go_sem, simprocAttr, he, hcl2], by simp only [go_sem, simprocAttr, hl], by simp only [go_sem, simprocAttr, hl, h0], by simp only [go_sem, simprocAttr, hl], by simp only [go_sem, simprocAttr, hl]⟩
  · have g0 : decide ((i : Int) < (s.length : Int)) = false := by simp; omega
    have hN : lab s = none := by
      rcases hm with ⟨h, h'⟩ | ⟨_, h⟩
      · exact lab_end (by omega) h'
      · exact h
    have w1 : IntKind.i64.wrap ((s.length : Int) - 1) = (s.length : Int) - 1 := by rw [wrap_i64 (by omega)]
    simp only [go_sem, simprocAttr, hl, h0, h4, h5, hlt, w1]
    refine fin _ (fun L hL => by rw [hN] at hL; cases hL) (fun _ => by simp; omega)

set_option maxRecDepth 20000 in
theorem name_Check (s : List UInt8) (H k) (hs : s.length ≤ maxI) : callK Tryd.prog 47 [.str s] H k = k (.int .i64 (if (nm s).isSome then 0 else 11), H, z0) := by
  obtain ⟨b, _, hb⟩ := name_starts s H hs
  refine callK_eq (r := (.int .i64 (if (nm s).isSome then 0 else 11), H, z0)) ?_ k
  refine callK_start (n := 12) (rs := [.tmp 2]) Tryd.func47 rfl rfl rfl ?_
  intro σ hl ha
  have h0 := ha 0 (by simp)
  clear ha
  simp only [Option.getD_some, List.getElem?_cons_zero, List.getElem?_cons_succ] at h0
  cases h : (nm s).isSome <;> rw [h] at hb <;> simp only [go_sem, simprocAttr, hl, h0, hb]
end Go.Proofs.YtgkpgpdkolpfkaaDoor.V
namespace Go.Proofs.YtgkpgpdkolpfkaaDoor.V
open Go
set_option linter.unusedSimpArgs false
set_option linter.unusedVariables false
attribute [local irreducible] go goOps goD opK callK callT stepK leaveTo nextK

theorem bslice_str (p : List UInt8) (H : Hp) : evBuildSlice Tryd.prog 64 1 [(0, .str p)] H = some (.slice H.length 0 1 (.ex 1), H ++ [.cells [.str p] 9 .rw]) := by
  simp only [evBuildSlice, tsh_64, tzero_9, Option.bind_some]
  rfl

set_option maxRecDepth 20000 in
theorem ref_Split (s : List UInt8) (H) (hs : s.length ≤ maxI) : ∃ b : AV × Hp, (∀ L, nm s = some L → GBuf H.length b.2 b.1 9 1 L.length (strs L)) ∧
    ∀ k, callK Tryd.prog 77 [.str s] H k = k (.tuple [b.1, .bool (nm s).isSome], H ++ b.2, z0) := by
  refine callK_exP (fun b : AV × Hp => ∀ L, nm s = some L → GBuf H.length b.2 b.1 9 1 L.length (strs L)) (fun b => (.tuple [b.1, .bool (nm s).isSome], H ++ b.2, z0)) ?_
  refine callK_start (n := 43) (rs := [.tmp 2, .tmp 3]) Tryd.func77 rfl rfl rfl ?_
  intro σ hl ha
  have h0 := ha 0 (by simp)
  clear ha
  have hs : s.length ≤ 9223372036854775807 := hs
  simp only [Option.getD_some, List.getElem?_cons_zero, List.getElem?_cons_succ] at h0
  by_cases hbig : 255 < s.length
  · have g : decide ((s.length : Int) > 255) = true := by simp; omega
    have hn : nm s = none := if_pos hbig
    simp only [go_sem, simprocAttr, hl, h0, g]
    exact ⟨(.nils, []), by simp [hn], by simp [hn]⟩
  have g : decide ((s.length : Int) > 255) = false := by simp; omega
  have hnm : nm s = lab s := if_neg hbig
  simp only [go_sem, simprocAttr, hl, h0, g]
  rw [hnm]
  refine go_rounds (fun n st => ∃ σ r L1 v T e, n = r.length + 1 ∧ lab s = (lab r).map (L1 ++ ·) ∧ L1.length + r.length ≤ 255 ∧ GBuf H.length T v 9 1 L1.length (strs L1) ∧ st = ⟨σ, H ++ T, e⟩ ∧ clean H.length e ∧ σ.length = 43 ∧ fr σ 4 = v ∧ fr σ 5 = .str r) (s.length + 1)
    ⟨_, s, [], .nils, [], _, rfl, by simp, by simp; omega, .inl ⟨rfl, rfl, rfl⟩, by rw [List.append_nil], ⟨rfl, rfl⟩, by simp only [go_sem, simprocAttr, hl], by simp only [go_sem, simprocAttr, hl, h0], by simp only [go_sem, simprocAttr, hl]⟩ ?_
  rintro n _ ⟨σ, r, L1, v, T, e, rfl, hm, hLr, hv, rfl, he, hl, h4, h5⟩
  have fin : ∀ b : Bool, (∀ L, lab s = some L → L = L1 ∧ b = true) → (lab s = none → b = false) →
      ∃ b1 : AV × Hp, (∀ L, lab s = some L → GBuf H.length b1.2 b1.1 9 1 L.length (strs L)) ∧ leave H.length (.tuple [v, .bool b]) (H ++ T) e = (.tuple [b1.1, .bool (lab s).isSome], H ++ b1.2, z0) := by
    intro b hb1 hb2
    have hb : b = (lab s).isSome := by
      cases hs : lab s with
      | none => exact hb2 hs
      | some L => exact (hb1 L hs).2
    subst hb
    obtain ⟨rfl, h2, h3⟩ | ⟨h1, h2, m, rfl, h3⟩ := hv
    · refine ⟨(.nils, []), fun L hL => .inl ?_, ?_⟩
      · obtain ⟨rfl, _⟩ := hb1 L hL
        exact ⟨rfl, h2, h3⟩
      · rw [leave_flat rfl he, List.append_nil]
    · refine ⟨(.slice (H.length + m) 0 L1.length (.op 0), T), fun L hL => .inr ?_, ?_⟩
      · obtain ⟨rfl, _⟩ := hb1 L hL
        exact ⟨h1, h2, m, rfl, h3⟩
      · rw [leave_keep (by simp [flat, flats]) he]
  cases r with
  | nil =>
    have hN : lab s = none := by rw [hm, lab_nil]; rfl
    simp only [go_sem, simprocAttr, hl, h4, h5, he]
    exact ⟨(.nils, []), by simp [hN], by simp [hN]⟩
  | cons c t =>
    rw [lab_cons] at hm
    have hcl := c.toNat_lt
    simp only [List.length_cons] at hLr
    have g0 : decide (((t.length + 1 : Nat) : Int) > 0) = true := by simp
    have w0 : IntKind.i64.wrap (c.toNat : Int) = (c.toNat : Int) := by rw [wrap_i64 (by omega)]
    by_cases hz : c.toNat = 0
    · rw [if_pos hz] at hm
      have g1 : ((c.toNat : Int) == 0) = true := by simp; omega
      simp only [go_sem, simprocAttr, hl, h4, h5, g0, w0, g1]
      refine fin _ (fun L hL => ?_) (fun hL => ?_)
      · rw [hm] at hL
        split at hL
        · rename_i h; simp at hL; subst hL; exact ⟨rfl, by simp; omega⟩
        · cases hL
      · rw [hm] at hL
        split at hL
        · cases hL
        · rename_i h; simp; intro h'; apply h; omega
    · rw [if_neg hz] at hm
      have g1 : ((c.toNat : Int) == 0) = false := by simp; omega
      have w1 : IntKind.i64.wrap ((c.toNat : Int) + 1) = ((c.toNat + 1 : Nat) : Int) := by rw [wrap_i64 (by omega)]; omega
      by_cases hb : 63 < c.toNat
      · have g2 : decide ((c.toNat : Int) > 63) = true := by simp; omega
        rw [if_pos (.inl hb)] at hm
        have hN : lab s = none := hm
        simp only [go_sem, simprocAttr, hl, h4, h5, g0, w0, w1, g1, g2, he]
        exact ⟨(.nils, []), by simp [hN], by simp [hN]⟩
      · have g2 : decide ((c.toNat : Int) > 63) = false := by simp; omega
        by_cases hsh : t.length < c.toNat
        · have g3 : decide (t.length + 1 < c.toNat + 1) = true := by simp; omega
          rw [if_pos (.inr hsh)] at hm
          have hN : lab s = none := hm
          simp only [go_sem, simprocAttr, hl, h4, h5, g0, w0, w1, g1, g2, g3, he]
          exact ⟨(.nils, []), by simp [hN], by simp [hN]⟩
        · have g3 : decide (t.length + 1 < c.toNat + 1) = false := by simp; omega
          rw [if_neg (by omega)] at hm
          have b1 : (1 : Int) ≤ ((c.toNat + 1 : Nat) : Int) := by omega
          have b2 : c.toNat + 1 ≤ t.length + 1 := by omega
          have e1 : c.toNat + 1 - 1 = c.toNat := by omega
          have e2 : (t.drop c.toNat).take (t.length - c.toNat) = t.drop c.toNat := List.take_of_length_le (by rw [List.length_drop]; omega)
          have hbs := bslice_str (t.take c.toNat)
          obtain ⟨v', T2, e2', happ, _, hcl2, _, hv3, _, _, _⟩ := (hv.more [.cells [.str (t.take c.toNat)] 9 .rw]).app2 (P := Tryd.prog) (b := 16) (by decide) zok_64 [.str (t.take c.toNat)] 1 (by decide) rfl rfl (by simp only [fits, decide_eq_true_eq]; omega)
          simp only [go_sem, simprocAttr, hl, h4, h5, g0, w0, w1, g1, g2, g3, b1, b2, e1, e2, hbs, happ]
          refine ⟨(t.drop c.toNat).length + 1, by rw [List.length_drop]; omega, _, t.drop c.toNat, L1 ++ [t.take c.toNat], v', T2, _, rfl, ?_, by simp; omega, by simpa [strs] using hv3, rfl, by simp only [go_sem, simprocAttr, he, hcl2], by simp only [go_sem, simprocAttr, hl], by simp only [go_sem, simprocAttr, hl], by simp only [go_sem, simprocAttr, hl]⟩
          rw [hm, Option.map_map]
          congr 1
          funext x
          simp

set_option maxRecDepth 20000 in
theorem ref_Is (s : List UInt8) (H k) (hs : s.length ≤ maxI) : callK Tryd.prog 49 [.str s] H k = k (.bool (nm s).isSome, H, z0) := by
  obtain ⟨b, _, hb⟩ := ref_Split s H hs
  refine callK_eq (r := (.bool (nm s).isSome, H, z0)) ?_ k
  refine callK_start (n := 11) (rs := [.tmp 2]) Tryd.func49 rfl rfl rfl ?_
  intro σ hl ha
  have h0 := ha 0 (by simp)
  clear ha
  simp only [Option.getD_some, List.getElem?_cons_zero, List.getElem?_cons_succ] at h0
  simp only [go_sem, simprocAttr, hl, h0, hb]

/-- A byte, a text in small letters. -/
def lowB (c : UInt8) : UInt8 := if 65 ≤ c.toNat ∧ c.toNat ≤ 90 then c + 32 else c
def lowS (s : List UInt8) : List UInt8 := s.map lowB
theorem lowB_or {c : UInt8} (h : 65 ≤ c.toNat ∧ c.toNat ≤ 90) : IntKind.u8.wrap (BitVec.ofInt 8 (c.toNat : Int) ||| 32#8).toNat = ((lowB c).toNat : Int) := by
  have key : ∀ c : Fin 256, (65 ≤ c.val ∧ c.val ≤ 90) → IntKind.u8.wrap (BitVec.ofInt 8 (c.val : Int) ||| 32#8).toNat = ((lowB (UInt8.ofNat c.val)).toNat : Int) := by decide +kernel
  have := key ⟨c.toNat, c.toNat_lt⟩ h
  simpa using this
theorem lowB_add {c : UInt8} (h : 65 ≤ c.toNat ∧ c.toNat ≤ 90) : IntKind.u8.wrap ((c.toNat : Int) + 32) = ((lowB c).toNat : Int) := by
  have key : ∀ c : Fin 256, (65 ≤ c.val ∧ c.val ≤ 90) → IntKind.u8.wrap ((c.val : Int) + 32) = ((lowB (UInt8.ofNat c.val)).toNat : Int) := by decide +kernel
  have := key ⟨c.toNat, c.toNat_lt⟩ h
  simpa using this
theorem lowB_not {c : UInt8} (h : ¬ (65 ≤ c.toNat ∧ c.toNat ≤ 90)) : lowB c = c := if_neg h

theorem i_orT {kd : IntKind} {a b : Int} : evInt .or kd a b = some (.int kd (kd.wrap (BitVec.ofInt kd.bits a ||| BitVec.ofInt kd.bits b).toNat)) := rfl

set_option maxRecDepth 20000 in
theorem name_low (c : UInt8) (H k) : callK Tryd.prog 79 [.int .u8 c.toNat] H k = k (.int .u8 (lowB c).toNat, H, z0) := by
  refine callK_eq (r := (.int .u8 (lowB c).toNat, H, z0)) ?_ k
  refine callK_start (n := 12) (rs := [.tmp 2]) Tryd.func79 rfl rfl rfl ?_
  intro σ hl ha
  have h0 := ha 0 (by simp)
  clear ha
  simp only [Option.getD_some, List.getElem?_cons_zero, List.getElem?_cons_succ] at h0
  have hcl := c.toNat_lt
  by_cases h1 : 65 ≤ c.toNat
  · have g1 : decide ((65 : Int) ≤ (c.toNat : Int)) = true := by simp; omega
    by_cases h2 : c.toNat ≤ 90
    · have g2 : decide ((c.toNat : Int) ≤ 90) = true := by simp; omega
      have hor := lowB_or ⟨h1, h2⟩
      simp only [go_sem, simprocAttr, hl, h0, g1, g2, i_orT]
      exact congrArg (fun n => (AV.int .u8 n, H, z0)) hor
    · have g2 : decide ((c.toNat : Int) ≤ 90) = false := by simp; omega
      have hno := lowB_not (c := c) (by omega)
      simp only [go_sem, simprocAttr, hl, h0, g1, g2, hno]
  · have g1 : decide ((65 : Int) ≤ (c.toNat : Int)) = false := by simp; omega
    have hno := lowB_not (c := c) (by omega)
    simp only [go_sem, simprocAttr, hl, h0, g1, hno]

theorem u8s_at {s : List UInt8} {i : Nat} {c : UInt8} (h : s[i]? = some c) : (u8s s)[i]? = some (.int .u8 c.toNat) := by simp [u8s, h]
theorem u8s_ld {s : List UInt8} {i n : Nat} {c : UInt8} {e : TypeId} {k : Kd} (h : s[i]? = some c) : ldC i n false (.cells (u8s s) e k) = some (.int .u8 c.toNat) := u8s_at h
theorem u8s_st {s : List UInt8} {i : Nat} {c d : UInt8} (h : s[i]? = some c) : splice (u8s s) i [.int .u8 d.toNat] = u8s (s.set i d) := by
  have hi : i < s.length := (List.getElem?_eq_some_iff.1 h).1
  unfold splice u8s
  rw [List.set_eq_take_append_cons_drop, if_pos hi]
  simp [List.map_take, List.map_drop]
/-- Small letters up to a place. -/
def lowTo (i : Nat) (s : List UInt8) : List UInt8 := lowS (s.take i) ++ s.drop i
theorem lowTo_len (i : Nat) (s : List UInt8) : (lowTo i s).length = s.length := by simp [lowTo, lowS]; omega
theorem lowTo_at {i : Nat} {s : List UInt8} {c : UInt8} (h : s[i]? = some c) : (lowTo i s)[i]? = some c := by
  have hi : i < s.length := (List.getElem?_eq_some_iff.1 h).1
  unfold lowTo lowS
  rw [List.getElem?_append_right (by simp; omega)]
  simp; rw [show min i s.length = i by omega, Nat.sub_self, Nat.add_zero]; exact h
theorem take_snocN {s : List UInt8} {i : Nat} {c : UInt8} (h : s[i]? = some c) : s.take (i + 1) = s.take i ++ [c] := take_snoc h
theorem lowTo_step {i : Nat} {s : List UInt8} {c : UInt8} (h : s[i]? = some c) : (lowTo i s).set i (lowB c) = lowTo (i + 1) s := by
  have hi : i < s.length := (List.getElem?_eq_some_iff.1 h).1
  unfold lowTo lowS
  rw [take_snoc h, drop_at h, List.map_append]
  have hl : (List.map lowB (s.take i)).length = i := by simp; omega
  rw [List.set_append_right _ _ (by omega), hl, Nat.sub_self]
  simp
theorem lowTo_same {i : Nat} {s : List UInt8} {c : UInt8} (h : s[i]? = some c) (hc : lowB c = c) : lowTo i s = lowTo (i + 1) s := by
  unfold lowTo lowS
  rw [take_snoc h, drop_at h, List.map_append]
  simp [hc]
theorem lowTo_end {i : Nat} {s : List UInt8} (h : s.length ≤ i) : lowTo i s = lowS s := by
  unfold lowTo
  rw [List.take_of_length_le h, List.drop_eq_nil_of_le h, List.append_nil]
theorem rdC_u8s {s : List UInt8} {e : TypeId} {k : Kd} {n : Nat} (h : s.length = n) : rdC 0 n (.cells (u8s s) e k) = some (u8s s) := by
  rw [rdC_c, if_pos (by rw [u8s_len]; omega), List.drop_zero, List.take_of_length_le (by rw [u8s_len]; omega)]
theorem u8s_fold (s : List UInt8) : (s.map fun b => AV.int .u8 (b.toNat : Int)) = u8s s := rfl

set_option maxRecDepth 20000 in
theorem name_Fold (s : List UInt8) (H k) (hs : s.length ≤ maxI) : callK Tryd.prog 50 [.str s] H k = k (.str (lowS s), H, z0) := by
  refine callK_eq (r := (.str (lowS s), H, z0)) ?_ k
  refine callK_start (n := 23) (rs := [.tmp 2]) Tryd.func50 rfl rfl rfl ?_
  intro σ hl ha
  have h0 := ha 0 (by simp)
  clear ha
  have hs : s.length ≤ 9223372036854775807 := hs
  simp only [Option.getD_some, List.getElem?_cons_zero, List.getElem?_cons_succ] at h0
  simp only [go_sem, simprocAttr, hl, h0, u8s_fold]
  refine go_rounds (fun n st => ∃ σ i e, n + i = s.length ∧ st = ⟨σ, H ++ [.cells (u8s (lowTo i s)) 5 (.op 0 true)], e⟩ ∧ clean H.length e ∧ σ.length = 23 ∧ fr σ 3 = .slice H.length 0 s.length (.op 0) ∧ fr σ 8 = .slice H.length 0 s.length (.op 0) ∧ fr σ 9 = .int .i64 (s.length : Nat) ∧ fr σ 10 = .int .i64 (i : Nat)) s.length
    ⟨_, 0, _, rfl, rfl, ⟨rfl, rfl⟩, by simp only [go_sem, simprocAttr, hl], by simp only [go_sem, simprocAttr, hl], by simp only [go_sem, simprocAttr, hl], by simp only [go_sem, simprocAttr, hl], by simp only [go_sem, simprocAttr, hl]⟩ ?_
  rintro n _ ⟨σ, i, e, hn, rfl, he, hl, h3, h8, h9, h10⟩
  by_cases hlt : i < s.length
  · obtain ⟨c, hc⟩ : ∃ c, s[i]? = some c := ⟨_, List.getElem?_eq_getElem hlt⟩
    have hw := wrap_succ (show i < 9223372036854775807 by omega)
    have hlo := fun H k => name_low c H k
    have hla := lowTo_at hc
    have hld := fun (e : TypeId) (k : Kd) => u8s_ld (n := 1) (e := e) (k := k) hla
    have hst := u8s_st (d := lowB c) hla
    rw [lowTo_step hc] at hst
    have hle : i + 1 ≤ (lowTo i s).length := by rw [lowTo_len]; omega
    simp only [go_sem, simprocAttr, hl, h3, h8, h9, h10, hlt, hw, hlo, hld, hst, hle, u8s_len, canWr]
    exact ⟨n - 1, by omega, _, i + 1, _, by omega, rfl, by simp only [go_sem, simprocAttr, he], by simp only [go_sem, simprocAttr, hl], by simp only [go_sem, simprocAttr, hl, h3], by simp only [go_sem, simprocAttr, hl, h8], by simp only [go_sem, simprocAttr, hl, h9], by simp only [go_sem, simprocAttr, hl]⟩
  · have hend := lowTo_end (s := s) (i := i) (by omega)
    have hrd := fun (e : TypeId) (k : Kd) => rdC_u8s (s := lowS s) (e := e) (k := k) (n := s.length) (by simp [lowS])
    have hcv := conv_u8s (lowS s)
    simp only [go_sem, simprocAttr, hl, h3, h8, h9, h10, hlt, hend, hrd, hcv, he]

set_option maxRecDepth 20000 in
theorem ref_Low (s : List UInt8) (H k) (hs : s.length ≤ maxI) : callK Tryd.prog 61 [.str s] H k = k (.str (lowS s), H, z0) := by
  refine callK_eq (r := (.str (lowS s), H, z0)) ?_ k
  refine callK_start (n := 35) (rs := [.tmp 2]) Tryd.func61 rfl rfl rfl ?_
  intro σ hl ha
  have h0 := ha 0 (by simp)
  clear ha
  have hs : s.length ≤ 9223372036854775807 := hs
  simp only [Option.getD_some, List.getElem?_cons_zero, List.getElem?_cons_succ] at h0
  simp only [go_sem, simprocAttr, hl, h0, u8s_fold]
  refine go_rounds (fun n st => ∃ σ i e, n + i = s.length ∧ st = ⟨σ, H ++ [.cells (u8s (lowTo i s)) 5 (.op 0 true)], e⟩ ∧ clean H.length e ∧ σ.length = 35 ∧ fr σ 3 = .slice H.length 0 s.length (.op 0) ∧ fr σ 4 = .int .i64 (i : Nat)) s.length
    ⟨_, 0, _, rfl, rfl, ⟨rfl, rfl⟩, by simp only [go_sem, simprocAttr, hl], by simp only [go_sem, simprocAttr, hl], by simp only [go_sem, simprocAttr, hl]⟩ ?_
  rintro n _ ⟨σ, i, e, hn, rfl, he, hl, h3, h4⟩
  by_cases hlt : i < s.length
  · obtain ⟨c, hc⟩ : ∃ c, s[i]? = some c := ⟨_, List.getElem?_eq_getElem hlt⟩
    have hw := wrap_succ (show i < 9223372036854775807 by omega)
    have hla := lowTo_at hc
    have hld := fun (e : TypeId) (k : Kd) => u8s_ld (n := 1) (e := e) (k := k) hla
    have hst := u8s_st (d := lowB c) hla
    rw [lowTo_step hc] at hst
    have hle : i + 1 ≤ (lowTo i s).length := by rw [lowTo_len]; omega
    by_cases h1 : 65 ≤ c.toNat ∧ c.toNat ≤ 90
    · have g1 : decide ((c.toNat : Int) ≥ 65) = true := by simp; omega
      have g2 : decide ((c.toNat : Int) ≤ 90) = true := by simp; omega
      have had := lowB_add h1
      simp only [go_sem, simprocAttr, hl, h3, h4, hlt, hw, hld, hst, hle, u8s_len, canWr, g1, g2, had]
      exact ⟨n - 1, by omega, _, i + 1, _, by omega, rfl, by simp only [go_sem, simprocAttr, he], by simp only [go_sem, simprocAttr, hl], by simp only [go_sem, simprocAttr, hl, h3], by simp only [go_sem, simprocAttr, hl]⟩
    · have hsame := lowTo_same hc (lowB_not h1)
      by_cases h2 : 65 ≤ c.toNat
      · have g1 : decide ((c.toNat : Int) ≥ 65) = true := by simp; omega
        have g2 : decide ((c.toNat : Int) ≤ 90) = false := by simp; omega
        simp only [go_sem, simprocAttr, hl, h3, h4, hlt, hw, hld, hle, u8s_len, canWr, g1, g2]
        exact ⟨n - 1, by omega, _, i + 1, _, by omega, by rw [hsame], he, by simp only [go_sem, simprocAttr, hl], by simp only [go_sem, simprocAttr, hl, h3], by simp only [go_sem, simprocAttr, hl]⟩
      · have g1 : decide ((c.toNat : Int) ≥ 65) = false := by simp; omega
        simp only [go_sem, simprocAttr, hl, h3, h4, hlt, hw, hld, hle, u8s_len, canWr, g1]
        exact ⟨n - 1, by omega, _, i + 1, _, by omega, by rw [hsame], he, by simp only [go_sem, simprocAttr, hl], by simp only [go_sem, simprocAttr, hl, h3], by simp only [go_sem, simprocAttr, hl]⟩
  · have hend := lowTo_end (s := s) (i := i) (by omega)
    have hrd := fun (e : TypeId) (k : Kd) => rdC_u8s (s := lowS s) (e := e) (k := k) (n := s.length) (by simp [lowS])
    have hcv := conv_u8s (lowS s)
    simp only [go_sem, simprocAttr, hl, h3, h4, hlt, hend, hrd, hcv, he]

set_option maxRecDepth 20000 in
theorem ref_Fold (s : List UInt8) (H k) (hs : s.length ≤ maxI) : callK Tryd.prog 51 [.str s] H k = k (.str (lowS s), H, z0) := by
  refine callK_eq (r := (.str (lowS s), H, z0)) ?_ k
  refine callK_start (n := 5) (rs := [.tmp 2]) Tryd.func51 rfl rfl rfl ?_
  intro σ hl ha
  have h0 := ha 0 (by simp)
  clear ha
  simp only [Option.getD_some, List.getElem?_cons_zero, List.getElem?_cons_succ] at h0
  have hlo := fun H k => ref_Low s H k hs
  simp only [go_sem, simprocAttr, hl, h0, hlo]
end Go.Proofs.YtgkpgpdkolpfkaaDoor.V
namespace Go.Proofs.YtgkpgpdkolpfkaaDoor.V
open Go
set_option linter.unusedSimpArgs false
set_option linter.unusedVariables false
attribute [local irreducible] go goOps goD opK callK callT stepK leaveTo nextK

/-- A slice that reads as bytes. -/
def Rd (H : Hp) (v : AV) (bs : List UInt8) : Prop := (v = .nils ∧ bs = []) ∨
  ∃ b o c pre post e k, v = .slice b o bs.length c ∧ pre.length = o ∧ H[b]? = some (.cells (pre ++ (u8s bs ++ post)) e k) ∧ ((∃ n, c = .ex n ∧ bs.length ≤ n) ∨ (c = .op o ∧ e = 5 ∧ ∃ fz st, k = .op fz st))
/-- Or one that is empty and lies anywhere. -/
def Rv (H : Hp) (v : AV) (bs : List UInt8) : Prop := Rd H v bs ∨ ∃ b, v = .slice b 0 0 (.op 0) ∧ H[b]? = some .void ∧ bs = []
theorem Rd.old {H : Hp} {v : AV} {bs : List UInt8} (h : Rd H v bs) (l : Hp) : Rd (H ++ l) v bs := by
  obtain h | ⟨b, o, c, pre, post, e, k, h1, h2, h3, h4⟩ := h
  · exact .inl h
  · exact .inr ⟨b, o, c, pre, post, e, k, h1, h2, hp_old h3, h4⟩
theorem Rv.old {H : Hp} {v : AV} {bs : List UInt8} (h : Rv H v bs) (l : Hp) : Rv (H ++ l) v bs := by
  obtain h | ⟨b, h1, h2, h3⟩ := h
  · exact .inl (h.old l)
  · exact .inr ⟨b, h1, hp_old h2, h3⟩
theorem Rd.v {H : Hp} {v : AV} {bs : List UInt8} (h : Rd H v bs) : Rv H v bs := .inl h
theorem Rd.scl {H : Hp} {v : AV} {bs : List UInt8} (h : Rd H v bs) : scal v = true := by
  obtain ⟨rfl, rfl⟩ | ⟨b, o, c, pre, post, e, k, rfl, h2, h3, h4⟩ := h <;> rfl
theorem Rv.len {H : Hp} {v : AV} {bs : List UInt8} (h : Rv H v bs) (H' : Hp) : evLen Tryd.prog 31 v H' = some (.int .i64 bs.length) := by
  obtain (⟨rfl, rfl⟩ | ⟨b, o, c, pre, post, e, k, rfl, h2, h3, h4⟩) | ⟨b, rfl, h2, rfl⟩ := h <;> simp only [evLen, tsh_31] <;> rfl
theorem Rv.at {H : Hp} {v : AV} {bs : List UInt8} (h : Rv H v bs) {i : Nat} {c : UInt8} (hc : bs[i]? = some c) :
    ∃ b j row e k, evIndexAddr Tryd.prog 31 v (.int .i64 (i : Nat)) = some (.ptr b j) ∧ (∀ l : Hp, (H ++ l)[b]? = some (.cells row e k)) ∧ H[b]? = some (.cells row e k) ∧ ldC j 1 false (.cells row e k) = some (.int .u8 c.toNat) := by
  have hi : i < bs.length := (List.getElem?_eq_some_iff.1 hc).1
  obtain (⟨rfl, rfl⟩ | ⟨b, o, cc, pre, post, e, k, rfl, h2, h3, h4⟩) | ⟨b, rfl, h2, rfl⟩ := h
  · simp at hi
  · refine ⟨b, o + i, _, e, k, ?_, fun l => hp_old h3, h3, ?_⟩
    · simp only [evIndexAddr, tsh_31]
      rw [if_pos (by omega)]
      simp
    · rw [ldC_f, ← h2, List.getElem?_append_right (by omega), Nat.add_sub_cancel_left, List.getElem?_append_left (by rw [u8s_len]; exact hi)]
      exact u8s_at hc
  · simp at hi
theorem u8s_mid {pre post : List AV} {bs : List UInt8} {lo hi : Nat} (h1 : lo ≤ hi) (h2 : hi ≤ bs.length) : pre ++ (u8s bs ++ post) = (pre ++ u8s (bs.take lo)) ++ (u8s ((bs.drop lo).take (hi - lo)) ++ (u8s (bs.drop hi) ++ post)) := by
  have : bs = bs.take lo ++ ((bs.drop lo).take (hi - lo) ++ bs.drop hi) := by
    have e : bs.drop hi = (bs.drop lo).drop (hi - lo) := by rw [List.drop_drop]; congr 1; omega
    rw [e, List.take_append_drop, List.take_append_drop]
  conv => lhs; rw [this]
  simp only [u8s_app, List.append_assoc]
theorem Rd.sl {H : Hp} {v : AV} {bs : List UInt8} (h : Rd H v bs) {lo hi : Nat} (h1 : lo ≤ hi) (h2 : hi ≤ bs.length) :
    ∃ y L, (∀ kk, slK Tryd.prog 31 v (some (.int .i64 (lo : Nat))) (some (.int .i64 (hi : Nat))) none H kk = kk (y, H ++ L, z0)) ∧ Rv (H ++ L) y ((bs.drop lo).take (hi - lo)) := by
  have b1 : (0 : Int) ≤ (hi : Nat) := by omega
  have b2 : (0 : Int) ≤ (lo : Nat) := by omega
  have b3 : ((lo : Nat) : Int) ≤ (hi : Nat) := by omega
  obtain ⟨rfl, rfl⟩ | ⟨b, o, c, pre, post, e, k, rfl, ho, hb, hc⟩ := h
  · have : hi = 0 := by simpa using h2
    subst this
    have : lo = 0 := by omega
    subst this
    refine ⟨.nils, [], fun kk => ?_, .inl (.inl ⟨rfl, rfl⟩)⟩
    simp only [go_sem, simprocAttr, List.append_nil]
  · have hmid := u8s_mid (pre := pre) (post := post) h1 h2
    have hlen : ((bs.drop lo).take (hi - lo)).length = hi - lo := by rw [List.length_take, List.length_drop]; omega
    have hpl : (pre ++ u8s (bs.take lo)).length = o + lo := by rw [List.length_append, u8s_len, List.length_take, ho]; omega
    have hrow : (pre ++ (u8s bs ++ post)).length = o + (bs.length + post.length) := by rw [List.length_append, List.length_append, u8s_len, ho]
    have hb0 := hb
    rw [hmid] at hb
    obtain ⟨n, rfl, hn⟩ | ⟨rfl, rfl, fz, st, rfl⟩ := hc
    · have c1 : hi ≤ n := by omega
      by_cases hq : n = lo
      · refine ⟨.slice b o (hi - lo) (.ex (n - lo)), [], fun kk => ?_, .inl (.inr ⟨b, o, _, pre, u8s (bs.take lo) ++ (u8s (bs.drop hi) ++ post), e, k, by rw [hlen], ho, ?_, .inl ⟨_, rfl, by rw [hlen]; omega⟩⟩)⟩
        · simp only [go_sem, simprocAttr, b1, b2, b3, c1, hq, List.append_nil]
          simp [show lo ≤ hi from h1, show hi ≤ lo by omega]
        · have : (bs.drop lo).take (hi - lo) = [] := by rw [show hi - lo = 0 by omega, List.take_zero]
          rw [this] at hb ⊢
          simpa [u8s] using hb
      · refine ⟨.slice b (o + lo) (hi - lo) (.ex (n - lo)), [], fun kk => ?_, .inl (.inr ⟨b, o + lo, _, pre ++ u8s (bs.take lo), u8s (bs.drop hi) ++ post, e, k, by rw [hlen], hpl, by rw [List.append_nil]; exact hb, .inl ⟨_, rfl, by rw [hlen]; omega⟩⟩)⟩
        simp only [go_sem, simprocAttr, b1, b2, b3, c1, hq, List.append_nil]
    · have hrule : ∀ kk, slK Tryd.prog 31 (.slice b o bs.length (.op o)) (some (.int .i64 (lo : Nat))) (some (.int .i64 (hi : Nat))) none H kk = guardK (.bool (decide (lo = 0 ∨ lo < bs.length + post.length))) true (kk (.slice b (o + lo) (hi - lo) (.op (o + lo)), H, z0)) (lo = hi ∧ kk (.slice H.length 0 0 (.op 0), H ++ [.void], z0)) := by
        intro kk
        rw [slK_op (by rw [tsh_31]; rfl), tsh_31, bindK_some, hb0, bindK_some, knC_c, if_pos ⟨rfl, by decide, by omega⟩, bindK_some, bnd_lh, hrow, Nat.div_one, Nat.add_sub_cancel_left]
        simp only [Int.toNat_natCast, shZ_s, Nat.mul_one]
        have q1 : ((0 : Int) ≤ (hi : Nat) ∧ ((hi : Nat) : Int) ≤ ((bs.length + post.length : Nat) : Int)) = True := eq_true ⟨b1, by omega⟩
        have q2 : ((0 : Int) ≤ (lo : Nat) ∧ ((lo : Nat) : Int) ≤ ((hi : Nat) : Int)) = True := eq_true ⟨b2, b3⟩
        rw [q1, q2, true_and, true_and, show o + lo * 1 = o + lo by omega]
      by_cases hq : lo = 0 ∨ lo < bs.length + post.length
      · refine ⟨.slice b (o + lo) (hi - lo) (.op (o + lo)), [], fun kk => ?_, .inl (.inr ⟨b, o + lo, _, pre ++ u8s (bs.take lo), u8s (bs.drop hi) ++ post, _, _, by rw [hlen], hpl, by rw [List.append_nil]; exact hb, .inr ⟨rfl, rfl, fz, st, rfl⟩⟩)⟩
        rw [hrule, decide_eq_true hq, guardK_tt, List.append_nil]
      · refine ⟨.slice H.length 0 0 (.op 0), [.void], fun kk => ?_, .inr ⟨H.length, rfl, by simp, ?_⟩⟩
        · rw [hrule, decide_eq_false hq, guardK_ft]
          simp only [show lo = hi by omega, true_and]
        · rw [show hi - lo = 0 by omega, List.take_zero]
theorem bytesOf_u8s (s : List UInt8) : evConv.bytesOf (u8s s) = some s := conv_u8s s
theorem Rv.rd {H : Hp} {v : AV} {bs : List UInt8} (h : Rv H v bs) : v = .nils ∧ bs = [] ∨ ∃ b o c, v = .slice b o bs.length c ∧ rd H b o bs.length = some (u8s bs) := by
  obtain (⟨rfl, rfl⟩ | ⟨b, o, c, pre, post, e, k, rfl, h2, h3, h4⟩) | ⟨b, rfl, h2, rfl⟩ := h
  · exact .inl ⟨rfl, rfl⟩
  · refine .inr ⟨b, o, c, rfl, ?_⟩
    unfold V.rd
    rw [h3]
    show (if _ then _ else _) = _
    rw [if_pos (by rw [List.length_append, List.length_append, u8s_len]; omega), ← h2, List.drop_left, List.take_left' (by rw [u8s_len])]
  · refine .inr ⟨b, 0, .op 0, rfl, ?_⟩
    unfold V.rd
    rw [h2]
    rfl
theorem Rv.str {H : Hp} {v : AV} {bs : List UInt8} (h : Rv H v bs) : evConv Tryd.prog 31 9 v H = some (.str bs, H) := by
  obtain ⟨rfl, rfl⟩ | ⟨b, o, c, rfl, hr⟩ := h.rd
  · exact conv_31_9n
  · rw [conv_31_9, hr, Option.bind_some, bytesOf_u8s]; rfl

/-! ### octet -/
set_option maxRecDepth 20000 in
theorem size8 (H k) : callK Tryd.prog 108 [] H k = k (.int .i64 1, H, z0) := by
  refine callK_eq (r := (.int .i64 1, H, z0)) ?_ k
  refine callK_start (n := 19) (rs := [.tmp 0]) Tryd.func108 rfl rfl rfl ?_
  intro σ hl ha
  clear ha
  have w2 : IntKind.u8.wrap 0 = 0 := by decide
  have w3 : IntKind.u8.wrap (-1) = 255 := by decide
  have w4 : IntKind.u32.wrap 255 = 255 := by decide
  have g1 : decide ((255 : Int).fdiv (2 ^ min 7 32) > 1) = false := by decide
  simp only [go_sem, simprocAttr, hl, w2, w3]
  rw [go_loop]
  simp only [go_sem, simprocAttr, hl, w2, w3, w4, g1]

/-- What lies at a place: a byte, and where the next one lies; an error. -/
def tk8 (bs : List UInt8) (at_ : Nat) : Nat × Nat × Nat := if bs.length < at_ then (0, 0, 1) else match bs[at_]? with | some c => (c.toNat, at_ + 1, 0) | none => (0, 0, 6)
set_option maxRecDepth 20000 in
theorem take8 (bs : List UInt8) (a : Nat) (H k) (v : AV) (hv : Rd H v bs) (hn : bs.length ≤ 4611686018427387904) (ha' : a ≤ 4611686018427387904) :
    callK Tryd.prog 94 [v, .int .i64 (a : Nat)] H k = k (.tuple [.int .u8 ((tk8 bs a).1 : Nat), .int .i64 ((tk8 bs a).2.1 : Nat), .int .i64 ((tk8 bs a).2.2 : Nat)], H, z0) := by
  refine callK_eq (r := (.tuple [.int .u8 ((tk8 bs a).1 : Nat), .int .i64 ((tk8 bs a).2.1 : Nat), .int .i64 ((tk8 bs a).2.2 : Nat)], H, z0)) ?_ k
  refine callK_start (n := 50) (rs := [.tmp 4, .tmp 5, .tmp 6]) Tryd.func94 rfl rfl rfl ?_
  intro σ hl ha
  have h0 := ha 0 (by simp)
  have h1 := ha 1 (by simp)
  clear ha
  simp only [Option.getD_some, List.getElem?_cons_zero, List.getElem?_cons_succ] at h0 h1
  have hs := fun H k => size8 H k
  have hlen := fun H' => hv.v.len H'
  have g0 : decide ((a : Int) < 0) = false := by simp
  by_cases hbig : bs.length < a
  · have ht : tk8 bs a = (0, 0, 1) := if_pos hbig
    simp only [go_sem, simprocAttr, hl, h0, h1, hs, hlen, g0, hbig, ht, gt_iff_lt]
  · have w1 : IntKind.i64.wrap ((bs.length : Int) - (a : Int)) = ((bs.length - a : Nat) : Int) := by rw [wrap_i64 (by omega)]; omega
    cases hc : bs[a]? with
    | none =>
      have ht : tk8 bs a = (0, 0, 6) := by unfold tk8; rw [if_neg hbig, hc]
      have hl' : bs.length ≤ a := by simpa using hc
      have g2 : decide (((bs.length - a : Nat) : Int) < 1) = true := by simp; omega
      simp only [go_sem, simprocAttr, hl, h0, h1, hs, hlen, g0, hbig, w1, g2, ht]
    | some c =>
      have ht : tk8 bs a = (c.toNat, a + 1, 0) := by unfold tk8; rw [if_neg hbig, hc]
      have hlt : a < bs.length := (List.getElem?_eq_some_iff.1 hc).1
      have g2 : decide (((bs.length - a : Nat) : Int) < 1) = false := by simp; omega
      have w2 : IntKind.i64.wrap ((a : Int) + 1) = ((a + 1 : Nat) : Int) := by rw [wrap_i64 (by omega)]; omega
      obtain ⟨y, L, hsl, hy⟩ := hv.sl (lo := a) (hi := a + 1) (by omega) (by omega)
      have hy1 : (bs.drop a).take (a + 1 - a) = [c] := by rw [Nat.add_sub_cancel_left, drop_at hc]; rfl
      rw [hy1] at hy
      have hylen := fun H' => hy.len H'
      obtain ⟨b, j, row, e, kd, hix, hg, hg0, hld⟩ := hy.at (i := 0) (c := c) rfl
      have hix : evIndexAddr Tryd.prog 31 y (.int .i64 0) = some (.ptr b j) := hix
      have g3 : decide ((0 : Int) < ((([c] : List UInt8).length : Nat) : Int)) = true := by simp
      have hcl := c.toNat_lt
      have w3 : IntKind.u32.wrap (c.toNat : Int) = (c.toNat : Int) := wrap_u32 (by omega)
      have w4 : IntKind.u8.wrap (c.toNat : Int) = (c.toNat : Int) := wrap_u8 (by omega)
      have w5 : IntKind.u32.wrap (BitVec.ofInt 32 0 ||| BitVec.ofInt 32 (c.toNat : Int)).toNat = (c.toNat : Int) := by
        have : (BitVec.ofInt 32 0 ||| BitVec.ofInt 32 (c.toNat : Int)).toNat = c.toNat := by
          simp [BitVec.ofInt_natCast]
        rw [this]; exact w3
      simp only [go_sem, simprocAttr, hl, h0, h1, hs, hlen, g0, hbig, w1, g2, w2, hsl, hylen, ht]
      rw [go_loop]
      have w6 : IntKind.u32.wrap 0 = 0 := rfl
      simp only [go_sem, simprocAttr, hl, g3, hix, hg, hg0, hld, w3, i_orT]
      rw [go_loop]
      simp only [go_sem, simprocAttr, hl, hs, h1, w2, w6, ht]
      refine congrArg (fun n => (AV.tuple [AV.int IntKind.u8 n, AV.int IntKind.i64 ((a + 1 : Nat) : Int), AV.int IntKind.i64 0], H, z0)) ?_
      show IntKind.u8.wrap (IntKind.u32.wrap (BitVec.ofInt 32 0 ||| BitVec.ofInt 32 (c.toNat : Int)).toNat) = (c.toNat : Int)
      rw [w5, w4]
end Go.Proofs.YtgkpgpdkolpfkaaDoor.V
namespace Go.Proofs.YtgkpgpdkolpfkaaDoor.V
open Go
set_option linter.unusedSimpArgs false
set_option linter.unusedVariables false
attribute [local irreducible] go goOps goD opK callK callT stepK leaveTo nextK

def tkText (bs : List UInt8) (a : Nat) : List UInt8 × Nat × Nat :=
  if bs.length < a then ([], 0, 1) else match bs[a]? with
    | some c => if bs.length - (a + 1) < c.toNat then ([], 0, 6) else ((bs.drop (a + 1)).take c.toNat, a + (1 + c.toNat), 0)
    | none => ([], 0, 6)

set_option maxRecDepth 20000 in
theorem takeText (bs : List UInt8) (a : Nat) (H k) (v : AV) (hv : Rd H v bs) (hn : bs.length ≤ 4611686018427387904) (ha' : a ≤ 4611686018427387904) :
    callK Tryd.prog 73 [v, .int .i64 (a : Nat)] H k = k (.tuple [.str (tkText bs a).1, .int .i64 ((tkText bs a).2.1 : Nat), .int .i64 ((tkText bs a).2.2 : Nat)], H, z0) := by
  refine callK_eq (r := (.tuple [.str (tkText bs a).1, .int .i64 ((tkText bs a).2.1 : Nat), .int .i64 ((tkText bs a).2.2 : Nat)], H, z0)) ?_ k
  refine callK_start (n := 42) (rs := [.tmp 4, .tmp 5, .tmp 6]) Tryd.func73 rfl rfl rfl ?_
  intro σ hl ha
  have h0 := ha 0 (by simp)
  have h1 := ha 1 (by simp)
  clear ha
  simp only [Option.getD_some, List.getElem?_cons_zero, List.getElem?_cons_succ] at h0 h1
  have hs := fun H' (h : Rd H' v bs) k => take8 bs a H' k v h hn ha'
  have hs := fun k => hs H hv k
  have hlen := fun H' => hv.v.len H'
  by_cases hbig : bs.length < a
  · have ht : tkText bs a = ([], 0, 1) := if_pos hbig
    have h8 : tk8 bs a = (0, 0, 1) := if_pos hbig
    rw [h8] at hs
    simp only [go_sem, simprocAttr, hl, h0, h1, hs, ht, Int.natCast_one]
  · cases hc : bs[a]? with
    | none =>
      have ht : tkText bs a = ([], 0, 6) := by unfold tkText; rw [if_neg hbig, hc]
      have h8 : tk8 bs a = (0, 0, 6) := by unfold tk8; rw [if_neg hbig, hc]
      rw [h8] at hs
      simp only [go_sem, simprocAttr, hl, h0, h1, hs, ht]
    | some c =>
      have h8 : tk8 bs a = (c.toNat, a + 1, 0) := by unfold tk8; rw [if_neg hbig, hc]
      rw [h8] at hs
      have hlt : a < bs.length := (List.getElem?_eq_some_iff.1 hc).1
      have hcl := c.toNat_lt
      have w0 : IntKind.i64.wrap (c.toNat : Int) = (c.toNat : Int) := by rw [wrap_i64 (by omega)]
      have w1 : IntKind.i64.wrap ((bs.length : Int) - ((a + 1 : Nat) : Int)) = ((bs.length - (a + 1) : Nat) : Int) := by rw [wrap_i64 (by omega)]; omega
      by_cases hsh : bs.length - (a + 1) < c.toNat
      · have ht : tkText bs a = ([], 0, 6) := by unfold tkText; rw [if_neg hbig, hc]; exact if_pos hsh
        simp only [go_sem, simprocAttr, hl, h0, h1, hs, hlen, w0, w1, hsh, ht]
      · have ht : tkText bs a = ((bs.drop (a + 1)).take c.toNat, a + (1 + c.toNat), 0) := by unfold tkText; rw [if_neg hbig, hc]; exact if_neg hsh
        have w2 : IntKind.i64.wrap (((a + 1 : Nat) : Int) + (c.toNat : Int)) = ((a + (1 + c.toNat) : Nat) : Int) := by rw [wrap_i64 (by omega)]; omega
        obtain ⟨y, L, hsl, hy⟩ := hv.sl (lo := a + 1) (hi := a + (1 + c.toNat)) (by omega) (by omega)
        rw [show a + (1 + c.toNat) - (a + 1) = c.toNat by omega] at hy
        have hstr := hy.str
        simp only [go_sem, simprocAttr, hl, h0, h1, hs, hlen, w0, w1, w2, hsh, hsl, hstr, ht]

/-- The short texts that bytes come to. -/
def txF : Nat → List UInt8 → Option (List (List UInt8))
  | 0, _ => none
  | _ + 1, [] => some []
  | n + 1, c :: t => if t.length < c.toNat then none else (txF n (t.drop c.toNat)).map (t.take c.toNat :: ·)
theorem txF_more : ∀ (n m : Nat) (s : List UInt8), s.length < n → s.length < m → txF n s = txF m s
  | 0, _, s, h, _ => by omega
  | _ + 1, 0, s, _, h => by omega
  | n + 1, m + 1, [], _, _ => rfl
  | n + 1, m + 1, k :: t, h, h' => by
    simp only [txF]
    simp only [List.length_cons] at h h'
    rw [txF_more n m (t.drop k.toNat) (by rw [List.length_drop]; omega) (by rw [List.length_drop]; omega)]
def txts (s : List UInt8) : Option (List (List UInt8)) := txF (s.length + 1) s
theorem txts_nil : txts [] = some [] := rfl
theorem txts_cons (k : UInt8) (t : List UInt8) : txts (k :: t) = if t.length < k.toNat then none else (txts (t.drop k.toNat)).map (t.take k.toNat :: ·) := by
  unfold txts
  rw [List.length_cons, txF, txF_more (t.length + 1) _ (t.drop k.toNat) (by rw [List.length_drop]; omega) (Nat.lt_succ_self _)]
/-- One at least. -/
def txOk (s : List UInt8) : Bool := match txts s with
  | some (_ :: _) => true
  | _ => false

theorem txOk_nil {s : List UInt8} (h : txts s = some []) : txOk s = false := by unfold txOk; rw [h]
theorem txOk_none {s : List UInt8} (h : txts s = none) : txOk s = false := by unfold txOk; rw [h]
theorem txOk_some {s : List UInt8} {L : List (List UInt8)} (h : txts s = some L) (hL : L ≠ []) : txOk s = true := by
  unfold txOk; rw [h]
  cases L with
  | nil => exact absurd rfl hL
  | cons => rfl

set_option maxRecDepth 20000 in
theorem rdata_texts (s : List UInt8) (H) (hs : s.length ≤ 1048576) : ∃ b : AV × Hp, (∀ L, txts s = some L → L ≠ [] → GBuf H.length b.2 b.1 9 1 L.length (strs L)) ∧
    ∀ k, callK Tryd.prog 35 [.str s] H k = k (.tuple [b.1, .bool (txOk s)], H ++ b.2, z0) := by
  refine callK_exP (fun b : AV × Hp => ∀ L, txts s = some L → L ≠ [] → GBuf H.length b.2 b.1 9 1 L.length (strs L)) (fun b => (.tuple [b.1, .bool (txOk s)], H ++ b.2, z0)) ?_
  refine callK_start (n := 32) (rs := [.tmp 2, .tmp 3]) Tryd.func35 rfl rfl rfl ?_
  intro σ hl ha
  have h0 := ha 0 (by simp)
  clear ha
  simp only [Option.getD_some, List.getElem?_cons_zero, List.getElem?_cons_succ] at h0
  simp only [go_sem, simprocAttr, hl, h0]
  refine go_rounds (fun n st => ∃ σ i L1 v T e, n + i = s.length ∧ txts s = (txts (s.drop i)).map (L1 ++ ·) ∧ L1.length ≤ i ∧ GBuf H.length T v 9 1 L1.length (strs L1) ∧ st = ⟨σ, H ++ T, e⟩ ∧ clean H.length e ∧ σ.length = 32 ∧ fr σ 0 = .str s ∧ fr σ 4 = v ∧ fr σ 5 = .int .i64 (i : Nat)) s.length
    ⟨_, 0, [], .nils, [], _, rfl, by simp, Nat.le_refl _, .inl ⟨rfl, rfl, rfl⟩, by rw [List.append_nil], ⟨rfl, rfl⟩, by simp only [go_sem, simprocAttr, hl], by simp only [go_sem, simprocAttr, hl, h0], by simp only [go_sem, simprocAttr, hl], by simp only [go_sem, simprocAttr, hl]⟩ ?_
  rintro n _ ⟨σ, i, L1, v, T, e, hn, hm, hLi, hv, rfl, he, hl, h0, h4, h5⟩
  by_cases hlt : i < s.length
  · obtain ⟨c, hc⟩ : ∃ c, s[i]? = some c := ⟨_, List.getElem?_eq_getElem hlt⟩
    rw [drop_at hc, txts_cons, List.length_drop] at hm
    have hcl := c.toNat_lt
    have hrd : Rd ((H ++ T) ++ [.cells (u8s s) 5 (.op 0 true)]) (.slice (H ++ T).length 0 s.length (.op 0)) s :=
      .inr ⟨_, 0, _, [], [], _, _, rfl, rfl, by rw [hp_new0]; simp, .inr ⟨rfl, rfl, 0, true, rfl⟩⟩
    have ht := fun k => takeText s i _ k _ hrd (by omega) (by omega)
    simp only [List.append_assoc, List.length_append] at ht
    by_cases hsh : s.length - (i + 1) < c.toNat
    · have htx : tkText s i = ([], 0, 6) := by unfold tkText; rw [if_neg (by omega), hc]; exact if_pos hsh
      rw [htx] at ht
      rw [if_pos hsh] at hm
      have hm : txts s = none := hm
      have hok := txOk_none hm
      simp only [go_sem, simprocAttr, hl, h0, h4, h5, hlt, u8s_fold, ht, he]
      exact ⟨(.nils, []), by simp [hm], by simp [hok]⟩
    · have htx : tkText s i = ((s.drop (i + 1)).take c.toNat, i + (1 + c.toNat), 0) := by unfold tkText; rw [if_neg (by omega), hc]; exact if_neg hsh
      rw [htx] at ht
      rw [if_neg hsh, Option.map_map, List.drop_drop, Nat.add_assoc] at hm
      have hbs := bslice_str ((s.drop (i + 1)).take c.toNat)
      obtain ⟨v', T2, e2, happ, _, hcl2, _, hv3, _, _, _⟩ := (hv.more ([.cells (u8s s) 5 (.op 0 true), .cells [.str ((s.drop (i + 1)).take c.toNat)] 9 .rw])).app2 (P := Tryd.prog) (b := 16) (by decide) zok_64 [.str ((s.drop (i + 1)).take c.toNat)] 1 (by decide) rfl rfl (by simp only [fits, decide_eq_true_eq]; omega)
      simp only [go_sem, simprocAttr, hl, h0, h4, h5, hlt, u8s_fold, ht, hbs, happ]
      refine ⟨n - (1 + c.toNat), by omega, _, i + (1 + c.toNat), L1 ++ [(s.drop (i + 1)).take c.toNat], v', T2, _, by omega, ?_, by simp; omega, by simpa [strs] using hv3, rfl, by simp only [go_sem, simprocAttr, he, hcl2], by simp only [go_sem, simprocAttr, hl], by simp only [go_sem, simprocAttr, hl, h0], by simp only [go_sem, simprocAttr, hl], by simp only [go_sem, simprocAttr, hl]⟩
      rw [hm]
      congr 1
      funext x
      simp
  · have hi : i = s.length := by omega
    rw [hi, List.drop_length, txts_nil] at hm
    have hm : txts s = some L1 := by rw [hm]; simp
    obtain ⟨rfl, h2, h3⟩ | ⟨h1, h2, m, rfl, h3⟩ := hv
    · have : L1 = [] := List.length_eq_zero_iff.1 h3
      subst this
      have hok := txOk_nil hm
      simp only [go_sem, simprocAttr, hl, h0, h4, h5, hlt, he]
      exact ⟨(.nils, []), fun L hL hne => by rw [hm] at hL; cases hL; exact absurd rfl hne, by simp [hok]⟩
    · have hok := txOk_some hm (by intro e; rw [e] at h1; cases h1)
      have g : decide ((L1.length : Int) > 0) = true := by simp; omega
      simp only [go_sem, simprocAttr, hl, h0, h4, h5, hlt, he, g]
      exact ⟨(.slice (H.length + m) 0 L1.length (.op 0), T), fun L hL hne => by rw [hm] at hL; cases hL; exact .inr ⟨h1, h2, m, rfl, h3⟩, by simp [hok]⟩

set_option maxRecDepth 20000 in
theorem ref_texts (s : List UInt8) (H) (hs : s.length ≤ 1048576) : ∃ b : AV × Hp, (∀ L, txts s = some L → L ≠ [] → GBuf H.length b.2 b.1 9 1 L.length (strs L)) ∧
    ∀ k, callK Tryd.prog 43 [.str s] H k = k (.tuple [b.1, .bool (txOk s)], H ++ b.2, z0) := by
  refine callK_exP (fun b : AV × Hp => ∀ L, txts s = some L → L ≠ [] → GBuf H.length b.2 b.1 9 1 L.length (strs L)) (fun b => (.tuple [b.1, .bool (txOk s)], H ++ b.2, z0)) ?_
  refine callK_start (n := 32) (rs := [.tmp 2, .tmp 3]) Tryd.func43 rfl rfl rfl ?_
  intro σ hl ha
  have h0 := ha 0 (by simp)
  clear ha
  simp only [Option.getD_some, List.getElem?_cons_zero, List.getElem?_cons_succ] at h0
  simp only [go_sem, simprocAttr, hl, h0]
  refine go_rounds (fun n st => ∃ σ r L1 v T e, n = r.length ∧ txts s = (txts r).map (L1 ++ ·) ∧ L1.length + r.length ≤ s.length ∧ GBuf H.length T v 9 1 L1.length (strs L1) ∧ st = ⟨σ, H ++ T, e⟩ ∧ clean H.length e ∧ σ.length = 32 ∧ fr σ 0 = .str r ∧ fr σ 4 = v) s.length
    ⟨_, s, [], .nils, [], _, rfl, by simp, by simp, .inl ⟨rfl, rfl, rfl⟩, by rw [List.append_nil], ⟨rfl, rfl⟩, by simp only [go_sem, simprocAttr, hl], by simp only [go_sem, simprocAttr, hl, h0], by simp only [go_sem, simprocAttr, hl]⟩ ?_
  rintro n _ ⟨σ, r, L1, v, T, e, rfl, hm, hLr, hv, rfl, he, hl, h0, h4⟩
  cases r with
  | nil =>
    rw [txts_nil] at hm
    have hm : txts s = some L1 := by rw [hm]; simp
    obtain ⟨rfl, h2, h3⟩ | ⟨h1, h2, m, rfl, h3⟩ := hv
    · have : L1 = [] := List.length_eq_zero_iff.1 h3
      subst this
      have hok := txOk_nil hm
      simp only [go_sem, simprocAttr, hl, h0, h4, he]
      exact ⟨(.nils, []), fun L hL hne => by rw [hm] at hL; cases hL; exact absurd rfl hne, by simp [hok]⟩
    · have hok := txOk_some hm (by intro e; rw [e] at h1; cases h1)
      have g : decide ((L1.length : Int) > 0) = true := by simp; omega
      simp only [go_sem, simprocAttr, hl, h0, h4, he, g]
      exact ⟨(.slice (H.length + m) 0 L1.length (.op 0), T), fun L hL hne => by rw [hm] at hL; cases hL; exact .inr ⟨h1, h2, m, rfl, h3⟩, by simp [hok]⟩
  | cons c t =>
    rw [txts_cons] at hm
    have hcl := c.toNat_lt
    simp only [List.length_cons] at hLr
    have g0 : decide (((t.length + 1 : Nat) : Int) > 0) = true := by simp
    have w0 : IntKind.i64.wrap (c.toNat : Int) = (c.toNat : Int) := by rw [wrap_i64 (by omega)]
    have w1 : IntKind.i64.wrap ((c.toNat : Int) + 1) = ((c.toNat + 1 : Nat) : Int) := by rw [wrap_i64 (by omega)]; omega
    by_cases hsh : t.length < c.toNat
    · have g3 : decide (t.length + 1 < c.toNat + 1) = true := by simp; omega
      rw [if_pos hsh] at hm
      have hm : txts s = none := hm
      have hok := txOk_none hm
      simp only [go_sem, simprocAttr, hl, h0, h4, g0, w0, w1, g3, he]
      exact ⟨(.nils, []), by simp [hm], by simp [hok]⟩
    · have g3 : decide (t.length + 1 < c.toNat + 1) = false := by simp; omega
      rw [if_neg hsh, Option.map_map] at hm
      have b1 : (1 : Int) ≤ ((c.toNat + 1 : Nat) : Int) := by omega
      have b2 : c.toNat + 1 ≤ t.length + 1 := by omega
      have e1 : c.toNat + 1 - 1 = c.toNat := by omega
      have e2 : (t.drop c.toNat).take (t.length - c.toNat) = t.drop c.toNat := List.take_of_length_le (by rw [List.length_drop]; omega)
      have hbs := bslice_str (t.take c.toNat)
      obtain ⟨v', T2, e2', happ, _, hcl2, _, hv3, _, _, _⟩ := (hv.more [.cells [.str (t.take c.toNat)] 9 .rw]).app2 (P := Tryd.prog) (b := 16) (by decide) zok_64 [.str (t.take c.toNat)] 1 (by decide) rfl rfl (by simp only [fits, decide_eq_true_eq]; omega)
      simp only [go_sem, simprocAttr, hl, h0, h4, g0, w0, w1, g3, b1, b2, e1, e2, hbs, happ]
      refine ⟨(t.drop c.toNat).length, by rw [List.length_drop]; omega, _, t.drop c.toNat, L1 ++ [t.take c.toNat], v', T2, _, rfl, ?_, by simp; omega, by simpa [strs] using hv3, rfl, by simp only [go_sem, simprocAttr, he, hcl2], by simp only [go_sem, simprocAttr, hl], by simp only [go_sem, simprocAttr, hl], by simp only [go_sem, simprocAttr, hl]⟩
      rw [hm]
      congr 1
      funext x
      simp
end Go.Proofs.YtgkpgpdkolpfkaaDoor.V
namespace Go.Proofs.YtgkpgpdkolpfkaaDoor.V
open Go
set_option linter.unusedSimpArgs false
set_option linter.unusedVariables false
attribute [local irreducible] go goOps goD opK callK callT stepK leaveTo nextK

/-- What a builder's row is: nothing, or a row of its own. -/
def Buf (n : Nat) (T : Hp) (v : AV) (bs : List UInt8) : Prop := (v = .nils ∧ bs = []) ∨ (0 < bs.length ∧ ∃ m, v = .slice (n + m) 0 bs.length (.op 0) ∧ T[m]? = some (.cells (u8s bs) 5 (.op 0 false)))
/-- A builder in the j-th new block that holds bs. -/
def Bld (n : Nat) (T : Hp) (j : Nat) (bs : List UInt8) : Prop :=
  ∃ p v, T[j]? = some (.cells [p, v] 78 .rw) ∧ (p = .nilp ∨ p = .ptr (n + j) 0) ∧ Buf n T v bs
theorem und_Bp : Tryd.prog.underlying 76 = some (.pointer 78) := by kernel_rfl
theorem lies_B : liesAt Tryd.prog Tryd.prog.depth 78 (2 / Tryd.prog.cellsOf 78) 0 78 1 = true := by kernel_rfl
theorem info_B : ∃ j, Tryd.prog.info? 78 = some j ∧ j.size = 2 := by
  have := tsize_78
  unfold tsize at this
  simpa using this
theorem conv_76_146 {b : Nat} {p v : AV} {k : Kd} {H : Hp} (h : H[b]? = some (.cells [p, v] 78 k)) : evConv Tryd.prog 76 146 (.ptr b 0) H = some (.ptr b 0, H) := by
  obtain ⟨j, hj, hz⟩ := info_B
  simp [evConv, tsh_76, tsh_146, h, hj, hz]
theorem conv_146_76 {b : Nat} {p v : AV} {H : Hp} (h : H[b]? = some (.cells [p, v] 78 .rw)) : evConv Tryd.prog 146 76 (.ptr b 0) H = some (.ptr b 0, H) := by
  obtain ⟨j, hj, hz⟩ := info_B
  have := lies_B
  simp only [evConv, tsh_76, tsh_146, h, hj]
  exact if_pos this
theorem eqBn {c : Bool} : binV Tryd.prog .eql 76 .nilp .nilp c = some (.bool true) := by simp [binV, evBin, evEq, und_Bp]
theorem eqBp {b o : Nat} {c : Bool} : binV Tryd.prog .eql 76 (.ptr b o) .nilp c = some (.bool false) := by simp [binV, evBin, evEq, und_Bp]
theorem neB {b o : Nat} {c : Bool} : binV Tryd.prog .neq 76 (.ptr b o) (.ptr b o) c = some (.bool false) := by
  obtain ⟨j, hj, _⟩ := info_B
  simp [binV, evBin, evEq, und_Bp, hj]
attribute [go_sem] eqBn eqBp neB

set_option maxRecDepth 20000 in
theorem b_check (H T : Hp) (j : Nat) (p v : AV) (hj : T[j]? = some (.cells [p, v] 78 .rw)) (hp : p = .nilp ∨ p = .ptr (H.length + j) 0) (hv : scal v = true) :
    ∃ e, (e = z0 ∨ Cl H.length j e) ∧ ∀ k, callK Tryd.prog 75 [.ptr (H.length + j) 0] (H ++ T) k = k (.tuple [], H ++ T.set j (.cells [.ptr (H.length + j) 0, v] 78 .rw), e) := by
  have hlt := lt_of_get hj
  have hd : decide (j < T.length) = true := by simpa using hlt
  refine (fun h : ∃ r : {e : Ef // e = z0 ∨ Cl H.length j e}, ∀ k, callK Tryd.prog 75 [.ptr (H.length + j) 0] (H ++ T) k = k (.tuple [], H ++ T.set j (.cells [.ptr (H.length + j) 0, v] 78 .rw), r.1) => ?_) (callK_ex (fun r : {e : Ef // e = z0 ∨ Cl H.length j e} => (.tuple [], H ++ T.set j (.cells [.ptr (H.length + j) 0, v] 78 .rw), r.1)) ?_)
  · obtain ⟨r, hr⟩ := h
    exact ⟨r.1, r.2, hr⟩
  refine callK_start (n := 20) (rs := []) Tryd.func75 rfl rfl rfl ?_
  intro σ hl ha
  have h0 := ha 0 (by simp)
  clear ha
  simp only [Option.getD_some, List.getElem?_cons_zero, List.getElem?_cons_succ] at h0
  have hb : (H ++ T)[H.length + j]? = some (.cells [p, v] 78 .rw) := by rw [hp_new, hj]
  have c1 := conv_76_146 hb
  have c2 := conv_146_76 hb
  obtain rfl | rfl := hp
  · simp only [go_sem, simprocAttr, hl, h0, hj, hd, hv, c1, c2]
    have hcl : Cl H.length j ⟨some (H.length + j), some (H.length + j)⟩ := ⟨_, rfl, by omega, by omega, by simp [low]⟩
    obtain ⟨e', h1, h2⟩ := hcl.leave (m := H.length + T.length) (by omega)
    exact ⟨⟨e', .inr h1⟩, h2 _ _⟩
  · simp only [go_sem, simprocAttr, hl, h0, hj, hd, hv]
    rw [set_get hj]
    refine ⟨⟨z0, .inl rfl⟩, ?_⟩
    rw [← List.length_append]
    exact leave_flat0 rfl (by rw [clean_z0]; trivial)

theorem Buf.scl {n : Nat} {T : Hp} {v : AV} {bs : List UInt8} (h : Buf n T v bs) : scal v = true := by
  obtain ⟨rfl, _⟩ | ⟨_, m, rfl, _⟩ := h <;> rfl
theorem Buf.len {n : Nat} {T : Hp} {v : AV} {bs : List UInt8} (h : Buf n T v bs) (H : Hp) : evLen Tryd.prog 31 v H = some (.int .i64 bs.length) := by
  obtain ⟨rfl, rfl⟩ | ⟨_, m, rfl, _⟩ := h
  · simp only [evLen, tsh_31]; rfl
  · simp only [evLen, tsh_31]
/-- Bytes appended to it. -/
theorem Buf.app {H T : Hp} {v : AV} {bs : List UInt8} (h : Buf H.length T v bs) (s : List UInt8) (hf : fits (bs.length + s.length) 1 = true) :
    ∃ v' T2 e2, (∀ kk, stepK (appTo Tryd.prog (.slice 5 1 1) v (u8s s, s.length) (H ++ T)) kk = kk (v', H ++ T2, e2)) ∧ T.length ≤ T2.length ∧ clean H.length e2 ∧ (∀ (i : Nat) x, T[i]? = some x → fixd x = true → T2[i]? = some x) ∧ Buf H.length T2 v' (bs ++ s) := by
  obtain ⟨rfl, rfl⟩ | ⟨hpos, m, rfl, hm⟩ := h
  · by_cases hs : s = []
    · subst hs
      refine ⟨.nils, T, z0, fun kk => ?_, Nat.le_refl _, ⟨rfl, rfl⟩, fun i x hx _ => hx, .inl ⟨rfl, rfl⟩⟩
      rw [appTo_nils (by decide) zok_31]
      have hd : decide (([] : List UInt8).length = 0) = true := rfl
      rw [hd, guardK_tt]
    · have hl : 0 < s.length := by cases s <;> simp_all
      refine ⟨.slice (H.length + T.length) 0 s.length (.op 0), T ++ [.cells (u8s s) 5 (.op 0 false)], z0, fun kk => ?_, by simp, ⟨rfl, rfl⟩, fun i x hx _ => get_app hx, .inr ⟨by simpa using hl, T.length, by simp, by simp⟩⟩
      rw [appTo_nils (by decide) zok_31]
      have hd : decide (s.length = 0) = false := by simp; omega
      have hf : fits s.length 1 = true := by simpa using hf
      simp only [hd, guardK_ft, hf, true_and, List.length_append, List.append_assoc]
  · have hlt := lt_of_get hm
    have hg : (H ++ T)[H.length + m]? = some (.cells (u8s bs) 5 (.op 0 false)) := by rw [hp_new, hm]
    by_cases hs : s = []
    · subst hs
      refine ⟨.slice (H.length + m) 0 bs.length (.op 0), T, ⟨none, some (H.length + m)⟩, fun kk => ?_, Nat.le_refl _, by simp [clean, low], fun i x hx _ => hx, .inr ⟨by simpa using hpos, m, by simp, by simpa using hm⟩⟩
      have hsp : splice (u8s bs) (bs.length) [] = u8s bs := by
        unfold splice
        simp
      rw [appTo_op (by decide) zok_31, hg]
      have hset : (H ++ T).set (H.length + m) (.cells (u8s bs) 5 (.op 0 false)) = H ++ T := set_get hg
      have hd : decide (0 + (bs.length + ([] : List UInt8).length) * 1 ≤ (u8s bs).length) = true := by rw [u8s_len]; simp
      have e1 : (0 + bs.length * 1 + (u8s []).length ≤ (u8s bs).length ∧ canWr (Kd.op 0 false) (0 + bs.length * 1) = true ∧ (u8s []).all scal = true) := ⟨by simp [u8s_len], rfl, rfl⟩
      have e2 : splice (u8s bs) (0 + bs.length * 1) (u8s []) = u8s bs := by rw [Nat.zero_add, Nat.mul_one]; exact hsp
      have hwr : wr (H ++ T) (H.length + m) (0 + bs.length * 1) (u8s []) = some (H ++ T, ⟨none, some (H.length + m)⟩) := by
        unfold wr
        rw [hg]
        show (if _ then _ else _) = _
        rw [if_pos e1, e2, hset, u8s_flat, if_pos rfl]
      simp only [bindK_some, appO_c, hwr]
      rw [hd, guardK_tt]
      rw [hwr]
      simp only [bindK_some, u8s_len, Nat.zero_add, Nat.mul_one, Nat.le_refl, and_self, true_and, List.length_nil, Nat.add_zero]
    · have hl : 0 < s.length := by cases s <;> simp_all
      refine ⟨.slice (H.length + T.length) 0 (bs ++ s).length (.op 0), T.set m .dead ++ [.cells (u8s (bs ++ s)) 5 (.op 0 false)], ⟨none, some (H.length + m)⟩, fun kk => ?_, by simp, by simp [clean, low], fun i x hx hf => ?_, .inr ⟨by simp; omega, T.length, rfl, by simp⟩⟩
      · rw [appTo_op (by decide) zok_31, hg]
        simp only [bindK_some, appO_c]
        have hd : decide (0 + (bs.length + s.length) * 1 ≤ (u8s bs).length) = false := by
          rw [u8s_len]; simp; omega
        have ht : (List.drop 0 (u8s bs)).take bs.length ++ u8s s = u8s (bs ++ s) := by
          rw [List.drop_zero, List.take_of_length_le (by rw [u8s_len]; exact Nat.le_refl _), u8s_app]
        rw [hd, guardK_ft]
        simp only [ht, hf, u8s_scal, hp_set, List.length_append, List.append_assoc, u8s_len, Nat.sub_self, Nat.zero_le, true_and, and_true, Nat.mul_one, Nat.zero_add, Nat.le_refl]
      · have hne : m ≠ i := by
          rintro rfl
          rw [hm] at hx; cases hx; cases hf
        rw [get_app (x := x)]
        rw [List.getElem?_set_ne hne]; exact hx

theorem Buf.set {n : Nat} {T : Hp} {v : AV} {bs : List UInt8} {j : Nat} {c : List AV} {e : TypeId} {x : ABlk} (h : Buf n T v bs) (hj : T[j]? = some (.cells c e .rw)) : Buf n (T.set j x) v bs := by
  obtain h | ⟨hp, m, rfl, hm⟩ := h
  · exact .inl h
  · refine .inr ⟨hp, m, rfl, ?_⟩
    have : j ≠ m := by rintro rfl; rw [hj] at hm; cases hm
    rw [List.getElem?_set_ne this]; exact hm
theorem Buf.pos {n : Nat} {T : Hp} {v : AV} {bs : List UInt8} (h : Buf n T v bs) (hp : 0 < bs.length) : ∃ m, v = .slice (n + m) 0 bs.length (.op 0) ∧ T[m]? = some (.cells (u8s bs) 5 (.op 0 false)) := by
  obtain ⟨_, rfl⟩ | ⟨_, h⟩ := h
  · cases hp
  · exact h

set_option maxRecDepth 20000 in
theorem b_wstr (H T : Hp) (j : Nat) (bs s : List UInt8) (hb : Bld H.length T j bs) (hs : 0 < s.length) (hf : fits (bs.length + s.length) 1 = true) :
    ∃ T' e, Bld H.length T' j (bs ++ s) ∧ Keep T j T' ∧ Cl H.length j e ∧ ∀ k, callK Tryd.prog 69 [.ptr (H.length + j) 0, .str s] (H ++ T) k = k (.tuple [.int .i64 s.length, .nili], H ++ T', e) := by
  obtain ⟨p, v, hj, hp, hv⟩ := hb
  have hlt := lt_of_get hj
  obtain ⟨e1, he1, hck⟩ := b_check H T j p v hj hp hv.scl
  have hj1 : (T.set j (.cells [.ptr (H.length + j) 0, v] 78 .rw))[j]? = some (.cells [.ptr (H.length + j) 0, v] 78 .rw) := by rw [List.getElem?_set_self hlt]
  have hv1 := hv.set (x := .cells [.ptr (H.length + j) 0, v] 78 .rw) hj
  obtain ⟨v', T2, e2, happ, hlen, hcl, hkeep, hbuf⟩ := hv1.app s hf
  obtain ⟨m, hvm, hm⟩ := hbuf.pos (by simp; omega)
  have hj2 := hkeep j _ hj1 rfl
  have hlt2 := lt_of_get hj2
  have hfl : flat v' = false := by rw [hvm]; simp only [flat]
  have hsc := hbuf.scl
  have hvc : vcells v' = [v'] := by rw [hvm]; rfl
  have hc0 : clean H.length e1 := by
    obtain rfl | h := he1
    · exact ⟨rfl, rfl⟩
    · exact h.cln
  have hcl3 : Cl H.length j ((e1.and e2).and ⟨some (H.length + j), some (H.length + j)⟩) := .andr (clean_and hc0 hcl) ⟨_, rfl, by omega, by omega, by simp [low]⟩
  obtain ⟨e', hE, hleave⟩ := hcl3.leave (m := H.length + T.length) (by omega)
  refine ⟨T2.set j (.cells [.ptr (H.length + j) 0, v'] 78 .rw), e', ⟨_, v', by rw [List.getElem?_set_self hlt2], .inr rfl, hbuf.set hj2⟩, ⟨by simp at hlen ⊢; omega, fun i x hi hx hf => ?_⟩, hE, fun k => ?_⟩
  · rw [List.getElem?_set_ne (Ne.symm hi)]
    exact hkeep i x (by rw [List.getElem?_set_ne (Ne.symm hi)]; exact hx) hf
  simp only [u8s] at happ
  refine callK_eq ?_ k
  refine callK_start (n := 19) (rs := [.tmp 4, .tmp 5]) Tryd.func69 rfl rfl rfl ?_
  intro σ hl ha
  have h0 := ha 0 (by simp)
  have h1 := ha 1 (by simp)
  clear ha
  simp only [Option.getD_some, List.getElem?_cons_zero, List.getElem?_cons_succ] at h0 h1
  have d1 : decide (j < T.length) = true := by simpa using hlt
  have d2 : decide (j < T2.length) = true := by simpa using hlt2
  simp only [go_sem, simprocAttr, hl, h0, h1, hck, d1, d2, hj1, hj2, happ, hvc, hsc, hfl]
  exact hleave _ _

set_option maxRecDepth 20000 in
theorem b_wbyte (H T : Hp) (j : Nat) (bs : List UInt8) (c : UInt8) (hb : Bld H.length T j bs) (hf : fits (bs.length + 1) 1 = true) :
    ∃ T' e, Bld H.length T' j (bs ++ [c]) ∧ Keep T j T' ∧ Cl H.length j e ∧ ∀ k, callK Tryd.prog 37 [.ptr (H.length + j) 0, .int .u8 c.toNat] (H ++ T) k = k (.nili, H ++ T', e) := by
  obtain ⟨p, v, hj, hp, hv⟩ := hb
  have hlt := lt_of_get hj
  obtain ⟨e1, he1, hck⟩ := b_check H T j p v hj hp hv.scl
  have hj1 : (T.set j (.cells [.ptr (H.length + j) 0, v] 78 .rw))[j]? = some (.cells [.ptr (H.length + j) 0, v] 78 .rw) := by rw [List.getElem?_set_self hlt]
  have hj1' : (T.set j (.cells [.ptr (H.length + j) 0, v] 78 .rw) ++ [.cells [.int .u8 c.toNat] 5 .rw])[j]? = some (.cells [.ptr (H.length + j) 0, v] 78 .rw) := get_app hj1
  have hv1 : Buf H.length (T.set j (.cells [.ptr (H.length + j) 0, v] 78 .rw) ++ [.cells [.int .u8 c.toNat] 5 .rw]) v bs := by
    obtain h | ⟨hp, m, rfl, hm⟩ := hv.set (x := .cells [.ptr (H.length + j) 0, v] 78 .rw) hj
    · exact .inl h
    · exact .inr ⟨hp, m, rfl, get_app hm⟩
  obtain ⟨v', T2, e2, happ, hlen, hcl, hkeep, hbuf⟩ := hv1.app [c] hf
  obtain ⟨m, hvm, hm⟩ := hbuf.pos (by simp)
  have hj2 := hkeep j _ hj1' rfl
  have hlt2 := lt_of_get hj2
  have hfl : flat v' = false := by rw [hvm]; simp only [flat]
  have hsc := hbuf.scl
  have hvc : vcells v' = [v'] := by rw [hvm]; rfl
  have hc0 : clean H.length e1 := by
    obtain rfl | h := he1
    · exact ⟨rfl, rfl⟩
    · exact h.cln
  have hcl3 : Cl H.length j ((e1.and e2).and ⟨some (H.length + j), some (H.length + j)⟩) := .andr (clean_and hc0 hcl) ⟨_, rfl, by omega, by omega, by simp [low]⟩
  obtain ⟨e', hE, hleave⟩ := hcl3.leave (m := H.length + T.length) (by omega)
  refine ⟨T2.set j (.cells [.ptr (H.length + j) 0, v'] 78 .rw), e', ⟨_, v', by rw [List.getElem?_set_self hlt2], .inr rfl, hbuf.set hj2⟩, ⟨by simp at hlen ⊢; omega, fun i x hi hx hf => ?_⟩, hE, fun k => ?_⟩
  · rw [List.getElem?_set_ne (Ne.symm hi)]
    exact hkeep i x (get_app (by rw [List.getElem?_set_ne (Ne.symm hi)]; exact hx)) hf
  simp only [u8s, List.map_cons, List.map_nil, List.length_cons, List.length_nil, Nat.zero_add] at happ
  refine callK_eq ?_ k
  refine callK_start (n := 17) (rs := [.tmp 4]) Tryd.func37 rfl rfl rfl ?_
  intro σ hl ha
  have h0 := ha 0 (by simp)
  have h1 := ha 1 (by simp)
  clear ha
  simp only [Option.getD_some, List.getElem?_cons_zero, List.getElem?_cons_succ] at h0 h1
  have d1 : decide (j < T.length) = true := by simpa using hlt
  have d2 : decide (j < T2.length) = true := by simpa using hlt2
  have hbs : ∀ H, evBuildSlice Tryd.prog 31 1 [(0, .int .u8 c.toNat)] H = some (.slice H.length 0 1 (.ex 1), H ++ [.cells [.int .u8 c.toNat] 5 .rw]) := by
    intro H
    simp only [evBuildSlice, tsh_31, tzero_5, Option.bind_some]
    rfl
  simp only [go_sem, simprocAttr, hl, h0, h1, hck, d1, d2, hj1, hj2, hbs, happ, hvc, hsc, hfl]
  exact hleave _ _

/-- What it holds, read: its row is not written again. -/
theorem b_stringK (H T : Hp) (j : Nat) (bs : List UInt8) (hb : Bld H.length T j bs) (hn : bs.length ≤ 9223372036854775807) :
    ∃ T' e, Keep T j T' ∧ clean H.length e ∧ ∀ k, callK Tryd.prog 38 [.ptr (H.length + j) 0] (H ++ T) k = k (.str bs, H ++ T', e) := by
  obtain ⟨p, v, hj, hp, hv⟩ := hb
  have hlt := lt_of_get hj
  have hlen := hv.len
  obtain ⟨rfl, rfl⟩ | ⟨hpos, m, rfl, hm⟩ := hv
  · refine ⟨T, z0, Keep.refl T j, ⟨rfl, rfl⟩, fun k => ?_⟩
    refine callK_eq ?_ k
    refine callK_start (n := 14) (rs := [.tmp 2]) Tryd.func38 rfl rfl rfl ?_
    intro σ hl ha
    have h0 := ha 0 (by simp)
    clear ha
    simp only [Option.getD_some, List.getElem?_cons_zero, List.getElem?_cons_succ] at h0
    have hsd : evSliceData Tryd.prog .nils (H ++ T) = some .nilp := rfl
    have hst : evString Tryd.prog 121 .nilp (.int .i64 0) (H ++ T) = some (.str [], H ++ T, z0) := rfl
    have d1 : decide (j < T.length) = true := by simpa using hlt
    simp only [go_sem, simprocAttr, hl, h0]
    refine go_drawZ tFollows (by kernel_rfl) ?_
    simp only [go_sem, simprocAttr, hl, h0, hj, d1, hsd, hst, hlen]
    rw [← List.length_append]
    exact leave_flat0 rfl (by rw [clean_z0]; trivial)
  · have hlm := lt_of_get hm
    have hg : (H ++ T)[H.length + m]? = some (.cells (u8s bs) 5 (.op 0 false)) := by rw [hp_new, hm]
    have hsd : evSliceData Tryd.prog (.slice (H.length + m) 0 bs.length (.op 0)) (H ++ T) = some (.ptr (H.length + m) 0) := by
      simp only [evSliceData, hg, tsize_5, Option.bind_some]
      rw [if_pos ⟨by decide, trivial, hpos, by rw [u8s_len]; omega⟩]
    have hst : evString Tryd.prog 121 (.ptr (H.length + m) 0) (.int .i64 bs.length) (H ++ T) = some (.str bs, (H ++ T).set (H.length + m) (.cells (u8s bs) 5 (.op bs.length false)), ⟨none, some (H.length + m)⟩) := by
      have c1 : ¬ ((bs.length : Int) = 0) := by omega
      have c2 : 0 < (bs.length : Int) ∧ (bs.length : Int) ≤ 9223372036854775807 := by omega
      have c3 : Tryd.prog.cellsOf 5 = 1 := by kernel_rfl
      have c5 : ((u8s bs).drop 0).take (bs.length : Int).toNat = u8s bs := by
        rw [List.drop_zero, List.take_of_length_le (by rw [u8s_len]; simp)]
      simp only [evString, tsh_121, hg]
      rw [if_neg c1, if_pos c2, if_pos ⟨trivial, tsize_5, c3, by rw [u8s_len]; simp⟩, c5, bytes_u8s]
      simp
    refine ⟨T.set m (.cells (u8s bs) 5 (.op bs.length false)), ⟨none, low (H.length + T.length) (some (H.length + m))⟩, ⟨by simp, fun i x hi hx hf => by
      have hne : m ≠ i := by
        rintro rfl
        rw [hm] at hx; cases hx; cases hf
      rw [List.getElem?_set_ne hne]; exact hx⟩, ⟨rfl, low_low (m := H.length + T.length) (by simp [low] : low H.length (some (H.length + m)) = none)⟩, fun k => ?_⟩
    refine callK_eq ?_ k
    refine callK_start (n := 14) (rs := [.tmp 2]) Tryd.func38 rfl rfl rfl ?_
    intro σ hl ha
    have h0 := ha 0 (by simp)
    clear ha
    simp only [Option.getD_some, List.getElem?_cons_zero, List.getElem?_cons_succ] at h0
    have d1 : decide (j < T.length) = true := by simpa using hlt
    simp only [go_sem, simprocAttr, hl, h0]
    refine go_drawZ tFollows (by kernel_rfl) ?_
    simp only [go_sem, simprocAttr, hl, h0, hj, d1, hsd, hst, hlen]
    refine ⟨(by kernel_rfl : effOk _ _ _ = true), ?_⟩
    unfold leave
    have hlo : low (H.length + T.length) none = none := rfl
    simp only [hlo, flat, and_self, if_true]
    rw [List.take_of_length_le (by simp)]
/-- What it holds, read. -/
theorem b_string (H T : Hp) (j : Nat) (bs : List UInt8) (hb : Bld H.length T j bs) (hn : bs.length ≤ 9223372036854775807) :
    ∃ T' e, clean H.length e ∧ ∀ k, callK Tryd.prog 38 [.ptr (H.length + j) 0] (H ++ T) k = k (.str bs, H ++ T', e) := by
  obtain ⟨T', e, _, h1, h2⟩ := b_stringK H T j bs hb hn
  exact ⟨T', e, h1, h2⟩
end Go.Proofs.YtgkpgpdkolpfkaaDoor.V
namespace Go.Proofs.YtgkpgpdkolpfkaaDoor.V
open Go
set_option linter.unusedSimpArgs false
set_option linter.unusedVariables false
attribute [local irreducible] go goOps goD opK callK callT stepK leaveTo nextK

/-- A byte of a text, escaped. -/
def escB (q : Bool) (c : UInt8) : List UInt8 :=
  if c.toNat = 34 ∨ c.toNat = 92 then [92, c]
  else if c.toNat = 46 ∨ c.toNat = 59 ∨ c.toNat = 40 ∨ c.toNat = 41 ∨ c.toNat = 64 ∨ c.toNat = 36 then (if q = true then [c] else [92, c])
  else if (32 < c.toNat ∧ c.toNat < 127) ∨ (c.toNat = 32 ∧ q = true) then [c]
  else [92, UInt8.ofNat (48 + c.toNat / 100), UInt8.ofNat (48 + c.toNat / 10 % 10), UInt8.ofNat (48 + c.toNat % 10)]
def escS (q : Bool) (s : List UInt8) : List UInt8 := s.flatMap (escB q)
theorem escB_len (q : Bool) (c : UInt8) : (escB q c).length ≤ 4 := by
  unfold escB; split
  · simp
  split
  · split <;> simp
  split <;> simp
theorem escS_snoc {q : Bool} {s : List UInt8} {i : Nat} {c : UInt8} (h : s[i]? = some c) : escS q (s.take (i + 1)) = escS q (s.take i) ++ escB q c := by
  rw [take_snoc h]; simp [escS]
theorem escS_len (q : Bool) : ∀ (s : List UInt8), (escS q s).length ≤ 4 * s.length
  | [] => by simp [escS]
  | c :: s => by
    have := escS_len q s
    have h := escB_len q c
    have e : escS q (c :: s) = escB q c ++ escS q s := rfl
    rw [e, List.length_append, List.length_cons]; omega

theorem Bld.more {n : Nat} {T : Hp} {j : Nat} {bs : List UInt8} (h : Bld n T j bs) (l : Hp) : Bld n (T ++ l) j bs := by
  obtain ⟨p, v, hj, hp, hv⟩ := h
  refine ⟨p, v, get_app hj, hp, ?_⟩
  obtain h | ⟨q, m, rfl, hm⟩ := hv
  · exact .inl h
  · exact .inr ⟨q, m, rfl, get_app hm⟩
theorem Bld.lt {n : Nat} {T : Hp} {j : Nat} {bs : List UInt8} (h : Bld n T j bs) : j < T.length := by
  obtain ⟨p, v, hj, hp, hv⟩ := h
  exact lt_of_get hj

set_option maxRecDepth 20000 in
theorem b_write (H T : Hp) (j q : Nat) (bs s : List UInt8) (hb : Bld H.length T j bs) (hq : T[q]? = some (.cells (u8s s) 5 .rw)) (hqj : j ≠ q) (hs : 0 < s.length) (hf : fits (bs.length + s.length) 1 = true) :
    ∃ T' e, Bld H.length T' j (bs ++ s) ∧ Keep T j T' ∧ Cl H.length j e ∧ ∀ k, callK Tryd.prog 74 [.ptr (H.length + j) 0, .slice (H.length + q) 0 s.length (.ex s.length)] (H ++ T) k = k (.tuple [.int .i64 s.length, .nili], H ++ T', e) := by
  obtain ⟨p, v, hj, hp, hv⟩ := hb
  have hlt := lt_of_get hj
  obtain ⟨e1, he1, hck⟩ := b_check H T j p v hj hp hv.scl
  have hj1 : (T.set j (.cells [.ptr (H.length + j) 0, v] 78 .rw))[j]? = some (.cells [.ptr (H.length + j) 0, v] 78 .rw) := by rw [List.getElem?_set_self hlt]
  have hq1 : (T.set j (.cells [.ptr (H.length + j) 0, v] 78 .rw))[q]? = some (.cells (u8s s) 5 .rw) := by rw [List.getElem?_set_ne hqj]; exact hq
  have hv1 := hv.set (x := .cells [.ptr (H.length + j) 0, v] 78 .rw) hj
  obtain ⟨v', T2, e2, happ, hlen, hcl, hkeep, hbuf⟩ := hv1.app s hf
  obtain ⟨m, hvm, hm⟩ := hbuf.pos (by simp; omega)
  have hj2 := hkeep j _ hj1 rfl
  have hlt2 := lt_of_get hj2
  have hfl : flat v' = false := by rw [hvm]; simp only [flat]
  have hsc := hbuf.scl
  have hvc : vcells v' = [v'] := by rw [hvm]; rfl
  have hc0 : clean H.length e1 := by
    obtain rfl | h := he1
    · exact ⟨rfl, rfl⟩
    · exact h.cln
  have hcl3 : Cl H.length j ((e1.and e2).and ⟨some (H.length + j), some (H.length + j)⟩) := .andr (clean_and hc0 hcl) ⟨_, rfl, by omega, by omega, by simp [low]⟩
  obtain ⟨e', hE, hleave⟩ := hcl3.leave (m := H.length + T.length) (by omega)
  refine ⟨T2.set j (.cells [.ptr (H.length + j) 0, v'] 78 .rw), e', ⟨_, v', by rw [List.getElem?_set_self hlt2], .inr rfl, hbuf.set hj2⟩, ⟨by simp at hlen ⊢; omega, fun i x hi hx hf => ?_⟩, hE, fun k => ?_⟩
  · rw [List.getElem?_set_ne (Ne.symm hi)]
    exact hkeep i x (by rw [List.getElem?_set_ne (Ne.symm hi)]; exact hx) hf
  have hrd := fun (e : TypeId) (k : Kd) => rdC_u8s (s := s) (e := e) (k := k) (n := s.length) rfl
  refine callK_eq ?_ k
  refine callK_start (n := 19) (rs := [.tmp 4, .tmp 5]) Tryd.func74 rfl rfl rfl ?_
  intro σ hl ha
  have h0 := ha 0 (by simp)
  have h1 := ha 1 (by simp)
  clear ha
  simp only [Option.getD_some, List.getElem?_cons_zero, List.getElem?_cons_succ] at h0 h1
  have d1 : decide (j < T.length) = true := by simpa using hlt
  have d2 : decide (j < T2.length) = true := by simpa using hlt2
  simp only [go_sem, simprocAttr, hl, h0, h1, hck, d1, d2, hj1, hj2, hq1, hrd, Nat.mul_one, happ, hvc, hsc, hfl]
  exact hleave _ _
theorem b_wlit (H T : Hp) (j : Nat) (bs : List UInt8) (c : UInt8) (n : Int) (hn : n = c.toNat) (hb : Bld H.length T j bs) (hf : fits (bs.length + 1) 1 = true) :
    ∃ T' e, Bld H.length T' j (bs ++ [c]) ∧ Keep T j T' ∧ Cl H.length j e ∧ ∀ k, callK Tryd.prog 37 [.ptr (H.length + j) 0, .int .u8 n] (H ++ T) k = k (.nili, H ++ T', e) := by
  subst hn
  exact b_wbyte H T j bs c hb hf
theorem bslice4 (a b c d : Int) (H : Hp) : evBuildSlice Tryd.prog 31 4 [(0, .int .u8 a), (1, .int .u8 b), (2, .int .u8 c), (3, .int .u8 d)] H = some (.slice H.length 0 4 (.ex 4), H ++ [.cells [.int .u8 a, .int .u8 b, .int .u8 c, .int .u8 d] 5 .rw]) := by
  simp only [evBuildSlice, tsh_31, tzero_5, Option.bind_some]
  rfl
theorem dg_a {n : Nat} (h : n < 256) : IntKind.u8.wrap (48 + IntKind.u8.wrap ((n : Int).tdiv 100)) = ((UInt8.ofNat (48 + n / 100)).toNat : Int) := by
  have e : (n : Int).tdiv 100 = ((n / 100 : Nat) : Int) := rfl
  rw [e, show IntKind.u8.wrap ((n / 100 : Nat) : Int) = ((n / 100 : Nat) : Int) from wrap_u8 (by omega), ofNat_le (m := 255) (by omega) (by omega), wrap_u8 (by omega)]; omega
theorem dg_b {n : Nat} (h : n < 256) : IntKind.u8.wrap (48 + (IntKind.u8.wrap ((n : Int).tdiv 10)).tmod 10) = ((UInt8.ofNat (48 + n / 10 % 10)).toNat : Int) := by
  have e : (n : Int).tdiv 10 = ((n / 10 : Nat) : Int) := rfl
  rw [e, show IntKind.u8.wrap ((n / 10 : Nat) : Int) = ((n / 10 : Nat) : Int) from wrap_u8 (by omega)]
  have e : ((n / 10 : Nat) : Int).tmod 10 = ((n / 10 % 10 : Nat) : Int) := rfl
  rw [e, ofNat_le (m := 255) (by omega) (by omega), wrap_u8 (by omega)]; omega
theorem dg_c {n : Nat} (h : n < 256) : IntKind.u8.wrap (48 + (n : Int).tmod 10) = ((UInt8.ofNat (48 + n % 10)).toNat : Int) := by
  have e : (n : Int).tmod 10 = ((n % 10 : Nat) : Int) := rfl
  rw [e, ofNat_le (m := 255) (by omega) (by omega), wrap_u8 (by omega)]; omega

set_option maxRecDepth 20000 in
set_option maxHeartbeats 2000000 in
theorem name_Escape (s : List UInt8) (q : Bool) (H k) (hs : s.length ≤ 1000000) : callK Tryd.prog 36 [.str s, .bool q] H k = k (.str (escS q s), H, z0) := by
  refine callK_eq (r := (.str (escS q s), H, z0)) ?_ k
  refine callK_start (n := 63) (rs := [.tmp 4]) Tryd.func36 rfl rfl rfl ?_
  intro σ hl ha
  have h0 := ha 0 (by simp)
  have h1 := ha 1 (by simp)
  clear ha
  simp only [Option.getD_some, List.getElem?_cons_zero, List.getElem?_cons_succ] at h0 h1
  have hb0 : Bld H.length [.cells [.nilp, .nils] 78 .rw] 0 (escS q (s.take 0)) := ⟨_, _, rfl, .inl rfl, .inl ⟨rfl, rfl⟩⟩
  simp only [go_sem, simprocAttr, hl, h0, h1]
  refine go_rounds (fun n st => ∃ σ i T e, n + i = s.length ∧ st = ⟨σ, H ++ T, e⟩ ∧ Bld H.length T 0 (escS q (s.take i)) ∧ clean H.length e ∧ σ.length = 63 ∧ fr σ 0 = .str s ∧ fr σ 1 = .bool q ∧ fr σ 5 = .ptr H.length 0 ∧ fr σ 10 = .int .i64 s.length ∧ fr σ 11 = .int .i64 (i : Nat)) s.length
    ⟨_, 0, _, _, rfl, rfl, hb0, ⟨rfl, rfl⟩, by simp only [go_sem, simprocAttr, hl], by simp only [go_sem, simprocAttr, hl, h0], by simp only [go_sem, simprocAttr, hl, h1], by simp only [go_sem, simprocAttr, hl], by simp only [go_sem, simprocAttr, hl], by simp only [go_sem, simprocAttr, hl]⟩ ?_
  rintro n _ ⟨σ, i, T, e, hn, rfl, hb, he, hl, h0, h1, h5, h10, h11⟩
  by_cases hlt : i < s.length
  · obtain ⟨c, hc⟩ : ∃ c, s[i]? = some c := ⟨_, List.getElem?_eq_getElem hlt⟩
    have hcl := c.toNat_lt
    have hw := wrap_succ (show i < 9223372036854775807 by omega)
    have hsn := escS_snoc (q := q) hc
    have hbl : (escS q (s.take i)).length ≤ 4000000 := by
      have := escS_len q (s.take i)
      rw [List.length_take] at this; omega
    have hT := hb.lt
    generalize hB : escS q (s.take i) = B at *
    by_cases q34 : c.toNat = 34
    · have hE : escB q c = [92, c] := by unfold escB; exact if_pos (by omega)
      have g46 : ((c.toNat : Int) == 46) = false := by simp; omega
      have g59 : ((c.toNat : Int) == 59) = false := by simp; omega
      have g40 : ((c.toNat : Int) == 40) = false := by simp; omega
      have g41 : ((c.toNat : Int) == 41) = false := by simp; omega
      have g64 : ((c.toNat : Int) == 64) = false := by simp; omega
      have g36 : ((c.toNat : Int) == 36) = false := by simp; omega
      have g34 : ((c.toNat : Int) == 34) = true := by simp; omega
      have g92 : ((c.toNat : Int) == 92) = false := by simp; omega
      obtain ⟨T1, e1, b1, k1, c1, r1⟩ := b_wlit H T 0 (B) 92 92 rfl hb (by simp only [fits, decide_eq_true_eq, List.length_append, List.length_cons, List.length_nil] at *; omega)
      have c1 := c1.cln
      simp only [Nat.add_zero] at r1
      obtain ⟨T2, e2, b2, k2, c2, r2⟩ := b_wlit H T1 0 (B ++ [92]) c c.toNat rfl b1 (by simp only [fits, decide_eq_true_eq, List.length_append, List.length_cons, List.length_nil] at *; omega)
      have c2 := c2.cln
      simp only [Nat.add_zero] at r2
      simp only [go_sem, simprocAttr, hl, h0, h1, h5, h10, h11, hc, hlt, hw, bslice4, g46, g59, g40, g41, g64, g36, g34, g92, r1, r2]
      refine ⟨n - 1, by omega, _, i + 1, T2, _, by omega, rfl, ?_, by simp only [go_sem, simprocAttr, he, c1, c2], by simp only [go_sem, simprocAttr, hl], by simp only [go_sem, simprocAttr, hl, h0], by simp only [go_sem, simprocAttr, hl, h1], by simp only [go_sem, simprocAttr, hl, h5], by simp only [go_sem, simprocAttr, hl, h10], by simp only [go_sem, simprocAttr, hl]⟩
      rw [hsn, hE]; simpa [List.append_assoc] using b2
    by_cases q92 : c.toNat = 92
    · have hE : escB q c = [92, c] := by unfold escB; exact if_pos (by omega)
      have g46 : ((c.toNat : Int) == 46) = false := by simp; omega
      have g59 : ((c.toNat : Int) == 59) = false := by simp; omega
      have g40 : ((c.toNat : Int) == 40) = false := by simp; omega
      have g41 : ((c.toNat : Int) == 41) = false := by simp; omega
      have g64 : ((c.toNat : Int) == 64) = false := by simp; omega
      have g36 : ((c.toNat : Int) == 36) = false := by simp; omega
      have g34 : ((c.toNat : Int) == 34) = false := by simp; omega
      have g92 : ((c.toNat : Int) == 92) = true := by simp; omega
      obtain ⟨T1, e1, b1, k1, c1, r1⟩ := b_wlit H T 0 (B) 92 92 rfl hb (by simp only [fits, decide_eq_true_eq, List.length_append, List.length_cons, List.length_nil] at *; omega)
      have c1 := c1.cln
      simp only [Nat.add_zero] at r1
      obtain ⟨T2, e2, b2, k2, c2, r2⟩ := b_wlit H T1 0 (B ++ [92]) c c.toNat rfl b1 (by simp only [fits, decide_eq_true_eq, List.length_append, List.length_cons, List.length_nil] at *; omega)
      have c2 := c2.cln
      simp only [Nat.add_zero] at r2
      simp only [go_sem, simprocAttr, hl, h0, h1, h5, h10, h11, hc, hlt, hw, bslice4, g46, g59, g40, g41, g64, g36, g34, g92, r1, r2]
      refine ⟨n - 1, by omega, _, i + 1, T2, _, by omega, rfl, ?_, by simp only [go_sem, simprocAttr, he, c1, c2], by simp only [go_sem, simprocAttr, hl], by simp only [go_sem, simprocAttr, hl, h0], by simp only [go_sem, simprocAttr, hl, h1], by simp only [go_sem, simprocAttr, hl, h5], by simp only [go_sem, simprocAttr, hl, h10], by simp only [go_sem, simprocAttr, hl]⟩
      rw [hsn, hE]; simpa [List.append_assoc] using b2
    by_cases q46 : c.toNat = 46
    · have hE : escB q c = if q = true then [c] else [92, c] := by unfold escB; rw [if_neg (by omega), if_pos (by omega)]
      have g46 : ((c.toNat : Int) == 46) = true := by simp; omega
      have g59 : ((c.toNat : Int) == 59) = false := by simp; omega
      have g40 : ((c.toNat : Int) == 40) = false := by simp; omega
      have g41 : ((c.toNat : Int) == 41) = false := by simp; omega
      have g64 : ((c.toNat : Int) == 64) = false := by simp; omega
      have g36 : ((c.toNat : Int) == 36) = false := by simp; omega
      have g34 : ((c.toNat : Int) == 34) = false := by simp; omega
      have g92 : ((c.toNat : Int) == 92) = false := by simp; omega
      cases q
      · rw [if_neg (by simp)] at hE
        obtain ⟨T1, e1, b1, k1, c1, r1⟩ := b_wlit H T 0 (B) 92 92 rfl hb (by simp only [fits, decide_eq_true_eq, List.length_append, List.length_cons, List.length_nil] at *; omega)
        have c1 := c1.cln
        simp only [Nat.add_zero] at r1
        obtain ⟨T2, e2, b2, k2, c2, r2⟩ := b_wlit H T1 0 (B ++ [92]) c c.toNat rfl b1 (by simp only [fits, decide_eq_true_eq, List.length_append, List.length_cons, List.length_nil] at *; omega)
        have c2 := c2.cln
        simp only [Nat.add_zero] at r2
        simp only [go_sem, simprocAttr, hl, h0, h1, h5, h10, h11, hc, hlt, hw, bslice4, g46, g59, g40, g41, g64, g36, g34, g92, r1, r2]
        refine ⟨n - 1, by omega, _, i + 1, T2, _, by omega, rfl, ?_, by simp only [go_sem, simprocAttr, he, c1, c2], by simp only [go_sem, simprocAttr, hl], by simp only [go_sem, simprocAttr, hl, h0], by simp only [go_sem, simprocAttr, hl, h1], by simp only [go_sem, simprocAttr, hl, h5], by simp only [go_sem, simprocAttr, hl, h10], by simp only [go_sem, simprocAttr, hl]⟩
        rw [hsn, hE]; simpa [List.append_assoc] using b2
      · rw [if_pos rfl] at hE
        obtain ⟨T1, e1, b1, k1, c1, r1⟩ := b_wlit H T 0 (B) c c.toNat rfl hb (by simp only [fits, decide_eq_true_eq, List.length_append, List.length_cons, List.length_nil] at *; omega)
        have c1 := c1.cln
        simp only [Nat.add_zero] at r1
        simp only [go_sem, simprocAttr, hl, h0, h1, h5, h10, h11, hc, hlt, hw, bslice4, g46, g59, g40, g41, g64, g36, g34, g92, r1]
        refine ⟨n - 1, by omega, _, i + 1, T1, _, by omega, rfl, ?_, by simp only [go_sem, simprocAttr, he, c1], by simp only [go_sem, simprocAttr, hl], by simp only [go_sem, simprocAttr, hl, h0], by simp only [go_sem, simprocAttr, hl, h1], by simp only [go_sem, simprocAttr, hl, h5], by simp only [go_sem, simprocAttr, hl, h10], by simp only [go_sem, simprocAttr, hl]⟩
        rw [hsn, hE]; simpa [List.append_assoc] using b1
    by_cases q59 : c.toNat = 59
    · have hE : escB q c = if q = true then [c] else [92, c] := by unfold escB; rw [if_neg (by omega), if_pos (by omega)]
      have g46 : ((c.toNat : Int) == 46) = false := by simp; omega
      have g59 : ((c.toNat : Int) == 59) = true := by simp; omega
      have g40 : ((c.toNat : Int) == 40) = false := by simp; omega
      have g41 : ((c.toNat : Int) == 41) = false := by simp; omega
      have g64 : ((c.toNat : Int) == 64) = false := by simp; omega
      have g36 : ((c.toNat : Int) == 36) = false := by simp; omega
      have g34 : ((c.toNat : Int) == 34) = false := by simp; omega
      have g92 : ((c.toNat : Int) == 92) = false := by simp; omega
      cases q
      · rw [if_neg (by simp)] at hE
        obtain ⟨T1, e1, b1, k1, c1, r1⟩ := b_wlit H T 0 (B) 92 92 rfl hb (by simp only [fits, decide_eq_true_eq, List.length_append, List.length_cons, List.length_nil] at *; omega)
        have c1 := c1.cln
        simp only [Nat.add_zero] at r1
        obtain ⟨T2, e2, b2, k2, c2, r2⟩ := b_wlit H T1 0 (B ++ [92]) c c.toNat rfl b1 (by simp only [fits, decide_eq_true_eq, List.length_append, List.length_cons, List.length_nil] at *; omega)
        have c2 := c2.cln
        simp only [Nat.add_zero] at r2
        simp only [go_sem, simprocAttr, hl, h0, h1, h5, h10, h11, hc, hlt, hw, bslice4, g46, g59, g40, g41, g64, g36, g34, g92, r1, r2]
        refine ⟨n - 1, by omega, _, i + 1, T2, _, by omega, rfl, ?_, by simp only [go_sem, simprocAttr, he, c1, c2], by simp only [go_sem, simprocAttr, hl], by simp only [go_sem, simprocAttr, hl, h0], by simp only [go_sem, simprocAttr, hl, h1], by simp only [go_sem, simprocAttr, hl, h5], by simp only [go_sem, simprocAttr, hl, h10], by simp only [go_sem, simprocAttr, hl]⟩
        rw [hsn, hE]; simpa [List.append_assoc] using b2
      · rw [if_pos rfl] at hE
        obtain ⟨T1, e1, b1, k1, c1, r1⟩ := b_wlit H T 0 (B) c c.toNat rfl hb (by simp only [fits, decide_eq_true_eq, List.length_append, List.length_cons, List.length_nil] at *; omega)
        have c1 := c1.cln
        simp only [Nat.add_zero] at r1
        simp only [go_sem, simprocAttr, hl, h0, h1, h5, h10, h11, hc, hlt, hw, bslice4, g46, g59, g40, g41, g64, g36, g34, g92, r1]
        refine ⟨n - 1, by omega, _, i + 1, T1, _, by omega, rfl, ?_, by simp only [go_sem, simprocAttr, he, c1], by simp only [go_sem, simprocAttr, hl], by simp only [go_sem, simprocAttr, hl, h0], by simp only [go_sem, simprocAttr, hl, h1], by simp only [go_sem, simprocAttr, hl, h5], by simp only [go_sem, simprocAttr, hl, h10], by simp only [go_sem, simprocAttr, hl]⟩
        rw [hsn, hE]; simpa [List.append_assoc] using b1
    by_cases q40 : c.toNat = 40
    · have hE : escB q c = if q = true then [c] else [92, c] := by unfold escB; rw [if_neg (by omega), if_pos (by omega)]
      have g46 : ((c.toNat : Int) == 46) = false := by simp; omega
      have g59 : ((c.toNat : Int) == 59) = false := by simp; omega
      have g40 : ((c.toNat : Int) == 40) = true := by simp; omega
      have g41 : ((c.toNat : Int) == 41) = false := by simp; omega
      have g64 : ((c.toNat : Int) == 64) = false := by simp; omega
      have g36 : ((c.toNat : Int) == 36) = false := by simp; omega
      have g34 : ((c.toNat : Int) == 34) = false := by simp; omega
      have g92 : ((c.toNat : Int) == 92) = false := by simp; omega
      cases q
      · rw [if_neg (by simp)] at hE
        obtain ⟨T1, e1, b1, k1, c1, r1⟩ := b_wlit H T 0 (B) 92 92 rfl hb (by simp only [fits, decide_eq_true_eq, List.length_append, List.length_cons, List.length_nil] at *; omega)
        have c1 := c1.cln
        simp only [Nat.add_zero] at r1
        obtain ⟨T2, e2, b2, k2, c2, r2⟩ := b_wlit H T1 0 (B ++ [92]) c c.toNat rfl b1 (by simp only [fits, decide_eq_true_eq, List.length_append, List.length_cons, List.length_nil] at *; omega)
        have c2 := c2.cln
        simp only [Nat.add_zero] at r2
        simp only [go_sem, simprocAttr, hl, h0, h1, h5, h10, h11, hc, hlt, hw, bslice4, g46, g59, g40, g41, g64, g36, g34, g92, r1, r2]
        refine ⟨n - 1, by omega, _, i + 1, T2, _, by omega, rfl, ?_, by simp only [go_sem, simprocAttr, he, c1, c2], by simp only [go_sem, simprocAttr, hl], by simp only [go_sem, simprocAttr, hl, h0], by simp only [go_sem, simprocAttr, hl, h1], by simp only [go_sem, simprocAttr, hl, h5], by simp only [go_sem, simprocAttr, hl, h10], by simp only [go_sem, simprocAttr, hl]⟩
        rw [hsn, hE]; simpa [List.append_assoc] using b2
      · rw [if_pos rfl] at hE
        obtain ⟨T1, e1, b1, k1, c1, r1⟩ := b_wlit H T 0 (B) c c.toNat rfl hb (by simp only [fits, decide_eq_true_eq, List.length_append, List.length_cons, List.length_nil] at *; omega)
        have c1 := c1.cln
        simp only [Nat.add_zero] at r1
        simp only [go_sem, simprocAttr, hl, h0, h1, h5, h10, h11, hc, hlt, hw, bslice4, g46, g59, g40, g41, g64, g36, g34, g92, r1]
        refine ⟨n - 1, by omega, _, i + 1, T1, _, by omega, rfl, ?_, by simp only [go_sem, simprocAttr, he, c1], by simp only [go_sem, simprocAttr, hl], by simp only [go_sem, simprocAttr, hl, h0], by simp only [go_sem, simprocAttr, hl, h1], by simp only [go_sem, simprocAttr, hl, h5], by simp only [go_sem, simprocAttr, hl, h10], by simp only [go_sem, simprocAttr, hl]⟩
        rw [hsn, hE]; simpa [List.append_assoc] using b1
    by_cases q41 : c.toNat = 41
    · have hE : escB q c = if q = true then [c] else [92, c] := by unfold escB; rw [if_neg (by omega), if_pos (by omega)]
      have g46 : ((c.toNat : Int) == 46) = false := by simp; omega
      have g59 : ((c.toNat : Int) == 59) = false := by simp; omega
      have g40 : ((c.toNat : Int) == 40) = false := by simp; omega
      have g41 : ((c.toNat : Int) == 41) = true := by simp; omega
      have g64 : ((c.toNat : Int) == 64) = false := by simp; omega
      have g36 : ((c.toNat : Int) == 36) = false := by simp; omega
      have g34 : ((c.toNat : Int) == 34) = false := by simp; omega
      have g92 : ((c.toNat : Int) == 92) = false := by simp; omega
      cases q
      · rw [if_neg (by simp)] at hE
        obtain ⟨T1, e1, b1, k1, c1, r1⟩ := b_wlit H T 0 (B) 92 92 rfl hb (by simp only [fits, decide_eq_true_eq, List.length_append, List.length_cons, List.length_nil] at *; omega)
        have c1 := c1.cln
        simp only [Nat.add_zero] at r1
        obtain ⟨T2, e2, b2, k2, c2, r2⟩ := b_wlit H T1 0 (B ++ [92]) c c.toNat rfl b1 (by simp only [fits, decide_eq_true_eq, List.length_append, List.length_cons, List.length_nil] at *; omega)
        have c2 := c2.cln
        simp only [Nat.add_zero] at r2
        simp only [go_sem, simprocAttr, hl, h0, h1, h5, h10, h11, hc, hlt, hw, bslice4, g46, g59, g40, g41, g64, g36, g34, g92, r1, r2]
        refine ⟨n - 1, by omega, _, i + 1, T2, _, by omega, rfl, ?_, by simp only [go_sem, simprocAttr, he, c1, c2], by simp only [go_sem, simprocAttr, hl], by simp only [go_sem, simprocAttr, hl, h0], by simp only [go_sem, simprocAttr, hl, h1], by simp only [go_sem, simprocAttr, hl, h5], by simp only [go_sem, simprocAttr, hl, h10], by simp only [go_sem, simprocAttr, hl]⟩
        rw [hsn, hE]; simpa [List.append_assoc] using b2
      · rw [if_pos rfl] at hE
        obtain ⟨T1, e1, b1, k1, c1, r1⟩ := b_wlit H T 0 (B) c c.toNat rfl hb (by simp only [fits, decide_eq_true_eq, List.length_append, List.length_cons, List.length_nil] at *; omega)
        have c1 := c1.cln
        simp only [Nat.add_zero] at r1
        simp only [go_sem, simprocAttr, hl, h0, h1, h5, h10, h11, hc, hlt, hw, bslice4, g46, g59, g40, g41, g64, g36, g34, g92, r1]
        refine ⟨n - 1, by omega, _, i + 1, T1, _, by omega, rfl, ?_, by simp only [go_sem, simprocAttr, he, c1], by simp only [go_sem, simprocAttr, hl], by simp only [go_sem, simprocAttr, hl, h0], by simp only [go_sem, simprocAttr, hl, h1], by simp only [go_sem, simprocAttr, hl, h5], by simp only [go_sem, simprocAttr, hl, h10], by simp only [go_sem, simprocAttr, hl]⟩
        rw [hsn, hE]; simpa [List.append_assoc] using b1
    by_cases q64 : c.toNat = 64
    · have hE : escB q c = if q = true then [c] else [92, c] := by unfold escB; rw [if_neg (by omega), if_pos (by omega)]
      have g46 : ((c.toNat : Int) == 46) = false := by simp; omega
      have g59 : ((c.toNat : Int) == 59) = false := by simp; omega
      have g40 : ((c.toNat : Int) == 40) = false := by simp; omega
      have g41 : ((c.toNat : Int) == 41) = false := by simp; omega
      have g64 : ((c.toNat : Int) == 64) = true := by simp; omega
      have g36 : ((c.toNat : Int) == 36) = false := by simp; omega
      have g34 : ((c.toNat : Int) == 34) = false := by simp; omega
      have g92 : ((c.toNat : Int) == 92) = false := by simp; omega
      cases q
      · rw [if_neg (by simp)] at hE
        obtain ⟨T1, e1, b1, k1, c1, r1⟩ := b_wlit H T 0 (B) 92 92 rfl hb (by simp only [fits, decide_eq_true_eq, List.length_append, List.length_cons, List.length_nil] at *; omega)
        have c1 := c1.cln
        simp only [Nat.add_zero] at r1
        obtain ⟨T2, e2, b2, k2, c2, r2⟩ := b_wlit H T1 0 (B ++ [92]) c c.toNat rfl b1 (by simp only [fits, decide_eq_true_eq, List.length_append, List.length_cons, List.length_nil] at *; omega)
        have c2 := c2.cln
        simp only [Nat.add_zero] at r2
        simp only [go_sem, simprocAttr, hl, h0, h1, h5, h10, h11, hc, hlt, hw, bslice4, g46, g59, g40, g41, g64, g36, g34, g92, r1, r2]
        refine ⟨n - 1, by omega, _, i + 1, T2, _, by omega, rfl, ?_, by simp only [go_sem, simprocAttr, he, c1, c2], by simp only [go_sem, simprocAttr, hl], by simp only [go_sem, simprocAttr, hl, h0], by simp only [go_sem, simprocAttr, hl, h1], by simp only [go_sem, simprocAttr, hl, h5], by simp only [go_sem, simprocAttr, hl, h10], by simp only [go_sem, simprocAttr, hl]⟩
        rw [hsn, hE]; simpa [List.append_assoc] using b2
      · rw [if_pos rfl] at hE
        obtain ⟨T1, e1, b1, k1, c1, r1⟩ := b_wlit H T 0 (B) c c.toNat rfl hb (by simp only [fits, decide_eq_true_eq, List.length_append, List.length_cons, List.length_nil] at *; omega)
        have c1 := c1.cln
        simp only [Nat.add_zero] at r1
        simp only [go_sem, simprocAttr, hl, h0, h1, h5, h10, h11, hc, hlt, hw, bslice4, g46, g59, g40, g41, g64, g36, g34, g92, r1]
        refine ⟨n - 1, by omega, _, i + 1, T1, _, by omega, rfl, ?_, by simp only [go_sem, simprocAttr, he, c1], by simp only [go_sem, simprocAttr, hl], by simp only [go_sem, simprocAttr, hl, h0], by simp only [go_sem, simprocAttr, hl, h1], by simp only [go_sem, simprocAttr, hl, h5], by simp only [go_sem, simprocAttr, hl, h10], by simp only [go_sem, simprocAttr, hl]⟩
        rw [hsn, hE]; simpa [List.append_assoc] using b1
    by_cases q36 : c.toNat = 36
    · have hE : escB q c = if q = true then [c] else [92, c] := by unfold escB; rw [if_neg (by omega), if_pos (by omega)]
      have g46 : ((c.toNat : Int) == 46) = false := by simp; omega
      have g59 : ((c.toNat : Int) == 59) = false := by simp; omega
      have g40 : ((c.toNat : Int) == 40) = false := by simp; omega
      have g41 : ((c.toNat : Int) == 41) = false := by simp; omega
      have g64 : ((c.toNat : Int) == 64) = false := by simp; omega
      have g36 : ((c.toNat : Int) == 36) = true := by simp; omega
      have g34 : ((c.toNat : Int) == 34) = false := by simp; omega
      have g92 : ((c.toNat : Int) == 92) = false := by simp; omega
      cases q
      · rw [if_neg (by simp)] at hE
        obtain ⟨T1, e1, b1, k1, c1, r1⟩ := b_wlit H T 0 (B) 92 92 rfl hb (by simp only [fits, decide_eq_true_eq, List.length_append, List.length_cons, List.length_nil] at *; omega)
        have c1 := c1.cln
        simp only [Nat.add_zero] at r1
        obtain ⟨T2, e2, b2, k2, c2, r2⟩ := b_wlit H T1 0 (B ++ [92]) c c.toNat rfl b1 (by simp only [fits, decide_eq_true_eq, List.length_append, List.length_cons, List.length_nil] at *; omega)
        have c2 := c2.cln
        simp only [Nat.add_zero] at r2
        simp only [go_sem, simprocAttr, hl, h0, h1, h5, h10, h11, hc, hlt, hw, bslice4, g46, g59, g40, g41, g64, g36, g34, g92, r1, r2]
        refine ⟨n - 1, by omega, _, i + 1, T2, _, by omega, rfl, ?_, by simp only [go_sem, simprocAttr, he, c1, c2], by simp only [go_sem, simprocAttr, hl], by simp only [go_sem, simprocAttr, hl, h0], by simp only [go_sem, simprocAttr, hl, h1], by simp only [go_sem, simprocAttr, hl, h5], by simp only [go_sem, simprocAttr, hl, h10], by simp only [go_sem, simprocAttr, hl]⟩
        rw [hsn, hE]; simpa [List.append_assoc] using b2
      · rw [if_pos rfl] at hE
        obtain ⟨T1, e1, b1, k1, c1, r1⟩ := b_wlit H T 0 (B) c c.toNat rfl hb (by simp only [fits, decide_eq_true_eq, List.length_append, List.length_cons, List.length_nil] at *; omega)
        have c1 := c1.cln
        simp only [Nat.add_zero] at r1
        simp only [go_sem, simprocAttr, hl, h0, h1, h5, h10, h11, hc, hlt, hw, bslice4, g46, g59, g40, g41, g64, g36, g34, g92, r1]
        refine ⟨n - 1, by omega, _, i + 1, T1, _, by omega, rfl, ?_, by simp only [go_sem, simprocAttr, he, c1], by simp only [go_sem, simprocAttr, hl], by simp only [go_sem, simprocAttr, hl, h0], by simp only [go_sem, simprocAttr, hl, h1], by simp only [go_sem, simprocAttr, hl, h5], by simp only [go_sem, simprocAttr, hl, h10], by simp only [go_sem, simprocAttr, hl]⟩
        rw [hsn, hE]; simpa [List.append_assoc] using b1
    have g46 : ((c.toNat : Int) == 46) = false := by simp; omega
    have g59 : ((c.toNat : Int) == 59) = false := by simp; omega
    have g40 : ((c.toNat : Int) == 40) = false := by simp; omega
    have g41 : ((c.toNat : Int) == 41) = false := by simp; omega
    have g64 : ((c.toNat : Int) == 64) = false := by simp; omega
    have g36 : ((c.toNat : Int) == 36) = false := by simp; omega
    have g34 : ((c.toNat : Int) == 34) = false := by simp; omega
    have g92 : ((c.toNat : Int) == 92) = false := by simp; omega
    have hE : escB q c = if (32 < c.toNat ∧ c.toNat < 127) ∨ (c.toNat = 32 ∧ q = true) then [c] else [92, UInt8.ofNat (48 + c.toNat / 100), UInt8.ofNat (48 + c.toNat / 10 % 10), UInt8.ofNat (48 + c.toNat % 10)] := by unfold escB; rw [if_neg (by omega), if_neg (by omega)]
    by_cases hp : 32 < c.toNat ∧ c.toNat < 127
    · rw [if_pos (.inl hp)] at hE
      have p0 : decide ((c.toNat : Int) > 32) = true := by simp; omega
      have p1 : decide ((c.toNat : Int) < 127) = true := by simp; omega
      have p2 : ((c.toNat : Int) == 32) = false := by simp; omega
      obtain ⟨T1, e1, b1, k1, c1, r1⟩ := b_wlit H T 0 (B) c c.toNat rfl hb (by simp only [fits, decide_eq_true_eq, List.length_append, List.length_cons, List.length_nil] at *; omega)
      have c1 := c1.cln
      simp only [Nat.add_zero] at r1
      simp only [go_sem, simprocAttr, hl, h0, h1, h5, h10, h11, hc, hlt, hw, bslice4, g46, g59, g40, g41, g64, g36, g34, g92, p0, p1, p2, r1]
      refine ⟨n - 1, by omega, _, i + 1, T1, _, by omega, rfl, ?_, by simp only [go_sem, simprocAttr, he, c1], by simp only [go_sem, simprocAttr, hl], by simp only [go_sem, simprocAttr, hl, h0], by simp only [go_sem, simprocAttr, hl, h1], by simp only [go_sem, simprocAttr, hl, h5], by simp only [go_sem, simprocAttr, hl, h10], by simp only [go_sem, simprocAttr, hl]⟩
      rw [hsn, hE]; simpa [List.append_assoc] using b1
    by_cases hz : c.toNat = 32
    · have p0 : decide ((c.toNat : Int) > 32) = false := by simp; omega
      have p1 : decide ((c.toNat : Int) < 127) = true := by simp; omega
      have p2 : ((c.toNat : Int) == 32) = true := by simp; omega
      cases q
      · rw [if_neg (by simp; omega)] at hE
        have hb' := hb.more [.cells (u8s [92, UInt8.ofNat (48 + c.toNat / 100), UInt8.ofNat (48 + c.toNat / 10 % 10), UInt8.ofNat (48 + c.toNat % 10)]) 5 .rw]
        obtain ⟨T1, e1, b1, k1, c1, r1⟩ := b_write H (T ++ [.cells (u8s [92, UInt8.ofNat (48 + c.toNat / 100), UInt8.ofNat (48 + c.toNat / 10 % 10), UInt8.ofNat (48 + c.toNat % 10)]) 5 .rw]) 0 T.length (B) [92, UInt8.ofNat (48 + c.toNat / 100), UInt8.ofNat (48 + c.toNat / 10 % 10), UInt8.ofNat (48 + c.toNat % 10)] hb' (by simp) (by omega) (by simp) (by simp only [fits, decide_eq_true_eq, List.length_append, List.length_cons, List.length_nil] at *; omega)
        simp only [u8s, List.map_cons, List.map_nil, List.length_cons, List.length_nil, ← dg_a hcl, ← dg_b hcl, ← dg_c hcl] at r1
        have r1 : ∀ k, callK Tryd.prog 74 [.ptr (H.length + 0) 0, .slice (H.length + T.length) 0 4 (.ex 4)] (H ++ (T ++ [.cells [.int .u8 92, .int .u8 (IntKind.u8.wrap (48 + IntKind.u8.wrap ((c.toNat : Int).tdiv 100))), .int .u8 (IntKind.u8.wrap (48 + (IntKind.u8.wrap ((c.toNat : Int).tdiv 10)).tmod 10)), .int .u8 (IntKind.u8.wrap (48 + (c.toNat : Int).tmod 10))] 5 .rw])) k = k (.tuple [.int .i64 4, .nili], H ++ T1, e1) := r1
        have c1 := c1.cln
        simp only [Nat.add_zero] at r1
        simp only [go_sem, simprocAttr, hl, h0, h1, h5, h10, h11, hc, hlt, hw, bslice4, g46, g59, g40, g41, g64, g36, g34, g92, p0, p1, p2, r1]
        refine ⟨n - 1, by omega, _, i + 1, T1, _, by omega, rfl, ?_, by simp only [go_sem, simprocAttr, he, c1], by simp only [go_sem, simprocAttr, hl], by simp only [go_sem, simprocAttr, hl, h0], by simp only [go_sem, simprocAttr, hl, h1], by simp only [go_sem, simprocAttr, hl, h5], by simp only [go_sem, simprocAttr, hl, h10], by simp only [go_sem, simprocAttr, hl]⟩
        rw [hsn, hE]; simpa [List.append_assoc] using b1
      · rw [if_pos (.inr ⟨hz, rfl⟩)] at hE
        obtain ⟨T1, e1, b1, k1, c1, r1⟩ := b_wlit H T 0 (B) c c.toNat rfl hb (by simp only [fits, decide_eq_true_eq, List.length_append, List.length_cons, List.length_nil] at *; omega)
        have c1 := c1.cln
        simp only [Nat.add_zero] at r1
        simp only [go_sem, simprocAttr, hl, h0, h1, h5, h10, h11, hc, hlt, hw, bslice4, g46, g59, g40, g41, g64, g36, g34, g92, p0, p1, p2, r1]
        refine ⟨n - 1, by omega, _, i + 1, T1, _, by omega, rfl, ?_, by simp only [go_sem, simprocAttr, he, c1], by simp only [go_sem, simprocAttr, hl], by simp only [go_sem, simprocAttr, hl, h0], by simp only [go_sem, simprocAttr, hl, h1], by simp only [go_sem, simprocAttr, hl, h5], by simp only [go_sem, simprocAttr, hl, h10], by simp only [go_sem, simprocAttr, hl]⟩
        rw [hsn, hE]; simpa [List.append_assoc] using b1
    rw [if_neg (by omega)] at hE
    by_cases hlo : c.toNat < 32
    · have p0 : decide ((c.toNat : Int) > 32) = false := by simp; omega
      have p1 : decide ((c.toNat : Int) < 127) = true := by simp; omega
      have p2 : ((c.toNat : Int) == 32) = false := by simp; omega
      have hb' := hb.more [.cells (u8s [92, UInt8.ofNat (48 + c.toNat / 100), UInt8.ofNat (48 + c.toNat / 10 % 10), UInt8.ofNat (48 + c.toNat % 10)]) 5 .rw]
      obtain ⟨T1, e1, b1, k1, c1, r1⟩ := b_write H (T ++ [.cells (u8s [92, UInt8.ofNat (48 + c.toNat / 100), UInt8.ofNat (48 + c.toNat / 10 % 10), UInt8.ofNat (48 + c.toNat % 10)]) 5 .rw]) 0 T.length (B) [92, UInt8.ofNat (48 + c.toNat / 100), UInt8.ofNat (48 + c.toNat / 10 % 10), UInt8.ofNat (48 + c.toNat % 10)] hb' (by simp) (by omega) (by simp) (by simp only [fits, decide_eq_true_eq, List.length_append, List.length_cons, List.length_nil] at *; omega)
      simp only [u8s, List.map_cons, List.map_nil, List.length_cons, List.length_nil, ← dg_a hcl, ← dg_b hcl, ← dg_c hcl] at r1
      have r1 : ∀ k, callK Tryd.prog 74 [.ptr (H.length + 0) 0, .slice (H.length + T.length) 0 4 (.ex 4)] (H ++ (T ++ [.cells [.int .u8 92, .int .u8 (IntKind.u8.wrap (48 + IntKind.u8.wrap ((c.toNat : Int).tdiv 100))), .int .u8 (IntKind.u8.wrap (48 + (IntKind.u8.wrap ((c.toNat : Int).tdiv 10)).tmod 10)), .int .u8 (IntKind.u8.wrap (48 + (c.toNat : Int).tmod 10))] 5 .rw])) k = k (.tuple [.int .i64 4, .nili], H ++ T1, e1) := r1
      have c1 := c1.cln
      simp only [Nat.add_zero] at r1
      simp only [go_sem, simprocAttr, hl, h0, h1, h5, h10, h11, hc, hlt, hw, bslice4, g46, g59, g40, g41, g64, g36, g34, g92, p0, p1, p2, r1]
      refine ⟨n - 1, by omega, _, i + 1, T1, _, by omega, rfl, ?_, by simp only [go_sem, simprocAttr, he, c1], by simp only [go_sem, simprocAttr, hl], by simp only [go_sem, simprocAttr, hl, h0], by simp only [go_sem, simprocAttr, hl, h1], by simp only [go_sem, simprocAttr, hl, h5], by simp only [go_sem, simprocAttr, hl, h10], by simp only [go_sem, simprocAttr, hl]⟩
      rw [hsn, hE]; simpa [List.append_assoc] using b1
    · have p0 : decide ((c.toNat : Int) > 32) = true := by simp; omega
      have p1 : decide ((c.toNat : Int) < 127) = false := by simp; omega
      have p2 : ((c.toNat : Int) == 32) = false := by simp; omega
      have hb' := hb.more [.cells (u8s [92, UInt8.ofNat (48 + c.toNat / 100), UInt8.ofNat (48 + c.toNat / 10 % 10), UInt8.ofNat (48 + c.toNat % 10)]) 5 .rw]
      obtain ⟨T1, e1, b1, k1, c1, r1⟩ := b_write H (T ++ [.cells (u8s [92, UInt8.ofNat (48 + c.toNat / 100), UInt8.ofNat (48 + c.toNat / 10 % 10), UInt8.ofNat (48 + c.toNat % 10)]) 5 .rw]) 0 T.length (B) [92, UInt8.ofNat (48 + c.toNat / 100), UInt8.ofNat (48 + c.toNat / 10 % 10), UInt8.ofNat (48 + c.toNat % 10)] hb' (by simp) (by omega) (by simp) (by simp only [fits, decide_eq_true_eq, List.length_append, List.length_cons, List.length_nil] at *; omega)
      simp only [u8s, List.map_cons, List.map_nil, List.length_cons, List.length_nil, ← dg_a hcl, ← dg_b hcl, ← dg_c hcl] at r1
      have r1 : ∀ k, callK Tryd.prog 74 [.ptr (H.length + 0) 0, .slice (H.length + T.length) 0 4 (.ex 4)] (H ++ (T ++ [.cells [.int .u8 92, .int .u8 (IntKind.u8.wrap (48 + IntKind.u8.wrap ((c.toNat : Int).tdiv 100))), .int .u8 (IntKind.u8.wrap (48 + (IntKind.u8.wrap ((c.toNat : Int).tdiv 10)).tmod 10)), .int .u8 (IntKind.u8.wrap (48 + (c.toNat : Int).tmod 10))] 5 .rw])) k = k (.tuple [.int .i64 4, .nili], H ++ T1, e1) := r1
      have c1 := c1.cln
      simp only [Nat.add_zero] at r1
      simp only [go_sem, simprocAttr, hl, h0, h1, h5, h10, h11, hc, hlt, hw, bslice4, g46, g59, g40, g41, g64, g36, g34, g92, p0, p1, p2, r1]
      refine ⟨n - 1, by omega, _, i + 1, T1, _, by omega, rfl, ?_, by simp only [go_sem, simprocAttr, he, c1], by simp only [go_sem, simprocAttr, hl], by simp only [go_sem, simprocAttr, hl, h0], by simp only [go_sem, simprocAttr, hl, h1], by simp only [go_sem, simprocAttr, hl, h5], by simp only [go_sem, simprocAttr, hl, h10], by simp only [go_sem, simprocAttr, hl]⟩
      rw [hsn, hE]; simpa [List.append_assoc] using b1
  · have hi : i = s.length := by omega
    subst hi
    rw [List.take_length] at hb
    obtain ⟨T1, e1, c1, r1⟩ := b_string H T 0 _ hb (by have := escS_len q s; omega)
    simp only [Nat.add_zero] at r1
    simp only [go_sem, simprocAttr, hl, h0, h1, h5, h10, h11, hlt, r1]
    exact leave_flat rfl (clean_and he c1)
end Go.Proofs.YtgkpgpdkolpfkaaDoor.V
namespace Go.Proofs.YtgkpgpdkolpfkaaDoor.V
open Go
set_option linter.unusedSimpArgs false
set_option linter.unusedVariables false
attribute [local irreducible] go goOps goD opK callK callT stepK leaveTo nextK

/-- A name's labels; none: it is none. -/
def labs (s : List UInt8) : List (List UInt8) := (nm s).getD []
/-- Where a label lies. -/
theorem lab_at : ∀ (L : List (List UInt8)) (s : List UInt8) (a : Nat), lab (s.drop a) = some L → ∀ (i : Nat) (l : List UInt8), L[i]? = some l →
    ∃ p c, (posn a L)[i]? = some p ∧ s[p]? = some c ∧ c.toNat = l.length ∧ (s.drop (p + 1)).take l.length = l ∧ p + (1 + l.length) ≤ s.length ∧ 0 < l.length ∧ l.length ≤ 63
  | [], s, a, h, i, l, hi => by simp at hi
  | m :: L, s, a, h, i, l, hi => by
    cases hd : s.drop a with
    | nil => rw [hd, lab_nil] at h; cases h
    | cons c t =>
      rw [hd, lab_cons] at h
      have ha : a < s.length := by
        have := congrArg List.length hd
        simp at this; omega
      have hc : s[a]? = some c := by
        have := congrArg (·[0]?) hd
        simpa using this
      have ht : t = s.drop (a + 1) := by
        rw [drop_at hc] at hd
        injection hd with _ h2
        exact h2.symm
      split at h
      · split at h <;> cases h
      · split at h
        · cases h
        · rename_i h0 h1
          cases hL : lab (t.drop c.toNat) with
          | none => rw [hL] at h; cases h
          | some L' =>
            rw [hL] at h
            simp only [Option.map_some, Option.some.injEq, List.cons.injEq] at h
            obtain ⟨rfl, rfl⟩ := h
            have hml : (t.take c.toNat).length = c.toNat := by rw [List.length_take]; omega
            have htl : t.length = s.length - (a + 1) := by rw [ht, List.length_drop]
            cases i with
            | zero =>
              simp only [List.getElem?_cons_zero, Option.some.injEq] at hi
              subst hi
              refine ⟨a, c, rfl, hc, hml.symm, by rw [hml, ht], by rw [hml]; omega, by rw [hml]; omega, by rw [hml]; omega⟩
            | succ i =>
              simp only [List.getElem?_cons_succ] at hi
              have hr : lab (s.drop (a + (1 + (t.take c.toNat).length))) = some L' := by
                rw [hml, show a + (1 + c.toNat) = (a + 1) + c.toNat by omega, ← List.drop_drop, ← ht]; exact hL
              obtain ⟨p, c', h1, h2⟩ := lab_at L' s _ hr i l hi
              exact ⟨p, c', h1, h2⟩
theorem posA_at {L : List (List UInt8)} {i p : Nat} (h : (posn 0 L)[i]? = some p) (e : TypeId) (k : Kd) : ldC i 1 false (.cells (posA L) e k) = some (.int .i64 (p : Nat)) := by
  rw [ldC_f]; simp [posA, h]
theorem nm_lab {s : List UInt8} {L : List (List UInt8)} (h : nm s = some L) : lab s = some L ∧ s.length ≤ 255 := by
  unfold nm at h
  split at h
  · cases h
  · exact ⟨h, by omega⟩
theorem tot_le : ∀ (L : List (List UInt8)) (s : List UInt8), lab s = some L → s.length = tot L + 1
  | [], s, h => by
    cases s with
    | nil => cases h
    | cons c t =>
      rw [lab_cons] at h
      split at h
      · split at h
        · rename_i h'; rw [List.length_cons, h']; rfl
        · cases h
      · split at h
        · cases h
        · rw [Option.map_eq_some_iff] at h
          obtain ⟨_, _, h⟩ := h
          cases h
  | l :: L, s, h => by
    cases s with
    | nil => cases h
    | cons c t =>
      rw [lab_cons] at h
      split at h
      · split at h <;> cases h
      · split at h
        · cases h
        · rename_i h0 h1
          rw [Option.map_eq_some_iff] at h
          obtain ⟨L', h2, h3⟩ := h
          injection h3 with h4 h5
          subst h4 h5
          have := tot_le L' _ h2
          rw [List.length_drop] at this
          have e : tot (t.take c.toNat :: L') = (1 + (t.take c.toNat).length) + tot L' := by simp [tot]
          rw [e, List.length_take, List.length_cons]; omega
theorem len_tot : ∀ (L : List (List UInt8)), L.length ≤ tot L
  | [] => Nat.zero_le _
  | l :: L => by
    have := len_tot L
    have e : tot (l :: L) = (1 + l.length) + tot L := by simp [tot]
    rw [e, List.length_cons]; omega

set_option maxRecDepth 20000 in
theorem name_Labels (s : List UInt8) (H) (hs : s.length ≤ maxI) : ∃ b : AV × Hp, GBuf H.length b.2 b.1 9 1 (labs s).length (strs (labs s)) ∧
    ∀ k, callK Tryd.prog 68 [.str s] H k = k (b.1, H ++ b.2, z0) := by
  obtain ⟨⟨bv, bT⟩, hb, hst⟩ := name_starts s H hs
  refine callK_exP (fun b : AV × Hp => GBuf H.length b.2 b.1 9 1 (labs s).length (strs (labs s))) (fun b => (b.1, H ++ b.2, z0)) ?_
  refine callK_start (n := 37) (rs := [.tmp 2]) Tryd.func68 rfl rfl rfl ?_
  intro σ hl ha
  have h0 := ha 0 (by simp)
  clear ha
  simp only [Option.getD_some, List.getElem?_cons_zero, List.getElem?_cons_succ] at h0
  cases hn : nm s with
  | none =>
    have hlb : labs s = [] := by rw [labs, hn]; rfl
    rw [hn] at hst
    simp only [Option.isSome_none] at hst
    simp only [go_sem, simprocAttr, hl, h0, hst]
    exact ⟨(.nils, []), by rw [hlb]; exact .inl ⟨rfl, rfl, rfl⟩, by simp⟩
  | some L =>
    have hlb : labs s = L := by rw [labs, hn]; rfl
    have hB := hb L hn
    obtain ⟨hL, h255⟩ := nm_lab hn
    have hLl : L.length ≤ 255 := by have := tot_le L s hL; have := len_tot L; omega
    rw [hn] at hst
    simp only [Option.isSome_some] at hst
    rw [hlb]
    have hlen : ∀ H', evLen Tryd.prog 28 bv H' = some (.int .i64 L.length) := by
      intro H'
      obtain ⟨rfl, h2, h3⟩ | ⟨h1, h2, m, rfl, h3⟩ := hB
      · simp only [evLen, tsh_28, h3]; rfl
      · simp only [evLen, tsh_28]
    simp only [go_sem, simprocAttr, hl, h0, hst, hlen]
    refine go_rounds (fun n st => ∃ σ i v T e, n + i = L.length ∧ st = ⟨σ, H ++ T, e⟩ ∧ GBuf H.length T v 9 1 i (strs (L.take i)) ∧ GBuf H.length T bv 3 1 L.length (posA L) ∧ clean H.length e ∧ σ.length = 37 ∧ fr σ 0 = .str s ∧ fr σ 5 = v ∧ fr σ 15 = bv ∧ fr σ 16 = .int .i64 L.length ∧ fr σ 17 = .int .i64 (i : Nat)) L.length
      ⟨_, 0, .nils, bT, _, rfl, rfl, .inl ⟨rfl, rfl, rfl⟩, hB, ⟨rfl, rfl⟩, by simp only [go_sem, simprocAttr, hl], by simp only [go_sem, simprocAttr, hl, h0], by simp only [go_sem, simprocAttr, hl], by simp only [go_sem, simprocAttr, hl], by simp only [go_sem, simprocAttr, hl], by simp only [go_sem, simprocAttr, hl]⟩ ?_
    rintro n _ ⟨σ, i, v, T, e, hi, rfl, hv, hB, he, hl, h0, h5, h15, h16, h17⟩
    by_cases hlt : i < L.length
    · obtain ⟨l, hli⟩ : ∃ l, L[i]? = some l := ⟨_, List.getElem?_eq_getElem hlt⟩
      obtain ⟨p, c, hp, hc, hcl, htk, hle, hpos, h63⟩ := lab_at L s 0 (by simpa using hL) i l hli
      obtain ⟨rfl, h2, h3⟩ | ⟨h1, h2, m, rfl, h3⟩ := hB
      · omega
      have hg : (H ++ T)[H.length + m]? = some (.cells (posA L) 3 (.op 0 false)) := by rw [hp_new, h3]
      have hld := posA_at hp
      have hw := wrap_succ (show i < 9223372036854775807 by omega)
      have w0 : IntKind.i64.wrap (c.toNat : Int) = (c.toNat : Int) := by rw [wrap_i64 (by omega)]
      have w1 : IntKind.i64.wrap ((p : Int) + 1) = ((p + 1 : Nat) : Int) := by rw [wrap_i64 (by omega)]; omega
      have w2 : IntKind.i64.wrap (((p + 1 : Nat) : Int) + (c.toNat : Int)) = ((p + (1 + c.toNat) : Nat) : Int) := by rw [wrap_i64 (by omega)]; omega
      have hsl : (s.take (p + (1 + c.toNat))).drop (p + 1) = l := by
        rw [List.drop_take, hcl, show p + (1 + l.length) - (p + 1) = l.length by omega]; exact htk
      have hsl2 : (s.drop (p + 1)).take c.toNat = l := by rw [hcl]; exact htk
      have hplt : p < s.length := by omega
      have hbs := fun H => bslice_str l H
      obtain ⟨v', T2, e2, happ, _, hcl2, hk2, hv3, _, hvc, hq⟩ := (hv.more [.cells [.str l] 9 .rw]).app2 (P := Tryd.prog) (b := 16) (by decide) zok_64 [.str l] 1 (by decide) rfl rfl (by simp only [fits, decide_eq_true_eq]; omega)
      have d1 : decide (p + 1 ≤ p + (1 + c.toNat)) = true := by simp
      have d2 : decide (p + (1 + c.toNat) ≤ s.length) = true := by simp; omega
      have d3 : p + (1 + c.toNat) - (p + 1) = c.toNat := by omega
      have hbm : T2[m]? = some (.cells (posA L) 3 (.op 0 false)) := hk2 m _ (get_app h3) (by intro c fz st hx; injection hx with _ h _; exact absurd h (by decide))
      simp only [go_sem, simprocAttr, hl, h0, h5, h15, h16, h17, hlt, hg, h3, hld, hc, hplt, w0, w1, w2, hsl, hsl2, d1, d2, d3, hbs, happ, hw]
      rw [show strs (L.take i) ++ [.str l] = strs (L.take (i + 1)) from strs_snoc hli] at hv3
      refine ⟨by omega, by omega, n - 1, by omega, _, i + 1, v', T2, _, by omega, rfl, hv3, .inr ⟨h1, h2, m, rfl, hbm⟩, by simp only [go_sem, simprocAttr, he, hcl2], by simp only [go_sem, simprocAttr, hl], by simp only [go_sem, simprocAttr, hl, h0], by simp only [go_sem, simprocAttr, hl], by simp only [go_sem, simprocAttr, hl, h15], by simp only [go_sem, simprocAttr, hl, h16], by simp only [go_sem, simprocAttr, hl]⟩
    · have hi : i = L.length := by omega
      subst hi
      rw [List.take_length] at hv
      simp only [go_sem, simprocAttr, hl, h0, h5, h15, h16, h17, hlt]
      obtain ⟨rfl, h2, h3⟩ | ⟨h1, h2, m, rfl, h3⟩ := hv
      · exact ⟨(.nils, []), .inl ⟨rfl, h2, h3⟩, by rw [leave_flat rfl he, List.append_nil]⟩
      · exact ⟨(.slice (H.length + m) 0 L.length (.op 0), T), .inr ⟨h1, h2, m, rfl, h3⟩, by rw [leave_keep (by simp [flat, flats]) he]⟩

/-- A name's text. -/
def txtL (L : List (List UInt8)) : List UInt8 := L.flatMap fun l => escS false l ++ [46]
def txtN (s : List UInt8) : List UInt8 := if s = [0] then [46] else txtL (labs s)
theorem txtL_snoc {L : List (List UInt8)} {i : Nat} {l : List UInt8} (h : L[i]? = some l) : txtL (L.take (i + 1)) = txtL (L.take i) ++ (escS false l ++ [46]) := by
  rw [take_snoc h]; simp [txtL]
theorem txtL_len : ∀ (L : List (List UInt8)), (txtL L).length ≤ 4 * tot L
  | [] => by simp [txtL]
  | l :: L => by
    have := txtL_len L
    have h := escS_len false l
    have e : txtL (l :: L) = (escS false l ++ [46]) ++ txtL L := rfl
    have e2 : tot (l :: L) = (1 + l.length) + tot L := by simp [tot]
    rw [e, e2, List.length_append, List.length_append, List.length_cons, List.length_nil]; omega
theorem tot_take (L : List (List UInt8)) (i : Nat) : tot (L.take i) ≤ tot L := by
  have : tot L = tot (L.take i) + tot (L.drop i) := by
    conv => lhs; rw [← List.take_append_drop i L]
    simp only [tot, List.map_append, List.sum_append]
  omega
theorem escS_pos {q : Bool} {l : List UInt8} (h : 0 < l.length) : 0 < (escS q l).length := by
  cases l with
  | nil => cases h
  | cons c l =>
    have e : escS q (c :: l) = escB q c ++ escS q l := rfl
    rw [e, List.length_append]
    have : 0 < (escB q c).length := by
      unfold escB; split
      · simp
      split
      · split <;> simp
      split <;> simp
    omega
theorem labs_of {s : List UInt8} (h0 : s ≠ [0]) (hl : labs s ≠ []) : ∃ L, nm s = some L ∧ labs s = L := by
  cases h : nm s with
  | none => rw [labs, h] at hl; exact absurd rfl hl
  | some L => exact ⟨L, rfl, by rw [labs, h]; rfl⟩
theorem labs_tot {s : List UInt8} : tot (labs s) ≤ 255 := by
  cases h : nm s with
  | none => rw [labs, h]; simp [tot]
  | some L =>
    obtain ⟨hL, h255⟩ := nm_lab h
    have := tot_le L s hL
    rw [labs, h]; simp only [Option.getD_some]; omega
theorem labs_pos {s l : List UInt8} {i : Nat} (h : (labs s)[i]? = some l) : 0 < l.length ∧ l.length ≤ 63 := by
  cases hn : nm s with
  | none => rw [labs, hn] at h; simp at h
  | some L =>
    rw [labs, hn] at h
    obtain ⟨hL, h255⟩ := nm_lab hn
    obtain ⟨p, c, _, _, _, _, _, h1, h2⟩ := lab_at L s 0 (by simpa using hL) i l h
    exact ⟨h1, h2⟩

set_option maxRecDepth 20000 in
theorem name_Text (s : List UInt8) (H k) (hs : s.length ≤ maxI) : callK Tryd.prog 31 [.str s] H k = k (.str (txtN s), H, z0) := by
  refine callK_eq (r := (.str (txtN s), H, z0)) ?_ k
  refine callK_start (n := 21) (rs := [.tmp 2]) Tryd.func31 rfl rfl rfl ?_
  intro σ hl ha
  have h0 := ha 0 (by simp)
  clear ha
  simp only [Option.getD_some, List.getElem?_cons_zero, List.getElem?_cons_succ] at h0
  by_cases hr : s = [0]
  · have hx : txtN s = [46] := if_pos hr
    rw [hx]
    subst hr
    simp only [go_sem, simprocAttr, hl, h0]
  have hx : txtN s = txtL (labs s) := if_neg hr
  rw [hx]
  obtain ⟨⟨bv, bT⟩, hB, hst⟩ := name_Labels s (H ++ [.cells [.nilp, .nils] 78 .rw]) hs
  have hB : GBuf H.length ([.cells [.nilp, .nils] 78 .rw] ++ bT) bv 9 1 (labs s).length (strs (labs s)) := by
    obtain h | ⟨h1, h2, m, h3, h4⟩ := hB
    · exact .inl h
    · exact .inr ⟨h1, h2, m + 1, by simp only at h3; rw [h3]; simp; omega, by simpa using h4⟩
  have hlen : ∀ H', evLen Tryd.prog 64 bv H' = some (.int .i64 (labs s).length) := by
    intro H'
    obtain ⟨rfl, h2, h3⟩ | ⟨h1, h2, m, rfl, h3⟩ := hB
    · simp only [evLen, tsh_64, h3]; rfl
    · simp only [evLen, tsh_64]
  have hne : (s == [0]) = false := by simpa using hr
  have hb0 : Bld H.length ([.cells [.nilp, .nils] 78 .rw] ++ bT) 0 (txtL ((labs s).take 0)) := ⟨_, _, rfl, .inl rfl, .inl ⟨rfl, rfl⟩⟩
  have hst : ∀ k, callK Tryd.prog 68 [.str s] (H ++ [.cells [.nilp, .nils] 78 .rw]) k = k (bv, H ++ ([.cells [.nilp, .nils] 78 .rw] ++ bT), z0) := by
    intro k; rw [hst]; simp
  generalize hT0 : [ABlk.cells [.nilp, .nils] 78 .rw] ++ bT = T0 at *
  simp only [go_sem, simprocAttr, hl, h0, hne, hst, hlen]
  generalize hL : labs s = L at *
  have hLt : tot L ≤ 255 := by rw [← hL]; exact labs_tot
  have hLl := len_tot L
  refine go_rounds (fun n st => ∃ σ i T e, n + i = L.length ∧ st = ⟨σ, H ++ T, e⟩ ∧ Bld H.length T 0 (txtL (L.take i)) ∧ GBuf H.length T bv 9 1 L.length (strs L) ∧ clean H.length e ∧ σ.length = 21 ∧ fr σ 3 = .ptr H.length 0 ∧ fr σ 9 = bv ∧ fr σ 10 = .int .i64 L.length ∧ fr σ 11 = .int .i64 (i : Nat)) L.length
    ⟨_, 0, _, _, rfl, rfl, hb0, hB, ⟨rfl, rfl⟩, by simp only [go_sem, simprocAttr, hl], by simp only [go_sem, simprocAttr, hl], by simp only [go_sem, simprocAttr, hl], by simp only [go_sem, simprocAttr, hl], by simp only [go_sem, simprocAttr, hl]⟩ ?_
  rintro n _ ⟨σ, i, T, e, hi, rfl, hb, hB, he, hl, h3, h9, h10, h11⟩
  by_cases hlt : i < L.length
  · obtain ⟨l, hli⟩ : ∃ l, L[i]? = some l := ⟨_, List.getElem?_eq_getElem hlt⟩
    obtain ⟨p1, p2⟩ := labs_pos (s := s) (by rw [hL]; exact hli)
    have hsn := txtL_snoc hli
    have hbl : (txtL (L.take i)).length ≤ 1020 := by have := txtL_len (L.take i); have := tot_take L i; omega
    have hw := wrap_succ (show i < 9223372036854775807 by omega)
    obtain ⟨rfl, _, h3'⟩ | ⟨g1, g2, m, rfl, g3⟩ := hB
    · omega
    have hm0 : m ≠ 0 := by
      rintro rfl
      obtain ⟨_, _, hj, _⟩ := hb
      rw [hj] at g3; injection g3 with g; injection g with _ g; exact absurd g (by decide)
    have hg : (H ++ T)[H.length + m]? = some (.cells (strs L) 9 (.op 0 false)) := by rw [hp_new, g3]
    have hld := strs_ld hli
    have hE := fun H' k => name_Escape l false H' k (by omega)
    have hEl := escS_len false l
    obtain ⟨T1, e1, b1, k1, c1, r1⟩ := b_wstr H T 0 _ (escS false l) hb (escS_pos p1) (by simp only [fits, decide_eq_true_eq]; omega)
    obtain ⟨T2, e2, b2, k2, c2, r2⟩ := b_wlit H T1 0 _ 46 46 rfl b1 (by simp only [fits, decide_eq_true_eq, List.length_append]; omega)
    have c1 := c1.cln
    have c2 := c2.cln
    simp only [Nat.add_zero] at r1 r2
    simp only [go_sem, simprocAttr, hl, h3, h9, h10, h11, hlt, hg, g3, hld, hE, r1, r2, hw]
    refine ⟨n - 1, by omega, _, i + 1, T2, _, by omega, rfl, by rw [hsn, ← List.append_assoc]; exact b2, ?_, by simp only [go_sem, simprocAttr, he, c1, c2], by simp only [go_sem, simprocAttr, hl], by simp only [go_sem, simprocAttr, hl, h3], by simp only [go_sem, simprocAttr, hl, h9], by simp only [go_sem, simprocAttr, hl, h10], by simp only [go_sem, simprocAttr, hl]⟩
    have hf : ∀ c k, fixd (.cells c 9 k) = true := by intro c k; cases k <;> rfl
    exact .inr ⟨g1, g2, m, rfl, k2.2 m _ hm0 (k1.2 m _ hm0 g3 (hf _ _)) (hf _ _)⟩
  · have hi : i = L.length := by omega
    subst hi
    rw [List.take_length] at hb
    have htl := txtL_len L
    obtain ⟨T1, e1, c1, r1⟩ := b_string H T 0 _ hb (by omega)
    simp only [Nat.add_zero] at r1
    simp only [go_sem, simprocAttr, hl, h3, h9, h10, h11, hlt, r1]
    exact leave_flat rfl (clean_and he c1)
end Go.Proofs.YtgkpgpdkolpfkaaDoor.V
namespace Go.Proofs.YtgkpgpdkolpfkaaDoor.V
open Go
set_option linter.unusedSimpArgs false
set_option linter.unusedVariables false
attribute [local irreducible] go goOps goD opK callK callT stepK leaveTo nextK

/-- A builder in the j-th new block that has grown and holds nothing. -/
def Bld0 (n : Nat) (T : Hp) (j : Nat) : Prop := ∃ m, T[j]? = some (.cells [.ptr (n + j) 0, .slice (n + m) 0 0 (.op 0)] 78 .rw) ∧ T[m]? = some (.cells [] 5 (.op 0 false))
set_option maxRecDepth 20000 in
theorem b_grow_i (H T : Hp) (j n : Nat) (hj : T[j]? = some (.cells [.ptr (H.length + j) 0, .nils] 78 .rw)) (hn : 0 < n) (hn2 : n ≤ 1099511627776) :
    ∃ T' e, Bld0 H.length T' j ∧ Keep T j T' ∧ Cl H.length j e ∧ ∀ k, callK Tryd.prog 93 [.ptr (H.length + j) 0, .int .i64 (n : Nat)] (H ++ T) k = k (.tuple [], H ++ T', e) := by
  have hlt := lt_of_get hj
  have hcl0 : Cl H.length j (Ef.and ⟨none, some (H.length + T.length)⟩ ⟨some (H.length + j), some (H.length + j)⟩) := .andr (by simp [clean, low]) ⟨_, rfl, by omega, by omega, by simp [low]⟩
  obtain ⟨e', hE, hleave⟩ := hcl0.leave (m := H.length + T.length) (by omega)
  refine ⟨T.set j (.cells [.ptr (H.length + j) 0, .slice (H.length + T.length) 0 0 (.op 0)] 78 .rw) ++ [.cells [] 5 (.op 0 false)], e', ⟨T.length, ?_, by simp⟩, ⟨by simp, fun i x hi hx hf => get_app (by rw [List.getElem?_set_ne (Ne.symm hi)]; exact hx)⟩, hE, fun k => ?_⟩
  · exact get_app (by rw [List.getElem?_set_self hlt])
  refine callK_eq ?_ k
  refine callK_start (n := 30) (rs := []) Tryd.func93 rfl rfl rfl ?_
  intro σ hl ha
  have h0 := ha 0 (by simp)
  have h1 := ha 1 (by simp)
  clear ha
  simp only [Option.getD_some, List.getElem?_cons_zero, List.getElem?_cons_succ] at h0 h1
  have hd : decide (j < T.length) = true := by simpa using hlt
  have hj1 : (T ++ [.cells [] 5 (.op 0 false)])[j]? = some (.cells [.ptr (H.length + j) 0, .nils] 78 .rw) := get_app hj
  have w0 : IntKind.i64.wrap (0 + (n : Int)) = (n : Int) := by rw [Int.zero_add, wrap_i64 (by omega)]
  have hcap : evCap Tryd.prog 31 .nils = some (.int .i64 0) := by simp only [evCap, tsh_31]
  have hlen0 : ∀ H', evLen Tryd.prog 31 .nils H' = some (.int .i64 0) := by intro H'; simp only [evLen, tsh_31]
  have hcp : evCopy Tryd.prog 31 (.slice (H.length + T.length) 0 0 (.op 0)) .nils (H ++ (T ++ [.cells [] 5 (.op 0 false)])) = some (.int .i64 0, H ++ (T ++ [.cells [] 5 (.op 0 false)]), ⟨none, some (H.length + T.length)⟩) := by
    have hg : (H ++ (T ++ [.cells [] 5 (.op 0 false)]))[H.length + T.length]? = some (.cells [] 5 (.op 0 false)) := by rw [hp_new]; simp
    have hs := set_get hg
    simp only [evCopy, tsh_31, appended, Option.bind_some]
    simp only [wr, hg]
    simp [splice, canWr, hs, flats]
  simp only [go_sem, simprocAttr, hl, h0, h1]
  refine go_drawZ tFollows (by kernel_rfl) ?_
  simp only [go_sem, simprocAttr, hl, h0, h1, hj, hj1, hd, w0, hcap, hlen0, hcp]
  refine ⟨by omega, (by kernel_rfl : effOk _ _ _ = true), ?_⟩
  exact hleave _ _

set_option maxRecDepth 20000 in
theorem b_grow (H T : Hp) (j n : Nat) (hj : T[j]? = some (.cells [.nilp, .nils] 78 .rw)) (hn : 0 < n) (hn2 : n ≤ 1099511627776) :
    ∃ T' e, Bld0 H.length T' j ∧ Keep T j T' ∧ Cl H.length j e ∧ ∀ k, callK Tryd.prog 72 [.ptr (H.length + j) 0, .int .i64 (n : Nat)] (H ++ T) k = k (.tuple [], H ++ T', e) := by
  have hlt := lt_of_get hj
  obtain ⟨e1, he1, hck⟩ := b_check H T j _ _ hj (.inl rfl) rfl
  have hj1 : (T.set j (.cells [.ptr (H.length + j) 0, .nils] 78 .rw))[j]? = some (.cells [.ptr (H.length + j) 0, .nils] 78 .rw) := by rw [List.getElem?_set_self hlt]
  obtain ⟨T', e2, hb, hk, hc, hg⟩ := b_grow_i H _ j n hj1 hn hn2
  have hc0 : clean H.length e1 := by
    obtain rfl | h := he1
    · exact ⟨rfl, rfl⟩
    · exact h.cln
  obtain ⟨e', hE, hleave⟩ := (Cl.andr hc0 hc).leave (m := H.length + T.length) (by omega)
  refine ⟨T', e', hb, ⟨by have := hk.1; simpa using this, fun i x hi hx hf => hk.2 i x hi (by rw [List.getElem?_set_ne (Ne.symm hi)]; exact hx) hf⟩, hE, fun k => ?_⟩
  refine callK_eq ?_ k
  refine callK_start (n := 25) (rs := []) Tryd.func72 rfl rfl rfl ?_
  intro σ hl ha
  have h0 := ha 0 (by simp)
  have h1 := ha 1 (by simp)
  clear ha
  simp only [Option.getD_some, List.getElem?_cons_zero, List.getElem?_cons_succ] at h0 h1
  have hd : decide (j < T.length) = true := by simpa using hlt
  have hcap : evCap Tryd.prog 31 .nils = some (.int .i64 0) := by simp only [evCap, tsh_31]
  have hlen0 : ∀ H', evLen Tryd.prog 31 .nils H' = some (.int .i64 0) := by intro H'; simp only [evLen, tsh_31]
  have g0 : decide ((n : Int) < 0) = false := by simp
  have g1 : decide ((0 : Int) < (n : Int)) = true := by simp; omega
  simp only [go_sem, simprocAttr, hl, h0, h1, hck, g0]
  refine go_drawZ tFollows (by kernel_rfl) ?_
  simp only [go_sem, simprocAttr, hl, h0, h1, hj1, hd, hcap, hlen0, g1, hg]
  exact hleave _ _

set_option maxRecDepth 20000 in
theorem b_wstr0 (H T : Hp) (j : Nat) (s : List UInt8) (hb : Bld0 H.length T j) (hs : 0 < s.length) (hf : fits s.length 1 = true) :
    ∃ T' e, Bld H.length T' j s ∧ Keep T j T' ∧ Cl H.length j e ∧ ∀ k, callK Tryd.prog 69 [.ptr (H.length + j) 0, .str s] (H ++ T) k = k (.tuple [.int .i64 s.length, .nili], H ++ T', e) := by
  obtain ⟨m, hj, hm⟩ := hb
  have hlt := lt_of_get hj
  have hltm := lt_of_get hm
  have hjm : j ≠ m := by
    rintro rfl
    rw [hj] at hm
    injection hm with h; injection h with h _ _; cases h
  obtain ⟨e1, he1, hck⟩ := b_check H T j _ _ hj (.inr rfl) rfl
  rw [set_get hj] at hck
  have hg : (H ++ T)[H.length + m]? = some (.cells [] 5 (.op 0 false)) := by rw [hp_new, hm]
  have happ : ∀ kk, stepK (appTo Tryd.prog (.slice 5 1 1) (.slice (H.length + m) 0 0 (.op 0)) (u8s s, s.length) (H ++ T)) kk = kk (.slice (H.length + T.length) 0 s.length (.op 0), H ++ (T.set m .dead ++ [.cells (u8s s) 5 (.op 0 false)]), ⟨none, some (H.length + m)⟩) := by
    intro kk
    rw [appTo_op (by decide) zok_31, hg]
    simp only [bindK_some, appO_c]
    have hd : decide (0 + (0 + s.length) * 1 ≤ ([] : List AV).length) = false := by
      apply decide_eq_false; intro h; simp only [List.length_nil] at h; omega
    have hf' : fits (0 + s.length) 1 = true := by simpa using hf
    rw [hd, guardK_ft]
    simp only [hf, hf', u8s_scal, hp_set, List.length_append, List.append_assoc, Nat.sub_self, Nat.zero_le, true_and, and_true, Nat.mul_one, Nat.zero_add, Nat.le_refl, List.drop_nil, List.take_nil, List.nil_append]
  simp only [u8s] at happ
  have hj2 : (T.set m .dead ++ [.cells (u8s s) 5 (.op 0 false)])[j]? = some (.cells [.ptr (H.length + j) 0, .slice (H.length + m) 0 0 (.op 0)] 78 .rw) := get_app (by rw [List.getElem?_set_ne (Ne.symm hjm)]; exact hj)
  have hlt2 := lt_of_get hj2
  have hc0 : clean H.length e1 := by
    obtain rfl | h := he1
    · exact ⟨rfl, rfl⟩
    · exact h.cln
  have hcl3 : Cl H.length j ((e1.and ⟨none, some (H.length + m)⟩).and ⟨some (H.length + j), some (H.length + j)⟩) := .andr (clean_and hc0 (by simp [clean, low])) ⟨_, rfl, by omega, by omega, by simp [low]⟩
  obtain ⟨e', hE, hleave⟩ := hcl3.leave (m := H.length + T.length) (by omega)
  refine ⟨(T.set m .dead ++ [ABlk.cells (u8s s) 5 (.op 0 false)]).set j (.cells [.ptr (H.length + j) 0, .slice (H.length + T.length) 0 s.length (.op 0)] 78 .rw), e', ⟨_, _, by rw [List.getElem?_set_self hlt2], .inr rfl, .inr ⟨hs, T.length, rfl, ?_⟩⟩, ⟨by simp, fun i x hi hx hf => ?_⟩, hE, fun k => ?_⟩
  · rw [List.getElem?_set_ne (by omega)]
    rw [List.getElem?_append_right (by simp)]; simp
  · rw [List.getElem?_set_ne (Ne.symm hi)]
    have hne : m ≠ i := by
      rintro rfl
      rw [hm] at hx; cases hx; cases hf
    exact get_app (by rw [List.getElem?_set_ne hne]; exact hx)
  refine callK_eq ?_ k
  refine callK_start (n := 19) (rs := [.tmp 4, .tmp 5]) Tryd.func69 rfl rfl rfl ?_
  intro σ hl ha
  have h0 := ha 0 (by simp)
  have h1 := ha 1 (by simp)
  clear ha
  simp only [Option.getD_some, List.getElem?_cons_zero, List.getElem?_cons_succ] at h0 h1
  have d1 : decide (j < T.length) = true := by simpa using hlt
  have d2 : decide (j < (T.set m .dead ++ [ABlk.cells (u8s s) 5 (.op 0 false)]).length) = true := by simpa using hlt2
  generalize hT2 : (T.set m .dead ++ [ABlk.cells (u8s s) 5 (.op 0 false)]) = T2 at *
  have hT2' : (T.set m .dead ++ [ABlk.cells (s.map fun b => AV.int .u8 (b.toNat : Int)) 5 (.op 0 false)]) = T2 := hT2
  rw [hT2'] at happ
  generalize hv : AV.slice (H.length + m) 0 0 (.op 0) = v at *
  have hvs : scal v = true := by rw [← hv]; rfl
  simp only [go_sem, simprocAttr, hl, h0, h1, hck, d1, d2, hj, hj2, happ, hvs]
  exact hleave _ _
/-- A row of texts that is handed in. -/
def Sv (H : Hp) (v : AV) (L : List (List UInt8)) : Prop := ∃ b c e k, v = .slice b 0 L.length c ∧ H[b]? = some (.cells (strs L) e k) ∧ (c = .ex L.length ∨ (c = .op 0 ∧ e = 9 ∧ ∃ fz st, k = .op fz st)) ∧ 0 < L.length
def joinS (sep : List UInt8) : List (List UInt8) → List UInt8
  | [] => []
  | x :: r => x ++ r.flatMap (sep ++ ·)
def totS (L : List (List UInt8)) : Nat := (L.map List.length).sum
theorem totS_snoc {L : List (List UInt8)} {i : Nat} {x : List UInt8} (h : L[i]? = some x) : totS (L.take (i + 1)) = totS (L.take i) + x.length := by
  rw [take_snoc h]; simp [totS]
theorem totS_take (L : List (List UInt8)) (i : Nat) : totS (L.take i) ≤ totS L := by
  have : totS L = totS (L.take i) + totS (L.drop i) := by
    conv => lhs; rw [← List.take_append_drop i L]
    simp only [totS, List.map_append, List.sum_append]
  omega
theorem joinS_len (sep x : List UInt8) (r : List (List UInt8)) : (x ++ r.flatMap (sep ++ ·)).length = x.length + (r.length * sep.length + totS r) := by
  induction r with
  | nil => simp [totS]
  | cons y r ih =>
    have e1 : (y :: r).flatMap (sep ++ ·) = (sep ++ y) ++ r.flatMap (sep ++ ·) := rfl
    have e2 : totS (y :: r) = y.length + totS r := by simp [totS]
    rw [List.length_append] at ih ⊢
    rw [e1, e2, List.length_append, List.length_append, List.length_cons, Nat.succ_mul]; omega

set_option maxRecDepth 20000 in
set_option maxHeartbeats 1000000 in
theorem s_Join (sep : List UInt8) (L : List (List UInt8)) (v : AV) (H k) (hv : Sv H v L) (hsep : 0 < sep.length) (hse2 : sep.length ≤ 1000) (hL : L.length ≤ 16777216) (hx : ∀ x ∈ L, 0 < x.length) (ht : totS L ≤ 4294967296) :
    callK Tryd.prog 34 [v, .str sep] H k = k (.str (joinS sep L), H, z0) := by
  obtain ⟨b, c, et, kd, rfl, hb, hc, hpos⟩ := hv
  refine callK_eq (r := (.str (joinS sep L), H, z0)) ?_ k
  refine callK_start (n := 75) (rs := [.tmp 4]) Tryd.func34 rfl rfl rfl ?_
  intro σ hl ha
  have h0 := ha 0 (by simp)
  have h1 := ha 1 (by simp)
  clear ha
  simp only [Option.getD_some, List.getElem?_cons_zero, List.getElem?_cons_succ] at h0 h1
  obtain ⟨x0, R, hLR⟩ : ∃ x r, L = x :: r := by cases L with | nil => cases hpos | cons x r => exact ⟨x, r, rfl⟩
  have hx0 := hx x0 (by rw [hLR]; simp)
  have hl0 : L[0]? = some x0 := by rw [hLR]; rfl
  have hld0 := strs_ld hl0
  obtain ⟨n, hn⟩ : ∃ n, L.length = n := ⟨_, rfl⟩
  have hRn : R.length = n - 1 := by rw [← hn, hLR]; simp
  have g0 : ((n : Int) == 0) = false := by simp; omega
  have d0 : decide (0 < n) = true := by simp; omega
  rw [hn] at h0 hc hL
  by_cases h1n : n = 1
  · have hR0 : R = [] := by cases R with | nil => rfl | cons _ _ => simp at hRn; omega
    have hj : joinS sep L = x0 := by rw [hLR, hR0]; simp [joinS]
    subst h1n
    simp only [go_sem, simprocAttr, hl, h0, h1, hb, hld0, hj]
  have g1 : ((n : Int) == 1) = false := by simp; omega
  have g2 : decide ((sep.length : Int) > 0) = true := by simp; omega
  have w1 : IntKind.i64.wrap ((n : Int) - 1) = ((n - 1 : Nat) : Int) := by rw [wrap_i64 (by omega)]; omega
  have hdv : 9223372036854775807 / 16777216 ≤ 9223372036854775807 / (n - 1) := Nat.div_le_div_left (by omega) (by omega)
  have hdv2 : 9223372036854775807 / (n - 1) ≤ 9223372036854775807 := Nat.div_le_self _ _
  have w2 : IntKind.i64.wrap ((9223372036854775807 : Int).tdiv ((n - 1 : Nat) : Int)) = ((9223372036854775807 / (n - 1) : Nat) : Int) := by
    have e : (9223372036854775807 : Int).tdiv ((n - 1 : Nat) : Int) = ((9223372036854775807 / (n - 1) : Nat) : Int) := rfl
    rw [e, wrap_i64 (by omega)]
  have z1 : (((n - 1 : Nat) : Int) == 0) = false := by simp; omega
  have g3 : (9223372036854775807 / (n - 1) ≤ sep.length) = False := by
    apply eq_false; intro h
    have : 9223372036854775807 / 16777216 = 549755813887 := by decide
    omega
  have hmul : sep.length * (n - 1) ≤ 1000 * 16777216 := Nat.mul_le_mul hse2 (by omega)
  have w3 : IntKind.i64.wrap ((sep.length : Int) * ((n - 1 : Nat) : Int)) = ((sep.length * (n - 1) : Nat) : Int) := by
    rw [show (sep.length : Int) * ((n - 1 : Nat) : Int) = ((sep.length * (n - 1) : Nat) : Int) by push_cast; rfl, wrap_i64 (by omega)]
  have w4 : IntKind.i64.wrap (0 + ((sep.length * (n - 1) : Nat) : Int)) = ((sep.length * (n - 1) : Nat) : Int) := by rw [Int.zero_add, wrap_i64 (by omega)]
  generalize hM : sep.length * (n - 1) = M at *
  simp only [go_sem, simprocAttr, hl, h0, h1, g0, g1, g2, w1, w2, z1, g3, w3, w4, hn]
  refine go_rounds (fun m st => ∃ σ i, m + i = n ∧ st = ⟨σ, H, z0⟩ ∧ σ.length = 75 ∧ fr σ 0 = .slice b 0 n c ∧ fr σ 1 = .str sep ∧ fr σ 5 = .int .i64 ((M + totS (L.take i) : Nat)) ∧ fr σ 39 = .slice b 0 n c ∧ fr σ 40 = .int .i64 (n : Nat) ∧ fr σ 41 = .int .i64 (i : Nat)) n
    ⟨_, 0, rfl, rfl, by simp only [go_sem, simprocAttr, hl], by simp only [go_sem, simprocAttr, hl, h0], by simp only [go_sem, simprocAttr, hl, h1], by simp only [go_sem, simprocAttr, hl]; rfl, by simp only [go_sem, simprocAttr, hl], by simp only [go_sem, simprocAttr, hl], by simp only [go_sem, simprocAttr, hl]⟩ ?_
  rintro m _ ⟨σ, i, hi, rfl, hl, h0, h1, h5, h39, h40, h41⟩
  have htk := totS_take L i
  by_cases hlt : i < n
  · obtain ⟨x, hxi⟩ : ∃ x, L[i]? = some x := ⟨_, List.getElem?_eq_getElem (by omega)⟩
    have hld := strs_ld hxi
    have hsn := totS_snoc hxi
    have hxl : x.length ≤ 4294967296 := by
      have h := totS_take L (i + 1)
      rw [hsn] at h; omega
    generalize hS : M + totS (L.take i) = S at *
    have hS2 : S ≤ 9223372036854775807 - 4294967296 := by omega
    have ws : IntKind.i64.wrap (9223372036854775807 - (S : Int)) = ((9223372036854775807 - S : Nat) : Int) := by rw [wrap_i64 (by omega)]; omega
    have gs : (9223372036854775807 - S < x.length) = False := by apply eq_false; omega
    have wa : IntKind.i64.wrap ((S : Int) + (x.length : Int)) = ((S + x.length : Nat) : Int) := by rw [wrap_i64 (by omega)]; omega
    have hw := wrap_succ (show i < 9223372036854775807 by omega)
    simp only [go_sem, simprocAttr, hl, h0, h1, h5, h39, h40, h41, hlt, hb, hld, ws, gs, wa, hw]
    refine ⟨m - 1, by omega, _, i + 1, by omega, rfl, by simp only [go_sem, simprocAttr, hl], by simp only [go_sem, simprocAttr, hl, h0], by simp only [go_sem, simprocAttr, hl, h1], ?_, by simp only [go_sem, simprocAttr, hl, h39], by simp only [go_sem, simprocAttr, hl, h40], by simp only [go_sem, simprocAttr, hl]⟩
    simp only [go_sem, simprocAttr, hl]
    rw [hsn, ← hS]; congr 2; omega
  have hin : i = n := by omega
  subst hin
  rw [show L.take i = L by rw [← hn, List.take_length]] at h5
  obtain ⟨T1, e1, b1, k1, c1, r1⟩ := b_grow H [.cells [.nilp, .nils] 78 .rw] 0 (M + totS L) rfl (by have : 0 < sep.length * (i - 1) := Nat.mul_pos hsep (by omega); omega) (by omega)
  obtain ⟨T2, e2, b2, k2, c2, r2⟩ := b_wstr0 H T1 0 x0 b1 hx0 (by
    have := totS_take L 1
    rw [hLR] at this
    simp [totS] at this
    have h2 : totS L = x0.length + totS R := by rw [hLR]; simp [totS]
    simp only [fits, decide_eq_true_eq]; omega)
  have c1 := c1.cln
  have c2 := c2.cln
  simp only [Nat.add_zero] at r1 r2
  obtain ⟨c', hsl, hc'⟩ : ∃ c', (∀ (H' : Hp) (kk : AV × Hp × Ef → Prop), slK Tryd.prog 64 (.slice b 0 i c) (some (.int .i64 1)) none none (H ++ H') kk = kk (.slice b 1 (i - 1) c', H ++ H', z0)) ∧ True := by
    obtain rfl | ⟨rfl, rfl, fz, st, rfl⟩ := hc
    · refine ⟨.ex (i - 1), fun H' kk => ?_, trivial⟩
      simp only [go_sem, simprocAttr]
      rw [if_neg h1n]
      exact propext ⟨fun h => h.2, fun h => ⟨by omega, h⟩⟩
    · refine ⟨.op 1, fun H' kk => ?_, trivial⟩
      have hb' : (H ++ H')[b]? = some (.cells (strs L) 9 (.op fz st)) := hp_old hb
      rw [slK_op (by rw [tsh_64]; rfl), tsh_64, bindK_some, hb', bindK_some, knC_c, if_pos ⟨rfl, by decide, rfl⟩, bindK_some, bnd_ln]
      have e1 : decide (((1 : Int).toNat = 0 ∨ (1 : Int).toNat < ((strs L).length - 0) / 1)) = true := by rw [strs_len, hn]; simp; omega
      simp only [e1, guardK_tt]
      exact propext ⟨fun h => h.2, fun h => ⟨⟨by omega, by omega⟩, h⟩⟩
  have hbo : ∀ T : Hp, (H ++ T)[b]? = some (.cells (strs L) et kd) := fun T => hp_old hb
  simp only [go_sem, simprocAttr, hl, h0, h1, h5, h39, h40, h41, hlt, hb, hbo, hld0, r1, r2, d0, hsl]
  refine ⟨by omega, ?_⟩
  refine go_rounds (fun m st => ∃ σ j T e, m + j = i - 1 ∧ st = ⟨σ, H ++ T, e⟩ ∧ Bld H.length T 0 (x0 ++ (R.take j).flatMap (sep ++ ·)) ∧ clean H.length e ∧ σ.length = 75 ∧ fr σ 1 = .str sep ∧ fr σ 8 = .ptr H.length 0 ∧ fr σ 63 = .slice b 1 (i - 1) c' ∧ fr σ 64 = .int .i64 ((i - 1 : Nat)) ∧ fr σ 65 = .int .i64 (j : Nat)) (i - 1)
    ⟨_, 0, _, _, rfl, rfl, by simpa using b2, by simp only [go_sem, simprocAttr, c1, c2], by simp only [go_sem, simprocAttr, hl], by simp only [go_sem, simprocAttr, hl, h1], by simp only [go_sem, simprocAttr, hl], by simp only [go_sem, simprocAttr, hl], by simp only [go_sem, simprocAttr, hl], by simp only [go_sem, simprocAttr, hl]⟩ ?_
  rintro m _ ⟨σ, j, T, e, hj, rfl, hbl, he, hl, h1, h8, h63, h64, h65⟩
  have hlen : ∀ j, (x0 ++ (R.take j).flatMap (sep ++ ·)).length ≤ 30000000000 := by
    intro j
    rw [joinS_len]
    have h2 : totS L = x0.length + totS R := by rw [hLR]; simp [totS]
    have h3 := totS_take R j
    have h4 : (R.take j).length * sep.length ≤ 16777216 * 1000 := Nat.mul_le_mul (by rw [List.length_take]; omega) hse2
    omega
  by_cases hlt2 : j < i - 1
  · obtain ⟨x, hxi⟩ : ∃ x, R[j]? = some x := ⟨_, List.getElem?_eq_getElem (by omega)⟩
    have hxm := hx x (by rw [hLR]; exact List.mem_cons_of_mem _ (List.mem_of_getElem? hxi))
    have hl1 : L[1 + j]? = some x := by rw [hLR, Nat.add_comm, List.getElem?_cons_succ]; exact hxi
    have hld := strs_ld hl1
    have hw := wrap_succ (show j < 9223372036854775807 by omega)
    have hsn : (R.take (j + 1)).flatMap (sep ++ ·) = (R.take j).flatMap (sep ++ ·) ++ (sep ++ x) := by rw [take_snoc hxi]; simp
    have hl2 := hlen j
    have hxl : x.length ≤ 30000000000 := by
      have h := hlen (j + 1)
      rw [hsn] at h
      simp only [List.length_append] at h; omega
    obtain ⟨T3, e3, b3, k3, c3, r3⟩ := b_wstr H T 0 _ sep hbl hsep (by simp only [fits, decide_eq_true_eq]; omega)
    obtain ⟨T4, e4, b4, k4, c4, r4⟩ := b_wstr H T3 0 _ x b3 hxm (by simp only [fits, decide_eq_true_eq]; rw [List.length_append]; omega)
    have c3 := c3.cln
    have c4 := c4.cln
    simp only [Nat.add_zero] at r3 r4
    simp only [go_sem, simprocAttr, hl, h1, h8, h63, h64, h65, hlt2, hbo, hld, r3, r4, hw]
    refine ⟨m - 1, by omega, _, j + 1, T4, _, by omega, rfl, ?_, by simp only [go_sem, simprocAttr, he, c3, c4], by simp only [go_sem, simprocAttr, hl], by simp only [go_sem, simprocAttr, hl, h1], by simp only [go_sem, simprocAttr, hl, h8], by simp only [go_sem, simprocAttr, hl, h63], by simp only [go_sem, simprocAttr, hl, h64], by simp only [go_sem, simprocAttr, hl]⟩
    rw [hsn]; simpa [List.append_assoc] using b4
  · have hji : j = i - 1 := by omega
    have hfin : x0 ++ (R.take j).flatMap (sep ++ ·) = joinS sep L := by rw [hji, ← hRn, List.take_length, hLR]; rfl
    have hl2 := hlen j
    rw [hfin] at hbl hl2
    obtain ⟨T3, e3, c3, r3⟩ := b_string H T 0 _ hbl (by omega)
    simp only [Nat.add_zero] at r3
    simp only [go_sem, simprocAttr, hl, h1, h8, h63, h64, h65, hlt2, r3]
    exact leave_flat rfl (clean_and he c3)
end Go.Proofs.YtgkpgpdkolpfkaaDoor.V
namespace Go.Proofs.YtgkpgpdkolpfkaaDoor.V
open Go
set_option linter.unusedSimpArgs false
set_option linter.unusedVariables false
attribute [local irreducible] go goOps goD opK callK callT stepK leaveTo nextK

def markB (c : UInt8) (q : Bool) : Bool := decide (c.toNat = 34 ∨ c.toNat = 92) || (!q && decide (c.toNat = 46 ∨ c.toNat = 59 ∨ c.toNat = 40 ∨ c.toNat = 41 ∨ c.toNat = 64 ∨ c.toNat = 36))
theorem escB_mark (q : Bool) (c : UInt8) : escB q c = if markB c q = true then [92, c] else if (32 < c.toNat ∧ c.toNat < 127) ∨ (c.toNat = 32 ∧ q = true) then [c] else [92, UInt8.ofNat (48 + c.toNat / 100), UInt8.ofNat (48 + c.toNat / 10 % 10), UInt8.ofNat (48 + c.toNat % 10)] := by
  unfold escB markB
  by_cases h : c.toNat = 34 ∨ c.toNat = 92
  · rw [if_pos h, decide_eq_true h, Bool.true_or, if_pos rfl]
  · rw [if_neg h, decide_eq_false h, Bool.false_or]
    by_cases h2 : c.toNat = 46 ∨ c.toNat = 59 ∨ c.toNat = 40 ∨ c.toNat = 41 ∨ c.toNat = 64 ∨ c.toNat = 36
    · rw [if_pos h2, decide_eq_true h2]
      cases q
      · rfl
      · rw [if_pos rfl, if_neg (by simp), if_pos (.inl (by omega))]
    · rw [if_neg h2, decide_eq_false h2, Bool.and_false]
      exact (if_neg (by simp)).symm
set_option maxRecDepth 20000 in
theorem ref_marked (c : UInt8) (q : Bool) (H k) : callK Tryd.prog 76 [.int .u8 c.toNat, .bool q] H k = k (.bool (markB c q), H, z0) := by
  refine callK_eq (r := (.bool (markB c q), H, z0)) ?_ k
  refine callK_start (n := 37) (rs := [.tmp 4]) Tryd.func76 rfl rfl rfl ?_
  intro σ hl ha
  have h0 := ha 0 (by simp)
  have h1 := ha 1 (by simp)
  clear ha
  have hcl := c.toNat_lt
  simp only [Option.getD_some, List.getElem?_cons_zero, List.getElem?_cons_succ] at h0 h1
  by_cases q34 : c.toNat = 34
  · have g34 : ((c.toNat : Int) == 34) = true := by simp; omega
    have g92 : ((c.toNat : Int) == 92) = false := by simp; omega
    have g46 : ((c.toNat : Int) == 46) = false := by simp; omega
    have g59 : ((c.toNat : Int) == 59) = false := by simp; omega
    have g40 : ((c.toNat : Int) == 40) = false := by simp; omega
    have g41 : ((c.toNat : Int) == 41) = false := by simp; omega
    have g64 : ((c.toNat : Int) == 64) = false := by simp; omega
    have g36 : ((c.toNat : Int) == 36) = false := by simp; omega
    have hm : markB c q = true := by unfold markB; rw [decide_eq_true (by omega), Bool.true_or]
    simp only [go_sem, simprocAttr, hl, h0, h1, g34, g92, g46, g59, g40, g41, g64, g36, hm]
  by_cases q92 : c.toNat = 92
  · have g34 : ((c.toNat : Int) == 34) = false := by simp; omega
    have g92 : ((c.toNat : Int) == 92) = true := by simp; omega
    have g46 : ((c.toNat : Int) == 46) = false := by simp; omega
    have g59 : ((c.toNat : Int) == 59) = false := by simp; omega
    have g40 : ((c.toNat : Int) == 40) = false := by simp; omega
    have g41 : ((c.toNat : Int) == 41) = false := by simp; omega
    have g64 : ((c.toNat : Int) == 64) = false := by simp; omega
    have g36 : ((c.toNat : Int) == 36) = false := by simp; omega
    have hm : markB c q = true := by unfold markB; rw [decide_eq_true (by omega), Bool.true_or]
    simp only [go_sem, simprocAttr, hl, h0, h1, g34, g92, g46, g59, g40, g41, g64, g36, hm]
  by_cases q46 : c.toNat = 46
  · have g34 : ((c.toNat : Int) == 34) = false := by simp; omega
    have g92 : ((c.toNat : Int) == 92) = false := by simp; omega
    have g46 : ((c.toNat : Int) == 46) = true := by simp; omega
    have g59 : ((c.toNat : Int) == 59) = false := by simp; omega
    have g40 : ((c.toNat : Int) == 40) = false := by simp; omega
    have g41 : ((c.toNat : Int) == 41) = false := by simp; omega
    have g64 : ((c.toNat : Int) == 64) = false := by simp; omega
    have g36 : ((c.toNat : Int) == 36) = false := by simp; omega
    have hm : markB c q = !q := by unfold markB; rw [decide_eq_false (by omega), decide_eq_true (by omega)]; simp
    cases q <;> simp only [go_sem, simprocAttr, hl, h0, h1, g34, g92, g46, g59, g40, g41, g64, g36, hm] <;> rfl
  by_cases q59 : c.toNat = 59
  · have g34 : ((c.toNat : Int) == 34) = false := by simp; omega
    have g92 : ((c.toNat : Int) == 92) = false := by simp; omega
    have g46 : ((c.toNat : Int) == 46) = false := by simp; omega
    have g59 : ((c.toNat : Int) == 59) = true := by simp; omega
    have g40 : ((c.toNat : Int) == 40) = false := by simp; omega
    have g41 : ((c.toNat : Int) == 41) = false := by simp; omega
    have g64 : ((c.toNat : Int) == 64) = false := by simp; omega
    have g36 : ((c.toNat : Int) == 36) = false := by simp; omega
    have hm : markB c q = !q := by unfold markB; rw [decide_eq_false (by omega), decide_eq_true (by omega)]; simp
    cases q <;> simp only [go_sem, simprocAttr, hl, h0, h1, g34, g92, g46, g59, g40, g41, g64, g36, hm] <;> rfl
  by_cases q40 : c.toNat = 40
  · have g34 : ((c.toNat : Int) == 34) = false := by simp; omega
    have g92 : ((c.toNat : Int) == 92) = false := by simp; omega
    have g46 : ((c.toNat : Int) == 46) = false := by simp; omega
    have g59 : ((c.toNat : Int) == 59) = false := by simp; omega
    have g40 : ((c.toNat : Int) == 40) = true := by simp; omega
    have g41 : ((c.toNat : Int) == 41) = false := by simp; omega
    have g64 : ((c.toNat : Int) == 64) = false := by simp; omega
    have g36 : ((c.toNat : Int) == 36) = false := by simp; omega
    have hm : markB c q = !q := by unfold markB; rw [decide_eq_false (by omega), decide_eq_true (by omega)]; simp
    cases q <;> simp only [go_sem, simprocAttr, hl, h0, h1, g34, g92, g46, g59, g40, g41, g64, g36, hm] <;> rfl
  by_cases q41 : c.toNat = 41
  · have g34 : ((c.toNat : Int) == 34) = false := by simp; omega
    have g92 : ((c.toNat : Int) == 92) = false := by simp; omega
    have g46 : ((c.toNat : Int) == 46) = false := by simp; omega
    have g59 : ((c.toNat : Int) == 59) = false := by simp; omega
    have g40 : ((c.toNat : Int) == 40) = false := by simp; omega
    have g41 : ((c.toNat : Int) == 41) = true := by simp; omega
    have g64 : ((c.toNat : Int) == 64) = false := by simp; omega
    have g36 : ((c.toNat : Int) == 36) = false := by simp; omega
    have hm : markB c q = !q := by unfold markB; rw [decide_eq_false (by omega), decide_eq_true (by omega)]; simp
    cases q <;> simp only [go_sem, simprocAttr, hl, h0, h1, g34, g92, g46, g59, g40, g41, g64, g36, hm] <;> rfl
  by_cases q64 : c.toNat = 64
  · have g34 : ((c.toNat : Int) == 34) = false := by simp; omega
    have g92 : ((c.toNat : Int) == 92) = false := by simp; omega
    have g46 : ((c.toNat : Int) == 46) = false := by simp; omega
    have g59 : ((c.toNat : Int) == 59) = false := by simp; omega
    have g40 : ((c.toNat : Int) == 40) = false := by simp; omega
    have g41 : ((c.toNat : Int) == 41) = false := by simp; omega
    have g64 : ((c.toNat : Int) == 64) = true := by simp; omega
    have g36 : ((c.toNat : Int) == 36) = false := by simp; omega
    have hm : markB c q = !q := by unfold markB; rw [decide_eq_false (by omega), decide_eq_true (by omega)]; simp
    cases q <;> simp only [go_sem, simprocAttr, hl, h0, h1, g34, g92, g46, g59, g40, g41, g64, g36, hm] <;> rfl
  by_cases q36 : c.toNat = 36
  · have g34 : ((c.toNat : Int) == 34) = false := by simp; omega
    have g92 : ((c.toNat : Int) == 92) = false := by simp; omega
    have g46 : ((c.toNat : Int) == 46) = false := by simp; omega
    have g59 : ((c.toNat : Int) == 59) = false := by simp; omega
    have g40 : ((c.toNat : Int) == 40) = false := by simp; omega
    have g41 : ((c.toNat : Int) == 41) = false := by simp; omega
    have g64 : ((c.toNat : Int) == 64) = false := by simp; omega
    have g36 : ((c.toNat : Int) == 36) = true := by simp; omega
    have hm : markB c q = !q := by unfold markB; rw [decide_eq_false (by omega), decide_eq_true (by omega)]; simp
    cases q <;> simp only [go_sem, simprocAttr, hl, h0, h1, g34, g92, g46, g59, g40, g41, g64, g36, hm] <;> rfl
  have g34 : ((c.toNat : Int) == 34) = false := by simp; omega
  have g92 : ((c.toNat : Int) == 92) = false := by simp; omega
  have g46 : ((c.toNat : Int) == 46) = false := by simp; omega
  have g59 : ((c.toNat : Int) == 59) = false := by simp; omega
  have g40 : ((c.toNat : Int) == 40) = false := by simp; omega
  have g41 : ((c.toNat : Int) == 41) = false := by simp; omega
  have g64 : ((c.toNat : Int) == 64) = false := by simp; omega
  have g36 : ((c.toNat : Int) == 36) = false := by simp; omega
  have hm : markB c q = false := by unfold markB; rw [decide_eq_false (by omega), decide_eq_false (by omega)]; simp
  cases q <;> simp only [go_sem, simprocAttr, hl, h0, h1, g34, g92, g46, g59, g40, g41, g64, g36, hm]
theorem bslice2 (a b : Int) (H : Hp) : evBuildSlice Tryd.prog 31 2 [(0, .int .u8 a), (1, .int .u8 b)] H = some (.slice H.length 0 2 (.ex 2), H ++ [.cells [.int .u8 a, .int .u8 b] 5 .rw]) := by
  simp only [evBuildSlice, tsh_31, tzero_5, Option.bind_some]
  rfl
theorem bslice1 (a : Int) (H : Hp) : evBuildSlice Tryd.prog 31 1 [(0, .int .u8 a)] H = some (.slice H.length 0 1 (.ex 1), H ++ [.cells [.int .u8 a] 5 .rw]) := by
  simp only [evBuildSlice, tsh_31, tzero_5, Option.bind_some]
  rfl
theorem Buf.more {n : Nat} {T : Hp} {v : AV} {bs : List UInt8} (h : Buf n T v bs) (l : Hp) : Buf n (T ++ l) v bs := by
  obtain h | ⟨q, m, rfl, hm⟩ := h
  · exact .inl h
  · exact .inr ⟨q, m, rfl, get_app hm⟩
theorem Buf.rd {H T : Hp} {v : AV} {bs : List UInt8} (h : Buf H.length T v bs) : Rd (H ++ T) v bs := by
  obtain h | ⟨q, m, rfl, hm⟩ := h
  · exact .inl h
  · exact .inr ⟨_, _, _, [], [], 5, .op 0 false, rfl, rfl, by rw [hp_new, hm]; simp, .inr ⟨rfl, rfl, 0, false, rfl⟩⟩

set_option maxRecDepth 20000 in
set_option maxHeartbeats 2000000 in
theorem ref_Escape (s : List UInt8) (q : Bool) (H k) (hs : s.length ≤ 1000000) : callK Tryd.prog 44 [.str s, .bool q] H k = k (.str (escS q s), H, z0) := by
  refine callK_eq (r := (.str (escS q s), H, z0)) ?_ k
  refine callK_start (n := 58) (rs := [.tmp 4]) Tryd.func44 rfl rfl rfl ?_
  intro σ hl ha
  have h0 := ha 0 (by simp)
  have h1 := ha 1 (by simp)
  clear ha
  simp only [Option.getD_some, List.getElem?_cons_zero, List.getElem?_cons_succ] at h0 h1
  have hb0 : Buf H.length [] .nils (escS q (s.take 0)) := .inl ⟨rfl, rfl⟩
  simp only [go_sem, simprocAttr, hl, h0, h1]
  refine go_rounds (fun n st => ∃ σ i v T e, n + i = s.length ∧ st = ⟨σ, H ++ T, e⟩ ∧ Buf H.length T v (escS q (s.take i)) ∧ clean H.length e ∧ σ.length = 58 ∧ fr σ 0 = .str s ∧ fr σ 1 = .bool q ∧ fr σ 5 = v ∧ fr σ 6 = .int .i64 (i : Nat)) s.length
    ⟨_, 0, _, [], _, rfl, by rw [List.append_nil], hb0, ⟨rfl, rfl⟩, by simp only [go_sem, simprocAttr, hl], by simp only [go_sem, simprocAttr, hl, h0], by simp only [go_sem, simprocAttr, hl, h1], by simp only [go_sem, simprocAttr, hl], by simp only [go_sem, simprocAttr, hl]⟩ ?_
  rintro n _ ⟨σ, i, v, T, e, hn, rfl, hb, he, hl, h0, h1, h5, h6⟩
  by_cases hlt : i < s.length
  · obtain ⟨c, hc⟩ : ∃ c, s[i]? = some c := ⟨_, List.getElem?_eq_getElem hlt⟩
    have hcl := c.toNat_lt
    have hw := wrap_succ (show i < 9223372036854775807 by omega)
    have hsn := escS_snoc (q := q) hc
    have hE := escB_mark q c
    have hmk := fun H k => ref_marked c q H k
    have hbl : (escS q (s.take i)).length ≤ 4000000 := by
      have := escS_len q (s.take i)
      rw [List.length_take] at this; omega
    generalize hB : escS q (s.take i) = B at *
    have hsc := hb.scl
    cases hm : markB c q with
    | true =>
      rw [hm, if_pos rfl] at hE
      simp only [hm] at hmk
      obtain ⟨v', T2, e2, happ, _, c2, _, b2⟩ := (hb.more [.cells (u8s [92, c]) 5 .rw]).app [92, c] (by simp only [fits, decide_eq_true_eq, List.length_cons, List.length_nil]; omega)
      have happ : ∀ kk, stepK (appTo Tryd.prog (.slice 5 1 1) v ([.int .u8 92, .int .u8 c.toNat], 2) (H ++ (T ++ [.cells [.int .u8 92, .int .u8 c.toNat] 5 .rw]))) kk = kk (v', H ++ T2, e2) := by
        simp only [u8s, List.map_cons, List.map_nil, List.length_cons, List.length_nil, ← dg_a hcl, ← dg_b hcl, ← dg_c hcl] at happ
        exact happ
      simp only [go_sem, simprocAttr, hl, h0, h1, h5, h6, hc, hlt, hmk, bslice4, bslice2, bslice1, happ, hw]
      refine ⟨n - 1, by omega, _, i + 1, v', T2, _, by omega, rfl, by rw [hsn, hE]; exact b2, by simp only [go_sem, simprocAttr, he, c2], by simp only [go_sem, simprocAttr, hl], by simp only [go_sem, simprocAttr, hl, h0], by simp only [go_sem, simprocAttr, hl, h1], by simp only [go_sem, simprocAttr, hl], by simp only [go_sem, simprocAttr, hl]⟩
    | false =>
      rw [hm, if_neg (by simp)] at hE
      simp only [hm] at hmk
      by_cases hp : 32 < c.toNat ∧ c.toNat < 127
      · rw [if_pos (.inl hp)] at hE
        have p0 : decide ((c.toNat : Int) > 32) = true := by simp; omega
        have p1 : decide ((c.toNat : Int) < 127) = true := by simp; omega
        have p2 : ((c.toNat : Int) == 32) = false := by simp; omega
        obtain ⟨v', T2, e2, happ, _, c2, _, b2⟩ := (hb.more [.cells (u8s [c]) 5 .rw]).app [c] (by simp only [fits, decide_eq_true_eq, List.length_cons, List.length_nil]; omega)
        have happ : ∀ kk, stepK (appTo Tryd.prog (.slice 5 1 1) v ([.int .u8 c.toNat], 1) (H ++ (T ++ [.cells [.int .u8 c.toNat] 5 .rw]))) kk = kk (v', H ++ T2, e2) := by
          simp only [u8s, List.map_cons, List.map_nil, List.length_cons, List.length_nil, ← dg_a hcl, ← dg_b hcl, ← dg_c hcl] at happ
          exact happ
        simp only [go_sem, simprocAttr, hl, h0, h1, h5, h6, hc, hlt, hmk, p0, p1, p2, bslice4, bslice2, bslice1, happ, hw]
        refine ⟨n - 1, by omega, _, i + 1, v', T2, _, by omega, rfl, by rw [hsn, hE]; exact b2, by simp only [go_sem, simprocAttr, he, c2], by simp only [go_sem, simprocAttr, hl], by simp only [go_sem, simprocAttr, hl, h0], by simp only [go_sem, simprocAttr, hl, h1], by simp only [go_sem, simprocAttr, hl], by simp only [go_sem, simprocAttr, hl]⟩
      by_cases hz : c.toNat = 32
      · have p0 : decide ((c.toNat : Int) > 32) = false := by simp; omega
        have p1 : decide ((c.toNat : Int) < 127) = true := by simp; omega
        have p2 : ((c.toNat : Int) == 32) = true := by simp; omega
        cases q
        · rw [if_neg (by simp; omega)] at hE
          obtain ⟨v', T2, e2, happ, _, c2, _, b2⟩ := (hb.more [.cells (u8s [92, UInt8.ofNat (48 + c.toNat / 100), UInt8.ofNat (48 + c.toNat / 10 % 10), UInt8.ofNat (48 + c.toNat % 10)]) 5 .rw]).app [92, UInt8.ofNat (48 + c.toNat / 100), UInt8.ofNat (48 + c.toNat / 10 % 10), UInt8.ofNat (48 + c.toNat % 10)] (by simp only [fits, decide_eq_true_eq, List.length_cons, List.length_nil]; omega)
          have happ : ∀ kk, stepK (appTo Tryd.prog (.slice 5 1 1) v ([.int .u8 92, .int .u8 (IntKind.u8.wrap (48 + IntKind.u8.wrap ((c.toNat : Int).tdiv 100))), .int .u8 (IntKind.u8.wrap (48 + (IntKind.u8.wrap ((c.toNat : Int).tdiv 10)).tmod 10)), .int .u8 (IntKind.u8.wrap (48 + (c.toNat : Int).tmod 10))], 4) (H ++ (T ++ [.cells [.int .u8 92, .int .u8 (IntKind.u8.wrap (48 + IntKind.u8.wrap ((c.toNat : Int).tdiv 100))), .int .u8 (IntKind.u8.wrap (48 + (IntKind.u8.wrap ((c.toNat : Int).tdiv 10)).tmod 10)), .int .u8 (IntKind.u8.wrap (48 + (c.toNat : Int).tmod 10))] 5 .rw]))) kk = kk (v', H ++ T2, e2) := by
            simp only [u8s, List.map_cons, List.map_nil, List.length_cons, List.length_nil, ← dg_a hcl, ← dg_b hcl, ← dg_c hcl] at happ
            exact happ
          simp only [go_sem, simprocAttr, hl, h0, h1, h5, h6, hc, hlt, hmk, p0, p1, p2, bslice4, bslice2, bslice1, happ, hw]
          refine ⟨n - 1, by omega, _, i + 1, v', T2, _, by omega, rfl, by rw [hsn, hE]; exact b2, by simp only [go_sem, simprocAttr, he, c2], by simp only [go_sem, simprocAttr, hl], by simp only [go_sem, simprocAttr, hl, h0], by simp only [go_sem, simprocAttr, hl, h1], by simp only [go_sem, simprocAttr, hl], by simp only [go_sem, simprocAttr, hl]⟩
        · rw [if_pos (.inr ⟨hz, rfl⟩)] at hE
          obtain ⟨v', T2, e2, happ, _, c2, _, b2⟩ := (hb.more [.cells (u8s [c]) 5 .rw]).app [c] (by simp only [fits, decide_eq_true_eq, List.length_cons, List.length_nil]; omega)
          have happ : ∀ kk, stepK (appTo Tryd.prog (.slice 5 1 1) v ([.int .u8 c.toNat], 1) (H ++ (T ++ [.cells [.int .u8 c.toNat] 5 .rw]))) kk = kk (v', H ++ T2, e2) := by
            simp only [u8s, List.map_cons, List.map_nil, List.length_cons, List.length_nil, ← dg_a hcl, ← dg_b hcl, ← dg_c hcl] at happ
            exact happ
          simp only [go_sem, simprocAttr, hl, h0, h1, h5, h6, hc, hlt, hmk, p0, p1, p2, bslice4, bslice2, bslice1, happ, hw]
          refine ⟨n - 1, by omega, _, i + 1, v', T2, _, by omega, rfl, by rw [hsn, hE]; exact b2, by simp only [go_sem, simprocAttr, he, c2], by simp only [go_sem, simprocAttr, hl], by simp only [go_sem, simprocAttr, hl, h0], by simp only [go_sem, simprocAttr, hl, h1], by simp only [go_sem, simprocAttr, hl], by simp only [go_sem, simprocAttr, hl]⟩
      rw [if_neg (by omega)] at hE
      by_cases hlo : c.toNat < 32
      · have p0 : decide ((c.toNat : Int) > 32) = false := by simp; omega
        have p1 : decide ((c.toNat : Int) < 127) = true := by simp; omega
        have p2 : ((c.toNat : Int) == 32) = false := by simp; omega
        obtain ⟨v', T2, e2, happ, _, c2, _, b2⟩ := (hb.more [.cells (u8s [92, UInt8.ofNat (48 + c.toNat / 100), UInt8.ofNat (48 + c.toNat / 10 % 10), UInt8.ofNat (48 + c.toNat % 10)]) 5 .rw]).app [92, UInt8.ofNat (48 + c.toNat / 100), UInt8.ofNat (48 + c.toNat / 10 % 10), UInt8.ofNat (48 + c.toNat % 10)] (by simp only [fits, decide_eq_true_eq, List.length_cons, List.length_nil]; omega)
        have happ : ∀ kk, stepK (appTo Tryd.prog (.slice 5 1 1) v ([.int .u8 92, .int .u8 (IntKind.u8.wrap (48 + IntKind.u8.wrap ((c.toNat : Int).tdiv 100))), .int .u8 (IntKind.u8.wrap (48 + (IntKind.u8.wrap ((c.toNat : Int).tdiv 10)).tmod 10)), .int .u8 (IntKind.u8.wrap (48 + (c.toNat : Int).tmod 10))], 4) (H ++ (T ++ [.cells [.int .u8 92, .int .u8 (IntKind.u8.wrap (48 + IntKind.u8.wrap ((c.toNat : Int).tdiv 100))), .int .u8 (IntKind.u8.wrap (48 + (IntKind.u8.wrap ((c.toNat : Int).tdiv 10)).tmod 10)), .int .u8 (IntKind.u8.wrap (48 + (c.toNat : Int).tmod 10))] 5 .rw]))) kk = kk (v', H ++ T2, e2) := by
          simp only [u8s, List.map_cons, List.map_nil, List.length_cons, List.length_nil, ← dg_a hcl, ← dg_b hcl, ← dg_c hcl] at happ
          exact happ
        simp only [go_sem, simprocAttr, hl, h0, h1, h5, h6, hc, hlt, hmk, p0, p1, p2, bslice4, bslice2, bslice1, happ, hw]
        refine ⟨n - 1, by omega, _, i + 1, v', T2, _, by omega, rfl, by rw [hsn, hE]; exact b2, by simp only [go_sem, simprocAttr, he, c2], by simp only [go_sem, simprocAttr, hl], by simp only [go_sem, simprocAttr, hl, h0], by simp only [go_sem, simprocAttr, hl, h1], by simp only [go_sem, simprocAttr, hl], by simp only [go_sem, simprocAttr, hl]⟩
      · have p0 : decide ((c.toNat : Int) > 32) = true := by simp; omega
        have p1 : decide ((c.toNat : Int) < 127) = false := by simp; omega
        have p2 : ((c.toNat : Int) == 32) = false := by simp; omega
        obtain ⟨v', T2, e2, happ, _, c2, _, b2⟩ := (hb.more [.cells (u8s [92, UInt8.ofNat (48 + c.toNat / 100), UInt8.ofNat (48 + c.toNat / 10 % 10), UInt8.ofNat (48 + c.toNat % 10)]) 5 .rw]).app [92, UInt8.ofNat (48 + c.toNat / 100), UInt8.ofNat (48 + c.toNat / 10 % 10), UInt8.ofNat (48 + c.toNat % 10)] (by simp only [fits, decide_eq_true_eq, List.length_cons, List.length_nil]; omega)
        have happ : ∀ kk, stepK (appTo Tryd.prog (.slice 5 1 1) v ([.int .u8 92, .int .u8 (IntKind.u8.wrap (48 + IntKind.u8.wrap ((c.toNat : Int).tdiv 100))), .int .u8 (IntKind.u8.wrap (48 + (IntKind.u8.wrap ((c.toNat : Int).tdiv 10)).tmod 10)), .int .u8 (IntKind.u8.wrap (48 + (c.toNat : Int).tmod 10))], 4) (H ++ (T ++ [.cells [.int .u8 92, .int .u8 (IntKind.u8.wrap (48 + IntKind.u8.wrap ((c.toNat : Int).tdiv 100))), .int .u8 (IntKind.u8.wrap (48 + (IntKind.u8.wrap ((c.toNat : Int).tdiv 10)).tmod 10)), .int .u8 (IntKind.u8.wrap (48 + (c.toNat : Int).tmod 10))] 5 .rw]))) kk = kk (v', H ++ T2, e2) := by
          simp only [u8s, List.map_cons, List.map_nil, List.length_cons, List.length_nil, ← dg_a hcl, ← dg_b hcl, ← dg_c hcl] at happ
          exact happ
        simp only [go_sem, simprocAttr, hl, h0, h1, h5, h6, hc, hlt, hmk, p0, p1, p2, bslice4, bslice2, bslice1, happ, hw]
        refine ⟨n - 1, by omega, _, i + 1, v', T2, _, by omega, rfl, by rw [hsn, hE]; exact b2, by simp only [go_sem, simprocAttr, he, c2], by simp only [go_sem, simprocAttr, hl], by simp only [go_sem, simprocAttr, hl, h0], by simp only [go_sem, simprocAttr, hl, h1], by simp only [go_sem, simprocAttr, hl], by simp only [go_sem, simprocAttr, hl]⟩
  · have hi : i = s.length := by omega
    subst hi
    rw [List.take_length] at hb
    have hstr := hb.rd.v.str
    simp only [go_sem, simprocAttr, hl, h0, h1, h5, h6, hlt, hstr]
    exact leave_flat rfl he

set_option maxRecDepth 20000 in
theorem ref_Text (s : List UInt8) (H k) (L : List (List UInt8)) (hn : nm s = some L) (hs : s.length ≤ maxI) : callK Tryd.prog 45 [.str s] H k = k (.str (txtN s), H, z0) := by
  refine callK_eq (r := (.str (txtN s), H, z0)) ?_ k
  refine callK_start (n := 32) (rs := [.tmp 2]) Tryd.func45 rfl rfl rfl ?_
  intro σ hl ha
  have h0 := ha 0 (by simp)
  clear ha
  simp only [Option.getD_some, List.getElem?_cons_zero, List.getElem?_cons_succ] at h0
  obtain ⟨⟨bv, bT⟩, hb, hst⟩ := ref_Split s H hs
  have hB := hb L hn
  rw [hn] at hst
  simp only [Option.isSome_some] at hst
  obtain ⟨hL, h255⟩ := nm_lab hn
  have hLs : labs s = L := by rw [labs, hn]; rfl
  have htl := tot_le L s hL
  have hll := len_tot L
  obtain ⟨rfl, _, h3⟩ | ⟨h1, h2, m, rfl, h3⟩ := hB
  · have hL0 : L = [] := List.length_eq_zero_iff.1 h3
    subst hL0
    have hs0 : s = [0] := by
      cases s with
      | nil => cases hL
      | cons c t =>
        rw [lab_cons] at hL
        split at hL
        · rename_i hc
          split at hL
          · rename_i ht
            have : c = 0 := UInt8.toNat.inj (by simpa using hc)
            rw [this, List.length_eq_zero_iff.1 ht]
          · cases hL
        · split at hL
          · cases hL
          · rw [Option.map_eq_some_iff] at hL
            obtain ⟨_, _, h⟩ := hL
            cases h
    have hx : txtN s = [46] := if_pos hs0
    simp only [go_sem, simprocAttr, hl, h0, hst, hx]
  have hx : txtN s = txtL L := by
    rw [txtN, hLs, if_neg]
    rintro rfl
    have : L = [] := by
      have : lab [0] = some [] := rfl
      rw [this] at hL; exact (Option.some.inj hL).symm
    rw [this] at h1; cases h1
  have hne : ((L.length : Int) == 0) = false := by simp; intro h; rw [h] at h1; cases h1
  have htx := txtL_len L
  have hg : (H ++ bT)[H.length + m]? = some (.cells (strs L) 9 (.op 0 false)) := by rw [hp_new, h3]
  simp only at hg h3
  rw [hx]
  simp only [go_sem, simprocAttr, hl, h0, hst, hne]
  refine go_rounds (fun n st => ∃ σ i, n + i = L.length ∧ st = ⟨σ, H ++ bT, z0⟩ ∧ σ.length = 32 ∧ fr σ 3 = .slice (H.length + m) 0 L.length (.op 0) ∧ fr σ 5 = .str (txtL (L.take i)) ∧ fr σ 6 = .int .i64 (i : Nat)) L.length
    ⟨_, 0, rfl, rfl, by simp only [go_sem, simprocAttr, hl], by simp only [go_sem, simprocAttr, hl], by simp only [go_sem, simprocAttr, hl]; rfl, by simp only [go_sem, simprocAttr, hl]⟩ ?_
  rintro n _ ⟨σ, i, hi, rfl, hl, h3', h5, h6⟩
  by_cases hlt : i < L.length
  · obtain ⟨l, hli⟩ : ∃ l, L[i]? = some l := ⟨_, List.getElem?_eq_getElem hlt⟩
    obtain ⟨p1, p2⟩ := labs_pos (s := s) (by rw [hLs]; exact hli)
    have hsn := txtL_snoc hli
    have hbl : (txtL (L.take i)).length ≤ 1020 := by have := txtL_len (L.take i); have := tot_take L i; omega
    have hw := wrap_succ (show i < 9223372036854775807 by omega)
    have hld := strs_ld hli
    have hE := fun H' k => ref_Escape l false H' k (by omega)
    have hEl := escS_len false l
    have a1 := add_ok (a := txtL (L.take i)) (b := escS false l) (m := 1020) (n := 252) hbl (by omega) (by omega)
    have a2 := add_ok (a := txtL (L.take i) ++ escS false l) (b := [46]) (m := 1272) (n := 1) (by rw [List.length_append]; omega) (by simp) (by omega)
    simp only [go_sem, simprocAttr, hl, h3', h5, h6, hlt, hg, h3, hld, hE, a1, a2, hw]
    refine ⟨n - 1, by omega, _, i + 1, by omega, rfl, by simp only [go_sem, simprocAttr, hl], by simp only [go_sem, simprocAttr, hl, h3'], ?_, by simp only [go_sem, simprocAttr, hl]⟩
    simp only [go_sem, simprocAttr, hl, hsn]
  · have hi : i = L.length := by omega
    subst hi
    rw [List.take_length] at h5
    simp only [go_sem, simprocAttr, hl, h3', h5, h6, hlt]
end Go.Proofs.YtgkpgpdkolpfkaaDoor.V
namespace Go.Proofs.YtgkpgpdkolpfkaaDoor.V
open Go
set_option linter.unusedSimpArgs false
set_option linter.unusedVariables false
attribute [local irreducible] go goOps goD opK callK callT stepK leaveTo nextK

/-- How many bits a byte takes. -/
def len8 : List UInt8 := [0,1,2,2,3,3,3,3,4,4,4,4,4,4,4,4,5,5,5,5,5,5,5,5,5,5,5,5,5,5,5,5,6,6,6,6,6,6,6,6,6,6,6,6,6,6,6,6,6,6,6,6,6,6,6,6,6,6,6,6,6,6,6,6,7,7,7,7,7,7,7,7,7,7,7,7,7,7,7,7,7,7,7,7,7,7,7,7,7,7,7,7,7,7,7,7,7,7,7,7,7,7,7,7,7,7,7,7,7,7,7,7,7,7,7,7,7,7,7,7,7,7,7,7,7,7,7,7] ++ List.replicate 128 8
def bl8 (c : Nat) : Nat := ((len8[c]?).getD 0).toNat
theorem bl8_at {c : Nat} (h : c < 256) : len8[c]? = some (UInt8.ofNat (bl8 c)) ∧ bl8 c ≤ 8 := by
  have : ∀ c : Fin 256, len8[c.val]? = some (UInt8.ofNat (bl8 c.val)) ∧ bl8 c.val ≤ 8 := by decide +kernel
  exact this ⟨c, h⟩

theorem bindK_len8 {L : List UInt8} {n : Nat} {f : UInt8 → Prop} (hL : L = len8) (h : n < 256) : bindK (L[n]?) f = f (UInt8.ofNat (bl8 n)) := by
  subst hL
  rw [(bl8_at h).1, bindK_some]
set_option maxRecDepth 20000 in
theorem num_log (b : Nat) (H k) (hb : b ≤ 64) : callK Tryd.prog 102 [.int .i64 (b : Nat)] H k = k (.int .i64 (b * 78913 / 262144 : Nat), H, z0) := by
  refine callK_eq (r := (.int .i64 (b * 78913 / 262144 : Nat), H, z0)) ?_ k
  refine callK_start (n := 6) (rs := [.tmp 2]) Tryd.func102 rfl rfl rfl ?_
  intro σ hl ha
  have h0 := ha 0 (by simp)
  clear ha
  simp only [Option.getD_some, List.getElem?_cons_zero, List.getElem?_cons_succ] at h0
  have w1 : IntKind.i64.wrap ((b : Int) * 78913) = ((b * 78913 : Nat) : Int) := by rw [wrap_i64 (by omega)]; omega
  have w2 : ((b * 78913 : Nat) : Int).fdiv (2 ^ min 18 64) = ((b * 78913 / 262144 : Nat) : Int) := by
    have : (2 : Int) ^ min 18 64 = 262144 := by decide
    rw [this, Int.fdiv_eq_ediv_of_nonneg _ (by omega)]; omega
  simp only [go_sem, simprocAttr, hl, h0, w1, w2]
set_option maxRecDepth 20000 in
theorem num_bool (b : Bool) (H k) : callK Tryd.prog 104 [.bool b] H k = k (.int .i64 (if b = true then 1 else 0), H, z0) := by
  refine callK_eq (r := (.int .i64 (if b = true then 1 else 0), H, z0)) ?_ k
  refine callK_start (n := 4) (rs := [.tmp 2]) Tryd.func104 rfl rfl rfl ?_
  intro σ hl ha
  have h0 := ha 0 (by simp)
  clear ha
  simp only [Option.getD_some, List.getElem?_cons_zero, List.getElem?_cons_succ] at h0
  cases b
  · simp only [go_sem, simprocAttr, hl, h0]
  · simp only [go_sem, simprocAttr, hl, h0]

theorem bl8_range : ∀ {c : Nat}, c < 256 → c < 2 ^ bl8 c ∧ (c ≠ 0 → 2 ^ bl8 c ≤ 2 * c) := by
  intro c h
  have : ∀ c : Fin 256, c.val < 2 ^ bl8 c.val ∧ (c.val ≠ 0 → 2 ^ bl8 c.val ≤ 2 * c.val) := by decide +kernel
  exact this ⟨c, h⟩
/-- The table of powers, as it is laid. -/
def pow10c : List AV := [.int .u64 1, .int .u64 10, .int .u64 100, .int .u64 1000, .int .u64 10000, .int .u64 100000, .int .u64 1000000, .int .u64 10000000, .int .u64 100000000, .int .u64 1000000000, .int .u64 10000000000, .int .u64 100000000000, .int .u64 1000000000000, .int .u64 10000000000000, .int .u64 100000000000000, .int .u64 1000000000000000, .int .u64 10000000000000000, .int .u64 100000000000000000, .int .u64 1000000000000000000, .int .u64 10000000000000000000]
/-- The table lies in the heap where the program has it. -/
def Tb (H : Hp) : Prop := ∃ e k, H[1]? = some (.cells pow10c e k)
theorem Tb.old {H : Hp} (h : Tb H) (l : Hp) : Tb (H ++ l) := by
  obtain ⟨e, k, h⟩ := h
  exact ⟨e, k, hp_old h⟩
theorem ix99 {i : Nat} (h : i < 20) : evIndexAddr Tryd.prog 156 (.ptr 1 0) (.int .i64 (i : Nat)) = some (.ptr 1 i) := by
  simp only [evIndexAddr, tsh_156]
  rw [if_pos ⟨by omega, by omega⟩]
  simp
/-- Two digits each, up to 99. -/
def smalls : List UInt8 := (List.range 100).flatMap fun q => [hexD (q / 10), hexD (q % 10)]
theorem smalls_at {q : Nat} (h : q < 100) : smalls[2 * q]? = some (hexD (q / 10)) ∧ smalls[2 * q + 1]? = some (hexD (q % 10)) := by
  have : ∀ q : Fin 100, smalls[2 * q.val]? = some (hexD (q.val / 10)) ∧ smalls[2 * q.val + 1]? = some (hexD (q.val % 10)) := by decide +kernel
  exact this ⟨q, h⟩
theorem bindK_sm0 {L : List UInt8} {q : Nat} {f : UInt8 → Prop} (hL : L = smalls) (h : q < 100) : bindK (L[2 * q]?) f = f (hexD (q / 10)) := by
  subst hL
  rw [(smalls_at h).1, bindK_some]
theorem bindK_sm1 {L : List UInt8} {q : Nat} {f : UInt8 → Prop} (hL : L = smalls) (h : q < 100) : bindK (L[2 * q + 1]?) f = f (hexD (q % 10)) := by
  subst hL
  rw [(smalls_at h).2, bindK_some]
theorem hexD_n {q : Nat} (h : q < 10) : (hexD q).toNat = 48 + q := by
  have : ∀ q : Fin 10, (hexD q.val).toNat = 48 + q.val := by decide
  exact this ⟨q, h⟩
theorem hexD_i {q : Nat} (h : q < 10) : IntKind.u8.wrap (IntKind.u32.wrap (48 + (q : Int))) = ((hexD q).toNat : Int) := by
  rw [hexD_n h, wrap_u32 (by omega), wrap_u8 (by omega)]; omega
theorem dig36_sl {n : Nat} (h : n < 10) : ((([48, 49, 50, 51, 52, 53, 54, 55, 56, 57, 97, 98, 99, 100, 101, 102, 103, 104, 105, 106, 107, 108, 109, 110, 111, 112, 113, 114, 115, 116, 117, 118, 119, 120, 121, 122] : List UInt8).drop n).take 1) = [hexD n] := by
  have : ∀ n : Fin 10, ((([48, 49, 50, 51, 52, 53, 54, 55, 56, 57, 97, 98, 99, 100, 101, 102, 103, 104, 105, 106, 107, 108, 109, 110, 111, 112, 113, 114, 115, 116, 117, 118, 119, 120, 121, 122] : List UInt8).drop n.val).take 1) = [hexD n.val] := by decide
  exact this ⟨n, h⟩
theorem smalls_sl {L : List UInt8} {n : Nat} (hL : L = smalls) (h : n < 100) : (L.drop (2 * n)).take 2 = [hexD (n / 10), hexD (n % 10)] := by
  subst hL
  have : ∀ n : Fin 100, (smalls.drop (2 * n.val)).take 2 = [hexD (n.val / 10), hexD (n.val % 10)] := by decide +kernel
  exact this ⟨n, h⟩
theorem smalls_le {L : List UInt8} {n : Nat} (hL : L = smalls) (h : n < 100) : 2 * n + 2 ≤ L.length := by
  subst hL
  have : smalls.length = 200 := by decide +kernel
  omega
theorem decP_small {n : Nat} (h : n < 10) : decP n = [hexD n] := by unfold decP; rw [if_pos h]
theorem decP_big {n : Nat} (h : ¬ n < 10) : decP n = decP (n / 10) ++ [hexD (n % 10)] := by rw [decP]; rw [if_neg h]
set_option maxRecDepth 20000 in
theorem str_small (n : Nat) (H k) (hn : n < 100) : callK Tryd.prog 88 [.int .i64 (n : Nat)] H k = k (.str (decP n), H, z0) := by
  refine callK_eq (r := (.str (decP n), H, z0)) ?_ k
  refine callK_start (n := 15) (rs := [.tmp 2]) Tryd.func88 rfl rfl rfl ?_
  intro σ hl ha
  have h0 := ha 0 (by simp)
  clear ha
  simp only [Option.getD_some, List.getElem?_cons_zero, List.getElem?_cons_succ] at h0
  by_cases h10 : n < 10
  · have g : decide ((n : Int) < 10) = true := by simp; omega
    have q3 : IntKind.i64.wrap ((n : Int) + 1) = ((n + 1 : Nat) : Int) := by rw [wrap_i64 (by omega)]; omega
    have s1 := dig36_sl (n := n) (by omega)
    have d1 : n + 1 - n = 1 := by omega
    simp only [go_sem, simprocAttr, hl, h0, g, q3, s1, d1]
    exact ⟨by omega, by rw [decP_small h10]⟩
  · have g : decide ((n : Int) < 10) = false := by simp; omega
    have q1 : IntKind.i64.wrap ((n : Int) * 2) = ((2 * n : Nat) : Int) := by rw [wrap_i64 (by omega)]; omega
    have q3 : IntKind.i64.wrap (((2 * n : Nat) : Int) + 2) = ((2 * n + 2 : Nat) : Int) := by rw [wrap_i64 (by omega)]; omega
    have d1 : 2 * n + 2 - 2 * n = 2 := by omega
    simp only [go_sem, simprocAttr, hl, h0, g, q1, q3, d1]
    refine ⟨?_, str_eq ?_⟩
    · first | exact smalls_le (by kernel_rfl) hn | exact Int.ofNat_le.2 (smalls_le (by kernel_rfl) hn)
    · rw [smalls_sl (by kernel_rfl) hn, decP_big h10, decP_small (by omega)]
      rfl

end Go.Proofs.YtgkpgpdkolpfkaaDoor.V
