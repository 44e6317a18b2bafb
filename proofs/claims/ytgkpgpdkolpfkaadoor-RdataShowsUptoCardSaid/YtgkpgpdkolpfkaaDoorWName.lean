/- Names as bytes: what is one, its labels' places, as 'V' runs the program's and the document's functions. No conditions. -/
import Derived.Test.YtgkpgpdkolpfkaaDoorWLib
namespace Go.Proofs.YtgkpgpdkolpfkaaDoor.V
open Go
set_option linter.unusedSimpArgs false
set_option linter.unusedVariables false
attribute [local irreducible] go goOps goD opK callK callT stepK leaveTo nextK

/-- A name's labels, by its bytes. -/
def labF : Nat → List UInt8 → Option (List (List UInt8))
  | 0, _ => none
  | _ + 1, [] => none
  | n + 1, k :: t => if k.toNat = 0 then (if t.length = 0 then some [] else none) else if 63 < k.toNat ∨ t.length < k.toNat then none else (labF n (t.drop k.toNat)).map (t.take k.toNat :: ·)
theorem labF_more : ∀ (n m : Nat) (s : List UInt8), s.length < n → s.length < m → labF n s = labF m s
  | 0, _, s, h, _ => by omega
  | _ + 1, 0, s, _, h => by omega
  | n + 1, m + 1, [], _, _ => rfl
  | n + 1, m + 1, k :: t, h, h' => by
    simp only [labF]
    simp only [List.length_cons] at h h'
    rw [labF_more n m (t.drop k.toNat) (by rw [List.length_drop]; omega) (by rw [List.length_drop]; omega)]
def lab (s : List UInt8) : Option (List (List UInt8)) := labF (s.length + 1) s
theorem lab_nil : lab [] = none := rfl
theorem lab_cons (k : UInt8) (t : List UInt8) : lab (k :: t) = if k.toNat = 0 then (if t.length = 0 then some [] else none) else if 63 < k.toNat ∨ t.length < k.toNat then none else (lab (t.drop k.toNat)).map (t.take k.toNat :: ·) := by
  unfold lab
  rw [List.length_cons, labF, labF_more (t.length + 1) _ (t.drop k.toNat) (by rw [List.length_drop]; omega) (Nat.lt_succ_self _)]
def nm (s : List UInt8) : Option (List (List UInt8)) := if 255 < s.length then none else lab s
/-- How many bytes labels take; where each begins. -/
def tot (L : List (List UInt8)) : Nat := (L.map fun l => 1 + l.length).sum
def posn : Nat → List (List UInt8) → List Nat
  | _, [] => []
  | a, l :: L => a :: posn (a + (1 + l.length)) L
def posA (L : List (List UInt8)) : List AV := (posn 0 L).map fun n => .int .i64 (n : Nat)
theorem tot_snoc (L : List (List UInt8)) (l : List UInt8) : tot (L ++ [l]) = tot L + (1 + l.length) := by simp [tot]
theorem posn_snoc : ∀ (L : List (List UInt8)) (a : Nat) (l : List UInt8), posn a (L ++ [l]) = posn a L ++ [a + tot L]
  | [], a, l => by simp [posn, tot]
  | m :: L, a, l => by
    have := posn_snoc L (a + (1 + m.length)) l
    simp only [List.cons_append, posn, this]
    simp [tot]; omega
theorem posA_snoc (L : List (List UInt8)) (l : List UInt8) : posA (L ++ [l]) = posA L ++ [.int .i64 (tot L : Nat)] := by
  simp only [posA, posn_snoc, List.map_append, List.map_cons, List.map_nil, Nat.zero_add]
theorem posA_len (L : List (List UInt8)) : (posA L).length = L.length := by
  have : ∀ (L : List (List UInt8)) a, (posn a L).length = L.length := by
    intro L
    induction L with
    | nil => intro a; rfl
    | cons m L ih => intro a; simp [posn, ih]
  simp [posA, this]

/-- One more label of s, read at i. -/
theorem lab_step {s : List UInt8} {i : Nat} {c : UInt8} {L1 : List (List UInt8)} (hc : s[i]? = some c) (hl : lab s = (lab (s.drop i)).map (L1 ++ ·)) :
    (c.toNat = 0 → lab s = if i + 1 = s.length then some L1 else none) ∧ (63 < c.toNat → lab s = none) ∧
    (c.toNat ≠ 0 → c.toNat ≤ 63 → (s.length < i + (1 + c.toNat) ∧ lab s = none) ∨ (i + (1 + c.toNat) ≤ s.length ∧ ((s.drop (i + 1)).take c.toNat).length = c.toNat ∧ lab s = (lab (s.drop (i + (1 + c.toNat)))).map ((L1 ++ [(s.drop (i + 1)).take c.toNat]) ++ ·))) := by
  have hi : i < s.length := (List.getElem?_eq_some_iff.1 hc).1
  rw [drop_at hc, lab_cons] at hl
  refine ⟨fun h0 => ?_, fun h => ?_, fun h0 h1 => ?_⟩
  · rw [if_pos h0] at hl
    rw [hl, List.length_drop]
    by_cases h : i + 1 = s.length
    · rw [if_pos h, if_pos (by omega)]; simp
    · rw [if_neg h, if_neg (by omega)]; rfl
  · rw [if_neg (by omega), if_pos (.inl h)] at hl
    exact hl
  · rw [if_neg h0, List.length_drop] at hl
    by_cases h : s.length < i + (1 + c.toNat)
    · rw [if_pos (by omega)] at hl
      exact .inl ⟨h, hl⟩
    · rw [if_neg (by omega)] at hl
      refine .inr ⟨by omega, by rw [List.length_take, List.length_drop]; omega, ?_⟩
      rw [hl, List.drop_drop, show i + 1 + c.toNat = i + (1 + c.toNat) by omega, Option.map_map]
      congr 1
      funext x
      simp
theorem lab_end {s : List UInt8} {i : Nat} {L1 : List (List UInt8)} (hi : i = s.length) (hl : lab s = (lab (s.drop i)).map (L1 ++ ·)) : lab s = none := by
  rw [hl, hi, List.drop_length, lab_nil]; rfl

theorem bslice_int (n : Int) (H : Hp) : evBuildSlice Tryd.prog 28 1 [(0, .int .i64 n)] H = some (.slice H.length 0 1 (.ex 1), H ++ [.cells [.int .i64 n] 3 .rw]) := by
  simp only [evBuildSlice, tsh_28, tzero_3, Option.bind_some]
  rfl

set_option maxRecDepth 20000 in
theorem name_starts (s : List UInt8) (H) (hs : s.length ≤ maxI) : ∃ b : AV × Hp, (∀ L, nm s = some L → GBuf H.length b.2 b.1 3 1 L.length (posA L)) ∧
    ∀ k, callK Tryd.prog 78 [.str s] H k = k (.tuple [b.1, .bool (nm s).isSome], H ++ b.2, z0) := by
  refine callK_exP (fun b : AV × Hp => ∀ L, nm s = some L → GBuf H.length b.2 b.1 3 1 L.length (posA L)) (fun b => (.tuple [b.1, .bool (nm s).isSome], H ++ b.2, z0)) ?_
  refine callK_start (n := 40) (rs := [.tmp 2, .tmp 3]) Tryd.func78 rfl rfl rfl ?_
  intro σ hl ha
  have h0 := ha 0 (by simp)
  clear ha
  have hs : s.length ≤ 9223372036854775807 := hs
  simp only [Option.getD_some, List.getElem?_cons_zero, List.getElem?_cons_succ] at h0
  by_cases hbig : 255 < s.length
  · have g : decide ((s.length : Int) > 255) = true := by simp; omega
    have hn : nm s = none := if_pos hbig
    simp only [go_sem, simprocAttr, hl, h0, g]
    exact ⟨(.nils, []), by simp [hn], by simp [hn]⟩
  have g : decide ((s.length : Int) > 255) = false := by simp; omega
  have hnm : nm s = lab s := if_neg hbig
  simp only [go_sem, simprocAttr, hl, h0, g]
  rw [hnm]
  refine go_rounds (fun n st => ∃ σ i L1 v T e, n + i = 400 ∧ i < 320 ∧ i = tot L1 ∧ ((i ≤ s.length ∧ lab s = (lab (s.drop i)).map (L1 ++ ·)) ∨ (s.length < i ∧ lab s = none)) ∧ L1.length ≤ i ∧ GBuf H.length T v 3 1 L1.length (posA L1) ∧ st = ⟨σ, H ++ T, e⟩ ∧ clean H.length e ∧ σ.length = 40 ∧ fr σ 0 = .str s ∧ fr σ 4 = v ∧ fr σ 5 = .int .i64 (i : Nat)) 400
    ⟨_, 0, [], .nils, [], _, rfl, by omega, rfl, .inl ⟨Nat.zero_le _, by simp⟩, Nat.le_refl _, .inl ⟨rfl, rfl, rfl⟩, by rw [List.append_nil], ⟨rfl, rfl⟩, by simp only [go_sem, simprocAttr, hl], by simp only [go_sem, simprocAttr, hl, h0], by simp only [go_sem, simprocAttr, hl], by simp only [go_sem, simprocAttr, hl]⟩ ?_
  rintro n _ ⟨σ, i, L1, v, T, e, hn, hi, hit, hm, hLi, hv, rfl, he, hl, h0, h4, h5⟩
  have fin : ∀ b : Bool, (∀ L, lab s = some L → L = L1 ∧ b = true) → (lab s = none → b = false) →
      ∃ b1 : AV × Hp, (∀ L, lab s = some L → GBuf H.length b1.2 b1.1 3 1 L.length (posA L)) ∧ leave H.length (.tuple [v, .bool b]) (H ++ T) e = (.tuple [b1.1, .bool (lab s).isSome], H ++ b1.2, z0) := by
    intro b hb1 hb2
    have hb : b = (lab s).isSome := by
      cases hs : lab s with
      | none => exact hb2 hs
      | some L => exact (hb1 L hs).2
    subst hb
    obtain ⟨rfl, h2, h3⟩ | ⟨h1, h2, m, rfl, h3⟩ := hv
    · refine ⟨(.nils, []), fun L hL => .inl ?_, ?_⟩
      · obtain ⟨rfl, _⟩ := hb1 L hL
        exact ⟨rfl, h2, h3⟩
      · rw [leave_flat rfl he, List.append_nil]
    · refine ⟨(.slice (H.length + m) 0 L1.length (.op 0), T), fun L hL => .inr ?_, ?_⟩
      · obtain ⟨rfl, _⟩ := hb1 L hL
        exact ⟨h1, h2, m, rfl, h3⟩
      · rw [leave_keep (by simp [flat, flats]) he]
  by_cases hlt : i < s.length
  · obtain ⟨c, hc⟩ : ∃ c, s[i]? = some c := ⟨_, List.getElem?_eq_getElem hlt⟩
    have hlb : lab s = (lab (s.drop i)).map (L1 ++ ·) := by
      rcases hm with ⟨_, h⟩ | ⟨h, _⟩
      · exact h
      · omega
    obtain ⟨s0, s1, s2⟩ := lab_step hc hlb
    have g0 : decide ((i : Int) < (s.length : Int)) = true := by simp; omega
    have hcl := c.toNat_lt
    by_cases hz : c.toNat = 0
    · have g1 : ((c.toNat : Int) != 0) = false := by simp; omega
      have w1 : IntKind.i64.wrap ((s.length : Int) - 1) = (s.length : Int) - 1 := by rw [wrap_i64 (by omega)]
      simp only [go_sem, simprocAttr, hl, h0, h4, h5, g0, hc, hlt, g1, w1]
      refine fin _ (fun L hL => ?_) (fun hL => ?_)
      · rw [s0 hz] at hL
        split at hL
        · rename_i h; cases hL; exact ⟨rfl, by simp; omega⟩
        · cases hL
      · rw [s0 hz] at hL
        split at hL
        · cases hL
        · rename_i h; simp; omega
    · have g1 : ((c.toNat : Int) != 0) = true := by simp; omega
      by_cases hb : 63 < c.toNat
      · have g2 : decide ((c.toNat : Int) > 63) = true := by simp; omega
        have hN := s1 hb
        simp only [go_sem, simprocAttr, hl, h0, h4, h5, g0, hc, hlt, g1, g2, he]
        exact ⟨(.nils, []), by simp [hN], by simp [hN]⟩
      · have g2 : decide ((c.toNat : Int) > 63) = false := by simp; omega
        have w0 : IntKind.i64.wrap (c.toNat : Int) = (c.toNat : Int) := by rw [wrap_i64 (by omega)]
        have w1 : IntKind.i64.wrap (1 + (c.toNat : Int)) = ((1 + c.toNat : Nat) : Int) := by rw [wrap_i64 (by omega)]; omega
        have w2 : IntKind.i64.wrap ((i : Int) + ((1 + c.toNat : Nat) : Int)) = ((i + (1 + c.toNat) : Nat) : Int) := by rw [wrap_i64 (by omega)]; omega
        have hbs := bslice_int (i : Nat)
        obtain ⟨v', T2, e2, happ, _, hcl2, _, hv3, _, _, _⟩ := (hv.more [.cells [.int .i64 (i : Nat)] 3 .rw]).app2 (P := Tryd.prog) (b := 8) (by decide) zok_28 [.int .i64 (i : Nat)] 1 (by decide) rfl rfl (by simp only [fits, decide_eq_true_eq]; omega)
        simp only [go_sem, simprocAttr, hl, h0, h4, h5, g0, hc, hlt, g1, g2, w0, w1, w2, hbs, happ]
        obtain ⟨ll, hll, hm'⟩ : ∃ l : List UInt8, l.length = c.toNat ∧ ((i + (1 + c.toNat) ≤ s.length ∧ lab s = (lab (s.drop (i + (1 + c.toNat)))).map ((L1 ++ [l]) ++ ·)) ∨ (s.length < i + (1 + c.toNat) ∧ lab s = none)) := by
          rcases s2 hz (by omega) with h | ⟨h1, h2, h3⟩
          · exact ⟨List.replicate c.toNat 0, by simp, .inr h⟩
          · exact ⟨_, h2, .inl ⟨h1, h3⟩⟩
        rw [show posA L1 ++ [.int .i64 (i : Nat)] = posA (L1 ++ [ll]) by rw [posA_snoc, hit]] at hv3
        refine ⟨n - (1 + c.toNat), by omega, _, i + (1 + c.toNat), L1 ++ [ll], v', T2, _, by omega, by omega, by rw [tot_snoc, hll, hit], hm', by simp; omega, by simpa using hv3, rfl, by simp only [go_sem, simprocAttr, he, hcl2], by simp only [go_sem, simprocAttr, hl], by simp only [go_sem, simprocAttr, hl, h0], by simp only [go_sem, simprocAttr, hl], by simp only [go_sem, simprocAttr, hl]⟩
  · have g0 : decide ((i : Int) < (s.length : Int)) = false := by simp; omega
    have hN : lab s = none := by
      rcases hm with ⟨h, h'⟩ | ⟨_, h⟩
      · exact lab_end (by omega) h'
      · exact h
    have w1 : IntKind.i64.wrap ((s.length : Int) - 1) = (s.length : Int) - 1 := by rw [wrap_i64 (by omega)]
    simp only [go_sem, simprocAttr, hl, h0, h4, h5, hlt, w1]
    refine fin _ (fun L hL => by rw [hN] at hL; cases hL) (fun _ => by simp; omega)

set_option maxRecDepth 20000 in
theorem name_Check (s : List UInt8) (H k) (hs : s.length ≤ maxI) : callK Tryd.prog 47 [.str s] H k = k (.int .i64 (if (nm s).isSome then 0 else 11), H, z0) := by
  obtain ⟨b, _, hb⟩ := name_starts s H hs
  refine callK_eq (r := (.int .i64 (if (nm s).isSome then 0 else 11), H, z0)) ?_ k
  refine callK_start (n := 12) (rs := [.tmp 2]) Tryd.func47 rfl rfl rfl ?_
  intro σ hl ha
  have h0 := ha 0 (by simp)
  clear ha
  simp only [Option.getD_some, List.getElem?_cons_zero, List.getElem?_cons_succ] at h0
  cases h : (nm s).isSome <;> rw [h] at hb <;> simp only [go_sem, simprocAttr, hl, h0, hb]
end Go.Proofs.YtgkpgpdkolpfkaaDoor.V
