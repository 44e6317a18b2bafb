/- The service chapter: packing and reading, as they can be computed. No conditions. -/
import Derived.Test.YtjemmehgfheflaaDoorSLoose
import Derived.KernelRfl
namespace Go.Proofs.YtjemmehgfheflaaDoor.V
open Go
set_option linter.unusedSimpArgs false
set_option linter.unusedVariables false

/-- A number's digits, up to five. -/
def decB (n : Nat) : List UInt8 :=
  if n < 10 then [hexD n] else if n < 100 then [hexD (n / 10), hexD (n % 10)] else if n < 1000 then [hexD (n / 100), hexD (n / 10 % 10), hexD (n % 10)]
  else if n < 10000 then [hexD (n / 1000), hexD (n / 100 % 10), hexD (n / 10 % 10), hexD (n % 10)]
  else [hexD (n / 10000), hexD (n / 1000 % 10), hexD (n / 100 % 10), hexD (n / 10 % 10), hexD (n % 10)]
theorem decB_eq {n : Nat} (h : n < 100000) : decP n = decB n := by
  unfold decB
  by_cases h1 : n < 10
  · rw [if_pos h1, decP_lt h1]
  rw [if_neg h1, decP_ge h1]
  by_cases h2 : n < 100
  · rw [if_pos h2, decP_lt (by omega)]; rfl
  rw [if_neg h2, decP_ge (by omega)]
  by_cases h3 : n < 1000
  · rw [if_pos h3, decP_lt (by omega), show n / 10 / 10 = n / 100 by omega]; rfl
  rw [if_neg h3, decP_ge (by omega)]
  by_cases h4 : n < 10000
  · rw [if_pos h4, decP_lt (by omega), show n / 10 / 10 = n / 100 by omega, show n / 100 / 10 = n / 1000 by omega]; rfl
  rw [if_neg h4, decP_ge (by omega), decP_lt (by omega), show n / 10 / 10 = n / 100 by omega, show n / 100 / 10 = n / 1000 by omega, show n / 1000 / 10 = n / 10000 by omega]; rfl
def segB (s : Svc) : List UInt8 := (if s.dg = true then 117 else 116) :: 61 :: (s.label ++ joinC 58 [decB s.port.toNat, decB s.prio.toNat, decB s.weight.toNat, textP s.text])
theorem segB_eq {s : Svc} (h : numsOk s) : seg s = segB s := by
  obtain ⟨⟨h1, h2⟩, ⟨h3, h4⟩, ⟨h5, h6⟩⟩ := h
  unfold seg segB
  rw [body_join, decB_eq (by omega), decB_eq (by omega), decB_eq (by omega)]
def toldB (m : Mt) : List UInt8 := m.a ++ joinC 32 (headSeg 52 m.b ++ headSeg 54 m.c ++ m.ss.map segB)
theorem toldB_eq {m : Mt} (h : m.nums) : m.told = toldB m := by
  rw [Mt.told_eq]
  unfold toldB Mt.segs
  congr 3
  exact List.map_congr_left (fun s hs => segB_eq (h s hs))
def svcB (ss : List Svc) : Bool := ss.all (fun s => hostP s.label && decide (s.text.length ≤ 255)) && decide (ss.Pairwise (fun t s => ¬ (t.label = s.label ∧ t.dg = s.dg)))
def mayB (m : Mt) : Bool := hostP m.a && (decide (m.b.length = 0 ∨ m.b.length = 4) && (decide (m.c.length = 0 ∨ m.c.length = 16) && svcB m.ss))
theorem mayB_iff {m : Mt} : mayB m = true ↔ m.may := by
  unfold mayB svcB Mt.may mayQ
  simp only [Bool.and_eq_true, decide_eq_true_eq, List.all_eq_true]
  constructor
  · rintro ⟨h1, h2, h3, h4, h5⟩
    refine ⟨⟨h1, h2, h3⟩, fun i s hs => ?_⟩
    have := h4 s (List.mem_of_getElem? hs)
    refine ⟨this.1, this.2, fun j t hj ht => ?_⟩
    rw [List.pairwise_iff_getElem] at h5
    obtain ⟨hj1, rfl⟩ := List.getElem?_eq_some_iff.1 ht
    obtain ⟨hi1, rfl⟩ := List.getElem?_eq_some_iff.1 hs
    exact h5 j i hj1 hi1 hj
  · rintro ⟨⟨h1, h2, h3⟩, h4⟩
    refine ⟨h1, h2, h3, fun s hs => ?_, ?_⟩
    · obtain ⟨i, hi⟩ := List.getElem?_of_mem hs
      exact ⟨(h4 i s hi).1, (h4 i s hi).2.1⟩
    · rw [List.pairwise_iff_getElem]
      intro j i hj hi hji
      exact (h4 i _ (List.getElem?_eq_getElem hi)).2.2 j _ hji (List.getElem?_eq_getElem hj)
def packB (m : Mt) : List UInt8 × Int := if 16 < m.ss.length then ([], 2) else if mayB m = true then (if 400 < (toldB m).length then ([], 2) else (toldB m, 0)) else ([], 210)
theorem packB_eq {m : Mt} (h : m.nums) : m.pack = packB m := by
  have hm : mayP m.a m.b m.c m.ss = mayB m := by
    rw [Bool.eq_iff_iff, mayP_iff, mayB_iff]; rfl
  have ht : toldP m.a m.b m.c m.ss = toldB m := toldB_eq h
  unfold Mt.pack packP packB
  rw [hm, ht]
def parseB (s : List UInt8) : Mt × Int := if 400 < s.length then (Mt.nil, 2) else match looseM s with
  | none => (Mt.nil, 210)
  | some m => if packB m = (s, 0) then (m, 0) else (Mt.nil, 210)
theorem loose_nums {s : List UInt8} (hs : s.length ≤ 400) {m : Mt} (h : looseM s = some m) : m.nums := by
  have h1 : ∀ p ∈ (splitC 32 s).2, p.length ≤ 400 := by
    intro p hp
    have hj := congrArg List.length (split_join 32 s)
    rw [List.length_append] at hj
    have : ∀ R : List (List UInt8), p ∈ R → p.length ≤ (joinC 32 R).length := by
      intro R
      induction R with
      | nil => intro h; cases h
      | cons q R ih =>
        intro h
        rw [join_len]
        rcases List.mem_cons.1 h with rfl | h
        · omega
        · have := ih h; omega
    have := this _ hp
    omega
  have h0 : (splitC 32 s).1.length ≤ 400 := by
    have hj := congrArg List.length (split_join 32 s)
    rw [List.length_append] at hj
    omega
  have := WL.fold (m := ⟨(splitC 32 s).1, [], [], []⟩) (k := 0) ⟨h0, Nat.zero_le _, Nat.zero_le _, Nat.zero_le _, by simp⟩ h1 h
  exact fun v hv => (this.s v hv).2.2
theorem parseB_ok (s : List UInt8) : ParseR s (parseB s).1 (parseB s).2 := by
  unfold parseB
  by_cases h : 400 < s.length
  · rw [if_pos h]; exact .inl ⟨h, rfl, rfl⟩
  · rw [if_neg h]
    have hs : s.length ≤ 400 := by omega
    split
    · rename_i hl
      exact loose_bad hs hl
    · rename_i m hl
      have hn := loose_nums hs hl
      have hle := loose_end hs hl hn
      split
      · rename_i hp
        exact hle.1 (by rw [packB_eq hn]; exact hp)
      · rename_i hp
        exact hle.2 (by rw [packB_eq hn]; exact hp)
/-- So many, one behind the other. -/
def manyP (s : List UInt8) : Nat → List UInt8
  | 0 => []
  | n + 1 => manyP s n ++ s

def bads : List (List UInt8) := [[], [65], [45, 97], [97, 45], [97, 32], [32, 97], [97, 32, 32, 116, 61, 98, 58, 49, 58, 48, 58, 48, 58], [97, 32, 116, 61, 98, 58, 48, 49, 58, 48, 58, 48, 58], [97, 32, 116, 61, 98, 58, 49, 58, 48, 58, 48], [97, 32, 116, 61, 98, 58, 49, 58, 48, 58, 48, 58, 58], [97, 32, 116, 61, 98, 58, 49, 58, 48, 58, 48, 58, 37, 50, 68], [97, 32, 116, 61, 98, 58, 49, 58, 48, 58, 48, 58, 37, 50, 100], [97, 32, 116, 61, 98, 58, 49, 58, 48, 58, 48, 58, 37, 48], [97, 32, 116, 61, 98, 58, 49, 58, 48, 58, 48, 58, 37], [97, 32, 54, 61, 48, 48, 32, 52, 61, 48, 48, 48, 48, 48, 48, 48, 48], [97, 32, 54, 61, 48, 48, 48, 48, 48, 48, 48, 48, 48, 48, 48, 48, 48, 48, 48, 48, 48, 48, 48, 48, 48, 48, 48, 48, 48, 48, 48, 48, 48, 48, 48, 48, 32, 52, 61, 48, 48, 48, 48, 48, 48, 48, 48], [97, 32, 52, 61], [97, 32, 52, 61, 48, 97, 48, 48, 48, 48, 48], [97, 32, 52, 61, 48, 65, 48, 48, 48, 48, 48, 49], [97, 32, 116, 61, 98, 58, 54, 53, 53, 51, 54, 58, 48, 58, 48, 58], [97, 32, 116, 61, 98, 58, 58, 48, 58, 48, 58], [97, 32, 116, 61, 66, 58, 49, 58, 48, 58, 48, 58], [97, 32, 120, 61, 98, 58, 49, 58, 48, 58, 48, 58], [97, 32, 116, 61, 98, 58, 49, 58, 48, 58, 48, 58, 32, 116, 61, 98, 58, 50, 58, 48, 58, 48, 58], [97, 32, 116, 61, 98, 58, 49, 58, 48, 58, 48, 58, 32, 52, 61, 48, 48, 48, 48, 48, 48, 48, 48], [97, 32, 52, 61, 48, 48, 48, 48, 48, 48, 48, 48, 32, 52, 61, 48, 48, 48, 48, 48, 48, 48, 48], [97, 9, 116, 61, 98, 58, 49, 58, 48, 58, 48, 58], [97, 32, 117], [97, 32, 116, 61, 98, 58, 49, 48, 48, 48, 48, 48, 58, 48, 58, 48, 58], [97, 32, 116, 61, 98, 58, 43, 49, 58, 48, 58, 48, 58]]
def isBad (r : Mt × Int) : Bool := r.1.a.isEmpty && (r.1.b.isEmpty && (r.1.c.isEmpty && (r.1.ss.isEmpty && r.2 == 210)))
theorem isBad_eq {r : Mt × Int} (h : isBad r = true) : r = (Mt.nil, 210) := by
  obtain ⟨⟨a, b, c, ss⟩, e⟩ := r
  simp only [isBad, Bool.and_eq_true, List.isEmpty_iff, beq_iff_eq] at h
  obtain ⟨rfl, rfl, rfl, rfl, rfl⟩ := h
  rfl
theorem bads_bad : (bads.all fun s => isBad (parseB s)) = true := by decide +kernel
def strA : List UInt8 := manyP [97] 62 ++ [32, 116, 61] ++ manyP [98] 62 ++ [58, 54, 53, 53, 51, 53, 58, 48, 58, 48, 58] ++ manyP [99] 255
theorem parse_A : parseB strA = (⟨manyP [97] 62, [], [], [⟨manyP [98] 62, false, 65535, 0, 0, manyP [99] 255⟩]⟩, 0) := by kernel_rfl
theorem parse_B : parseB (manyP [97] 63) = (Mt.nil, 210) := by kernel_rfl
theorem parse_C : parseB (manyP [97] 401) = (Mt.nil, 2) := by kernel_rfl
theorem parse_D : parseB ([97, 32, 116, 61, 98, 58, 49, 58, 48, 58, 48, 58] ++ manyP [99] 256) = (Mt.nil, 210) := by kernel_rfl
def svE1 : Svc := ⟨[100, 110, 115], true, 53, 1, 2, []⟩
def svE2 : Svc := ⟨[100, 110, 115], false, 53, 1, 2, []⟩
theorem parse_E : parseB [97, 32, 117, 61, 100, 110, 115, 58, 53, 51, 58, 49, 58, 50, 58, 32, 116, 61, 100, 110, 115, 58, 53, 51, 58, 49, 58, 50, 58] = (⟨[97], [], [], [svE1, svE2]⟩, 0) := by kernel_rfl
def svA : Svc := ⟨manyP [98] 62, false, 65535, 0, 0, manyP [99] 255⟩
theorem parse_A' : parseB strA = (⟨manyP [97] 62, [], [], [svA]⟩, 0) := parse_A
/- packing, at the limits -/
def svF1 : Svc := ⟨[98], false, 0, 0, 0, manyP [97] 145⟩
def svF2 (n : Nat) : Svc := ⟨[99], false, 0, 0, 0, manyP [100] n⟩
theorem pack_F : packB ⟨[97], [], [], [svF1, svF2 232]⟩ = (toldB ⟨[97], [], [], [svF1, svF2 232]⟩, 0) ∧ (toldB ⟨[97], [], [], [svF1, svF2 232]⟩).length = 400 := ⟨by kernel_rfl, by kernel_rfl⟩
theorem pack_G : packB ⟨[97], [], [], [svF1, svF2 233]⟩ = ([], 2) := by kernel_rfl
def letter (i : Nat) : Svc := ⟨[UInt8.ofNat (97 + i)], false, 0, 0, 0, [45]⟩
def letters : List Svc := (List.range 17).map letter
theorem pack_H : (packB ⟨[97], [], [], letters.take 16⟩).2 = 0 := by kernel_rfl
theorem pack_I : (packB ⟨[65], [], [], letters⟩).2 = 2 := by kernel_rfl
theorem pack_J : (packB ⟨[97], [97, 98, 99], [], []⟩).2 = 210 := by kernel_rfl
theorem pack_K : (packB ⟨[97], [], [97, 98, 99, 100], []⟩).2 = 210 := by kernel_rfl
def svZ : Svc := ⟨[122], false, 65535, 0, 0, manyP [116] 256⟩
theorem pack_Z : (packB ⟨[97], [], [], [svZ]⟩).2 = 210 := by kernel_rfl
end Go.Proofs.YtjemmehgfheflaaDoor.V
