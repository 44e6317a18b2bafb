/- Names split into labels; small letters: as 'V' runs the program's and the document's functions. No conditions. -/
import Derived.Test.YtgkpgpdkolpfkaaDoorWName
namespace Go.Proofs.YtgkpgpdkolpfkaaDoor.V
open Go
set_option linter.unusedSimpArgs false
set_option linter.unusedVariables false
attribute [local irreducible] go goOps goD opK callK callT stepK leaveTo nextK

theorem bslice_str (p : List UInt8) (H : Hp) : evBuildSlice Tryd.prog 64 1 [(0, .str p)] H = some (.slice H.length 0 1 (.ex 1), H ++ [.cells [.str p] 9 .rw]) := by
  simp only [evBuildSlice, tsh_64, tzero_9, Option.bind_some]
  rfl

set_option maxRecDepth 20000 in
theorem ref_Split (s : List UInt8) (H) (hs : s.length ≤ maxI) : ∃ b : AV × Hp, (∀ L, nm s = some L → GBuf H.length b.2 b.1 9 1 L.length (strs L)) ∧
    ∀ k, callK Tryd.prog 77 [.str s] H k = k (.tuple [b.1, .bool (nm s).isSome], H ++ b.2, z0) := by
  refine callK_exP (fun b : AV × Hp => ∀ L, nm s = some L → GBuf H.length b.2 b.1 9 1 L.length (strs L)) (fun b => (.tuple [b.1, .bool (nm s).isSome], H ++ b.2, z0)) ?_
  refine callK_start (n := 43) (rs := [.tmp 2, .tmp 3]) Tryd.func77 rfl rfl rfl ?_
  intro σ hl ha
  have h0 := ha 0 (by simp)
  clear ha
  have hs : s.length ≤ 9223372036854775807 := hs
  simp only [Option.getD_some, List.getElem?_cons_zero, List.getElem?_cons_succ] at h0
  by_cases hbig : 255 < s.length
  · have g : decide ((s.length : Int) > 255) = true := by simp; omega
    have hn : nm s = none := if_pos hbig
    simp only [go_sem, simprocAttr, hl, h0, g]
    exact ⟨(.nils, []), by simp [hn], by simp [hn]⟩
  have g : decide ((s.length : Int) > 255) = false := by simp; omega
  have hnm : nm s = lab s := if_neg hbig
  simp only [go_sem, simprocAttr, hl, h0, g]
  rw [hnm]
  refine go_rounds (fun n st => ∃ σ r L1 v T e, n = r.length + 1 ∧ lab s = (lab r).map (L1 ++ ·) ∧ L1.length + r.length ≤ 255 ∧ GBuf H.length T v 9 1 L1.length (strs L1) ∧ st = ⟨σ, H ++ T, e⟩ ∧ clean H.length e ∧ σ.length = 43 ∧ fr σ 4 = v ∧ fr σ 5 = .str r) (s.length + 1)
    ⟨_, s, [], .nils, [], _, rfl, by simp, by simp; omega, .inl ⟨rfl, rfl, rfl⟩, by rw [List.append_nil], ⟨rfl, rfl⟩, by simp only [go_sem, simprocAttr, hl], by simp only [go_sem, simprocAttr, hl, h0], by simp only [go_sem, simprocAttr, hl]⟩ ?_
  rintro n _ ⟨σ, r, L1, v, T, e, rfl, hm, hLr, hv, rfl, he, hl, h4, h5⟩
  have fin : ∀ b : Bool, (∀ L, lab s = some L → L = L1 ∧ b = true) → (lab s = none → b = false) →
      ∃ b1 : AV × Hp, (∀ L, lab s = some L → GBuf H.length b1.2 b1.1 9 1 L.length (strs L)) ∧ leave H.length (.tuple [v, .bool b]) (H ++ T) e = (.tuple [b1.1, .bool (lab s).isSome], H ++ b1.2, z0) := by
    intro b hb1 hb2
    have hb : b = (lab s).isSome := by
      cases hs : lab s with
      | none => exact hb2 hs
      | some L => exact (hb1 L hs).2
    subst hb
    obtain ⟨rfl, h2, h3⟩ | ⟨h1, h2, m, rfl, h3⟩ := hv
    · refine ⟨(.nils, []), fun L hL => .inl ?_, ?_⟩
      · obtain ⟨rfl, _⟩ := hb1 L hL
        exact ⟨rfl, h2, h3⟩
      · rw [leave_flat rfl he, List.append_nil]
    · refine ⟨(.slice (H.length + m) 0 L1.length (.op 0), T), fun L hL => .inr ?_, ?_⟩
      · obtain ⟨rfl, _⟩ := hb1 L hL
        exact ⟨h1, h2, m, rfl, h3⟩
      · rw [leave_keep (by simp [flat, flats]) he]
  cases r with
  | nil =>
    have hN : lab s = none := by rw [hm, lab_nil]; rfl
    simp only [go_sem, simprocAttr, hl, h4, h5, he]
    exact ⟨(.nils, []), by simp [hN], by simp [hN]⟩
  | cons c t =>
    rw [lab_cons] at hm
    have hcl := c.toNat_lt
    simp only [List.length_cons] at hLr
    have g0 : decide (((t.length + 1 : Nat) : Int) > 0) = true := by simp
    have w0 : IntKind.i64.wrap (c.toNat : Int) = (c.toNat : Int) := by rw [wrap_i64 (by omega)]
    by_cases hz : c.toNat = 0
    · rw [if_pos hz] at hm
      have g1 : ((c.toNat : Int) == 0) = true := by simp; omega
      simp only [go_sem, simprocAttr, hl, h4, h5, g0, w0, g1]
      refine fin _ (fun L hL => ?_) (fun hL => ?_)
      · rw [hm] at hL
        split at hL
        · rename_i h; simp at hL; subst hL; exact ⟨rfl, by simp; omega⟩
        · cases hL
      · rw [hm] at hL
        split at hL
        · cases hL
        · rename_i h; simp; intro h'; apply h; omega
    · rw [if_neg hz] at hm
      have g1 : ((c.toNat : Int) == 0) = false := by simp; omega
      have w1 : IntKind.i64.wrap ((c.toNat : Int) + 1) = ((c.toNat + 1 : Nat) : Int) := by rw [wrap_i64 (by omega)]; omega
      by_cases hb : 63 < c.toNat
      · have g2 : decide ((c.toNat : Int) > 63) = true := by simp; omega
        rw [if_pos (.inl hb)] at hm
        have hN : lab s = none := hm
        simp only [go_sem, simprocAttr, hl, h4, h5, g0, w0, w1, g1, g2, he]
        exact ⟨(.nils, []), by simp [hN], by simp [hN]⟩
      · have g2 : decide ((c.toNat : Int) > 63) = false := by simp; omega
        by_cases hsh : t.length < c.toNat
        · have g3 : decide (t.length + 1 < c.toNat + 1) = true := by simp; omega
          rw [if_pos (.inr hsh)] at hm
          have hN : lab s = none := hm
          simp only [go_sem, simprocAttr, hl, h4, h5, g0, w0, w1, g1, g2, g3, he]
          exact ⟨(.nils, []), by simp [hN], by simp [hN]⟩
        · have g3 : decide (t.length + 1 < c.toNat + 1) = false := by simp; omega
          rw [if_neg (by omega)] at hm
          have b1 : (1 : Int) ≤ ((c.toNat + 1 : Nat) : Int) := by omega
          have b2 : c.toNat + 1 ≤ t.length + 1 := by omega
          have e1 : c.toNat + 1 - 1 = c.toNat := by omega
          have e2 : (t.drop c.toNat).take (t.length - c.toNat) = t.drop c.toNat := List.take_of_length_le (by rw [List.length_drop]; omega)
          have hbs := bslice_str (t.take c.toNat)
          obtain ⟨v', T2, e2', happ, _, hcl2, _, hv3, _, _, _⟩ := (hv.more [.cells [.str (t.take c.toNat)] 9 .rw]).app2 (P := Tryd.prog) (b := 16) (by decide) zok_64 [.str (t.take c.toNat)] 1 (by decide) rfl rfl (by simp only [fits, decide_eq_true_eq]; omega)
          simp only [go_sem, simprocAttr, hl, h4, h5, g0, w0, w1, g1, g2, g3, b1, b2, e1, e2, hbs, happ]
          refine ⟨(t.drop c.toNat).length + 1, by rw [List.length_drop]; omega, _, t.drop c.toNat, L1 ++ [t.take c.toNat], v', T2, _, rfl, ?_, by simp; omega, by simpa [strs] using hv3, rfl, by simp only [go_sem, simprocAttr, he, hcl2], by simp only [go_sem, simprocAttr, hl], by simp only [go_sem, simprocAttr, hl], by simp only [go_sem, simprocAttr, hl]⟩
          rw [hm, Option.map_map]
          congr 1
          funext x
          simp

set_option maxRecDepth 20000 in
theorem ref_Is (s : List UInt8) (H k) (hs : s.length ≤ maxI) : callK Tryd.prog 49 [.str s] H k = k (.bool (nm s).isSome, H, z0) := by
  obtain ⟨b, _, hb⟩ := ref_Split s H hs
  refine callK_eq (r := (.bool (nm s).isSome, H, z0)) ?_ k
  refine callK_start (n := 11) (rs := [.tmp 2]) Tryd.func49 rfl rfl rfl ?_
  intro σ hl ha
  have h0 := ha 0 (by simp)
  clear ha
  simp only [Option.getD_some, List.getElem?_cons_zero, List.getElem?_cons_succ] at h0
  simp only [go_sem, simprocAttr, hl, h0, hb]

/-- A byte, a text in small letters. -/
def lowB (c : UInt8) : UInt8 := if 65 ≤ c.toNat ∧ c.toNat ≤ 90 then c + 32 else c
def lowS (s : List UInt8) : List UInt8 := s.map lowB
theorem lowB_or {c : UInt8} (h : 65 ≤ c.toNat ∧ c.toNat ≤ 90) : IntKind.u8.wrap (BitVec.ofInt 8 (c.toNat : Int) ||| 32#8).toNat = ((lowB c).toNat : Int) := by
  have key : ∀ c : Fin 256, (65 ≤ c.val ∧ c.val ≤ 90) → IntKind.u8.wrap (BitVec.ofInt 8 (c.val : Int) ||| 32#8).toNat = ((lowB (UInt8.ofNat c.val)).toNat : Int) := by decide +kernel
  have := key ⟨c.toNat, c.toNat_lt⟩ h
  simpa using this
theorem lowB_add {c : UInt8} (h : 65 ≤ c.toNat ∧ c.toNat ≤ 90) : IntKind.u8.wrap ((c.toNat : Int) + 32) = ((lowB c).toNat : Int) := by
  have key : ∀ c : Fin 256, (65 ≤ c.val ∧ c.val ≤ 90) → IntKind.u8.wrap ((c.val : Int) + 32) = ((lowB (UInt8.ofNat c.val)).toNat : Int) := by decide +kernel
  have := key ⟨c.toNat, c.toNat_lt⟩ h
  simpa using this
theorem lowB_not {c : UInt8} (h : ¬ (65 ≤ c.toNat ∧ c.toNat ≤ 90)) : lowB c = c := if_neg h

theorem i_orT {kd : IntKind} {a b : Int} : evInt .or kd a b = some (.int kd (kd.wrap (BitVec.ofInt kd.bits a ||| BitVec.ofInt kd.bits b).toNat)) := rfl

set_option maxRecDepth 20000 in
theorem name_low (c : UInt8) (H k) : callK Tryd.prog 79 [.int .u8 c.toNat] H k = k (.int .u8 (lowB c).toNat, H, z0) := by
  refine callK_eq (r := (.int .u8 (lowB c).toNat, H, z0)) ?_ k
  refine callK_start (n := 12) (rs := [.tmp 2]) Tryd.func79 rfl rfl rfl ?_
  intro σ hl ha
  have h0 := ha 0 (by simp)
  clear ha
  simp only [Option.getD_some, List.getElem?_cons_zero, List.getElem?_cons_succ] at h0
  have hcl := c.toNat_lt
  by_cases h1 : 65 ≤ c.toNat
  · have g1 : decide ((65 : Int) ≤ (c.toNat : Int)) = true := by simp; omega
    by_cases h2 : c.toNat ≤ 90
    · have g2 : decide ((c.toNat : Int) ≤ 90) = true := by simp; omega
      have hor := lowB_or ⟨h1, h2⟩
      simp only [go_sem, simprocAttr, hl, h0, g1, g2, i_orT]
      exact congrArg (fun n => (AV.int .u8 n, H, z0)) hor
    · have g2 : decide ((c.toNat : Int) ≤ 90) = false := by simp; omega
      have hno := lowB_not (c := c) (by omega)
      simp only [go_sem, simprocAttr, hl, h0, g1, g2, hno]
  · have g1 : decide ((65 : Int) ≤ (c.toNat : Int)) = false := by simp; omega
    have hno := lowB_not (c := c) (by omega)
    simp only [go_sem, simprocAttr, hl, h0, g1, hno]

theorem u8s_at {s : List UInt8} {i : Nat} {c : UInt8} (h : s[i]? = some c) : (u8s s)[i]? = some (.int .u8 c.toNat) := by simp [u8s, h]
theorem u8s_ld {s : List UInt8} {i n : Nat} {c : UInt8} {e : TypeId} {k : Kd} (h : s[i]? = some c) : ldC i n false (.cells (u8s s) e k) = some (.int .u8 c.toNat) := u8s_at h
theorem u8s_st {s : List UInt8} {i : Nat} {c d : UInt8} (h : s[i]? = some c) : splice (u8s s) i [.int .u8 d.toNat] = u8s (s.set i d) := by
  have hi : i < s.length := (List.getElem?_eq_some_iff.1 h).1
  unfold splice u8s
  rw [List.set_eq_take_append_cons_drop, if_pos hi]
  simp [List.map_take, List.map_drop]
/-- Small letters up to a place. -/
def lowTo (i : Nat) (s : List UInt8) : List UInt8 := lowS (s.take i) ++ s.drop i
theorem lowTo_len (i : Nat) (s : List UInt8) : (lowTo i s).length = s.length := by simp [lowTo, lowS]; omega
theorem lowTo_at {i : Nat} {s : List UInt8} {c : UInt8} (h : s[i]? = some c) : (lowTo i s)[i]? = some c := by
  have hi : i < s.length := (List.getElem?_eq_some_iff.1 h).1
  unfold lowTo lowS
  rw [List.getElem?_append_right (by simp; omega)]
  simp; rw [show min i s.length = i by omega, Nat.sub_self, Nat.add_zero]; exact h
theorem take_snocN {s : List UInt8} {i : Nat} {c : UInt8} (h : s[i]? = some c) : s.take (i + 1) = s.take i ++ [c] := take_snoc h
theorem lowTo_step {i : Nat} {s : List UInt8} {c : UInt8} (h : s[i]? = some c) : (lowTo i s).set i (lowB c) = lowTo (i + 1) s := by
  have hi : i < s.length := (List.getElem?_eq_some_iff.1 h).1
  unfold lowTo lowS
  rw [take_snoc h, drop_at h, List.map_append]
  have hl : (List.map lowB (s.take i)).length = i := by simp; omega
  rw [List.set_append_right _ _ (by omega), hl, Nat.sub_self]
  simp
theorem lowTo_same {i : Nat} {s : List UInt8} {c : UInt8} (h : s[i]? = some c) (hc : lowB c = c) : lowTo i s = lowTo (i + 1) s := by
  unfold lowTo lowS
  rw [take_snoc h, drop_at h, List.map_append]
  simp [hc]
theorem lowTo_end {i : Nat} {s : List UInt8} (h : s.length ≤ i) : lowTo i s = lowS s := by
  unfold lowTo
  rw [List.take_of_length_le h, List.drop_eq_nil_of_le h, List.append_nil]
theorem rdC_u8s {s : List UInt8} {e : TypeId} {k : Kd} {n : Nat} (h : s.length = n) : rdC 0 n (.cells (u8s s) e k) = some (u8s s) := by
  rw [rdC_c, if_pos (by rw [u8s_len]; omega), List.drop_zero, List.take_of_length_le (by rw [u8s_len]; omega)]
theorem u8s_fold (s : List UInt8) : (s.map fun b => AV.int .u8 (b.toNat : Int)) = u8s s := rfl

set_option maxRecDepth 20000 in
theorem name_Fold (s : List UInt8) (H k) (hs : s.length ≤ maxI) : callK Tryd.prog 50 [.str s] H k = k (.str (lowS s), H, z0) := by
  refine callK_eq (r := (.str (lowS s), H, z0)) ?_ k
  refine callK_start (n := 23) (rs := [.tmp 2]) Tryd.func50 rfl rfl rfl ?_
  intro σ hl ha
  have h0 := ha 0 (by simp)
  clear ha
  have hs : s.length ≤ 9223372036854775807 := hs
  simp only [Option.getD_some, List.getElem?_cons_zero, List.getElem?_cons_succ] at h0
  simp only [go_sem, simprocAttr, hl, h0, u8s_fold]
  refine go_rounds (fun n st => ∃ σ i e, n + i = s.length ∧ st = ⟨σ, H ++ [.cells (u8s (lowTo i s)) 5 (.op 0 true)], e⟩ ∧ clean H.length e ∧ σ.length = 23 ∧ fr σ 3 = .slice H.length 0 s.length (.op 0) ∧ fr σ 8 = .slice H.length 0 s.length (.op 0) ∧ fr σ 9 = .int .i64 (s.length : Nat) ∧ fr σ 10 = .int .i64 (i : Nat)) s.length
    ⟨_, 0, _, rfl, rfl, ⟨rfl, rfl⟩, by simp only [go_sem, simprocAttr, hl], by simp only [go_sem, simprocAttr, hl], by simp only [go_sem, simprocAttr, hl], by simp only [go_sem, simprocAttr, hl], by simp only [go_sem, simprocAttr, hl]⟩ ?_
  rintro n _ ⟨σ, i, e, hn, rfl, he, hl, h3, h8, h9, h10⟩
  by_cases hlt : i < s.length
  · obtain ⟨c, hc⟩ : ∃ c, s[i]? = some c := ⟨_, List.getElem?_eq_getElem hlt⟩
    have hw := wrap_succ (show i < 9223372036854775807 by omega)
    have hlo := fun H k => name_low c H k
    have hla := lowTo_at hc
    have hld := fun (e : TypeId) (k : Kd) => u8s_ld (n := 1) (e := e) (k := k) hla
    have hst := u8s_st (d := lowB c) hla
    rw [lowTo_step hc] at hst
    have hle : i + 1 ≤ (lowTo i s).length := by rw [lowTo_len]; omega
    simp only [go_sem, simprocAttr, hl, h3, h8, h9, h10, hlt, hw, hlo, hld, hst, hle, u8s_len, canWr]
    exact ⟨n - 1, by omega, _, i + 1, _, by omega, rfl, by simp only [go_sem, simprocAttr, he], by simp only [go_sem, simprocAttr, hl], by simp only [go_sem, simprocAttr, hl, h3], by simp only [go_sem, simprocAttr, hl, h8], by simp only [go_sem, simprocAttr, hl, h9], by simp only [go_sem, simprocAttr, hl]⟩
  · have hend := lowTo_end (s := s) (i := i) (by omega)
    have hrd := fun (e : TypeId) (k : Kd) => rdC_u8s (s := lowS s) (e := e) (k := k) (n := s.length) (by simp [lowS])
    have hcv := conv_u8s (lowS s)
    simp only [go_sem, simprocAttr, hl, h3, h8, h9, h10, hlt, hend, hrd, hcv, he]

set_option maxRecDepth 20000 in
theorem ref_Low (s : List UInt8) (H k) (hs : s.length ≤ maxI) : callK Tryd.prog 61 [.str s] H k = k (.str (lowS s), H, z0) := by
  refine callK_eq (r := (.str (lowS s), H, z0)) ?_ k
  refine callK_start (n := 35) (rs := [.tmp 2]) Tryd.func61 rfl rfl rfl ?_
  intro σ hl ha
  have h0 := ha 0 (by simp)
  clear ha
  have hs : s.length ≤ 9223372036854775807 := hs
  simp only [Option.getD_some, List.getElem?_cons_zero, List.getElem?_cons_succ] at h0
  simp only [go_sem, simprocAttr, hl, h0, u8s_fold]
  refine go_rounds (fun n st => ∃ σ i e, n + i = s.length ∧ st = ⟨σ, H ++ [.cells (u8s (lowTo i s)) 5 (.op 0 true)], e⟩ ∧ clean H.length e ∧ σ.length = 35 ∧ fr σ 3 = .slice H.length 0 s.length (.op 0) ∧ fr σ 4 = .int .i64 (i : Nat)) s.length
    ⟨_, 0, _, rfl, rfl, ⟨rfl, rfl⟩, by simp only [go_sem, simprocAttr, hl], by simp only [go_sem, simprocAttr, hl], by simp only [go_sem, simprocAttr, hl]⟩ ?_
  rintro n _ ⟨σ, i, e, hn, rfl, he, hl, h3, h4⟩
  by_cases hlt : i < s.length
  · obtain ⟨c, hc⟩ : ∃ c, s[i]? = some c := ⟨_, List.getElem?_eq_getElem hlt⟩
    have hw := wrap_succ (show i < 9223372036854775807 by omega)
    have hla := lowTo_at hc
    have hld := fun (e : TypeId) (k : Kd) => u8s_ld (n := 1) (e := e) (k := k) hla
    have hst := u8s_st (d := lowB c) hla
    rw [lowTo_step hc] at hst
    have hle : i + 1 ≤ (lowTo i s).length := by rw [lowTo_len]; omega
    by_cases h1 : 65 ≤ c.toNat ∧ c.toNat ≤ 90
    · have g1 : decide ((c.toNat : Int) ≥ 65) = true := by simp; omega
      have g2 : decide ((c.toNat : Int) ≤ 90) = true := by simp; omega
      have had := lowB_add h1
      simp only [go_sem, simprocAttr, hl, h3, h4, hlt, hw, hld, hst, hle, u8s_len, canWr, g1, g2, had]
      exact ⟨n - 1, by omega, _, i + 1, _, by omega, rfl, by simp only [go_sem, simprocAttr, he], by simp only [go_sem, simprocAttr, hl], by simp only [go_sem, simprocAttr, hl, h3], by simp only [go_sem, simprocAttr, hl]⟩
    · have hsame := lowTo_same hc (lowB_not h1)
      by_cases h2 : 65 ≤ c.toNat
      · have g1 : decide ((c.toNat : Int) ≥ 65) = true := by simp; omega
        have g2 : decide ((c.toNat : Int) ≤ 90) = false := by simp; omega
        simp only [go_sem, simprocAttr, hl, h3, h4, hlt, hw, hld, hle, u8s_len, canWr, g1, g2]
        exact ⟨n - 1, by omega, _, i + 1, _, by omega, by rw [hsame], he, by simp only [go_sem, simprocAttr, hl], by simp only [go_sem, simprocAttr, hl, h3], by simp only [go_sem, simprocAttr, hl]⟩
      · have g1 : decide ((c.toNat : Int) ≥ 65) = false := by simp; omega
        simp only [go_sem, simprocAttr, hl, h3, h4, hlt, hw, hld, hle, u8s_len, canWr, g1]
        exact ⟨n - 1, by omega, _, i + 1, _, by omega, by rw [hsame], he, by simp only [go_sem, simprocAttr, hl], by simp only [go_sem, simprocAttr, hl, h3], by simp only [go_sem, simprocAttr, hl]⟩
  · have hend := lowTo_end (s := s) (i := i) (by omega)
    have hrd := fun (e : TypeId) (k : Kd) => rdC_u8s (s := lowS s) (e := e) (k := k) (n := s.length) (by simp [lowS])
    have hcv := conv_u8s (lowS s)
    simp only [go_sem, simprocAttr, hl, h3, h4, hlt, hend, hrd, hcv, he]

set_option maxRecDepth 20000 in
theorem ref_Fold (s : List UInt8) (H k) (hs : s.length ≤ maxI) : callK Tryd.prog 51 [.str s] H k = k (.str (lowS s), H, z0) := by
  refine callK_eq (r := (.str (lowS s), H, z0)) ?_ k
  refine callK_start (n := 5) (rs := [.tmp 2]) Tryd.func51 rfl rfl rfl ?_
  intro σ hl ha
  have h0 := ha 0 (by simp)
  clear ha
  simp only [Option.getD_some, List.getElem?_cons_zero, List.getElem?_cons_succ] at h0
  have hlo := fun H k => ref_Low s H k hs
  simp only [go_sem, simprocAttr, hl, h0, hlo]
end Go.Proofs.YtgkpgpdkolpfkaaDoor.V
