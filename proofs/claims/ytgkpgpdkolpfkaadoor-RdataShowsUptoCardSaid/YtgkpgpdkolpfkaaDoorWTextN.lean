/- Names as texts: as 'V' runs the program's functions. No conditions. -/
import Derived.Test.YtgkpgpdkolpfkaaDoorWEsc
namespace Go.Proofs.YtgkpgpdkolpfkaaDoor.V
open Go
set_option linter.unusedSimpArgs false
set_option linter.unusedVariables false
attribute [local irreducible] go goOps goD opK callK callT stepK leaveTo nextK

/-- A name's labels; none: it is none. -/
def labs (s : List UInt8) : List (List UInt8) := (nm s).getD []
/-- Where a label lies. -/
theorem lab_at : ∀ (L : List (List UInt8)) (s : List UInt8) (a : Nat), lab (s.drop a) = some L → ∀ (i : Nat) (l : List UInt8), L[i]? = some l →
    ∃ p c, (posn a L)[i]? = some p ∧ s[p]? = some c ∧ c.toNat = l.length ∧ (s.drop (p + 1)).take l.length = l ∧ p + (1 + l.length) ≤ s.length ∧ 0 < l.length ∧ l.length ≤ 63
  | [], s, a, h, i, l, hi => by simp at hi
  | m :: L, s, a, h, i, l, hi => by
    cases hd : s.drop a with
    | nil => rw [hd, lab_nil] at h; cases h
    | cons c t =>
      rw [hd, lab_cons] at h
      have ha : a < s.length := by
        have := congrArg List.length hd
        simp at this; omega
      have hc : s[a]? = some c := by
        have := congrArg (·[0]?) hd
        simpa using this
      have ht : t = s.drop (a + 1) := by
        rw [drop_at hc] at hd
        injection hd with _ h2
        exact h2.symm
      split at h
      · split at h <;> cases h
      · split at h
        · cases h
        · rename_i h0 h1
          cases hL : lab (t.drop c.toNat) with
          | none => rw [hL] at h; cases h
          | some L' =>
            rw [hL] at h
            simp only [Option.map_some, Option.some.injEq, List.cons.injEq] at h
            obtain ⟨rfl, rfl⟩ := h
            have hml : (t.take c.toNat).length = c.toNat := by rw [List.length_take]; omega
            have htl : t.length = s.length - (a + 1) := by rw [ht, List.length_drop]
            cases i with
            | zero =>
              simp only [List.getElem?_cons_zero, Option.some.injEq] at hi
              subst hi
              refine ⟨a, c, rfl, hc, hml.symm, by rw [hml, ht], by rw [hml]; omega, by rw [hml]; omega, by rw [hml]; omega⟩
            | succ i =>
              simp only [List.getElem?_cons_succ] at hi
              have hr : lab (s.drop (a + (1 + (t.take c.toNat).length))) = some L' := by
                rw [hml, show a + (1 + c.toNat) = (a + 1) + c.toNat by omega, ← List.drop_drop, ← ht]; exact hL
              obtain ⟨p, c', h1, h2⟩ := lab_at L' s _ hr i l hi
              exact ⟨p, c', h1, h2⟩
theorem posA_at {L : List (List UInt8)} {i p : Nat} (h : (posn 0 L)[i]? = some p) (e : TypeId) (k : Kd) : ldC i 1 false (.cells (posA L) e k) = some (.int .i64 (p : Nat)) := by
  rw [ldC_f]; simp [posA, h]
theorem nm_lab {s : List UInt8} {L : List (List UInt8)} (h : nm s = some L) : lab s = some L ∧ s.length ≤ 255 := by
  unfold nm at h
  split at h
  · cases h
  · exact ⟨h, by omega⟩
theorem tot_le : ∀ (L : List (List UInt8)) (s : List UInt8), lab s = some L → s.length = tot L + 1
  | [], s, h => by
    cases s with
    | nil => cases h
    | cons c t =>
      rw [lab_cons] at h
      split at h
      · split at h
        · rename_i h'; rw [List.length_cons, h']; rfl
        · cases h
      · split at h
        · cases h
        · rw [Option.map_eq_some_iff] at h
          obtain ⟨_, _, h⟩ := h
          cases h
  | l :: L, s, h => by
    cases s with
    | nil => cases h
    | cons c t =>
      rw [lab_cons] at h
      split at h
      · split at h <;> cases h
      · split at h
        · cases h
        · rename_i h0 h1
          rw [Option.map_eq_some_iff] at h
          obtain ⟨L', h2, h3⟩ := h
          injection h3 with h4 h5
          subst h4 h5
          have := tot_le L' _ h2
          rw [List.length_drop] at this
          have e : tot (t.take c.toNat :: L') = (1 + (t.take c.toNat).length) + tot L' := by simp [tot]
          rw [e, List.length_take, List.length_cons]; omega
theorem len_tot : ∀ (L : List (List UInt8)), L.length ≤ tot L
  | [] => Nat.zero_le _
  | l :: L => by
    have := len_tot L
    have e : tot (l :: L) = (1 + l.length) + tot L := by simp [tot]
    rw [e, List.length_cons]; omega

set_option maxRecDepth 20000 in
theorem name_Labels (s : List UInt8) (H) (hs : s.length ≤ maxI) : ∃ b : AV × Hp, GBuf H.length b.2 b.1 9 1 (labs s).length (strs (labs s)) ∧
    ∀ k, callK Tryd.prog 68 [.str s] H k = k (b.1, H ++ b.2, z0) := by
  obtain ⟨⟨bv, bT⟩, hb, hst⟩ := name_starts s H hs
  refine callK_exP (fun b : AV × Hp => GBuf H.length b.2 b.1 9 1 (labs s).length (strs (labs s))) (fun b => (b.1, H ++ b.2, z0)) ?_
  refine callK_start (n := 37) (rs := [.tmp 2]) Tryd.func68 rfl rfl rfl ?_
  intro σ hl ha
  have h0 := ha 0 (by simp)
  clear ha
  simp only [Option.getD_some, List.getElem?_cons_zero, List.getElem?_cons_succ] at h0
  cases hn : nm s with
  | none =>
    have hlb : labs s = [] := by rw [labs, hn]; rfl
    rw [hn] at hst
    simp only [Option.isSome_none] at hst
    simp only [go_sem, simprocAttr, hl, h0, hst]
    exact ⟨(.nils, []), by rw [hlb]; exact .inl ⟨rfl, rfl, rfl⟩, by simp⟩
  | some L =>
    have hlb : labs s = L := by rw [labs, hn]; rfl
    have hB := hb L hn
    obtain ⟨hL, h255⟩ := nm_lab hn
    have hLl : L.length ≤ 255 := by have := tot_le L s hL; have := len_tot L; omega
    rw [hn] at hst
    simp only [Option.isSome_some] at hst
    rw [hlb]
    have hlen : ∀ H', evLen Tryd.prog 28 bv H' = some (.int .i64 L.length) := by
      intro H'
      obtain ⟨rfl, h2, h3⟩ | ⟨h1, h2, m, rfl, h3⟩ := hB
      · simp only [evLen, tsh_28, h3]; rfl
      · simp only [evLen, tsh_28]
    simp only [go_sem, simprocAttr, hl, h0, hst, hlen]
    refine go_rounds (fun n st => ∃ σ i v T e, n + i = L.length ∧ st = ⟨σ, H ++ T, e⟩ ∧ GBuf H.length T v 9 1 i (strs (L.take i)) ∧ GBuf H.length T bv 3 1 L.length (posA L) ∧ clean H.length e ∧ σ.length = 37 ∧ fr σ 0 = .str s ∧ fr σ 5 = v ∧ fr σ 15 = bv ∧ fr σ 16 = .int .i64 L.length ∧ fr σ 17 = .int .i64 (i : Nat)) L.length
      ⟨_, 0, .nils, bT, _, rfl, rfl, .inl ⟨rfl, rfl, rfl⟩, hB, ⟨rfl, rfl⟩, by simp only [go_sem, simprocAttr, hl], by simp only [go_sem, simprocAttr, hl, h0], by simp only [go_sem, simprocAttr, hl], by simp only [go_sem, simprocAttr, hl], by simp only [go_sem, simprocAttr, hl], by simp only [go_sem, simprocAttr, hl]⟩ ?_
    rintro n _ ⟨σ, i, v, T, e, hi, rfl, hv, hB, he, hl, h0, h5, h15, h16, h17⟩
    by_cases hlt : i < L.length
    · obtain ⟨l, hli⟩ : ∃ l, L[i]? = some l := ⟨_, List.getElem?_eq_getElem hlt⟩
      obtain ⟨p, c, hp, hc, hcl, htk, hle, hpos, h63⟩ := lab_at L s 0 (by simpa using hL) i l hli
      obtain ⟨rfl, h2, h3⟩ | ⟨h1, h2, m, rfl, h3⟩ := hB
      · omega
      have hg : (H ++ T)[H.length + m]? = some (.cells (posA L) 3 (.op 0 false)) := by rw [hp_new, h3]
      have hld := posA_at hp
      have hw := wrap_succ (show i < 9223372036854775807 by omega)
      have w0 : IntKind.i64.wrap (c.toNat : Int) = (c.toNat : Int) := by rw [wrap_i64 (by omega)]
      have w1 : IntKind.i64.wrap ((p : Int) + 1) = ((p + 1 : Nat) : Int) := by rw [wrap_i64 (by omega)]; omega
      have w2 : IntKind.i64.wrap (((p + 1 : Nat) : Int) + (c.toNat : Int)) = ((p + (1 + c.toNat) : Nat) : Int) := by rw [wrap_i64 (by omega)]; omega
      have hsl : (s.take (p + (1 + c.toNat))).drop (p + 1) = l := by
        rw [List.drop_take, hcl, show p + (1 + l.length) - (p + 1) = l.length by omega]; exact htk
      have hsl2 : (s.drop (p + 1)).take c.toNat = l := by rw [hcl]; exact htk
      have hplt : p < s.length := by omega
      have hbs := fun H => bslice_str l H
      obtain ⟨v', T2, e2, happ, _, hcl2, hk2, hv3, _, hvc, hq⟩ := (hv.more [.cells [.str l] 9 .rw]).app2 (P := Tryd.prog) (b := 16) (by decide) zok_64 [.str l] 1 (by decide) rfl rfl (by simp only [fits, decide_eq_true_eq]; omega)
      have d1 : decide (p + 1 ≤ p + (1 + c.toNat)) = true := by simp
      have d2 : decide (p + (1 + c.toNat) ≤ s.length) = true := by simp; omega
      have d3 : p + (1 + c.toNat) - (p + 1) = c.toNat := by omega
      have hbm : T2[m]? = some (.cells (posA L) 3 (.op 0 false)) := hk2 m _ (get_app h3) (by intro c fz st hx; injection hx with _ h _; exact absurd h (by decide))
      simp only [go_sem, simprocAttr, hl, h0, h5, h15, h16, h17, hlt, hg, h3, hld, hc, hplt, w0, w1, w2, hsl, hsl2, d1, d2, d3, hbs, happ, hw]
      rw [show strs (L.take i) ++ [.str l] = strs (L.take (i + 1)) from strs_snoc hli] at hv3
      refine ⟨by omega, by omega, n - 1, by omega, _, i + 1, v', T2, _, by omega, rfl, hv3, .inr ⟨h1, h2, m, rfl, hbm⟩, by simp only [go_sem, simprocAttr, he, hcl2], by simp only [go_sem, simprocAttr, hl], by simp only [go_sem, simprocAttr, hl, h0], by simp only [go_sem, simprocAttr, hl], by simp only [go_sem, simprocAttr, hl, h15], by simp only [go_sem, simprocAttr, hl, h16], by simp only [go_sem, simprocAttr, hl]⟩
    · have hi : i = L.length := by omega
      subst hi
      rw [List.take_length] at hv
      simp only [go_sem, simprocAttr, hl, h0, h5, h15, h16, h17, hlt]
      obtain ⟨rfl, h2, h3⟩ | ⟨h1, h2, m, rfl, h3⟩ := hv
      · exact ⟨(.nils, []), .inl ⟨rfl, h2, h3⟩, by rw [leave_flat rfl he, List.append_nil]⟩
      · exact ⟨(.slice (H.length + m) 0 L.length (.op 0), T), .inr ⟨h1, h2, m, rfl, h3⟩, by rw [leave_keep (by simp [flat, flats]) he]⟩

/-- A name's text. -/
def txtL (L : List (List UInt8)) : List UInt8 := L.flatMap fun l => escS false l ++ [46]
def txtN (s : List UInt8) : List UInt8 := if s = [0] then [46] else txtL (labs s)
theorem txtL_snoc {L : List (List UInt8)} {i : Nat} {l : List UInt8} (h : L[i]? = some l) : txtL (L.take (i + 1)) = txtL (L.take i) ++ (escS false l ++ [46]) := by
  rw [take_snoc h]; simp [txtL]
theorem txtL_len : ∀ (L : List (List UInt8)), (txtL L).length ≤ 4 * tot L
  | [] => by simp [txtL]
  | l :: L => by
    have := txtL_len L
    have h := escS_len false l
    have e : txtL (l :: L) = (escS false l ++ [46]) ++ txtL L := rfl
    have e2 : tot (l :: L) = (1 + l.length) + tot L := by simp [tot]
    rw [e, e2, List.length_append, List.length_append, List.length_cons, List.length_nil]; omega
theorem tot_take (L : List (List UInt8)) (i : Nat) : tot (L.take i) ≤ tot L := by
  have : tot L = tot (L.take i) + tot (L.drop i) := by
    conv => lhs; rw [← List.take_append_drop i L]
    simp only [tot, List.map_append, List.sum_append]
  omega
theorem escS_pos {q : Bool} {l : List UInt8} (h : 0 < l.length) : 0 < (escS q l).length := by
  cases l with
  | nil => cases h
  | cons c l =>
    have e : escS q (c :: l) = escB q c ++ escS q l := rfl
    rw [e, List.length_append]
    have : 0 < (escB q c).length := by
      unfold escB; split
      · simp
      split
      · split <;> simp
      split <;> simp
    omega
theorem labs_of {s : List UInt8} (h0 : s ≠ [0]) (hl : labs s ≠ []) : ∃ L, nm s = some L ∧ labs s = L := by
  cases h : nm s with
  | none => rw [labs, h] at hl; exact absurd rfl hl
  | some L => exact ⟨L, rfl, by rw [labs, h]; rfl⟩
theorem labs_tot {s : List UInt8} : tot (labs s) ≤ 255 := by
  cases h : nm s with
  | none => rw [labs, h]; simp [tot]
  | some L =>
    obtain ⟨hL, h255⟩ := nm_lab h
    have := tot_le L s hL
    rw [labs, h]; simp only [Option.getD_some]; omega
theorem labs_pos {s l : List UInt8} {i : Nat} (h : (labs s)[i]? = some l) : 0 < l.length ∧ l.length ≤ 63 := by
  cases hn : nm s with
  | none => rw [labs, hn] at h; simp at h
  | some L =>
    rw [labs, hn] at h
    obtain ⟨hL, h255⟩ := nm_lab hn
    obtain ⟨p, c, _, _, _, _, _, h1, h2⟩ := lab_at L s 0 (by simpa using hL) i l h
    exact ⟨h1, h2⟩

set_option maxRecDepth 20000 in
theorem name_Text (s : List UInt8) (H k) (hs : s.length ≤ maxI) : callK Tryd.prog 31 [.str s] H k = k (.str (txtN s), H, z0) := by
  refine callK_eq (r := (.str (txtN s), H, z0)) ?_ k
  refine callK_start (n := 21) (rs := [.tmp 2]) Tryd.func31 rfl rfl rfl ?_
  intro σ hl ha
  have h0 := ha 0 (by simp)
  clear ha
  simp only [Option.getD_some, List.getElem?_cons_zero, List.getElem?_cons_succ] at h0
  by_cases hr : s = [0]
  · have hx : txtN s = [46] := if_pos hr
    rw [hx]
    subst hr
    simp only [go_sem, simprocAttr, hl, h0]
  have hx : txtN s = txtL (labs s) := if_neg hr
  rw [hx]
  obtain ⟨⟨bv, bT⟩, hB, hst⟩ := name_Labels s (H ++ [.cells [.nilp, .nils] 78 .rw]) hs
  have hB : GBuf H.length ([.cells [.nilp, .nils] 78 .rw] ++ bT) bv 9 1 (labs s).length (strs (labs s)) := by
    obtain h | ⟨h1, h2, m, h3, h4⟩ := hB
    · exact .inl h
    · exact .inr ⟨h1, h2, m + 1, by simp only at h3; rw [h3]; simp; omega, by simpa using h4⟩
  have hlen : ∀ H', evLen Tryd.prog 64 bv H' = some (.int .i64 (labs s).length) := by
    intro H'
    obtain ⟨rfl, h2, h3⟩ | ⟨h1, h2, m, rfl, h3⟩ := hB
    · simp only [evLen, tsh_64, h3]; rfl
    · simp only [evLen, tsh_64]
  have hne : (s == [0]) = false := by simpa using hr
  have hb0 : Bld H.length ([.cells [.nilp, .nils] 78 .rw] ++ bT) 0 (txtL ((labs s).take 0)) := ⟨_, _, rfl, .inl rfl, .inl ⟨rfl, rfl⟩⟩
  have hst : ∀ k, callK Tryd.prog 68 [.str s] (H ++ [.cells [.nilp, .nils] 78 .rw]) k = k (bv, H ++ ([.cells [.nilp, .nils] 78 .rw] ++ bT), z0) := by
    intro k; rw [hst]; simp
  generalize hT0 : [ABlk.cells [.nilp, .nils] 78 .rw] ++ bT = T0 at *
  simp only [go_sem, simprocAttr, hl, h0, hne, hst, hlen]
  generalize hL : labs s = L at *
  have hLt : tot L ≤ 255 := by rw [← hL]; exact labs_tot
  have hLl := len_tot L
  refine go_rounds (fun n st => ∃ σ i T e, n + i = L.length ∧ st = ⟨σ, H ++ T, e⟩ ∧ Bld H.length T 0 (txtL (L.take i)) ∧ GBuf H.length T bv 9 1 L.length (strs L) ∧ clean H.length e ∧ σ.length = 21 ∧ fr σ 3 = .ptr H.length 0 ∧ fr σ 9 = bv ∧ fr σ 10 = .int .i64 L.length ∧ fr σ 11 = .int .i64 (i : Nat)) L.length
    ⟨_, 0, _, _, rfl, rfl, hb0, hB, ⟨rfl, rfl⟩, by simp only [go_sem, simprocAttr, hl], by simp only [go_sem, simprocAttr, hl], by simp only [go_sem, simprocAttr, hl], by simp only [go_sem, simprocAttr, hl], by simp only [go_sem, simprocAttr, hl]⟩ ?_
  rintro n _ ⟨σ, i, T, e, hi, rfl, hb, hB, he, hl, h3, h9, h10, h11⟩
  by_cases hlt : i < L.length
  · obtain ⟨l, hli⟩ : ∃ l, L[i]? = some l := ⟨_, List.getElem?_eq_getElem hlt⟩
    obtain ⟨p1, p2⟩ := labs_pos (s := s) (by rw [hL]; exact hli)
    have hsn := txtL_snoc hli
    have hbl : (txtL (L.take i)).length ≤ 1020 := by have := txtL_len (L.take i); have := tot_take L i; omega
    have hw := wrap_succ (show i < 9223372036854775807 by omega)
    obtain ⟨rfl, _, h3'⟩ | ⟨g1, g2, m, rfl, g3⟩ := hB
    · omega
    have hm0 : m ≠ 0 := by
      rintro rfl
      obtain ⟨_, _, hj, _⟩ := hb
      rw [hj] at g3; injection g3 with g; injection g with _ g; exact absurd g (by decide)
    have hg : (H ++ T)[H.length + m]? = some (.cells (strs L) 9 (.op 0 false)) := by rw [hp_new, g3]
    have hld := strs_ld hli
    have hE := fun H' k => name_Escape l false H' k (by omega)
    have hEl := escS_len false l
    obtain ⟨T1, e1, b1, k1, c1, r1⟩ := b_wstr H T 0 _ (escS false l) hb (escS_pos p1) (by simp only [fits, decide_eq_true_eq]; omega)
    obtain ⟨T2, e2, b2, k2, c2, r2⟩ := b_wlit H T1 0 _ 46 46 rfl b1 (by simp only [fits, decide_eq_true_eq, List.length_append]; omega)
    have c1 := c1.cln
    have c2 := c2.cln
    simp only [Nat.add_zero] at r1 r2
    simp only [go_sem, simprocAttr, hl, h3, h9, h10, h11, hlt, hg, g3, hld, hE, r1, r2, hw]
    refine ⟨n - 1, by omega, _, i + 1, T2, _, by omega, rfl, by rw [hsn, ← List.append_assoc]; exact b2, ?_, by simp only [go_sem, simprocAttr, he, c1, c2], by simp only [go_sem, simprocAttr, hl], by simp only [go_sem, simprocAttr, hl, h3], by simp only [go_sem, simprocAttr, hl, h9], by simp only [go_sem, simprocAttr, hl, h10], by simp only [go_sem, simprocAttr, hl]⟩
    have hf : ∀ c k, fixd (.cells c 9 k) = true := by intro c k; cases k <;> rfl
    exact .inr ⟨g1, g2, m, rfl, k2.2 m _ hm0 (k1.2 m _ hm0 g3 (hf _ _)) (hf _ _)⟩
  · have hi : i = L.length := by omega
    subst hi
    rw [List.take_length] at hb
    have htl := txtL_len L
    obtain ⟨T1, e1, c1, r1⟩ := b_string H T 0 _ hb (by omega)
    simp only [Nat.add_zero] at r1
    simp only [go_sem, simprocAttr, hl, h3, h9, h10, h11, hlt, r1]
    exact leave_flat rfl (clean_and he c1)
end Go.Proofs.YtgkpgpdkolpfkaaDoor.V
