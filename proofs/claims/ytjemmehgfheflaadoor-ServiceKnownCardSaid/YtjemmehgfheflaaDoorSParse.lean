/- The service chapter's reading, plainly: pieces, digits, numbers, the safe form, services, a whole meta: whatever is read has the text, and whoever has the text is read. No conditions. -/
import Derived.Test.YtjemmehgfheflaaDoorSWalkJ
namespace Go.Proofs.YtjemmehgfheflaaDoor.V
set_option linter.unusedSimpArgs false
set_option linter.unusedVariables false
/-! pieces between single bytes -/
/-- Pieces, each behind its mark. -/
def joinC (c : UInt8) (R : List (List UInt8)) : List UInt8 := R.flatMap (c :: ·)
def splitC (c : UInt8) : List UInt8 → List UInt8 × List (List UInt8)
  | [] => ([], [])
  | b :: s => if b = c then ([], (splitC c s).1 :: (splitC c s).2) else (b :: (splitC c s).1, (splitC c s).2)
theorem split_join (c : UInt8) : ∀ s, s = (splitC c s).1 ++ joinC c (splitC c s).2
  | [] => rfl
  | b :: s => by
    have ih := split_join c s
    unfold splitC
    split
    · rename_i h
      subst h
      show b :: s = [] ++ (b :: (splitC b s).1 ++ joinC b (splitC b s).2)
      rw [List.nil_append, List.cons_append, ← ih]
    · show b :: s = b :: (splitC c s).1 ++ joinC c (splitC c s).2
      rw [List.cons_append, ← ih]
theorem split_no (c : UInt8) : ∀ s, c ∉ (splitC c s).1 ∧ ∀ p ∈ (splitC c s).2, c ∉ p
  | [] => by simp [splitC]
  | b :: s => by
    obtain ⟨h1, h2⟩ := split_no c s
    unfold splitC
    split
    · refine ⟨by simp, fun p hp => ?_⟩
      rcases List.mem_cons.1 hp with rfl | hp
      · exact h1
      · exact h2 p hp
    · rename_i h
      refine ⟨fun hm => ?_, h2⟩
      rcases List.mem_cons.1 hm with rfl | hm
      · exact h rfl
      · exact h1 hm
theorem split_of (c : UInt8) : ∀ (p : List UInt8) (R : List (List UInt8)), c ∉ p → (∀ q ∈ R, c ∉ q) → splitC c (p ++ joinC c R) = (p, R)
  | [], [], _, _ => rfl
  | [], q :: R, _, h => by
    have ih := split_of c q R (h q (by simp)) (fun r hr => h r (by simp [hr]))
    show splitC c (c :: q ++ joinC c R) = _
    rw [List.cons_append]
    unfold splitC
    rw [if_pos rfl, ih]
  | b :: p, R, hp, h => by
    have ih := split_of c p R (fun hm => hp (List.mem_cons_of_mem _ hm)) h
    rw [List.cons_append]
    unfold splitC
    rw [if_neg (fun e => hp (by rw [e]; simp)), ih]
theorem join_len {c : UInt8} {p : List UInt8} {R : List (List UInt8)} : (joinC c (p :: R)).length = p.length + 1 + (joinC c R).length := by
  show (c :: p ++ joinC c R).length = _
  rw [List.length_append, List.length_cons]

/-! digits to the base 16 -/
theorem hexD_inj {m n : Nat} (hm : m < 16) (hn : n < 16) (h : hexD m = hexD n) : m = n := by
  have : ∀ m n : Fin 16, hexD m.val = hexD n.val → m.val = n.val := by decide
  exact this ⟨m, hm⟩ ⟨n, hn⟩ h
theorem twoP_inj {a b : UInt8} (h : twoP a = twoP b) : a = b := by
  simp only [twoP, List.cons.injEq, and_true] at h
  have ha := a.toNat_lt
  have hb := b.toNat_lt
  have h1 := hexD_inj (by omega) (by omega) h.1
  have h2 := hexD_inj (by omega) (by omega) h.2
  rw [← UInt8.toNat_inj]; omega
theorem twoP_of {x y : Nat} (hx : x < 16) (hy : y < 16) : twoP (UInt8.ofNat (16 * x + y)) = [hexD x, hexD y] := by
  have : (UInt8.ofNat (16 * x + y)).toNat = 16 * x + y := UInt8.toNat_ofNat_of_lt' (by simpa using (show 16 * x + y < 256 by omega))
  unfold twoP
  rw [this]
  congr 2
  · omega
  · congr 1; omega
theorem hexP_cons (c : UInt8) (s : List UInt8) : hexP (c :: s) = twoP c ++ hexP s := rfl
theorem hexP_app (s t : List UInt8) : hexP (s ++ t) = hexP s ++ hexP t := by simp [hexP]
theorem hexP_inj : ∀ {s t : List UInt8}, hexP s = hexP t → s = t
  | [], [], _ => rfl
  | [], c :: t, h => by simp [hexP, twoP] at h
  | c :: s, [], h => by simp [hexP, twoP] at h
  | a :: s, b :: t, h => by
    rw [hexP_cons, hexP_cons] at h
    obtain ⟨h1, h2⟩ := List.append_inj h rfl
    rw [twoP_inj h1, hexP_inj h2]
/-- A digit to the base 16. -/
def isHex (c : UInt8) : Prop := ∃ x, x < 16 ∧ hexD x = c
theorem hexP_hex {s : List UInt8} {c : UInt8} (h : c ∈ hexP s) : isHex c := by
  unfold hexP at h
  obtain ⟨b, _, hb⟩ := List.mem_flatMap.1 h
  have := b.toNat_lt
  simp only [twoP, List.mem_cons, List.mem_nil_iff, or_false] at hb
  rcases hb with rfl | rfl
  · exact ⟨_, by omega, rfl⟩
  · exact ⟨_, by omega, rfl⟩
theorem hex_host {c : UInt8} (h : isHex c) : (48 ≤ c.toNat ∧ c.toNat ≤ 57) ∨ (97 ≤ c.toNat ∧ c.toNat ≤ 102) := by
  obtain ⟨x, hx, rfl⟩ := h
  have : ∀ x : Fin 16, (48 ≤ (hexD x.val).toNat ∧ (hexD x.val).toNat ≤ 57) ∨ (97 ≤ (hexD x.val).toNat ∧ (hexD x.val).toNat ≤ 102) := by decide
  exact this ⟨x, hx⟩
/-- What the reading of digits to the base 16 owes. -/
def RawR (s : List UInt8) (r : List UInt8 × Bool) : Prop := (r.2 = true → r.1 ≠ [] ∧ hexP r.1 = s) ∧ ∀ t, t ≠ [] → hexP t = s → r = (t, true)
theorem raw_end {s b : List UInt8} (hb : hexP b = s.take (2 * (s.length / 2))) : RawR s (b, decide (s.length % 2 = 0) && decide (0 < s.length)) := by
  constructor
  · intro h
    simp only [Bool.and_eq_true, decide_eq_true_eq] at h
    have : s.take (2 * (s.length / 2)) = s := List.take_of_length_le (by omega)
    rw [this] at hb
    refine ⟨?_, hb⟩
    rintro rfl
    rw [← hb] at h
    simp [hexP] at h
  · intro t ht hs
    have hl : s.length = 2 * t.length := by rw [← hs, hexP_len]
    have h0 : 0 < t.length := by cases t <;> simp_all
    have : s.take (2 * (s.length / 2)) = s := List.take_of_length_le (by omega)
    rw [this, ← hs] at hb
    rw [hexP_inj hb]
    have h1 : s.length % 2 = 0 := by omega
    have h2 : 0 < s.length := by omega
    simp [h1, h2]
theorem raw_bad {s : List UInt8} {c : UInt8} (hc : c ∈ s) (hn : ¬ isHex c) : RawR s ([], false) := by
  refine ⟨fun h => (by cases h), fun t _ hs => ?_⟩
  subst hs
  exact absurd (hexP_hex hc) hn

/-! numbers -/
def valP (s : List UInt8) : Nat := s.foldl (fun n c => 10 * n + (c.toNat - 48)) 0
theorem valP_snoc (s : List UInt8) (c : UInt8) : valP (s ++ [c]) = 10 * valP s + (c.toNat - 48) := by simp [valP]
def digC (c : UInt8) : Bool := decide (48 ≤ c.toNat ∧ c.toNat ≤ 57)
theorem hexD_small {n : Nat} (h : n < 10) : (hexD n).toNat = 48 + n := by
  have : ∀ n : Fin 10, (hexD n.val).toNat = 48 + n.val := by decide
  exact this ⟨n, h⟩
theorem decP_lt {n : Nat} (h : n < 10) : decP n = [hexD n] := by unfold decP; rw [if_pos h]
theorem decP_ge {n : Nat} (h : ¬ n < 10) : decP n = decP (n / 10) ++ [hexD (n % 10)] := by rw [decP]; rw [if_neg h]
theorem val_dec (n : Nat) : valP (decP n) = n ∧ (decP n).all digC = true ∧ decP n ≠ [] := by
  induction n using Nat.strongRecOn with
  | ind n ih =>
  by_cases h : n < 10
  · rw [decP_lt h]
    have := hexD_small h
    refine ⟨?_, ?_, by simp⟩
    · simp [valP, this]
    · simp [digC, this]; omega
  · obtain ⟨h1, h2, h3⟩ := ih (n / 10) (by omega)
    rw [decP_ge h]
    have := hexD_small (show n % 10 < 10 by omega)
    refine ⟨?_, ?_, by simp⟩
    · rw [valP_snoc, h1, this]; omega
    · rw [List.all_append, h2]; simp [digC, this]; omega
theorem dec_head (n : Nat) : (decP n).length = 1 ∨ (decP n)[0]? ≠ some 48 := by
  induction n using Nat.strongRecOn with
  | ind n ih =>
  by_cases h : n < 10
  · rw [decP_lt h]; exact .inl rfl
  · right
    rw [decP_ge h, List.getElem?_append_left (List.length_pos_iff.2 (val_dec _).2.2)]
    rcases ih (n / 10) (by omega) with h1 | h1
    · by_cases h2 : n / 10 < 10
      · rw [decP_lt h2]
        intro he
        simp only [List.getElem?_cons_zero, Option.some.injEq] at he
        have := hexD_small h2
        rw [he] at this
        have h48 : (48 : UInt8).toNat = 48 := rfl
        omega
      · exfalso
        rw [decP_ge h2, List.length_append] at h1
        have := List.length_pos_iff.2 (val_dec (n / 10 / 10)).2.2
        have h1' : (decP (n / 10 / 10)).length + 1 = 1 := h1
        omega
    · exact h1
theorem dec_digit {n : Nat} {c : UInt8} (h : c ∈ decP n) : 48 ≤ c.toNat ∧ c.toNat ≤ 57 := by
  have := List.all_eq_true.1 (val_dec n).2.1 c h
  simpa [digC] using this
theorem hexD_of_dig {c : UInt8} (h : digC c = true) : hexD (c.toNat - 48) = c := by
  simp only [digC, decide_eq_true_eq] at h
  rw [← UInt8.toNat_inj, hexD_small (by omega)]; omega
theorem snoc_ind {α : Type} {Q : List α → Prop} (h0 : Q []) (h1 : ∀ s c, Q s → Q (s ++ [c])) : ∀ s, Q s := by
  have key : ∀ t : List α, Q t.reverse := by
    intro t
    induction t with
    | nil => exact h0
    | cons c t ih => rw [List.reverse_cons]; exact h1 _ _ ih
  intro s
  have := key s.reverse
  rwa [List.reverse_reverse] at this
theorem val_pos : ∀ (s : List UInt8), s.all digC = true → s ≠ [] → s[0]? ≠ some 48 → 0 < valP s := by
  refine snoc_ind (fun _ h => absurd rfl h) (fun s c ih => ?_)
  · intro ha _ h0
    rw [valP_snoc]
    rw [List.all_append, Bool.and_eq_true] at ha
    by_cases hs : s = []
    · subst hs
      simp only [List.nil_append, List.getElem?_cons_zero, ne_eq, Option.some.injEq] at h0
      have hc : digC c = true := by simpa using ha.2
      simp only [digC, decide_eq_true_eq] at hc
      have : c.toNat ≠ 48 := fun e => h0 (by rw [← UInt8.toNat_inj]; exact e)
      omega
    · rw [List.getElem?_append_left (List.length_pos_iff.2 hs)] at h0
      have := ih ha.1 hs h0
      omega
theorem dec_val : ∀ (s : List UInt8), s.all digC = true → s ≠ [] → (s.length = 1 ∨ s[0]? ≠ some 48) → decP (valP s) = s := by
  refine snoc_ind (fun _ h => absurd rfl h) (fun s c ih => ?_)
  · intro ha _ h0
    rw [List.all_append, Bool.and_eq_true] at ha
    have hc : digC c = true := by simpa using ha.2
    have hc' := hc
    simp only [digC, decide_eq_true_eq] at hc'
    rw [valP_snoc]
    by_cases hs : s = []
    · subst hs
      have : valP [] = 0 := rfl
      rw [this, decP_lt (by omega)]
      simp [hexD_of_dig hc]
    · have hl := List.length_pos_iff.2 hs
      have h0' : s[0]? ≠ some 48 := by
        rcases h0 with h | h
        · rw [List.length_append] at h
          have : s.length + 1 = 1 := h
          omega
        · rwa [List.getElem?_append_left hl] at h
      have hv := val_pos _ ha.1 hs h0'
      rw [decP_ge (by omega)]
      have e1 : (10 * valP s + (c.toNat - 48)) / 10 = valP s := by omega
      have e2 : (10 * valP s + (c.toNat - 48)) % 10 = c.toNat - 48 := by omega
      rw [e1, e2, ih ha.1 hs (.inr h0'), hexD_of_dig hc]
/-- What the reading of a number owes. -/
def NumR (s : List UInt8) (r : Int × Bool) : Prop := (r.2 = true → (0 ≤ r.1 ∧ r.1 < 65536) ∧ decP r.1.toNat = s) ∧ ∀ n : Nat, n < 65536 → decP n = s → r = ((n : Int), true)
theorem num_bad {s : List UInt8} {n : Int} (h : ∀ m : Nat, m < 65536 → decP m ≠ s) : NumR s (n, false) := ⟨fun h => (by cases h), fun m hm hs => absurd hs (h m hm)⟩

/-! texts in their safe form -/
theorem textP_cons (c : UInt8) (t : List UInt8) : textP (c :: t) = byteP c ++ textP t := rfl
theorem textP_app (s t : List UInt8) : textP (s ++ t) = textP s ++ textP t := by simp [textP]
theorem safe37 : safeP 37 = false := by decide
theorem byteP_pos (c : UInt8) : 0 < (byteP c).length := by unfold byteP; split <;> simp
/-- The safe form is read from its head on. -/
theorem byte_head {a b : UInt8} {s t : List UInt8} (h : byteP a ++ s = byteP b ++ t) : a = b ∧ s = t := by
  unfold byteP at h
  split at h
  · rename_i ha
    split at h
    · simpa using h
    · simp only [List.cons_append, List.nil_append, List.cons.injEq] at h
      rw [h.1, safe37] at ha; cases ha
  · split at h
    · rename_i hb
      simp only [List.cons_append, List.nil_append, List.cons.injEq] at h
      rw [← h.1, safe37] at hb; cases hb
    · simp only [List.cons_append, List.cons.injEq, true_and] at h
      obtain ⟨h1, h2⟩ := List.append_inj h rfl
      exact ⟨twoP_inj h1, h2⟩
theorem text_pre : ∀ {b t r : List UInt8}, textP t = textP b ++ r → ∃ t', t = b ++ t' ∧ textP t' = r
  | [], t, r, h => ⟨t, rfl, h⟩
  | c :: b, [], r, h => by
    have h1 := congrArg List.length h
    have := byteP_pos c
    rw [textP_cons, List.length_append, List.length_append] at h1
    have h0 : (textP []).length = 0 := rfl
    omega
  | c :: b, d :: t, r, h => by
    rw [textP_cons, textP_cons, List.append_assoc] at h
    obtain ⟨rfl, h2⟩ := byte_head h
    obtain ⟨t', rfl, h3⟩ := text_pre h2
    exact ⟨t', rfl, h3⟩
theorem textP_inj {s t : List UInt8} (h : textP s = textP t) : s = t := by
  obtain ⟨t', rfl, h2⟩ := text_pre (b := s) (t := t) (r := []) (by rw [List.append_nil]; exact h.symm)
  cases t' with
  | nil => simp
  | cons c t' =>
    have h1 := congrArg List.length h2
    have := byteP_pos c
    rw [textP_cons, List.length_append, List.length_nil] at h1
    omega
/-- What the reading of the safe form owes. -/
def PlainR (s : List UInt8) (r : List UInt8 × Bool) : Prop := (r.2 = true → textP r.1 = s) ∧ ∀ t, textP t = s → r = (t, true)
theorem plain_end {s b : List UInt8} (h : textP b = s) : PlainR s (b, true) := ⟨fun _ => h, fun t ht => by rw [textP_inj (h.trans ht.symm)]⟩
theorem plain_bad {s b : List UInt8} {i : Nat} (hb : textP b = s.take i) (h : ∀ c t, s.drop i ≠ byteP c ++ t) (hi : i < s.length) : PlainR s ([], false) := by
  refine ⟨fun h => (by cases h), fun t ht => ?_⟩
  exfalso
  obtain ⟨t', rfl, h2⟩ := text_pre (b := b) (t := t) (r := s.drop i) (by rw [ht, hb, List.take_append_drop])
  cases t' with
  | nil =>
    have h1 := congrArg List.length h2
    rw [List.length_drop] at h1
    have h0 : (textP []).length = 0 := rfl
    omega
  | cons c t' => exact h c _ h2.symm
theorem text_not58 {t : List UInt8} : (58 : UInt8) ∉ textP t := by
  intro h
  unfold textP at h
  obtain ⟨c, _, hc⟩ := List.mem_flatMap.1 h
  unfold byteP at hc
  split at hc
  · rename_i hs
    simp only [List.mem_singleton] at hc
    subst hc
    exact absurd hs (by decide)
  · simp only [List.mem_cons] at hc
    rcases hc with h1 | hc
    · exact absurd h1 (by decide)
    · have : isHex 58 := hexP_hex (s := [c]) (by simpa [hexP] using hc)
      have := hex_host this
      have h58 : (58 : UInt8).toNat = 58 := rfl
      omega
/-- Printable, and no blank. -/
def inkC (c : UInt8) : Prop := 32 < c.toNat ∧ c.toNat < 127
theorem ink_hex {c : UInt8} (h : isHex c) : inkC c := by
  have := hex_host h
  unfold inkC; omega
theorem ink_text {t : List UInt8} {c : UInt8} (h : c ∈ textP t) : inkC c := by
  unfold textP at h
  obtain ⟨b, _, hb⟩ := List.mem_flatMap.1 h
  unfold byteP at hb
  split at hb
  · rename_i hs
    simp only [List.mem_singleton] at hb
    subst hb
    simp only [safeP, decide_eq_true_eq] at hs
    unfold inkC; omega
  · simp only [List.mem_cons] at hb
    rcases hb with rfl | hb
    · exact ⟨by decide, by decide⟩
    · exact ink_hex (hexP_hex (s := [b]) (by simpa [hexP] using hb))
theorem ink_dec {n : Nat} {c : UInt8} (h : c ∈ decP n) : inkC c := by
  have := dec_digit h
  unfold inkC; omega
theorem host_mem {s : List UInt8} (h : hostP s = true) {c : UInt8} (hc : c ∈ s) : hostC c = true := by
  simp only [hostP, Bool.and_eq_true] at h
  exact List.all_eq_true.1 h.2.1 c hc
theorem ink_host {s : List UInt8} (h : hostP s = true) {c : UInt8} (hc : c ∈ s) : inkC c ∧ c ≠ 58 := by
  have := host_mem h hc
  simp only [hostC, decide_eq_true_eq] at this
  refine ⟨by unfold inkC; omega, ?_⟩
  rintro rfl
  have h58 : (58 : UInt8).toNat = 58 := rfl
  omega

/-! services -/
def body (s : Svc) : List UInt8 := s.label ++ svcN s ++ 58 :: textP s.text
/-- A service's piece. -/
def seg (s : Svc) : List UInt8 := (if s.dg = true then 117 else 116) :: 61 :: body s
theorem svcP_seg (s : Svc) : svcP s = 32 :: seg s := by
  unfold svcP seg svcH body
  split <;> simp
def inU (n : Int) : Prop := 0 ≤ n ∧ n < 65536
def numsOk (s : Svc) : Prop := inU s.port ∧ inU s.prio ∧ inU s.weight
theorem body_join (s : Svc) : body s = s.label ++ joinC 58 [decP s.port.toNat, decP s.prio.toNat, decP s.weight.toNat, textP s.text] := by
  simp [body, svcN, numP, joinC]
theorem dec_not58 {n : Nat} : (58 : UInt8) ∉ decP n := fun h => by
  have := dec_digit h
  have h58 : (58 : UInt8).toNat = 58 := rfl
  omega
theorem body_split {s : Svc} (h : (58 : UInt8) ∉ s.label) : splitC 58 (body s) = (s.label, [decP s.port.toNat, decP s.prio.toNat, decP s.weight.toNat, textP s.text]) := by
  rw [body_join]
  refine split_of 58 _ _ h (fun q hq => ?_)
  simp only [List.mem_cons, List.mem_nil_iff, or_false] at hq
  rcases hq with rfl | rfl | rfl | rfl
  · exact dec_not58
  · exact dec_not58
  · exact dec_not58
  · exact text_not58
/-- What the reading of a service owes. -/
def OffR (s : List UInt8) (dg : Bool) (r : Svc × Bool) : Prop := (r.2 = true → r.1.dg = dg ∧ numsOk r.1 ∧ body r.1 = s) ∧ ∀ v : Svc, (58 : UInt8) ∉ v.label → numsOk v → v.dg = dg → body v = s → r = (v, true)
theorem off_few {s : List UInt8} {dg : Bool} {v : Svc} (h : (splitC 58 s).2.length ≠ 4) : OffR s dg (v, false) := by
  refine ⟨fun h => (by cases h), fun w hl _ _ hb => ?_⟩
  exfalso
  apply h
  rw [← hb, body_split hl]; rfl
theorem off_all {s l n1 n2 n3 t : List UInt8} {dg : Bool} (hs : splitC 58 s = (l, [n1, n2, n3, t])) {r1 r2 r3 : Int × Bool} {r4 : List UInt8 × Bool} (h1 : NumR n1 r1) (h2 : NumR n2 r2) (h3 : NumR n3 r3) (h4 : PlainR t r4) :
    OffR s dg (⟨l, dg, r1.1, r2.1, r3.1, r4.1⟩, r1.2 && (r2.2 && (r3.2 && r4.2))) := by
  constructor
  · intro h
    simp only [Bool.and_eq_true] at h
    obtain ⟨a1, a2, a3, a4⟩ := h
    obtain ⟨b1, c1⟩ := h1.1 a1
    obtain ⟨b2, c2⟩ := h2.1 a2
    obtain ⟨b3, c3⟩ := h3.1 a3
    have c4 := h4.1 a4
    refine ⟨rfl, ⟨b1, b2, b3⟩, ?_⟩
    rw [body_join]
    simp only [c1, c2, c3, c4]
    have := split_join 58 s
    rw [hs] at this
    exact this.symm
  · intro v hl hn hd hb
    have hv := body_split hl
    rw [hb, hs] at hv
    simp only [Prod.mk.injEq, List.cons.injEq, and_true] at hv
    obtain ⟨e0, e1, e2, e3, e4⟩ := hv
    obtain ⟨i1, i2, i3⟩ := hn
    unfold inU at i1 i2 i3
    have q1 := h1.2 v.port.toNat (by omega) e1.symm
    have q2 := h2.2 v.prio.toNat (by omega) e2.symm
    have q3 := h3.2 v.weight.toNat (by omega) e3.symm
    have q4 := h4.2 v.text e4.symm
    rw [q1, q2, q3, q4, e0]
    have z1 : ((v.port.toNat : Nat) : Int) = v.port := by omega
    have z2 : ((v.prio.toNat : Nat) : Int) = v.prio := by omega
    have z3 : ((v.weight.toNat : Nat) : Int) = v.weight := by omega
    rw [z1, z2, z3, ← hd]
    rfl

/-! a whole meta -/
/-- A meta. -/
structure Mt where
  a : List UInt8
  b : List UInt8
  c : List UInt8
  ss : List Svc
def Mt.nil : Mt := ⟨[], [], [], []⟩
noncomputable def Mt.pack (m : Mt) : List UInt8 × Int := packP m.a m.b m.c m.ss
def Mt.told (m : Mt) : List UInt8 := toldP m.a m.b m.c m.ss
def Mt.may (m : Mt) : Prop := mayQ m.a m.b m.c m.ss
def Mt.nums (m : Mt) : Prop := ∀ s ∈ m.ss, numsOk s
/-- The pieces of its text. -/
def headSeg (h : UInt8) (v : List UInt8) : List (List UInt8) := if v = [] then [] else [h :: 61 :: hexP v]
def Mt.segs (m : Mt) : List (List UInt8) := headSeg 52 m.b ++ headSeg 54 m.c ++ m.ss.map seg
theorem head_join (h : UInt8) (v : List UInt8) : hexw [32, h, 61] v = joinC 32 (headSeg h v) := by
  unfold hexw headSeg
  split
  · rfl
  · simp [joinC]
theorem Mt.told_eq (m : Mt) : m.told = m.a ++ joinC 32 m.segs := by
  unfold Mt.told toldP Mt.segs
  rw [head_join, head_join]
  have : m.ss.flatMap svcP = joinC 32 (m.ss.map seg) := by
    unfold joinC
    rw [List.flatMap_map]
    congr 1
    funext s
    exact svcP_seg s
  rw [this]
  simp [joinC]
theorem pack_iff {m : Mt} {s : List UInt8} : m.pack = (s, 0) ↔ m.may ∧ m.ss.length ≤ 16 ∧ m.told = s ∧ s.length ≤ 400 := by
  unfold Mt.pack packP
  by_cases h1 : 16 < m.ss.length
  · rw [if_pos h1]
    constructor
    · intro h; simp at h
    · intro h; omega
  · rw [if_neg h1]
    by_cases h2 : mayP m.a m.b m.c m.ss = true
    · rw [if_pos h2]
      by_cases h3 : 400 < (toldP m.a m.b m.c m.ss).length
      · rw [if_pos h3]
        constructor
        · intro h; simp at h
        · rintro ⟨_, _, h, h4⟩
          rw [← h] at h4
          exact absurd h3 (by unfold Mt.told at h4; omega)
      · rw [if_neg h3]
        constructor
        · intro h
          simp only [Prod.mk.injEq, and_true] at h
          exact ⟨mayP_iff.1 h2, by omega, h, by rw [← h]; omega⟩
        · rintro ⟨_, _, h, _⟩
          simp only [Prod.mk.injEq, and_true]
          exact h
    · rw [if_neg h2]
      constructor
      · intro h; simp at h
      · rintro ⟨h, _⟩
        exact absurd (mayP_iff.2 h) h2

theorem seg_ink {s : Svc} (h : hostP s.label = true) {c : UInt8} (hc : c ∈ seg s) : inkC c := by
  unfold seg at hc
  simp only [List.mem_cons] at hc
  rcases hc with rfl | rfl | hc
  · split <;> exact ⟨by decide, by decide⟩
  · exact ⟨by decide, by decide⟩
  · unfold body svcN at hc
    simp only [List.mem_append, List.mem_cons, List.mem_flatMap] at hc
    rcases hc with (hc | ⟨n, _, hc⟩) | rfl | hc
    · exact (ink_host h hc).1
    · unfold numP at hc
      rcases List.mem_cons.1 hc with rfl | hc
      · exact ⟨by decide, by decide⟩
      · exact ink_dec hc
    · exact ⟨by decide, by decide⟩
    · exact ink_text hc
theorem headSeg_ink {h : UInt8} (hh : inkC h) {v p : List UInt8} (hp : p ∈ headSeg h v) {c : UInt8} (hc : c ∈ p) : inkC c := by
  unfold headSeg at hp
  split at hp
  · cases hp
  · simp only [List.mem_singleton] at hp
    subst hp
    simp only [List.mem_cons] at hc
    rcases hc with rfl | rfl | hc
    · exact hh
    · exact ⟨by decide, by decide⟩
    · exact ink_hex (hexP_hex hc)
theorem Mt.host {m : Mt} (h : m.may) {s : Svc} (hs : s ∈ m.ss) : hostP s.label = true := by
  obtain ⟨i, hi⟩ := List.getElem?_of_mem hs
  exact (h.2 i s hi).1
theorem Mt.segs_ink {m : Mt} (h : m.may) {p : List UInt8} (hp : p ∈ m.segs) {c : UInt8} (hc : c ∈ p) : inkC c := by
  unfold Mt.segs at hp
  simp only [List.mem_append, List.mem_map] at hp
  rcases hp with (hp | hp) | ⟨s, hs, rfl⟩
  · exact headSeg_ink ⟨by decide, by decide⟩ hp hc
  · exact headSeg_ink ⟨by decide, by decide⟩ hp hc
  · exact seg_ink (Mt.host h hs) hc
theorem not_ink32 : ¬ inkC 32 := fun h => absurd h.1 (by decide)
theorem Mt.split {m : Mt} (h : m.may) : splitC 32 m.told = (m.a, m.segs) := by
  rw [Mt.told_eq]
  exact split_of 32 _ _ (fun hm => not_ink32 (ink_host h.1.1 hm).1) (fun q hq hm => not_ink32 (Mt.segs_ink h hq hm))

/-- What the reading of one address owes. -/
def HdR (h : UInt8) (n : Nat) (R : List (List UInt8)) (v : List UInt8) (ok : Bool) (R' : List (List UInt8)) : Prop :=
  ((∀ d Q, R ≠ (h :: 61 :: d) :: Q) ∧ v = [] ∧ ok = true ∧ R' = R) ∨ ∃ d r, R = (h :: 61 :: d) :: R' ∧ RawR d r ∧ v = r.1 ∧ ok = (r.2 && decide (r.1.length = n))
theorem HdR.ok {h : UInt8} {n : Nat} {R R' : List (List UInt8)} {v : List UInt8} (hr : HdR h n R v true R') : R = headSeg h v ++ R' := by
  rcases hr with ⟨_, rfl, _, rfl⟩ | ⟨d, r, rfl, hr, rfl, ho⟩
  · rfl
  · have ho := ho.symm
    rw [Bool.and_eq_true, decide_eq_true_eq] at ho
    obtain ⟨h1, h2⟩ := hr.1 ho.1
    simp [headSeg, h1, h2]
theorem HdR.is {h : UInt8} {n : Nat} {R R' S : List (List UInt8)} {v w : List UInt8} {ok : Bool} (hr : HdR h n R v ok R') (hR : R = headSeg h w ++ S) (hS : ∀ d Q, S ≠ (h :: 61 :: d) :: Q) (hw : w.length = 0 ∨ w.length = n) (hn : 0 < n) : ok = true ∧ v = w ∧ R' = S := by
  by_cases hw0 : w = []
  · subst hw0
    have hR : R = S := hR
    rcases hr with ⟨_, rfl, h3, rfl⟩ | ⟨d, r, h1, _⟩
    · exact ⟨h3, rfl, hR⟩
    · exact absurd (hR.symm.trans h1) (hS _ _)
  · have hl : w.length = n := by
      rcases hw with h | h
      · exact absurd (List.length_eq_zero_iff.1 h) hw0
      · exact h
    have hR : R = (h :: 61 :: hexP w) :: S := by simpa [headSeg, hw0] using hR
    rcases hr with ⟨h1, _⟩ | ⟨d, r, h1, h2, rfl, h4⟩
    · exact absurd hR (h1 _ _)
    · rw [hR] at h1
      simp only [List.cons.injEq, true_and] at h1
      obtain ⟨h5, rfl⟩ := h1
      have := h2.2 w hw0 h5
      subst this
      exact ⟨by rw [h4]; simp [hl], rfl, rfl⟩
/-- Services read so far. -/
def SvR (R : List (List UInt8)) (ss : List Svc) (ok : Bool) (R' : List (List UInt8)) : Prop :=
  (ok = true → R = ss.map seg ++ R' ∧ ∀ s ∈ ss, numsOk s) ∧ ∀ ws : List Svc, R = ws.map seg → (∀ s ∈ ws, (58 : UInt8) ∉ s.label ∧ numsOk s) → ok = true ∧ ∃ us, ws = ss ++ us ∧ R' = us.map seg
theorem SvR.start (R : List (List UInt8)) : SvR R [] true R := ⟨fun _ => ⟨rfl, by simp⟩, fun ws h _ => ⟨rfl, ws, rfl, h⟩⟩
theorem SvR.next {R R' : List (List UInt8)} {ss : List Svc} {h : UInt8} {d : List UInt8} {r : Svc × Bool} (hs : SvR R ss true ((h :: 61 :: d) :: R')) (hh : h = 117 ∨ h = 116) (hr : OffR d (decide (h = 117)) r) : SvR R (ss ++ [r.1]) r.2 R' := by
  constructor
  · intro ho
    obtain ⟨h1, h2⟩ := hs.1 rfl
    obtain ⟨q1, q2, q3⟩ := hr.1 ho
    refine ⟨?_, fun s hm => ?_⟩
    · rw [h1, List.map_append, List.append_assoc]
      congr 1
      show _ = seg r.1 :: R'
      congr 1
      unfold seg
      rw [q1, q3]
      rcases hh with rfl | rfl <;> rfl
    · rcases List.mem_append.1 hm with hm | hm
      · exact h2 s hm
      · simp only [List.mem_singleton] at hm; subst hm; exact q2
  · intro ws hw hall
    obtain ⟨_, us, rfl, hu⟩ := hs.2 ws hw hall
    cases us with
    | nil => cases hu
    | cons u us =>
      simp only [List.map_cons, List.cons.injEq] at hu
      obtain ⟨hu1, hu2⟩ := hu
      unfold seg at hu1
      simp only [List.cons.injEq, true_and] at hu1
      obtain ⟨g1, g2⟩ := hu1
      obtain ⟨c1, c2⟩ := hall u (by simp)
      have hd : u.dg = decide (h = 117) := by
        rw [g1]
        cases u.dg <;> rfl
      have := hr.2 u c1 c2 hd g2.symm
      subst this
      exact ⟨rfl, us, by simp, hu2⟩
theorem SvR.bad {R R' : List (List UInt8)} {ss : List Svc} {p : List UInt8} (hs : SvR R ss true (p :: R')) (hp : ∀ d, p ≠ 117 :: 61 :: d ∧ p ≠ 116 :: 61 :: d) (ws : List Svc) (hw : R = ws.map seg) (hall : ∀ s ∈ ws, (58 : UInt8) ∉ s.label ∧ numsOk s) : False := by
  obtain ⟨_, us, rfl, hu⟩ := hs.2 ws hw hall
  cases us with
  | nil => cases hu
  | cons u us =>
    simp only [List.map_cons, List.cons.injEq] at hu
    obtain ⟨hu1, _⟩ := hu
    unfold seg at hu1
    split at hu1
    · exact (hp _).1 hu1
    · exact (hp _).2 hu1

/-- What the reading of a meta owes: the meta whose text it is, or an error. -/
def ParseR (s : List UInt8) (m : Mt) (e : Int) : Prop :=
  (400 < s.length ∧ m = Mt.nil ∧ e = 2) ∨ (s.length ≤ 400 ∧ ((e = 0 ∧ m.pack = (s, 0) ∧ m.nums) ∨ (e = 210 ∧ m = Mt.nil ∧ ∀ w : Mt, w.nums → w.pack ≠ (s, 0))))
theorem not58 {m : Mt} (h : m.may) (hn : m.nums) : ∀ s ∈ m.ss, (58 : UInt8) ∉ s.label ∧ numsOk s :=
  fun s hs => ⟨fun hm => (ink_host (Mt.host h hs) hm).2 rfl, hn s hs⟩
theorem seg_not {h : UInt8} (hh : h ≠ 117) (hh' : h ≠ 116) {ss : List Svc} : ∀ d Q, ss.map seg ≠ (h :: 61 :: d) :: Q := by
  intro d Q he
  cases ss with
  | nil => cases he
  | cons s ss =>
    simp only [List.map_cons, List.cons.injEq, seg] at he
    have := he.1.1
    split at this
    · exact hh this.symm
    · exact hh' this.symm
theorem head_not {h g : UInt8} (hne : g ≠ h) {v : List UInt8} {S : List (List UInt8)} (hS : ∀ d Q, S ≠ (h :: 61 :: d) :: Q) : ∀ d Q, headSeg g v ++ S ≠ (h :: 61 :: d) :: Q := by
  intro d Q he
  unfold headSeg at he
  split at he
  · exact hS d Q he
  · simp only [List.cons_append, List.nil_append, List.cons.injEq] at he
    exact hne he.1.1
/-- Whoever has the text s has what was read. -/
theorem read_is {s : List UInt8} {v4 v6 : List UInt8} {k4 k6 : Bool} {R1 R2 : List (List UInt8)} (h4 : HdR 52 4 (splitC 32 s).2 v4 k4 R1) (h6 : HdR 54 16 R1 v6 k6 R2) {w : Mt} (hn : w.nums) (hw : w.pack = (s, 0)) :
    k4 = true ∧ k6 = true ∧ w.a = (splitC 32 s).1 ∧ w.b = v4 ∧ w.c = v6 ∧ R2 = w.ss.map seg := by
  obtain ⟨hm, _, ht, _⟩ := pack_iff.1 hw
  have hs := Mt.split hm
  rw [ht] at hs
  rw [hs] at h4
  have hsv4 : ∀ d Q, w.ss.map seg ≠ (52 :: 61 :: d) :: Q := seg_not (by decide) (by decide)
  have hsv6 : ∀ d Q, w.ss.map seg ≠ (54 :: 61 :: d) :: Q := seg_not (by decide) (by decide)
  obtain ⟨e1, e2, e3⟩ := h4.is (w := w.b) (S := headSeg 54 w.c ++ w.ss.map seg) (by simp [Mt.segs]) (head_not (by decide) hsv4) hm.1.2.1 (by decide)
  subst e3
  obtain ⟨f1, f2, f3⟩ := h6.is (w := w.c) (S := w.ss.map seg) rfl hsv6 hm.1.2.2 (by decide)
  exact ⟨e1, f1, by rw [hs], e2.symm, f2.symm, f3⟩
theorem parse_head_bad {s : List UInt8} {v4 v6 : List UInt8} {k4 k6 : Bool} {R1 R2 : List (List UInt8)} (hl : s.length ≤ 400) (h4 : HdR 52 4 (splitC 32 s).2 v4 k4 R1) (h6 : HdR 54 16 R1 v6 k6 R2) (hk : (k4 && k6) = false) : ParseR s Mt.nil 210 :=
  .inr ⟨hl, .inr ⟨rfl, rfl, fun w hn hw => by
    obtain ⟨e1, e2, _⟩ := read_is h4 h6 hn hw
    rw [e1, e2] at hk; cases hk⟩⟩
theorem parse_bad {s : List UInt8} {v4 v6 : List UInt8} {k4 k6 : Bool} {R1 R2 R3 : List (List UInt8)} {ss : List Svc} {p : List UInt8} (hl : s.length ≤ 400) (h4 : HdR 52 4 (splitC 32 s).2 v4 k4 R1) (h6 : HdR 54 16 R1 v6 k6 R2) (hs : SvR R2 ss true (p :: R3)) (hp : ∀ d, p ≠ 117 :: 61 :: d ∧ p ≠ 116 :: 61 :: d) : ParseR s Mt.nil 210 :=
  .inr ⟨hl, .inr ⟨rfl, rfl, fun w hn hw => by
    obtain ⟨_, _, _, _, _, e⟩ := read_is h4 h6 hn hw
    exact hs.bad hp w.ss e (not58 (pack_iff.1 hw).1 hn)⟩⟩
theorem parse_end_bad {s : List UInt8} {v4 v6 : List UInt8} {k4 k6 : Bool} {R1 R2 R3 : List (List UInt8)} {ss : List Svc} (hl : s.length ≤ 400) (h4 : HdR 52 4 (splitC 32 s).2 v4 k4 R1) (h6 : HdR 54 16 R1 v6 k6 R2) (hs : SvR R2 ss false R3) : ParseR s Mt.nil 210 :=
  .inr ⟨hl, .inr ⟨rfl, rfl, fun w hn hw => by
    obtain ⟨_, _, _, _, _, e⟩ := read_is h4 h6 hn hw
    have := (hs.2 w.ss e (not58 (pack_iff.1 hw).1 hn)).1
    cases this⟩⟩
theorem read_told {s : List UInt8} {v4 v6 : List UInt8} {R1 : List (List UInt8)} {ss : List Svc} (h4 : HdR 52 4 (splitC 32 s).2 v4 true R1) (h6 : HdR 54 16 R1 v6 true (ss.map seg)) : (Mt.mk (splitC 32 s).1 v4 v6 ss).told = s := by
  rw [Mt.told_eq]
  have e1 := h4.ok
  have e2 := h6.ok
  have : (Mt.mk (splitC 32 s).1 v4 v6 ss).segs = (splitC 32 s).2 := by
    rw [e1, e2]; simp [Mt.segs]
  rw [this]
  exact (split_join 32 s).symm
/-- All read: the check tells. -/
theorem parse_end {s : List UInt8} {v4 v6 : List UInt8} {k4 k6 : Bool} {R1 R2 : List (List UInt8)} {ss : List Svc} (hl : s.length ≤ 400) (h4 : HdR 52 4 (splitC 32 s).2 v4 k4 R1) (h6 : HdR 54 16 R1 v6 k6 R2) (hk : (k4 && k6) = true) (hs : SvR R2 ss true []) :
    ((Mt.mk (splitC 32 s).1 v4 v6 ss).pack.2 = 0 → ParseR s (Mt.mk (splitC 32 s).1 v4 v6 ss) 0) ∧ ((Mt.mk (splitC 32 s).1 v4 v6 ss).pack.2 ≠ 0 → ParseR s Mt.nil 210) := by
  rw [Bool.and_eq_true] at hk
  obtain ⟨rfl, rfl⟩ := hk
  obtain ⟨e, hn⟩ := hs.1 rfl
  rw [List.append_nil] at e
  subst e
  have ht := read_told h4 h6
  constructor
  · intro h0
    refine .inr ⟨hl, .inl ⟨rfl, ?_, hn⟩⟩
    have : (Mt.mk (splitC 32 s).1 v4 v6 ss).pack = ((Mt.mk (splitC 32 s).1 v4 v6 ss).pack.1, 0) := by rw [← h0]
    rw [this]
    have := (pack_iff.1 this).2.2.1
    rw [← this, ht]
  · intro h0
    refine .inr ⟨hl, .inr ⟨rfl, rfl, fun w hwn hw => ?_⟩⟩
    obtain ⟨_, _, e1, e2, e3, e4⟩ := read_is h4 h6 hwn hw
    obtain ⟨_, us, e5, e6⟩ := hs.2 w.ss e4 (not58 (pack_iff.1 hw).1 hwn)
    cases us with
    | cons u us => cases e6
    | nil =>
      rw [List.append_nil] at e5
      obtain ⟨wa, wb, wc, ws⟩ := w
      simp only at e1 e2 e3 e5
      subst e1; subst e2; subst e3; subst e5
      rw [hw] at h0
      exact h0 rfl
theorem seg_inj {s t : Svc} (hs : (58 : UInt8) ∉ s.label ∧ numsOk s) (ht : (58 : UInt8) ∉ t.label ∧ numsOk t) (h : seg s = seg t) : s = t := by
  unfold seg at h
  simp only [List.cons.injEq, true_and] at h
  obtain ⟨hd, hb⟩ := h
  have h1 := body_split hs.1
  rw [hb, body_split ht.1] at h1
  simp only [Prod.mk.injEq, List.cons.injEq, and_true] at h1
  obtain ⟨e0, e1, e2, e3, e4⟩ := h1
  have v1 := congrArg valP e1
  have v2 := congrArg valP e2
  have v3 := congrArg valP e3
  rw [(val_dec _).1, (val_dec _).1] at v1 v2 v3
  have e4 := textP_inj e4
  obtain ⟨a1, a2, a3, a4, a5, a6⟩ := s
  obtain ⟨b1, b2, b3, b4, b5, b6⟩ := t
  obtain ⟨_, i1, i2, i3⟩ := hs
  obtain ⟨_, j1, j2, j3⟩ := ht
  simp only [inU] at *
  subst e0; subst e4
  have p1 : a3 = b3 := by omega
  have p2 : a4 = b4 := by omega
  have p3 : a5 = b5 := by omega
  subst p1; subst p2; subst p3
  have : a2 = b2 := by cases a2 <;> cases b2 <;> simp_all
  subst this
  rfl
theorem segs_inj : ∀ {ss ts : List Svc}, (∀ s ∈ ss, (58 : UInt8) ∉ s.label ∧ numsOk s) → (∀ s ∈ ts, (58 : UInt8) ∉ s.label ∧ numsOk s) → ss.map seg = ts.map seg → ss = ts
  | [], [], _, _, _ => rfl
  | [], _ :: _, _, _, h => by simp at h
  | _ :: _, [], _, _, h => by simp at h
  | s :: ss, t :: ts, h1, h2, h => by
    simp only [List.map_cons, List.cons.injEq] at h
    rw [seg_inj (h1 s (by simp)) (h2 t (by simp)) h.1, segs_inj (fun q hq => h1 q (by simp [hq])) (fun q hq => h2 q (by simp [hq])) h.2]
theorem raw_self (v : List UInt8) : v ≠ [] → RawR (hexP v) (v, true) := fun h => ⟨fun _ => ⟨h, rfl⟩, fun t _ ht => by rw [hexP_inj ht]⟩
theorem hd_self {h : UInt8} {n : Nat} {v : List UInt8} {S : List (List UInt8)} (hS : ∀ d Q, S ≠ (h :: 61 :: d) :: Q) (hv : v.length = 0 ∨ v.length = n) (hn : 0 < n) : HdR h n (headSeg h v ++ S) v true S := by
  by_cases h0 : v = []
  · subst h0
    exact .inl ⟨hS, rfl, rfl, rfl⟩
  · have hl : v.length = n := by
      rcases hv with h | h
      · exact absurd (List.length_eq_zero_iff.1 h) h0
      · exact h
    exact .inr ⟨hexP v, (v, true), by simp [headSeg, h0], raw_self v h0, rfl, by simp [hl]⟩
/-- Two readings are one. -/
theorem pack_inj {m n : Mt} {s : List UInt8} (hm : m.nums) (hn : n.nums) (h1 : m.pack = (s, 0)) (h2 : n.pack = (s, 0)) : m = n := by
  obtain ⟨m1, _, m3, _⟩ := pack_iff.1 h1
  have hs := Mt.split m1
  rw [m3] at hs
  have hsv4 : ∀ d Q, m.ss.map seg ≠ (52 :: 61 :: d) :: Q := seg_not (by decide) (by decide)
  have hsv6 : ∀ d Q, m.ss.map seg ≠ (54 :: 61 :: d) :: Q := seg_not (by decide) (by decide)
  have h6 : HdR 54 16 (headSeg 54 m.c ++ m.ss.map seg) m.c true (m.ss.map seg) := hd_self hsv6 m1.1.2.2 (by decide)
  have h4 : HdR 52 4 (splitC 32 s).2 m.b true (headSeg 54 m.c ++ m.ss.map seg) := by
    rw [hs]
    have := hd_self (h := 52) (n := 4) (v := m.b) (S := headSeg 54 m.c ++ m.ss.map seg) (head_not (by decide) hsv4) m1.1.2.1 (by decide)
    simpa [Mt.segs] using this
  obtain ⟨_, _, e1, e2, e3, e4⟩ := read_is h4 h6 hn h2
  rw [hs] at e1
  have e5 := segs_inj (not58 m1 hm) (not58 (pack_iff.1 h2).1 hn) e4
  obtain ⟨a, b, c, ss⟩ := m
  obtain ⟨a', b', c', ss'⟩ := n
  simp only at e1 e2 e3 e5
  rw [e1, e2, e3, e5]
theorem parse_uniq {s : List UInt8} {m n : Mt} {e f : Int} (h : ParseR s m e) (k : ParseR s n f) : m = n ∧ e = f := by
  rcases h with ⟨h1, rfl, rfl⟩ | ⟨h1, ⟨rfl, h2, h3⟩ | ⟨rfl, rfl, h2⟩⟩
  · rcases k with ⟨_, rfl, rfl⟩ | ⟨k1, _⟩
    · exact ⟨rfl, rfl⟩
    · omega
  · rcases k with ⟨k1, _⟩ | ⟨_, ⟨rfl, k2, k3⟩ | ⟨_, _, k2⟩⟩
    · omega
    · exact ⟨pack_inj h3 k3 h2 k2, rfl⟩
    · exact absurd h2 (k2 m h3)
  · rcases k with ⟨k1, _⟩ | ⟨_, ⟨_, k2, k3⟩ | ⟨rfl, rfl, _⟩⟩
    · omega
    · exact absurd k2 (h2 n k3)
    · exact ⟨rfl, rfl⟩

theorem textP_ge (t : List UInt8) : t.length ≤ (textP t).length := by
  induction t with
  | nil => simp
  | cons c t ih =>
    have := byteP_pos c
    rw [textP_cons, List.length_append, List.length_cons]; omega
theorem flat_mem {α : Type} {l : List α} {f : α → List UInt8} {x : α} (h : x ∈ l) : (f x).length ≤ (l.flatMap f).length := by
  induction l with
  | nil => cases h
  | cons y l ih =>
    rw [List.flatMap_cons, List.length_append]
    rcases List.mem_cons.1 h with rfl | h
    · omega
    · have := ih h; omega
theorem flat_ge {α : Type} {l : List α} {f : α → List UInt8} (h : ∀ x, 0 < (f x).length) : l.length ≤ (l.flatMap f).length := by
  induction l with
  | nil => simp
  | cons y l ih =>
    have := h y
    rw [List.flatMap_cons, List.length_append, List.length_cons]; omega
theorem hexw_ge (h v : List UInt8) : v.length ≤ (hexw h v).length := by
  unfold hexw
  split
  · rename_i e; rw [e]; exact Nat.zero_le _
  · rw [List.length_append, hexP_len]; omega
theorem told_bounds (m : Mt) : (m.a.length ≤ m.told.length ∧ m.b.length ≤ m.told.length ∧ m.c.length ≤ m.told.length ∧ m.ss.length ≤ m.told.length) ∧ ∀ s ∈ m.ss, s.label.length ≤ m.told.length ∧ s.text.length ≤ m.told.length := by
  have e : m.told.length = m.a.length + (hexw [32, 52, 61] m.b).length + (hexw [32, 54, 61] m.c).length + (m.ss.flatMap svcP).length := by
    unfold Mt.told toldP
    simp only [List.length_append]
  have h1 := hexw_ge [32, 52, 61] m.b
  have h2 := hexw_ge [32, 54, 61] m.c
  have h3 : m.ss.length ≤ (m.ss.flatMap svcP).length := flat_ge (fun x => by rw [svcP_seg]; simp)
  refine ⟨⟨by omega, by omega, by omega, by omega⟩, fun s hs => ?_⟩
  have h4 := flat_mem (f := svcP) hs
  have h5 := textP_ge s.text
  have h6 : (svcP s).length = (svcH s).length + (svcN s).length + ((textP s.text).length + 1) := by
    unfold svcP; simp only [List.length_append, List.length_cons]
  have h7 : s.label.length ≤ (svcH s).length := by unfold svcH; rw [List.length_append]; omega
  exact ⟨by omega, by omega⟩
end Go.Proofs.YtjemmehgfheflaaDoor.V
