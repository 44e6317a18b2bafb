/- Data of records told: as 'V' runs the program's function. No conditions. -/
import Derived.Test.YtgkpgpdkolpfkaaDoorWJoin
import Derived.Test.YtgkpgpdkolpfkaaDoorWHex
import Derived.Test.YtgkpgpdkolpfkaaDoorWCheckD
namespace Go.Proofs.YtgkpgpdkolpfkaaDoor.V
open Go
set_option linter.unusedSimpArgs false
set_option linter.unusedVariables false
attribute [local irreducible] go goOps goD opK callK callT stepK leaveTo nextK

/-- What append grew: whatever else there is stays. -/
theorem GBuf.app3 {P : Program} {H T : Hp} {v : AV} {e z b len : Nat} {cs : List AV} (h : GBuf H.length T v e z len cs) (hz : decide (0 < z) = true) (hk : zok P e z = true) (xs : List AV) (q : Nat) (hq : 0 < q) (hx : xs.length = q * z) (hsc : xs.all V.scal = true) (hf : fits (len + q) b = true) :
    ∃ T2 e2, (∀ kk, stepK (appTo P (.slice e z b) v (xs, q) (H ++ T)) kk = kk (.slice (H.length + T.length) 0 (len + q) (.op 0), H ++ T2, e2)) ∧ T2.length = T.length + 1 ∧ clean H.length e2 ∧ (∀ (i : Nat) x, T[i]? = some x → (∀ m n, v = .slice (H.length + m) 0 n (.op 0) → i ≠ m) → T2[i]? = some x) ∧ T2[T.length]? = some (.cells (cs ++ xs) e (.op 0 false)) ∧ GBuf H.length T2 (.slice (H.length + T.length) 0 (len + q) (.op 0)) e z (len + q) (cs ++ xs) := by
  have hz' : 0 < z := by simpa using hz
  obtain ⟨rfl, rfl, rfl⟩ | ⟨hpos, hcl, m, rfl, hm⟩ := h
  · refine ⟨T ++ [.cells xs e (.op 0 false)], z0, fun kk => ?_, by simp, ⟨rfl, rfl⟩, fun i x hx _ => get_app hx, by simp, .inr ⟨by omega, by simpa using hx, T.length, by simp, by simp⟩⟩
    rw [appTo_nils hz hk]
    have hd : decide (q = 0) = false := by simp; omega
    have hf : fits q b = true := by simpa using hf
    simp only [hd, guardK_ft, hf, true_and, List.length_append, List.append_assoc, Nat.zero_add]
  · have hlt := lt_of_get hm
    have hg : (H ++ T)[H.length + m]? = some (.cells cs e (.op 0 false)) := by rw [hp_new, hm]
    refine ⟨T.set m .dead ++ [.cells (cs ++ xs) e (.op 0 false)], ⟨none, some (H.length + m)⟩, fun kk => ?_, by simp, by simp [clean, low], fun i x hx hf => ?_, by simp, .inr ⟨by omega, by rw [List.length_append, hcl, hx, Nat.add_mul], T.length, rfl, by simp⟩⟩
    · rw [appTo_op hz hk, hg]
      simp only [bindK_some, appO_c]
      have hqz : 0 < q * z := Nat.mul_pos hq hz'
      have hd : decide (0 + (len + q) * z ≤ cs.length) = false := by
        rw [hcl, Nat.add_mul]; simp; omega
      have ht : (List.drop 0 cs).take (len * z) ++ xs = cs ++ xs := by
        rw [List.drop_zero, List.take_of_length_le (by rw [hcl]; exact Nat.le_refl _)]
      have hle : 0 + len * z ≤ cs.length := by rw [hcl]; omega
      rw [hd, guardK_ft]
      simp only [ht, hf, hsc, hle, hp_set, List.length_append, List.append_assoc, Nat.sub_self, Nat.zero_le, true_and, and_true, Nat.zero_mul]
    · have hne := hf m len rfl
      rw [get_app (x := x)]
      rw [List.getElem?_set_ne (Ne.symm hne)]; exact hx

def isN (c : UInt8) : Bool := c == 115 || c == 108
def quoP (s : List UInt8) : List UInt8 := [34] ++ escS true s ++ [34]
/-- Pairs of bytes as numbers. -/
def pairN (r : List UInt8) (i : Nat) : Nat := ((r[2 * i]?).getD 0).toNat * 256 + ((r[2 * i + 1]?).getD 0).toNat
def decA (r : List UInt8) : List (List UInt8) := r.map fun b => decP b.toNat
def hexA (r : List UInt8) : List (List UInt8) := (List.range 8).map fun i => hexN (pairN r i)
def elemS (d : Dt) (c : UInt8) (k : Nat) : List (List UInt8) :=
  if c = 104 ∨ c = 112 then [txtN d.host] else if c = 109 then [txtN d.mail] else if isN c = true then [decP (d.n k).toNat]
  else if c = 97 then [joinS [46] (decA d.raw)] else if c = 113 then [joinS [58] (hexA d.raw)]
  else if c = 120 then ((txts d.raw).getD []).map quoP else [[92, 35], decP d.raw.length] ++ (if d.raw = [] then [] else [hexP d.raw])
def cntN (f : List UInt8) : Nat := (f.filter isN).length
def showL (d : Dt) : List UInt8 → Nat → List (List UInt8)
  | [], _ => []
  | c :: f, k => elemS d c k ++ showL d f (if isN c = true then k + 1 else k)
theorem showL_snoc (d : Dt) (c : UInt8) : ∀ (f : List UInt8) (k : Nat), showL d (f ++ [c]) k = showL d f k ++ elemS d c (k + cntN f)
  | [], k => by simp [showL, cntN]
  | b :: f, k => by
    rw [List.cons_append, showL, showL_snoc d c f, showL, List.append_assoc]
    congr 3
    unfold cntN
    rw [List.filter_cons]
    split <;> simp <;> omega
theorem cntN_snoc {f : List UInt8} {c : UInt8} {i : Nat} (h : f[i]? = some c) : cntN (f.take (i + 1)) = cntN (f.take i) + if isN c = true then 1 else 0 := by
  rw [take_snoc h]; unfold cntN; rw [List.filter_append, List.length_append]
  congr 1
  rw [List.filter_cons]; split <;> simp
theorem showL_take {d : Dt} {f : List UInt8} {c : UInt8} {i : Nat} (h : f[i]? = some c) : showL d (f.take (i + 1)) 0 = showL d (f.take i) 0 ++ elemS d c (cntN (f.take i)) := by
  rw [take_snoc h, showL_snoc, Nat.zero_add]
theorem txts_le : ∀ (n : Nat) (s : List UInt8), s.length < n → ∀ L, txF n s = some L → L.length ≤ s.length ∧ totS L ≤ s.length
  | 0, s, h, L, _ => by omega
  | n + 1, [], _, L, hL => by
    simp only [txF] at hL
    cases hL
    exact ⟨Nat.le_refl _, Nat.le_refl _⟩
  | n + 1, k :: t, h, L, hL => by
    simp only [List.length_cons] at h
    rw [txF] at hL
    split at hL
    · cases hL
    · rw [Option.map_eq_some_iff] at hL
      obtain ⟨L', h1, rfl⟩ := hL
      have := txts_le n (t.drop k.toNat) (by rw [List.length_drop]; omega) L' h1
      rw [List.length_drop] at this
      have e : totS (t.take k.toNat :: L') = (t.take k.toNat).length + totS L' := by simp [totS]
      rw [e, List.length_cons, List.length_cons, List.length_take]; omega
theorem txts_len {s : List UInt8} {L : List (List UInt8)} (h : txts s = some L) : L.length ≤ s.length ∧ totS L ≤ s.length := txts_le _ s (Nat.lt_succ_self _) L h
theorem elemS_len (d : Dt) (hd : d.wf) (c : UInt8) (k : Nat) : (elemS d c k).length ≤ 1048579 := by
  have hr := hd.raw
  unfold elemS
  split
  · simp
  split
  · simp
  split
  · simp
  split
  · simp
  split
  · simp
  split
  · rw [List.length_map]
    cases h : txts d.raw with
    | none => simp
    | some L => have := (txts_len h).1; simp only [Option.getD_some]; omega
  · split <;> simp
theorem showL_len (d : Dt) (hd : d.wf) : ∀ (f : List UInt8) (k : Nat), (showL d f k).length ≤ f.length * 1048579
  | [], k => by simp [showL]
  | c :: f, k => by
    rw [showL, List.length_append, List.length_cons]
    have := elemS_len d hd c k
    have := showL_len d hd f (if isN c = true then k + 1 else k)
    rw [Nat.add_mul]; omega
def showS (t : Int) (d : Dt) : List UInt8 := joinS [32] (showL d (formS t) 0)
theorem form_in (t : Int) : ∀ c ∈ formS t, c = 104 ∨ c = 112 ∨ c = 109 ∨ isN c = true ∨ c = 97 ∨ c = 113 ∨ c = 120 ∨ c = 114 := by
  rcases kinds_cases t with rfl | rfl | rfl | rfl | rfl | rfl | rfl | rfl | rfl | ht
  case inr.inr.inr.inr.inr.inr.inr.inr.inr => rw [formS_o ht]; decide
  all_goals decide
theorem form_len (t : Int) : (formS t).length ≤ 7 := by
  rcases kinds_cases t with rfl | rfl | rfl | rfl | rfl | rfl | rfl | rfl | rfl | ht
  case inr.inr.inr.inr.inr.inr.inr.inr.inr => rw [formS_o ht]; decide
  all_goals decide
theorem form_a (t : Int) : (formS t).all (fun c => decide (c.toNat < 128)) = true := by
  rcases kinds_cases t with rfl | rfl | rfl | rfl | rfl | rfl | rfl | rfl | rfl | ht
  case inr.inr.inr.inr.inr.inr.inr.inr.inr => rw [formS_o ht]; decide
  all_goals decide
theorem cnt_le {t : Int} {i : Nat} {c : UInt8} (h : (formS t)[i]? = some c) (hc : isN c = true) : cntN ((formS t).take i) < 5 := by
  have h1 : cntN ((formS t).take (i + 1)) ≤ 5 := by
    have : cntN (formS t) ≤ 5 := by
      rcases kinds_cases t with rfl | rfl | rfl | rfl | rfl | rfl | rfl | rfl | rfl | ht
      case inr.inr.inr.inr.inr.inr.inr.inr.inr => rw [formS_o ht]; decide
      all_goals decide
    have h2 : cntN (formS t) = cntN ((formS t).take (i + 1)) + cntN ((formS t).drop (i + 1)) := by
      conv => lhs; rw [← List.take_append_drop (i + 1) (formS t)]
      unfold cntN; rw [List.filter_append, List.length_append]
    omega
  rw [cntN_snoc h, if_pos hc] at h1; omega
/-- What good data have, by the letters of the form. -/
theorem good_by {t : Int} {d : Dt} (h : goodB t d = true) : (∀ c ∈ formS t, (c = 104 ∨ c = 112) → (nm d.host).isSome = true) ∧ (∀ c ∈ formS t, c = 109 → (nm d.mail).isSome = true) ∧ (∀ c ∈ formS t, c = 97 → d.raw.length = 4) ∧ (∀ c ∈ formS t, c = 113 → d.raw.length = 16) ∧ (∀ c ∈ formS t, c = 120 → txOk d.raw = true) ∧ d.raw.length ≤ 65535 := by
  unfold goodB at h
  rw [Bool.and_eq_true] at h
  have h := h.1
  unfold headB at h
  simp only [Bool.and_eq_true, beq_iff_eq] at h
  obtain ⟨hr, hh, _, hm, _⟩ := h
  rcases kinds_cases t with rfl | rfl | rfl | rfl | rfl | rfl | rfl | rfl | rfl | ht
  case inr.inr.inr.inr.inr.inr.inr.inr.inr =>
    rw [formS_o ht]
    obtain ⟨h1, h2, h3, h4, h5, h6, h7, h8, h9⟩ := ht
    have e1 : hostT t = false := by simp only [hostT, decide_eq_false_iff_not]; omega
    simp [rawT, e1, h1, h7, h8] at hr
    simp; omega
  all_goals
    simp only [hostT_1, hostT_2, hostT_5, hostT_6, hostT_12, hostT_15, hostT_16, hostT_28, hostT_33, mailT_1, mailT_2, mailT_5, mailT_6, mailT_12, mailT_15, mailT_16, mailT_28, mailT_33] at hh hm
    simp [rawT, hostT] at hr
    simp [formS, hr, ← hh, ← hm]
    try omega

theorem totS_le : ∀ (L : List (List UInt8)) (b : Nat), (∀ x ∈ L, x.length ≤ b) → totS L ≤ L.length * b
  | [], b, h => by simp [totS]
  | x :: L, b, h => by
    have h1 := totS_le L b (fun y hy => h y (by simp [hy]))
    have h2 := h x (by simp)
    have e : totS (x :: L) = x.length + totS L := by simp [totS]
    rw [e, List.length_cons, Nat.add_mul]; omega
theorem decP_pos (n : Nat) : 0 < (decP n).length := by
  by_cases h : n < 10
  · rw [decP_small h]; simp
  · rw [decP_big h, List.length_append]; simp
theorem hexN_pos (n : Nat) : 0 < (hexN n).length := by
  by_cases h : n < 16
  · rw [hexN_small h]; simp
  · rw [hexN_big h, List.length_append]; simp
theorem joinS_le (sep : List UInt8) (L : List (List UInt8)) : (joinS sep L).length ≤ totS L + L.length * sep.length := by
  cases L with
  | nil => simp [joinS]
  | cons x r =>
    have e2 : totS (x :: r) = x.length + totS r := by simp [totS]
    show (x ++ r.flatMap (sep ++ ·)).length ≤ _
    rw [joinS_len, e2, List.length_cons, Nat.succ_mul]; omega
theorem totS_app (a b : List (List UInt8)) : totS (a ++ b) = totS a + totS b := by simp [totS]
theorem totS_quo : ∀ (L : List (List UInt8)), totS (L.map quoP) ≤ 4 * totS L + 2 * L.length
  | [] => by simp [totS]
  | x :: L => by
    have h := totS_quo L
    have e1 : totS ((x :: L).map quoP) = (quoP x).length + totS (L.map quoP) := by simp [totS]
    have e2 : totS (x :: L) = x.length + totS L := by simp [totS]
    have h2 := escS_len true x
    have e3 : (quoP x).length = (escS true x).length + 2 := by simp [quoP]
    rw [e1, e2, e3, List.length_cons]; omega
theorem txtN_len (s : List UInt8) : (txtN s).length ≤ 1021 := by
  unfold txtN
  split
  · simp
  · have := txtL_len (labs s)
    have := labs_tot (s := s)
    omega
theorem txtN_pos {s : List UInt8} (h : (nm s).isSome = true) : 0 < (txtN s).length := by
  unfold txtN
  split
  · simp
  · rename_i h0
    obtain ⟨L, hL⟩ := Option.isSome_iff_exists.1 h
    cases L with
    | nil =>
      exfalso; apply h0
      have hL := (nm_lab hL).1
      cases s with
      | nil => cases hL
      | cons c t =>
        rw [lab_cons] at hL
        split at hL
        · rename_i hc
          split at hL
          · rename_i ht
            have : c = 0 := UInt8.toNat.inj (by simpa using hc)
            rw [this, List.length_eq_zero_iff.1 ht]
          · cases hL
        · split at hL
          · cases hL
          · rw [Option.map_eq_some_iff] at hL
            obtain ⟨_, _, h⟩ := hL
            cases h
    | cons l L =>
      have : labs s = l :: L := by rw [labs, hL]; rfl
      rw [this]
      show 0 < ((escS false l ++ [46]) ++ txtL L).length
      rw [List.length_append, List.length_append]; simp; omega
theorem decP_le2 {n : Nat} (h : n < 4294967296) : (decP n).length ≤ 10 := by
  have key : ∀ (k n : Nat), n < 10 ^ (k + 1) → (decP n).length ≤ k + 1 := by
    intro k
    induction k with
    | zero => intro n h; rw [decP_small (by simpa using h)]; simp
    | succ k ih =>
      intro n h
      by_cases h0 : n < 10
      · rw [decP_small h0]; simp
      · rw [decP_big h0, List.length_append]
        have : n / 10 < 10 ^ (k + 1) := by
          rw [Nat.div_lt_iff_lt_mul (by omega)]
          rw [Nat.pow_succ] at h; exact h
        have := ih (n / 10) this
        simp; omega
  exact key 9 n (by omega)
/-- What is told is short, and none of it empty. -/
theorem elem_fine {t : Int} {d : Dt} (hd : d.wf) (hg : goodB t d = true) {c : UInt8} (hc : c ∈ formS t) (k : Nat) : (∀ x ∈ elemS d c k, 0 < x.length) ∧ totS (elemS d c k) ≤ 1000000 := by
  obtain ⟨gh, gm, ga, gq, gx, graw⟩ := good_by hg
  unfold elemS
  split
  · rename_i h
    have := txtN_len d.host
    exact ⟨by intro x hx; simp only [List.mem_singleton] at hx; subst hx; exact txtN_pos (gh c hc h), by simp [totS]; omega⟩
  split
  · rename_i h
    have := txtN_len d.mail
    exact ⟨by intro x hx; simp only [List.mem_singleton] at hx; subst hx; exact txtN_pos (gm c hc h), by simp [totS]; omega⟩
  split
  · have h5 : (d.n k).toNat < 4294967296 := by
      have := hd.n0.2; have := hd.n1.2; have := hd.n2.2; have := hd.n3.2; have := hd.n4.2
      unfold Dt.n
      split <;> omega
    have := decP_le2 h5
    exact ⟨by intro x hx; simp only [List.mem_singleton] at hx; subst hx; exact decP_pos _, by simp [totS]; omega⟩
  split
  · rename_i h
    have hr := ga c hc h
    have hAl : (decA d.raw).length = 4 := by simp [decA, hr]
    have ht := totS_le (decA d.raw) 256 (by intro x hx; simp only [decA, List.mem_map] at hx; obtain ⟨b, _, rfl⟩ := hx; have := decP_le b.toNat; have := b.toNat_lt; omega)
    have hj := joinS_le [46] (decA d.raw)
    refine ⟨?_, by simp [totS]; simp at hj; omega⟩
    intro x hx; simp only [List.mem_singleton] at hx; subst hx
    cases h0 : decA d.raw with
    | nil => rw [h0] at hAl; simp at hAl
    | cons a r =>
      have : 0 < a.length := by
        have ha : a ∈ decA d.raw := by rw [h0]; simp
        simp only [decA, List.mem_map] at ha; obtain ⟨b, _, rfl⟩ := ha; exact decP_pos _
      show 0 < (a ++ r.flatMap ([46] ++ ·)).length
      rw [List.length_append]; omega
  split
  · rename_i h
    have hr := gq c hc h
    have hAl : (hexA d.raw).length = 8 := by simp [hexA]
    have ht := totS_le (hexA d.raw) 65536 (by intro x hx; simp only [hexA, List.mem_map] at hx; obtain ⟨b, _, rfl⟩ := hx; have h1 := hexN_le (pairN d.raw b); have h2 : pairN d.raw b ≤ 65535 := (by unfold pairN; have := ((d.raw[2 * b]?).getD 0).toNat_lt; have := ((d.raw[2 * b + 1]?).getD 0).toNat_lt; omega); omega)
    have hj := joinS_le [58] (hexA d.raw)
    refine ⟨?_, by simp [totS]; simp at hj; omega⟩
    intro x hx; simp only [List.mem_singleton] at hx; subst hx
    cases h0 : hexA d.raw with
    | nil => rw [h0] at hAl; simp at hAl
    | cons a r =>
      have : 0 < a.length := by
        have ha : a ∈ hexA d.raw := by rw [h0]; simp
        simp only [hexA, List.mem_map] at ha; obtain ⟨b, _, rfl⟩ := ha; exact hexN_pos _
      show 0 < (a ++ r.flatMap ([58] ++ ·)).length
      rw [List.length_append]; omega
  split
  · refine ⟨?_, ?_⟩
    · intro x hx; simp only [List.mem_map] at hx; obtain ⟨b, _, rfl⟩ := hx; simp [quoP]
    · cases h : txts d.raw with
      | none => simp [totS]
      | some L =>
        have h1 := txts_len h
        have h2 := totS_quo L
        simp only [Option.getD_some]; omega
  · have h1 := decP_le2 (n := d.raw.length) (by omega)
    refine ⟨?_, ?_⟩
    · intro x hx
      rcases List.mem_append.1 hx with hx | hx
      · simp only [List.mem_cons, List.not_mem_nil, or_false] at hx
        rcases hx with rfl | rfl
        · simp
        · exact decP_pos _
      · split at hx
        · cases hx
        · rename_i h0
          simp only [List.mem_singleton] at hx; subst hx
          rw [hexP_len]
          have : d.raw.length ≠ 0 := fun e => h0 (List.length_eq_zero_iff.1 e)
          omega
    · rw [totS_app]
      have e1 : totS [[92, 35], decP d.raw.length] = 2 + (decP d.raw.length).length := by simp [totS]
      rw [e1]
      split
      · simp [totS]; omega
      · have e2 : totS [hexP d.raw] = (hexP d.raw).length := by simp [totS]
        rw [e2, hexP_len]; omega
theorem show_fine {t : Int} {d : Dt} (hd : d.wf) (hg : goodB t d = true) : ∀ (f : List UInt8) (k : Nat), (∀ c ∈ f, c ∈ formS t) → (∀ x ∈ showL d f k, 0 < x.length) ∧ totS (showL d f k) ≤ f.length * 1000000
  | [], k, _ => by simp [showL, totS]
  | c :: f, k, h => by
    obtain ⟨a1, a2⟩ := elem_fine hd hg (h c (by simp)) k
    obtain ⟨b1, b2⟩ := show_fine hd hg f (if isN c = true then k + 1 else k) (fun x hx => h x (by simp [hx]))
    refine ⟨fun x hx => ?_, ?_⟩
    · rw [showL] at hx
      rcases List.mem_append.1 hx with hx | hx
      · exact a1 x hx
      · exact b1 x hx
    · rw [showL, totS_app, List.length_cons, Nat.succ_mul]; omega
theorem show_some (t : Int) (d : Dt) (hg : goodB t d = true) : 0 < (showL d (formS t) 0).length := by
  obtain ⟨gh, gm, ga, gq, gx, graw⟩ := good_by hg
  have hne : ∀ c k, c ∈ formS t → 0 < (elemS d c k).length := by
    intro c k hc
    unfold elemS
    split
    · simp
    split
    · simp
    split
    · simp
    split
    · simp
    split
    · simp
    split
    · rename_i h
      have hok := gx c hc h
      cases h : txts d.raw with
      | none => rw [txOk_none h] at hok; cases hok
      | some L =>
        cases L with
        | nil => rw [txOk_nil h] at hok; cases hok
        | cons a b => simp
    · simp
  cases hf : formS t with
  | nil =>
    exfalso
    rcases kinds_cases t with rfl | rfl | rfl | rfl | rfl | rfl | rfl | rfl | rfl | ht
    case inr.inr.inr.inr.inr.inr.inr.inr.inr => rw [formS_o ht] at hf; cases hf
    all_goals (revert hf; decide)
  | cons c f =>
    have := hne c 0 (by rw [hf]; simp)
    rw [showL, List.length_append]; omega
/-- A row of n texts of which j are written. -/
def rowS (A : List (List UInt8)) (n j : Nat) : List AV := strs (A.take j) ++ List.replicate (n - j) (.str [])
theorem rowS_len {A : List (List UInt8)} {n j : Nat} (hA : A.length = n) (hj : j ≤ n) : (rowS A n j).length = n := by
  simp [rowS, strs]; omega
theorem rowS_end {A : List (List UInt8)} {n : Nat} (hA : A.length = n) : rowS A n n = strs A := by
  unfold rowS; rw [← hA, List.take_length]; simp
theorem rowS_put {A : List (List UInt8)} {n j : Nat} {x : List UInt8} (h : A[j]? = some x) (hj : j < n) : splice (rowS A n j) j [.str x] = rowS A n (j + 1) := by
  have hl : (strs (A.take j)).length = j := by have := (List.getElem?_eq_some_iff.1 h).1; simp [strs]; omega
  obtain ⟨m, hm⟩ : ∃ m, n - j = m + 1 := ⟨n - j - 1, by omega⟩
  unfold rowS splice
  rw [take_snoc h, hm, show n - (j + 1) = m by omega]
  rw [List.take_left' hl, List.length_singleton, List.replicate_succ, show j + 1 = (strs (A.take j)).length + 1 by omega, List.drop_append]
  simp [strs]

set_option maxRecDepth 20000 in
set_option maxHeartbeats 2000000 in
theorem rdata_Show (t : Int) (d : Dt) (H) (hk : Tk H) (ht : Tb H) (hdb : Db H) (hd : d.wf) (hg : goodB t d = true) : callK Tryd.prog 12 [.int .u16 t, .agg d.cells] H (fun q => q = (.tuple [.str (showS t d), .int .i64 0], H, z0)) := by
  refine callK_start (n := 169) (rs := [.tmp 4, .tmp 5]) Tryd.func12 rfl rfl rfl ?_
  intro σ hl ha
  have h0 := ha 0 (by simp)
  have h1 := ha 1 (by simp)
  clear ha
  simp only [Option.getD_some, List.getElem?_cons_zero, List.getElem?_cons_succ] at h0 h1
  have hck := fun k => rdata_Check t d (H ++ [.cells d.cells 37 .rw]) k (hk.old _) hd
  have hfm := fun k => rdata_form t (H ++ [.cells d.cells 37 .rw]) k (hk.old _)
  have hc0 : chk t d = 0 := if_pos hg
  rw [hc0] at hck
  obtain ⟨gh, gm, ga, gq, gx, graw⟩ := good_by hg
  simp only [go_sem, simprocAttr, hl, h0, h1, hck, hfm, Dt.l8, Dt.vc, Dt.len]
  refine go_rounds (fun (m : Nat) (st : St) => ∃ σ i v T e, m + i = (formS t).length ∧ st = ⟨σ, H ++ T, e⟩ ∧ T[0]? = some (.cells d.cells 37 .rw) ∧ T[1]? = some (.iter (formS t) i) ∧ GBuf H.length T v 9 1 (showL d ((formS t).take i) 0).length (strs (showL d ((formS t).take i) 0)) ∧ clean H.length e ∧ σ.length = 169 ∧ fr σ 3 = .ptr H.length 0 ∧ fr σ 6 = v ∧ fr σ 7 = .int .i64 ((cntN ((formS t).take i) : Nat)) ∧ fr σ 26 = .ptr (H.length + 1) 0) (formS t).length
    ⟨_, 0, .nils, [.cells d.cells 37 .rw, .iter (formS t) 0], _, rfl, rfl, rfl, rfl, .inl ⟨rfl, rfl, rfl⟩, ⟨rfl, rfl⟩, by simp only [go_sem, simprocAttr, hl], by simp only [go_sem, simprocAttr, hl], by simp only [go_sem, simprocAttr, hl], by simp only [go_sem, simprocAttr, hl]; rfl, by simp only [go_sem, simprocAttr, hl]⟩ ?_
  clear hl h0 h1 hck hfm
  rintro m _ ⟨σ, i, v, T, e, hm, rfl, hT0, hT1, hv, he, hl, h3, h6, h7, h26⟩
  have hfl := form_len t
  have hT1l := lt_of_get hT1
  have hb0 : (H ++ T)[H.length]? = some (.cells d.cells 37 .rw) := by rw [hp_new0]; exact hT0
  have hb1 : (H ++ T)[H.length + 1]? = some (.iter (formS t) i) := by rw [hp_new]; exact hT1
  have hd1 : decide (1 < T.length) = true := by simpa using hT1l
  by_cases hlt : i < (formS t).length
  · obtain ⟨c, hc⟩ : ∃ c, (formS t)[i]? = some c := ⟨_, List.getElem?_eq_getElem hlt⟩
    have hcm := List.mem_of_getElem? hc
    have hsl := showL_take (d := d) hc
    have hcn := cntN_snoc hc
    have hLl := showL_len d hd ((formS t).take i) 0
    rw [List.length_take] at hLl
    have hkl : cntN ((formS t).take i) ≤ 7 := by
      have := List.length_filter_le isN ((formS t).take i)
      rw [List.length_take] at this
      unfold cntN; omega
    generalize hK : cntN ((formS t).take i) = K at *
    generalize hL1 : showL d ((formS t).take i) 0 = L1 at *
    have hLb : L1.length ≤ 7340053 := by omega
    -- memory behind the next round's start
    generalize hT' : T.set 1 (.iter (formS t) (i + 1)) = T' at *
    obtain ⟨q, hq⟩ : ∃ q, T.length = q := ⟨_, rfl⟩
    have hT'l : T'.length = q := by rw [← hT', List.length_set, hq]
    have hnew : ∀ (x : ABlk) (l : Hp), (T' ++ x :: l)[q]? = some x := fun x l => by rw [← hT'l, List.getElem?_append_right (Nat.le_refl _)]; simp
    have hset : ∀ (x y : ABlk), (T' ++ [x]).set q y = T' ++ [y] := fun x y => by rw [← hT'l, List.set_append_right _ _ (Nat.le_refl _)]; simp
    have hT'0 : T'[0]? = some (.cells d.cells 37 .rw) := by rw [← hT', List.getElem?_set_ne (by decide)]; exact hT0
    have hT'1 : T'[1]? = some (.iter (formS t) (i + 1)) := by rw [← hT', List.getElem?_set_self hT1l]
    have hv' : GBuf H.length T' v 9 1 L1.length (strs L1) := by
      obtain h | ⟨g1, g2, m, rfl, g3⟩ := hv
      · exact .inl h
      · refine .inr ⟨g1, g2, m, rfl, ?_⟩
        rw [← hT', List.getElem?_set_ne]
        · exact g3
        · rintro rfl; rw [hT1] at g3; cases g3
    have hv0 : ∀ m n, v = .slice (H.length + m) 0 n (.op 0) → 0 ≠ m ∧ 1 ≠ m := by
      intro m n hvm
      obtain ⟨rfl, _⟩ | ⟨g1, g2, m', rfl, g3⟩ := hv'
      · cases hvm
      · injection hvm with q1 q2 q3 q4
        have : m' = m := by omega
        subst this
        refine ⟨?_, ?_⟩
        · rintro rfl; rw [hT'0] at g3; injection g3 with g; injection g with _ g _; exact absurd g (by decide)
        · rintro rfl; rw [hT'1] at g3; cases g3
    have hbo : ∀ l : Hp, (T' ++ l)[0]? = some (.cells d.cells 37 .rw) := fun l => get_app hT'0
    -- what a round leaves that adds texts
    have fin : ∀ (xs : List (List UInt8)) (K' : Nat) (T2 : Hp) (w : AV) (σ' : List AV) (e' : Ef), elemS d c K = xs → K' = K + (if isN c = true then 1 else 0) → T2[0]? = some (.cells d.cells 37 .rw) → T2[1]? = some (.iter (formS t) (i + 1)) →
        GBuf H.length T2 w 9 1 (L1.length + xs.length) (strs L1 ++ strs xs) → clean H.length e' → σ'.length = 169 → fr σ' 3 = .ptr H.length 0 → fr σ' 6 = w → fr σ' 7 = .int .i64 (K' : Nat) → fr σ' 26 = .ptr (H.length + 1) 0 →
        ∃ m', m' < m ∧ (fun (m : Nat) (st : St) => ∃ σ i v T e, m + i = (formS t).length ∧ st = ⟨σ, H ++ T, e⟩ ∧ T[0]? = some (.cells d.cells 37 .rw) ∧ T[1]? = some (.iter (formS t) i) ∧ GBuf H.length T v 9 1 (showL d ((formS t).take i) 0).length (strs (showL d ((formS t).take i) 0)) ∧ clean H.length e ∧ σ.length = 169 ∧ fr σ 3 = .ptr H.length 0 ∧ fr σ 6 = v ∧ fr σ 7 = .int .i64 ((cntN ((formS t).take i) : Nat)) ∧ fr σ 26 = .ptr (H.length + 1) 0) m' ⟨σ', H ++ T2, e'⟩ := by
      intro xs K' T2 w σ' e' hx hK' q0 q1 qb qe ql q3 q6 q7 q26
      refine ⟨m - 1, by omega, σ', i + 1, w, T2, e', by omega, rfl, q0, q1, ?_, qe, ql, q3, q6, by rw [hcn, ← hK']; exact q7, q26⟩
      rw [hsl, hx]
      simpa [strs] using qb
    rcases form_in t c hcm with rfl | rfl | rfl | hN | rfl | rfl | rfl | rfl
    · have hit : strIter (formS t) i = (.tuple [.bool true, .int .i64 (i : Nat), .int .i32 104], i + 1) := by rw [strIter_a (form_a t), itN_s hc]; rfl
      have hel : elemS d 104 K = [txtN d.host] := by unfold elemS; rw [if_pos (.inl rfl)]
      have htx := fun H k => name_Text d.host H k (by have := hd.host; show _ ≤ 9223372036854775807; omega)
      obtain ⟨T2, e2, happ, _, c2, k2, _, b2⟩ := (hv'.more [.cells [.str (txtN d.host)] 9 .rw]).app3 (P := Tryd.prog) (b := 16) (by decide) zok_64 [.str (txtN d.host)] 1 (by decide) rfl rfl (by simp only [fits, decide_eq_true_eq]; omega)
      simp only [go_sem, simprocAttr, hl, h3, h6, h7, h26, hb0, hb1, hT0, hT1, hT', hT'0, hT'l, hq, hnew, hbo, hd1, Dt.l0, Dt.l1, Dt.l2, hit, bslice_str, happ, htx]
      exact fin _ (K) _ _ _ _ hel rfl (k2 0 _ (hbo _) (fun m n h => (hv0 m n h).1)) (k2 1 _ (get_app hT'1) (fun m n h => (hv0 m n h).2)) b2 (by simp only [go_sem, simprocAttr, he, c2]) (by simp only [go_sem, simprocAttr, hl]) (by simp only [go_sem, simprocAttr, hl, h3]) (by simp only [go_sem, simprocAttr, hl, hT'l]) (by simp only [go_sem, simprocAttr, hl, h7]) (by simp only [go_sem, simprocAttr, hl, h26])
    · have hit : strIter (formS t) i = (.tuple [.bool true, .int .i64 (i : Nat), .int .i32 112], i + 1) := by rw [strIter_a (form_a t), itN_s hc]; rfl
      have hel : elemS d 112 K = [txtN d.host] := by unfold elemS; rw [if_pos (.inr rfl)]
      have htx := fun H k => name_Text d.host H k (by have := hd.host; show _ ≤ 9223372036854775807; omega)
      obtain ⟨T2, e2, happ, _, c2, k2, _, b2⟩ := (hv'.more [.cells [.str (txtN d.host)] 9 .rw]).app3 (P := Tryd.prog) (b := 16) (by decide) zok_64 [.str (txtN d.host)] 1 (by decide) rfl rfl (by simp only [fits, decide_eq_true_eq]; omega)
      simp only [go_sem, simprocAttr, hl, h3, h6, h7, h26, hb0, hb1, hT0, hT1, hT', hT'0, hT'l, hq, hnew, hbo, hd1, Dt.l0, Dt.l1, Dt.l2, hit, bslice_str, happ, htx]
      exact fin _ (K) _ _ _ _ hel rfl (k2 0 _ (hbo _) (fun m n h => (hv0 m n h).1)) (k2 1 _ (get_app hT'1) (fun m n h => (hv0 m n h).2)) b2 (by simp only [go_sem, simprocAttr, he, c2]) (by simp only [go_sem, simprocAttr, hl]) (by simp only [go_sem, simprocAttr, hl, h3]) (by simp only [go_sem, simprocAttr, hl, hT'l]) (by simp only [go_sem, simprocAttr, hl, h7]) (by simp only [go_sem, simprocAttr, hl, h26])
    · have hit : strIter (formS t) i = (.tuple [.bool true, .int .i64 (i : Nat), .int .i32 109], i + 1) := by rw [strIter_a (form_a t), itN_s hc]; rfl
      have hel : elemS d 109 K = [txtN d.mail] := by unfold elemS; rw [if_neg (by decide), if_pos rfl]
      have htx := fun H k => name_Text d.mail H k (by have := hd.mail; show _ ≤ 9223372036854775807; omega)
      obtain ⟨T2, e2, happ, _, c2, k2, _, b2⟩ := (hv'.more [.cells [.str (txtN d.mail)] 9 .rw]).app3 (P := Tryd.prog) (b := 16) (by decide) zok_64 [.str (txtN d.mail)] 1 (by decide) rfl rfl (by simp only [fits, decide_eq_true_eq]; omega)
      simp only [go_sem, simprocAttr, hl, h3, h6, h7, h26, hb0, hb1, hT0, hT1, hT', hT'0, hT'l, hq, hnew, hbo, hd1, Dt.l0, Dt.l1, Dt.l2, hit, bslice_str, happ, htx]
      exact fin _ (K) _ _ _ _ hel rfl (k2 0 _ (hbo _) (fun m n h => (hv0 m n h).1)) (k2 1 _ (get_app hT'1) (fun m n h => (hv0 m n h).2)) b2 (by simp only [go_sem, simprocAttr, he, c2]) (by simp only [go_sem, simprocAttr, hl]) (by simp only [go_sem, simprocAttr, hl, h3]) (by simp only [go_sem, simprocAttr, hl, hT'l]) (by simp only [go_sem, simprocAttr, hl, h7]) (by simp only [go_sem, simprocAttr, hl, h26])
    · have hK5 : K < 5 := by rw [← hK]; exact cnt_le hc hN
      obtain ⟨nn, hnn, hnl⟩ : ∃ nn : Nat, d.n K = (nn : Int) ∧ nn < 4294967296 := by
        have : is32 (d.n K) := by
          have : K = 0 ∨ K = 1 ∨ K = 2 ∨ K = 3 ∨ K = 4 := by omega
          rcases this with rfl | rfl | rfl | rfl | rfl
          · exact hd.n0
          · exact hd.n1
          · exact hd.n2
          · exact hd.n3
          · exact hd.n4
        exact ⟨(d.n K).toNat, by have := this.1; omega, by have := this.2; have := this; omega⟩
      have hld := fun e k => d.at hK5 e k
      rw [hnn] at hld
      have hel : elemS d c K = [decP nn] := by
        have h1 : c = 115 ∨ c = 108 := by simpa [isN] using hN
        unfold elemS
        rw [if_neg (by rcases h1 with rfl | rfl <;> decide), if_neg (by rcases h1 with rfl | rfl <;> decide), if_pos hN, hnn]; rfl
      have hfu := fun l k => fmt_uint nn (H ++ l) k (ht.old l) hnl
      have w1 : IntKind.u64.wrap (nn : Int) = (nn : Int) := wrap_u64 (by omega)
      have w2 : IntKind.i64.wrap ((K : Int) + 1) = ((K + 1 : Nat) : Int) := by rw [wrap_i64 (by omega)]; omega
      have hK' : K + 1 = K + (if isN c = true then 1 else 0) := by rw [if_pos hN]
      obtain ⟨T2, e2, happ, _, c2, k2, _, b2⟩ := (hv'.more [.cells [.str (decP nn)] 9 .rw]).app3 (P := Tryd.prog) (b := 16) (by decide) zok_64 [.str (decP nn)] 1 (by decide) rfl rfl (by simp only [fits, decide_eq_true_eq]; omega)
      have h1 : c = 115 ∨ c = 108 := by simpa [isN] using hN
      rcases h1 with rfl | rfl
      · have hit : strIter (formS t) i = (.tuple [.bool true, .int .i64 (i : Nat), .int .i32 115], i + 1) := by rw [strIter_a (form_a t), itN_s hc]; rfl
        simp only [go_sem, simprocAttr, hl, h3, h6, h7, h26, hb0, hb1, hT0, hT1, hT', hT'0, hT'l, hq, hnew, hbo, hd1, Dt.l0, Dt.l1, Dt.l2, hit, bslice_str, happ, hld, hfu, w1, w2, hK5]
        exact ⟨by omega, fin _ (K + 1) _ _ _ _ hel hK' (k2 0 _ (hbo _) (fun m n h => (hv0 m n h).1)) (k2 1 _ (get_app hT'1) (fun m n h => (hv0 m n h).2)) b2 (by simp only [go_sem, simprocAttr, he, c2]) (by simp only [go_sem, simprocAttr, hl]) (by simp only [go_sem, simprocAttr, hl, h3]) (by simp only [go_sem, simprocAttr, hl, hT'l]) (by simp only [go_sem, simprocAttr, hl, h7]) (by simp only [go_sem, simprocAttr, hl, h26])⟩
      · have hit : strIter (formS t) i = (.tuple [.bool true, .int .i64 (i : Nat), .int .i32 108], i + 1) := by rw [strIter_a (form_a t), itN_s hc]; rfl
        simp only [go_sem, simprocAttr, hl, h3, h6, h7, h26, hb0, hb1, hT0, hT1, hT', hT'0, hT'l, hq, hnew, hbo, hd1, Dt.l0, Dt.l1, Dt.l2, hit, bslice_str, happ, hld, hfu, w1, w2, hK5]
        exact ⟨by omega, fin _ (K + 1) _ _ _ _ hel hK' (k2 0 _ (hbo _) (fun m n h => (hv0 m n h).1)) (k2 1 _ (get_app hT'1) (fun m n h => (hv0 m n h).2)) b2 (by simp only [go_sem, simprocAttr, he, c2]) (by simp only [go_sem, simprocAttr, hl]) (by simp only [go_sem, simprocAttr, hl, h3]) (by simp only [go_sem, simprocAttr, hl, hT'l]) (by simp only [go_sem, simprocAttr, hl, h7]) (by simp only [go_sem, simprocAttr, hl, h26])⟩
    · -- 97
      have hit : strIter (formS t) i = (.tuple [.bool true, .int .i64 (i : Nat), .int .i32 97], i + 1) := by rw [strIter_a (form_a t), itN_s hc]; rfl
      have hel : elemS d 97 K = [joinS [46] (decA d.raw)] := by unfold elemS; rw [if_neg (by decide), if_neg (by decide), if_neg (by decide), if_pos rfl]
      have hrl := ga _ hcm rfl
      have hAl : (decA d.raw).length = 4 := by simp [decA, hrl]
      have hr0 : (List.replicate 4 (AV.str [])) = rowS (decA d.raw) 4 0 := rfl
      have hz : ([AV.str [], AV.str [], AV.str [], AV.str []] : List AV) = rowS (decA d.raw) 4 0 := rfl
      simp only [go_sem, simprocAttr, hl, h3, h6, h7, h26, hb0, hb1, hT0, hT1, hT', hT'0, hT'l, hq, hnew, hbo, hd1, Dt.l0, Dt.l1, Dt.l2, hit, hz]
      refine go_rounds (fun (r : Nat) (st : St) => ∃ σ j e, r + j = 4 ∧ st = ⟨σ, H ++ (T' ++ [.cells (rowS (decA d.raw) 4 j) 68 .rw]), e⟩ ∧ clean H.length e ∧ σ.length = 169 ∧ fr σ 3 = .ptr H.length 0 ∧ fr σ 6 = v ∧ fr σ 7 = .int .i64 (K : Nat) ∧ fr σ 26 = .ptr (H.length + 1) 0 ∧ fr σ 10 = .ptr (H.length + q) 0 ∧ fr σ 99 = .int .i64 (j : Nat)) 4
        ⟨_, 0, _, rfl, rfl, by simp only [go_sem, simprocAttr, he], by simp only [go_sem, simprocAttr, hl], by simp only [go_sem, simprocAttr, hl, h3], by simp only [go_sem, simprocAttr, hl, h6], by simp only [go_sem, simprocAttr, hl, h7], by simp only [go_sem, simprocAttr, hl, h26], by simp only [go_sem, simprocAttr, hl], by simp only [go_sem, simprocAttr, hl]⟩ ?_
      clear hl h3 h6 h7 h26 he
      rintro r _ ⟨σ, j, e, hr, rfl, he, hl, h3, h6, h7, h26, ha, hj⟩
      by_cases hjn : j < 4
      · obtain ⟨b, hb⟩ : ∃ b, d.raw[j]? = some b := ⟨_, List.getElem?_eq_getElem (by omega)⟩
        have hA : (decA d.raw)[j]? = some (decP b.toNat) := by simp [decA, hb]
        have hbl := b.toNat_lt
        have hit2 := fun l k => itoa b.toNat (H ++ l) k (ht.old l) (by omega)
        have hput := rowS_put (n := 4) hA hjn
        have hrwl := rowS_len (A := decA d.raw) (n := 4) (j := j) (by omega) (by omega)
        have w1 : IntKind.i64.wrap (b.toNat : Int) = (b.toNat : Int) := wrap_i64 (by omega)
        have hw := wrap_succ (show j < 9223372036854775807 by omega)
        have hjr : j < d.raw.length := by omega
        have hjd : decide ((j : Int) < 4) = true := by simp; omega
        have dq : decide (q < T'.length + 1) = true := by simp; omega
        simp only [go_sem, simprocAttr, hl, h3, h6, h7, h26, ha, hj, hT'l, hq, hnew, hbo, Dt.l0, hb, hit2, hput, hrwl, w1, hw, hjn, hjr, hjd]
        exact ⟨by omega, by omega, r - 1, by omega, _, j + 1, _, by omega, by rw [hset], by simp only [go_sem, simprocAttr, he], by simp only [go_sem, simprocAttr, hl], by simp only [go_sem, simprocAttr, hl, h3], by simp only [go_sem, simprocAttr, hl, h6], by simp only [go_sem, simprocAttr, hl, h7], by simp only [go_sem, simprocAttr, hl, h26], by simp only [go_sem, simprocAttr, hl, ha], by simp only [go_sem, simprocAttr, hl]⟩
      · have hj4 : j = 4 := by omega
        subst hj4
        have hrow : rowS (decA d.raw) 4 4 = strs (decA d.raw) := rowS_end hAl
        rw [hrow]
        have hsv : Sv (H ++ (T' ++ [.cells (strs (decA d.raw)) 68 .rw])) (.slice (H.length + q) 0 4 (.ex 4)) (decA d.raw) := ⟨_, _, 68, .rw, by rw [hAl], by rw [hp_new]; exact hnew _ _, .inl (by rw [hAl]), by omega⟩
        have hjo := fun k => s_Join [46] (decA d.raw) _ _ k hsv (by decide) (by decide) (by omega) (by intro x hx; simp only [decA, List.mem_map] at hx; obtain ⟨b, _, rfl⟩ := hx; exact decP_pos _) (by have := totS_le (decA d.raw) 256 (by intro x hx; simp only [decA, List.mem_map] at hx; obtain ⟨b, _, rfl⟩ := hx; have := decP_le b.toNat; have := b.toNat_lt; omega); omega)
        obtain ⟨T2, e2, happ, _, c2, k2, _, b2⟩ := (hv'.more [.cells (strs (decA d.raw)) 68 .rw, .cells [.str (joinS [46] (decA d.raw))] 9 .rw]).app3 (P := Tryd.prog) (b := 16) (by decide) zok_64 [.str (joinS [46] (decA d.raw))] 1 (by decide) rfl rfl (by simp only [fits, decide_eq_true_eq]; omega)
        have hnew2 : ∀ (x y : ABlk), (T' ++ [x, y])[q + 1]? = some y := fun x y => by rw [← hT'l, List.getElem?_append_right (by omega)]; simp
        simp only [go_sem, simprocAttr, hl, h3, h6, h7, h26, ha, hj, hT'l, hq, hnew, hnew2, hbo, bslice_str, hjo, happ]
        exact fin _ (K) _ _ _ _ hel rfl (k2 0 _ (by exact hbo _) (fun m n h => (hv0 m n h).1)) (k2 1 _ (get_app hT'1) (fun m n h => (hv0 m n h).2)) b2 (by simp only [go_sem, simprocAttr, he, c2]) (by simp only [go_sem, simprocAttr, hl]) (by simp only [go_sem, simprocAttr, hl, h3]) (by simp only [go_sem, simprocAttr, hl, hT'l]) (by simp only [go_sem, simprocAttr, hl, h7]) (by simp only [go_sem, simprocAttr, hl, h26])
    · -- 113
      have hit : strIter (formS t) i = (.tuple [.bool true, .int .i64 (i : Nat), .int .i32 113], i + 1) := by rw [strIter_a (form_a t), itN_s hc]; rfl
      have hel : elemS d 113 K = [joinS [58] (hexA d.raw)] := by unfold elemS; rw [if_neg (by decide), if_neg (by decide), if_neg (by decide), if_neg (by decide), if_pos rfl]
      have hrl := gq _ hcm rfl
      have hAl : (hexA d.raw).length = 8 := by simp [hexA, hrl]
      have hr0 : (List.replicate 8 (AV.str [])) = rowS (hexA d.raw) 8 0 := rfl
      have hz : ([AV.str [], AV.str [], AV.str [], AV.str [], AV.str [], AV.str [], AV.str [], AV.str []] : List AV) = rowS (hexA d.raw) 8 0 := rfl
      simp only [go_sem, simprocAttr, hl, h3, h6, h7, h26, hb0, hb1, hT0, hT1, hT', hT'0, hT'l, hq, hnew, hbo, hd1, Dt.l0, Dt.l1, Dt.l2, hit, hz]
      refine go_rounds (fun (r : Nat) (st : St) => ∃ σ j e, r + j = 8 ∧ st = ⟨σ, H ++ (T' ++ [.cells (rowS (hexA d.raw) 8 j) 71 .rw]), e⟩ ∧ clean H.length e ∧ σ.length = 169 ∧ fr σ 3 = .ptr H.length 0 ∧ fr σ 6 = v ∧ fr σ 7 = .int .i64 (K : Nat) ∧ fr σ 26 = .ptr (H.length + 1) 0 ∧ fr σ 12 = .ptr (H.length + q) 0 ∧ fr σ 118 = .int .i64 (j : Nat)) 8
        ⟨_, 0, _, rfl, rfl, by simp only [go_sem, simprocAttr, he], by simp only [go_sem, simprocAttr, hl], by simp only [go_sem, simprocAttr, hl, h3], by simp only [go_sem, simprocAttr, hl, h6], by simp only [go_sem, simprocAttr, hl, h7], by simp only [go_sem, simprocAttr, hl, h26], by simp only [go_sem, simprocAttr, hl], by simp only [go_sem, simprocAttr, hl]⟩ ?_
      clear hl h3 h6 h7 h26 he
      rintro r _ ⟨σ, j, e, hr, rfl, he, hl, h3, h6, h7, h26, ha, hj⟩
      by_cases hjn : j < 8
      · obtain ⟨a, hxa⟩ : ∃ a, d.raw[2 * j]? = some a := ⟨_, List.getElem?_eq_getElem (by omega)⟩
        obtain ⟨b, hxb⟩ : ∃ b, d.raw[2 * j + 1]? = some b := ⟨_, List.getElem?_eq_getElem (by omega)⟩
        have hA : (hexA d.raw)[j]? = some (hexN (a.toNat * 256 + b.toNat)) := by simp [hexA, pairN, hxa, hxb, hjn]
        have hal := a.toNat_lt
        have hbl := b.toNat_lt
        have hit2 := fun l k => fmt_hex (a.toNat * 256 + b.toNat) (H ++ l) k (hdb.old l) (by omega)
        have hput := rowS_put (n := 8) hA hjn
        have hrwl := rowS_len (A := hexA d.raw) (n := 8) (j := j) (by omega) (by omega)
        have w0 : IntKind.i64.wrap (2 * (j : Int)) = ((2 * j : Nat) : Int) := by rw [wrap_i64 (by omega)]; omega
        have w1 : IntKind.i64.wrap (((2 * j : Nat) : Int) + 1) = ((2 * j + 1 : Nat) : Int) := by rw [wrap_i64 (by omega)]; omega
        have w2 : IntKind.u64.wrap (a.toNat : Int) = (a.toNat : Int) := wrap_u64 (by omega)
        have w3 : IntKind.u64.wrap (b.toNat : Int) = (b.toNat : Int) := wrap_u64 (by omega)
        have w4 : IntKind.u64.wrap ((a.toNat : Int) * 2 ^ (min 8 64)) = ((a.toNat * 256 : Nat) : Int) := by
          have e : (2 : Int) ^ (min 8 64) = 256 := by decide
          rw [e, wrap_u64 (by omega)]; omega
        have w5 : evInt .or .u64 ((a.toNat * 256 : Nat) : Int) (b.toNat : Int) = some (.int .u64 ((a.toNat * 256 + b.toNat : Nat) : Int)) := by
          have : (BitVec.ofInt 64 ((a.toNat * 256 : Nat) : Int) ||| BitVec.ofInt 64 (b.toNat : Int)).toNat = a.toNat * 256 + b.toNat := by
            rw [BitVec.toNat_or, BitVec.ofInt_natCast, BitVec.ofInt_natCast]
            simp only [BitVec.toNat_ofNat]
            rw [Nat.mod_eq_of_lt (show a.toNat * 256 < 2 ^ 64 by omega), Nat.mod_eq_of_lt (show b.toNat < 2 ^ 64 by omega)]
            have := Nat.shiftLeft_add_eq_or_of_lt (show b.toNat < 2 ^ 8 by omega) a.toNat
            rw [Nat.shiftLeft_eq] at this
            rw [← this]
          show some (AV.int .u64 (IntKind.u64.wrap ((BitVec.ofInt 64 ((a.toNat * 256 : Nat) : Int) ||| BitVec.ofInt 64 (b.toNat : Int)).toNat : Int))) = _
          rw [this, wrap_u64 (by omega)]
        have hw := wrap_succ (show j < 9223372036854775807 by omega)
        have hjr : 2 * j < d.raw.length := by omega
        have hjr2 : 2 * j + 1 < d.raw.length := by omega
        have hjd : decide ((j : Int) < 8) = true := by simp; omega
        have dq : decide (q < T'.length + 1) = true := by simp; omega
        simp only [go_sem, simprocAttr, hl, h3, h6, h7, h26, ha, hj, hT'l, hq, hnew, hbo, Dt.l0, hxa, hxb, hit2, hput, hrwl, w0, w1, w2, w3, w4, w5, hw, hjn, hjr, hjr2, hjd]
        refine go_drawZ tFollows (by kernel_rfl) ?_
        simp only [go_sem, simprocAttr, hl, h3, h6, h7, h26, ha, hj, hT'l, hq, hnew, hbo, Dt.l0, hxa, hxb, hit2, hput, hrwl, w0, w1, w2, w3, w4, w5, hw, hjn, hjr, hjr2, hjd]
        exact ⟨by omega, by omega, (by kernel_rfl : effOk _ _ _ = true), r - 1, by omega, _, j + 1, _, by omega, by rw [hset], by simp only [go_sem, simprocAttr, he], by simp only [go_sem, simprocAttr, hl], by simp only [go_sem, simprocAttr, hl, h3], by simp only [go_sem, simprocAttr, hl, h6], by simp only [go_sem, simprocAttr, hl, h7], by simp only [go_sem, simprocAttr, hl, h26], by simp only [go_sem, simprocAttr, hl, ha], by simp only [go_sem, simprocAttr, hl]⟩
      · have hj4 : j = 8 := by omega
        subst hj4
        have hrow : rowS (hexA d.raw) 8 8 = strs (hexA d.raw) := rowS_end hAl
        rw [hrow]
        have hsv : Sv (H ++ (T' ++ [.cells (strs (hexA d.raw)) 71 .rw])) (.slice (H.length + q) 0 8 (.ex 8)) (hexA d.raw) := ⟨_, _, 71, .rw, by rw [hAl], by rw [hp_new]; exact hnew _ _, .inl (by rw [hAl]), by omega⟩
        have hjo := fun k => s_Join [58] (hexA d.raw) _ _ k hsv (by decide) (by decide) (by omega) (by intro x hx; simp only [hexA, List.mem_map] at hx; obtain ⟨b, _, rfl⟩ := hx; exact hexN_pos _) (by have := totS_le (hexA d.raw) 65536 (by intro x hx; simp only [hexA, List.mem_map] at hx; obtain ⟨b, _, rfl⟩ := hx; have h1 := hexN_le (pairN d.raw b); have h2 : pairN d.raw b ≤ 65535 := (by unfold pairN; have := ((d.raw[2 * b]?).getD 0).toNat_lt; have := ((d.raw[2 * b + 1]?).getD 0).toNat_lt; omega); omega); omega)
        obtain ⟨T2, e2, happ, _, c2, k2, _, b2⟩ := (hv'.more [.cells (strs (hexA d.raw)) 71 .rw, .cells [.str (joinS [58] (hexA d.raw))] 9 .rw]).app3 (P := Tryd.prog) (b := 16) (by decide) zok_64 [.str (joinS [58] (hexA d.raw))] 1 (by decide) rfl rfl (by simp only [fits, decide_eq_true_eq]; omega)
        have hnew2 : ∀ (x y : ABlk), (T' ++ [x, y])[q + 1]? = some y := fun x y => by rw [← hT'l, List.getElem?_append_right (by omega)]; simp
        simp only [go_sem, simprocAttr, hl, h3, h6, h7, h26, ha, hj, hT'l, hq, hnew, hnew2, hbo, bslice_str, hjo, happ]
        exact fin _ (K) _ _ _ _ hel rfl (k2 0 _ (by exact hbo _) (fun m n h => (hv0 m n h).1)) (k2 1 _ (get_app hT'1) (fun m n h => (hv0 m n h).2)) b2 (by simp only [go_sem, simprocAttr, he, c2]) (by simp only [go_sem, simprocAttr, hl]) (by simp only [go_sem, simprocAttr, hl, h3]) (by simp only [go_sem, simprocAttr, hl, hT'l]) (by simp only [go_sem, simprocAttr, hl, h7]) (by simp only [go_sem, simprocAttr, hl, h26])
    · have hit : strIter (formS t) i = (.tuple [.bool true, .int .i64 (i : Nat), .int .i32 120], i + 1) := by rw [strIter_a (form_a t), itN_s hc]; rfl
      have hel : elemS d 120 K = ((txts d.raw).getD []).map quoP := by unfold elemS; rw [if_neg (by decide), if_neg (by decide), if_neg (by decide), if_neg (by decide), if_neg (by decide), if_pos rfl]
      have hok := gx _ hcm rfl
      obtain ⟨L, hL, hLn⟩ : ∃ L, txts d.raw = some L ∧ L ≠ [] := by
        cases h : txts d.raw with
        | none => rw [txOk_none h] at hok; cases hok
        | some L =>
          cases L with
          | nil => rw [txOk_nil h] at hok; cases hok
          | cons a b => exact ⟨_, rfl, by simp⟩
      rw [hL] at hel
      simp only [Option.getD_some] at hel
      obtain ⟨⟨bv, bT⟩, hb, htx⟩ := rdata_texts d.raw (H ++ T') hd.raw
      have hB := hb L hL hLn
      obtain ⟨rfl, _, h3'⟩ | ⟨g1, g2, bm, hbv, g3⟩ := hB
      · exact absurd (List.length_eq_zero_iff.1 h3') hLn
      simp only at hbv g3 htx
      subst hbv
      have hLl2 := txts_len hL
      have htx : ∀ k, callK Tryd.prog 35 [.str d.raw] (H ++ T') k = k (.tuple [.slice (H.length + (q + bm)) 0 L.length (.op 0), .bool (txOk d.raw)], H ++ (T' ++ bT), z0) := by
        intro k; rw [htx, List.length_append, hT'l, List.append_assoc, Nat.add_assoc]
      have g3' : (T' ++ bT)[q + bm]? = some (.cells (strs L) 9 (.op 0 false)) := by rw [← hT'l, List.getElem?_append_right (by omega), Nat.add_sub_cancel_left]; exact g3
      have hvB := hv'.more bT
      have hvm : ∀ m n, v = .slice (H.length + m) 0 n (.op 0) → m < q := by
        intro m n hvm
        obtain ⟨rfl, _⟩ | ⟨g1, g2, m', rfl, g3⟩ := hv'
        · cases hvm
        · injection hvm with q1 q2 q3 q4
          have := lt_of_get g3
          omega
      simp only [go_sem, simprocAttr, hl, h3, h6, h7, h26, hb0, hb1, hT0, hT1, hT', hT'0, hT'l, hq, hbo, hd1, Dt.l0, Dt.l1, Dt.l2, hit, htx]
      refine go_rounds (fun (r : Nat) (st : St) => ∃ σ j v T e, r + j = L.length ∧ st = ⟨σ, H ++ T, e⟩ ∧ T[0]? = some (.cells d.cells 37 .rw) ∧ T[1]? = some (.iter (formS t) (i + 1)) ∧ T[q + bm]? = some (.cells (strs L) 9 (.op 0 false)) ∧ (∀ m n, v = .slice (H.length + m) 0 n (.op 0) → 0 ≠ m ∧ 1 ≠ m ∧ q + bm ≠ m) ∧
          GBuf H.length T v 9 1 (L1.length + j) (strs L1 ++ strs ((L.take j).map quoP)) ∧ clean H.length e ∧ σ.length = 169 ∧ fr σ 3 = .ptr H.length 0 ∧ fr σ 6 = v ∧ fr σ 7 = .int .i64 (K : Nat) ∧ fr σ 26 = .ptr (H.length + 1) 0 ∧ fr σ 153 = .slice (H.length + (q + bm)) 0 L.length (.op 0) ∧ fr σ 154 = .int .i64 L.length ∧ fr σ 155 = .int .i64 (j : Nat)) L.length
        ⟨_, 0, v, T' ++ bT, _, rfl, rfl, get_app hT'0, get_app hT'1, g3', fun m n h => ⟨(hv0 m n h).1, (hv0 m n h).2, by have := hvm m n h; omega⟩, by simpa [strs] using hvB, by simp only [go_sem, simprocAttr, he], by simp only [go_sem, simprocAttr, hl], by simp only [go_sem, simprocAttr, hl, h3], by simp only [go_sem, simprocAttr, hl, h6], by simp only [go_sem, simprocAttr, hl, h7], by simp only [go_sem, simprocAttr, hl, h26], by simp only [go_sem, simprocAttr, hl], by simp only [go_sem, simprocAttr, hl], by simp only [go_sem, simprocAttr, hl]⟩ ?_
      clear hl h3 h6 h7 h26 he
      rintro r _ ⟨σ, j, v, T, e, hr, rfl, hT0, hT1, hTb, hvn, hv, he, hl, h3, h6, h7, h26, h153, h154, h155⟩
      by_cases hjn : j < L.length
      · obtain ⟨x, hx⟩ : ∃ x, L[j]? = some x := ⟨_, List.getElem?_eq_getElem hjn⟩
        have hxl : x.length ≤ 1048576 := by
          have h1 := totS_snoc hx
          have h2 := totS_take L (j + 1)
          have := hd.raw
          omega
        have hxl2 : x.length ≤ 65535 := by
          have h1 := totS_snoc hx
          have h2 := totS_take L (j + 1)
          omega
        have hld := strs_ld hx
        have hbb : (H ++ T)[H.length + (q + bm)]? = some (.cells (strs L) 9 (.op 0 false)) := by rw [hp_new]; exact hTb
        have hE := fun H' k => name_Escape x true H' k (by omega)
        have hEl := escS_len true x
        have a1 := add_ok (a := [34]) (b := escS true x) (m := 1) (n := 262140) (by simp) (by omega) (by omega)
        have a2 := add_ok (a := [34] ++ escS true x) (b := [34]) (m := 262141) (n := 1) (by rw [List.length_append, List.length_singleton]; omega) (by simp) (by omega)
        obtain ⟨T2, e2, happ, hT2l, c2, k2, _, b2⟩ := (hv.more [.cells [.str (quoP x)] 9 .rw]).app3 (P := Tryd.prog) (b := 16) (by decide) zok_64 [.str (quoP x)] 1 (by decide) rfl rfl (by simp only [fits, decide_eq_true_eq]; omega)
        have hw := wrap_succ (show j < 9223372036854775807 by omega)
        have hqp : 34 :: (escS true x ++ [34]) = quoP x := rfl
        simp only [go_sem, simprocAttr, hl, h3, h6, h7, h26, h153, h154, h155, hTb, hbb, hld, hE, a1, a2, hw, hjn, bslice_str, hqp, happ]
        have hbl := lt_of_get hTb
        have h1l := lt_of_get hT1
        refine ⟨by show _ ≤ 9223372036854775807; omega, r - 1, by omega, _, j + 1, _, T2, _, by omega, rfl, k2 0 _ (get_app hT0) (fun m n h => (hvn m n h).1), k2 1 _ (get_app hT1) (fun m n h => (hvn m n h).2.1), k2 _ _ (get_app hTb) (fun m n h => (hvn m n h).2.2), ?_, ?_, by simp only [go_sem, simprocAttr, he, c2], by simp only [go_sem, simprocAttr, hl], by simp only [go_sem, simprocAttr, hl, h3], by simp only [go_sem, simprocAttr, hl]; rfl, by simp only [go_sem, simprocAttr, hl, h7], by simp only [go_sem, simprocAttr, hl, h26], by simp only [go_sem, simprocAttr, hl, h153], by simp only [go_sem, simprocAttr, hl, h154], by simp only [go_sem, simprocAttr, hl]⟩
        · intro m n h
          injection h with z1 z2 z3 z4
          refine ⟨?_, ?_, ?_⟩ <;> omega
        · rw [take_snoc hx]
          simpa [strs, Nat.add_assoc] using b2
      · have hjL : j = L.length := by omega
        subst hjL
        rw [List.take_length] at hv
        simp only [go_sem, simprocAttr, hl, h3, h6, h7, h26, h153, h154, h155, hjn]
        exact fin _ K _ _ _ _ hel rfl hT0 hT1 (by simpa using hv) (by simp only [go_sem, simprocAttr, he]) (by simp only [go_sem, simprocAttr, hl]) (by simp only [go_sem, simprocAttr, hl, h3]) (by simp only [go_sem, simprocAttr, hl, h6]) (by simp only [go_sem, simprocAttr, hl, h7]) (by simp only [go_sem, simprocAttr, hl, h26])
    · have hit : strIter (formS t) i = (.tuple [.bool true, .int .i64 (i : Nat), .int .i32 114], i + 1) := by rw [strIter_a (form_a t), itN_s hc]; rfl
      have hi1 := fun l k => itoa d.raw.length (H ++ l) k (ht.old l) (by omega)
      obtain ⟨T2, e2, happ, hT2l, c2, k2, g2, b2⟩ := (hv'.more [.cells [.str [92, 35], .str (decP d.raw.length)] 9 .rw]).app3 (P := Tryd.prog) (b := 16) (by decide) zok_64 [.str [92, 35], .str (decP d.raw.length)] 2 (by decide) rfl rfl (by simp only [fits, decide_eq_true_eq]; omega)
      have q0 := k2 0 _ (hbo _) (fun m n h => (hv0 m n h).1)
      have q1 := k2 1 _ (get_app hT'1) (fun m n h => (hv0 m n h).2)
      have hT2l : T2.length = q + 2 := by rw [hT2l, List.length_append, hT'l]; rfl
      have hbs2 : ∀ (a b : List UInt8) (H : Hp), evBuildSlice Tryd.prog 64 2 [(0, .str a), (1, .str b)] H = some (.slice H.length 0 2 (.ex 2), H ++ [.cells [.str a, .str b] 9 .rw]) := by
        intro a b H
        simp only [evBuildSlice, tsh_64, tzero_9, Option.bind_some]
        rfl
      have q0l : ∀ l : Hp, (T2 ++ l)[0]? = some (.cells d.cells 37 .rw) := fun l => get_app q0
      by_cases hr0 : d.raw = []
      · have hel : elemS d 114 K = [[92, 35], decP d.raw.length] := by unfold elemS; rw [if_neg (by decide), if_neg (by decide), if_neg (by decide), if_neg (by decide), if_neg (by decide), if_neg (by decide), if_pos hr0]; rfl
        have hne : (d.raw == []) = true := by simp [hr0]
        simp only [go_sem, simprocAttr, hl, h3, h6, h7, h26, hb0, hb1, hT0, hT1, hT', hT'0, hT'l, hq, hnew, hbo, hd1, Dt.l0, Dt.l1, Dt.l2, hit, hi1, hbs2, happ, q0, hne]
        exact fin _ K _ _ _ _ hel rfl q0 q1 b2 (by simp only [go_sem, simprocAttr, he, c2]) (by simp only [go_sem, simprocAttr, hl]) (by simp only [go_sem, simprocAttr, hl, h3]) (by simp only [go_sem, simprocAttr, hl, hT'l]) (by simp only [go_sem, simprocAttr, hl, h7]) (by simp only [go_sem, simprocAttr, hl, h26])
      · have hel : elemS d 114 K = [[92, 35], decP d.raw.length, hexP d.raw] := by unfold elemS; rw [if_neg (by decide), if_neg (by decide), if_neg (by decide), if_neg (by decide), if_neg (by decide), if_neg (by decide), if_neg hr0]; rfl
        have hne : (d.raw == []) = false := by simp [hr0]
        simp only [go_sem, simprocAttr, hl, h3, h6, h7, h26, hb0, hb1, hT0, hT1, hT', hT'0, hT'l, hq, hnew, hbo, hd1, Dt.l0, Dt.l1, Dt.l2, hit, hi1, hbs2, happ, q0, q0l, hne, hT2l]
        have hbs0 : Bld H.length (T2 ++ [.cells [.nilp, .nils] 78 .rw]) (q + 2) (hexP (d.raw.take 0)) := ⟨_, _, by rw [← hT2l, List.getElem?_append_right (Nat.le_refl _), Nat.sub_self]; rfl, .inl rfl, .inl ⟨rfl, rfl⟩⟩
        have hfx : ∀ (c : List AV) (k : Kd), fixd (.cells c 9 k) = true := by intro c k; cases k <;> rfl
        refine go_rounds (fun (r : Nat) (st : St) => ∃ σ j T e, r + j = d.raw.length ∧ st = ⟨σ, H ++ T, e⟩ ∧ T[0]? = some (.cells d.cells 37 .rw) ∧ T[1]? = some (.iter (formS t) (i + 1)) ∧ T[q + 1]? = some (.cells (strs L1 ++ [.str [92, 35], .str (decP d.raw.length)]) 9 (.op 0 false)) ∧ Bld H.length T (q + 2) (hexP (d.raw.take j)) ∧ clean H.length e ∧ σ.length = 169 ∧ fr σ 3 = .ptr H.length 0 ∧ fr σ 6 = .slice (H.length + (q + 1)) 0 (L1.length + 2) (.op 0) ∧ fr σ 7 = .int .i64 (K : Nat) ∧ fr σ 26 = .ptr (H.length + 1) 0 ∧ fr σ 18 = .ptr (H.length + (q + 2)) 0 ∧ fr σ 43 = .int .i64 d.raw.length ∧ fr σ 44 = .int .i64 (j : Nat)) d.raw.length
          ⟨_, 0, _, _, rfl, rfl, get_app q0, get_app q1, get_app (by rw [← g2, List.length_append, hT'l]; rfl), hbs0, by simp only [go_sem, simprocAttr, he, c2], by simp only [go_sem, simprocAttr, hl], by simp only [go_sem, simprocAttr, hl, h3], by simp only [go_sem, simprocAttr, hl, hT'l], by simp only [go_sem, simprocAttr, hl, h7], by simp only [go_sem, simprocAttr, hl, h26], by simp only [go_sem, simprocAttr, hl], by simp only [go_sem, simprocAttr, hl], by simp only [go_sem, simprocAttr, hl]⟩ ?_
        clear hl h3 h6 h7 h26 he
        rintro r _ ⟨σ, j, T, e, hr, rfl, hT0, hT1, hTl, hbd, he, hl, h3, h6, h7, h26, h18, h43, h44⟩
        have h2l := hbd.lt
        have hb0 : (H ++ T)[H.length]? = some (.cells d.cells 37 .rw) := by rw [hp_new0]; exact hT0
        by_cases hjn : j < d.raw.length
        · obtain ⟨b, hb⟩ : ∃ b, d.raw[j]? = some b := ⟨_, List.getElem?_eq_getElem hjn⟩
          have hbl := b.toNat_lt
          have hsn := hexP_snoc hb
          have hpl := hexP_len (d.raw.take j)
          rw [List.length_take] at hpl
          obtain ⟨T3, e3, b3, k3, c3, r3⟩ := b_wbyte H T (q + 2) _ (hexD (b.toNat / 16)) hbd (by simp only [fits, decide_eq_true_eq]; omega)
          obtain ⟨T4, e4, b4, k4, c4, r4⟩ := b_wbyte H T3 (q + 2) _ (hexD (b.toNat % 16)) b3 (by simp only [fits, decide_eq_true_eq]; rw [List.length_append, List.length_singleton]; omega)
          have c3 := c3.cln
          have c4 := c4.cln
          have k30 := k3.2 0 _ (by omega) hT0 rfl
          have k31 := k3.2 1 _ (by omega) hT1 rfl
          have k3l := k3.2 (q + 1) _ (by omega) hTl (hfx _ _)
          have k40 := k4.2 0 _ (by omega) k30 rfl
          have k41 := k4.2 1 _ (by omega) k31 rfl
          have k4l := k4.2 (q + 1) _ (by omega) k3l (hfx _ _)
          have s1 : (b.toNat : Int).fdiv (2 ^ min 4 8) = ((b.toNat / 16 : Nat) : Int) := by
            have : (2 : Int) ^ min 4 8 = 16 := by decide
            rw [this, Int.fdiv_eq_ediv_of_nonneg _ (by omega)]; omega
          have s2 : evInt .and .u8 (b.toNat : Int) 15 = some (.int .u8 ((b.toNat % 16 : Nat) : Int)) := by
            have : (BitVec.ofInt 8 (b.toNat : Int) &&& BitVec.ofInt 8 15).toNat = b.toNat % 16 := by
              rw [BitVec.toNat_and, BitVec.ofInt_natCast]
              simp only [BitVec.toNat_ofNat]
              rw [Nat.mod_eq_of_lt (show b.toNat < 2 ^ 8 by omega)]
              exact Nat.and_two_pow_sub_one_eq_mod b.toNat 4
            show some (AV.int .u8 (IntKind.u8.wrap ((BitVec.ofInt 8 (b.toNat : Int) &&& BitVec.ofInt 8 15).toNat : Int))) = _
            rw [this, wrap_u8 (by omega)]
          have hx1 := hexD_at (n := b.toNat / 16) (by omega)
          have hx2 := hexD_at (n := b.toNat % 16) (by omega)
          have hy1 : b.toNat / 16 < 16 := by omega
          have hy2 : b.toNat % 16 < 16 := by omega
          have hw := wrap_succ (show j < 9223372036854775807 by omega)
          simp only [go_sem, simprocAttr, hl, h3, h6, h7, h26, h18, h43, h44, hT0, k30, hb0, Dt.l0, hb, s1, s2, hx1, hx2, hy1, hy2, r3, r4, hw, hjn]
          exact ⟨r - 1, by omega, _, j + 1, T4, _, by omega, rfl, k40, k41, k4l, by rw [hsn]; simpa [twoP, List.append_assoc] using b4, by simp only [go_sem, simprocAttr, he, c3, c4], by simp only [go_sem, simprocAttr, hl], by simp only [go_sem, simprocAttr, hl, h3], by simp only [go_sem, simprocAttr, hl, h6], by simp only [go_sem, simprocAttr, hl, h7], by simp only [go_sem, simprocAttr, hl, h26], by simp only [go_sem, simprocAttr, hl, h18], by simp only [go_sem, simprocAttr, hl, h43], by simp only [go_sem, simprocAttr, hl]⟩
        · have hjL : j = d.raw.length := by omega
          subst hjL
          rw [List.take_length] at hbd
          have hpl := hexP_len d.raw
          obtain ⟨T3, e3, k3, c3, r3⟩ := b_stringK H T (q + 2) _ hbd (by omega)
          have k30 := k3.2 0 _ (by omega) hT0 rfl
          have k31 := k3.2 1 _ (by omega) hT1 rfl
          have k3l := k3.2 (q + 1) _ (by omega) hTl (hfx _ _)
          have gb3 : GBuf H.length T3 (.slice (H.length + (q + 1)) 0 (L1.length + 2) (.op 0)) 9 1 (L1.length + 2) (strs L1 ++ [.str [92, 35], .str (decP d.raw.length)]) := .inr ⟨by omega, by simp [strs], q + 1, rfl, k3l⟩
          obtain ⟨T4, e4, happ2, hT4l, c4, k4, _, b4⟩ := (gb3.more [.cells [.str (hexP d.raw)] 9 .rw]).app3 (P := Tryd.prog) (b := 16) (by decide) zok_64 [.str (hexP d.raw)] 1 (by decide) rfl rfl (by simp only [fits, decide_eq_true_eq]; omega)
          have hql : 1 < q := by have := lt_of_get hT'1; omega
          have kk0 := k4 0 _ (get_app k30) (fun m n h => by injection h with z1 z2 z3 z4; omega)
          have kk1 := k4 1 _ (get_app k31) (fun m n h => by injection h with z1 z2 z3 z4; omega)
          generalize hvv : AV.slice (H.length + (q + 1)) 0 (L1.length + 2) (.op 0) = vv at h6 happ2
          simp only [go_sem, simprocAttr, hl, h3, h6, h7, h26, h18, h43, h44, hjn, r3, bslice_str, happ2]
          exact fin _ K _ _ _ _ hel rfl kk0 kk1 (by simpa [strs, Nat.add_assoc] using b4) (by simp only [go_sem, simprocAttr, he, c3, c4]) (by simp only [go_sem, simprocAttr, hl]) (by simp only [go_sem, simprocAttr, hl, h3]) (by simp only [go_sem, simprocAttr, hl]) (by simp only [go_sem, simprocAttr, hl, h7]) (by simp only [go_sem, simprocAttr, hl, h26])
  · -- done
    have hi : i = (formS t).length := by omega
    have hit : strIter (formS t) i = (.tuple [.bool false], i) := by rw [strIter_a (form_a t), itN_n (by rw [hi]; simp)]
    have hst : T.set 1 (.iter (formS t) i) = T := set_get hT1
    rw [hi, List.take_length] at hv
    obtain ⟨sf1, sf2⟩ := show_fine hd hg (formS t) 0 (fun c h => h)
    have hpos := show_some t d hg
    have hLl := showL_len d hd (formS t) 0
    obtain ⟨_, _, h0⟩ | ⟨g1, g2, vm, rfl, g3⟩ := hv
    · omega
    have hsv : Sv (H ++ T) (.slice (H.length + vm) 0 (showL d (formS t) 0).length (.op 0)) (showL d (formS t) 0) := ⟨_, _, _, _, rfl, by rw [hp_new]; exact g3, .inr ⟨rfl, rfl, _, _, rfl⟩, hpos⟩
    have hjo := fun k => s_Join [32] (showL d (formS t) 0) _ _ k hsv (by decide) (by decide) (by omega) sf1 (by omega)
    simp only [go_sem, simprocAttr, hl, h3, h6, h7, h26, hb1, hT1, hd1, hit, hst, hjo]
    exact leave_flat rfl (clean_and he (by simp [clean, low]))

set_option maxRecDepth 20000 in
theorem rdata_Show0 (t : Int) (d : Dt) (H) (hk : Tk H) (hd : d.wf) (hg : goodB t d = false) : callK Tryd.prog 12 [.int .u16 t, .agg d.cells] H (fun q => q = (.tuple [.str [], .int .i64 40], H, z0)) := by
  refine callK_start (n := 169) (rs := [.tmp 4, .tmp 5]) Tryd.func12 rfl rfl rfl ?_
  intro σ hl ha
  have h0 := ha 0 (by simp)
  have h1 := ha 1 (by simp)
  clear ha
  simp only [Option.getD_some, List.getElem?_cons_zero, List.getElem?_cons_succ] at h0 h1
  have hck := fun k => rdata_Check t d (H ++ [.cells d.cells 37 .rw]) k (hk.old _) hd
  have hc0 : chk t d = 40 := if_neg (by rw [hg]; simp)
  rw [hc0] at hck
  simp only [go_sem, simprocAttr, hl, h0, h1, hck, Dt.l8, Dt.vc, Dt.len]
def tellS (t : Int) (d : Dt) : List UInt8 := if goodB t d = true then showS t d else []
theorem rdata_ShowK (t : Int) (d : Dt) (H k) (hk : Tk H) (ht : Tb H) (hdb : Db H) (hd : d.wf) : callK Tryd.prog 12 [.int .u16 t, .agg d.cells] H k = k (.tuple [.str (tellS t d), .int .i64 (chk t d)], H, z0) := by
  cases hg : goodB t d with
  | true =>
    rw [show tellS t d = showS t d from if_pos hg, show chk t d = 0 from if_pos hg]
    exact callK_eq (rdata_Show t d H hk ht hdb hd hg) k
  | false =>
    rw [show tellS t d = [] from if_neg (by rw [hg]; simp), show chk t d = 40 from if_neg (by rw [hg]; simp)]
    exact callK_eq (rdata_Show0 t d H hk hd hg) k
end Go.Proofs.YtgkpgpdkolpfkaaDoor.V
