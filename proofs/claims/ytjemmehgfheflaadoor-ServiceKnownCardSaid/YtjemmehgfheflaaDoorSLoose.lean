/- The service chapter: the reference's reading of the packed form, plainly: it reads first and packs again. No conditions. -/
import Derived.Test.YtjemmehgfheflaaDoorSParse
namespace Go.Proofs.YtjemmehgfheflaaDoor.V
open Go
set_option linter.unusedSimpArgs false
set_option linter.unusedVariables false

/-- A digit's worth, to the base 16. -/
def digN (c : UInt8) : Nat := if 48 ≤ c.toNat ∧ c.toNat ≤ 57 then c.toNat - 48 else if 97 ≤ c.toNat ∧ c.toNat ≤ 102 then c.toNat - 87 else 0
theorem digN_lt (c : UInt8) : digN c < 16 := by
  unfold digN
  split
  · omega
  · split <;> omega
theorem digN_hex {n : Nat} (h : n < 16) : digN (hexD n) = n := by
  have : ∀ n : Fin 16, digN (hexD n.val) = n.val := by decide
  exact this ⟨n, h⟩
def pairN (a b : UInt8) : UInt8 := UInt8.ofNat (16 * digN a + digN b)
theorem pairN_two (c : UInt8) : pairN (hexD (c.toNat / 16)) (hexD (c.toNat % 16)) = c := by
  have h := c.toNat_lt
  unfold pairN
  rw [digN_hex (by omega), digN_hex (by omega)]
  have : 16 * (c.toNat / 16) + c.toNat % 16 = c.toNat := by omega
  rw [this]; simp
/-- Pairs of digits. -/
def bytesL : List UInt8 → List UInt8
  | a :: b :: r => pairN a b :: bytesL r
  | _ => []
theorem bytesL_hex : ∀ s : List UInt8, bytesL (hexP s) = s
  | [] => rfl
  | c :: s => by
    rw [hexP_cons]
    show pairN _ _ :: bytesL (hexP s) = _
    rw [pairN_two, bytesL_hex s]
theorem bytesL_len : ∀ s : List UInt8, (bytesL s).length ≤ s.length
  | [] => Nat.le_refl _
  | [_] => Nat.zero_le _
  | a :: b :: r => by
    have := bytesL_len r
    show (bytesL r).length + 1 ≤ r.length + 1 + 1
    omega
/-- A number of five places at most. -/
def foldN (s : List UInt8) : Nat := s.foldl (fun n c => 10 * n + digN c % 10) 0
def numL (s : List UInt8) : Nat := foldN (s.take 5) % 65536
theorem foldN_snoc (s : List UInt8) (c : UInt8) : foldN (s ++ [c]) = 10 * foldN s + digN c % 10 := by simp [foldN]
theorem foldN_val : ∀ s : List UInt8, s.all digC = true → foldN s = valP s :=
  snoc_ind (fun _ => rfl) (fun s c ih h => by
    rw [List.all_append, Bool.and_eq_true] at h
    rw [foldN_snoc, valP_snoc, ih h.1]
    have hc : digC c = true := by simpa using h.2
    unfold digC at hc
    simp only [decide_eq_true_eq] at hc
    unfold digN
    rw [if_pos hc]; omega)
theorem numL_dec {n : Nat} (h : n < 65536) : numL (decP n) = n := by
  obtain ⟨h1, h2, _⟩ := val_dec n
  unfold numL
  rw [List.take_of_length_le (decP_len n (by omega)), foldN_val _ h2, h1]
  omega
theorem numL_lt (s : List UInt8) : numL s < 65536 := Nat.mod_lt _ (by decide)
/-- A text, its marks taken out. -/
def plainL : List UInt8 → List UInt8
  | [] => []
  | [c] => [c]
  | [c, d] => [c, d]
  | c :: a :: b :: r => if c = 37 then pairN a b :: plainL r else c :: plainL (a :: b :: r)
theorem plainL_37 (a b : UInt8) (r : List UInt8) : plainL (37 :: a :: b :: r) = pairN a b :: plainL r := by
  rw [plainL, if_pos rfl]
theorem plainL_other {c : UInt8} (h : c ≠ 37) (r : List UInt8) : plainL (c :: r) = c :: plainL r := by
  match r with
  | [] => rfl
  | [a] => rfl
  | a :: b :: r => rw [plainL, if_neg h]
theorem plainL_few {c : UInt8} {r : List UInt8} (h : r.length < 2) : plainL (c :: r) = c :: plainL r := by
  match r, h with
  | [], _ => rfl
  | [a], _ => rfl
theorem plainL_text : ∀ t : List UInt8, plainL (textP t) = t
  | [] => rfl
  | c :: t => by
    rw [textP_cons]
    unfold byteP
    split
    · rename_i hs
      have hc : c ≠ 37 := fun h => by rw [h, safe37] at hs; cases hs
      rw [List.singleton_append, plainL_other hc, plainL_text t]
    · show plainL (37 :: hexD (c.toNat / 16) :: hexD (c.toNat % 16) :: textP t) = _
      rw [plainL_37, pairN_two, plainL_text t]
theorem plainL_len : ∀ s : List UInt8, (plainL s).length ≤ s.length
  | [] => Nat.le_refl _
  | [_] => Nat.le_refl _
  | [_, _] => Nat.le_refl _
  | c :: a :: b :: r => by
    rw [plainL]
    split
    · have := plainL_len r
      simp only [List.length_cons]; omega
    · have := plainL_len (a :: b :: r)
      simp only [List.length_cons] at *; omega

/-- One piece read. -/
def stepL (m : Mt) (p : List UInt8) : Option Mt :=
  match p with
  | k :: 61 :: d =>
    if k = 52 then some { m with b := bytesL d }
    else if k = 54 then some { m with c := bytesL d }
    else svcL m k d
  | k :: _ :: d => svcL m k d
  | _ => none
where svcL (m : Mt) (k : UInt8) (d : List UInt8) : Option Mt :=
  match splitC 58 d with
  | (l, [n1, n2, n3, t]) => some { m with ss := m.ss ++ [⟨l, decide (k = 117), (numL n1 : Nat), (numL n2 : Nat), (numL n3 : Nat), plainL t⟩] }
  | _ => none
def foldL (m : Mt) : List (List UInt8) → Option Mt
  | [] => some m
  | p :: R => (stepL m p).bind fun m => foldL m R
def looseM (s : List UInt8) : Option Mt := foldL ⟨(splitC 32 s).1, [], [], []⟩ (splitC 32 s).2
theorem foldL_app : ∀ (A B : List (List UInt8)) (m : Mt), foldL m (A ++ B) = (foldL m A).bind fun m => foldL m B
  | [], B, m => rfl
  | p :: A, B, m => by
    show (stepL m p).bind (fun m => foldL m (A ++ B)) = ((stepL m p).bind fun m => foldL m A).bind fun m => foldL m B
    cases stepL m p with
    | none => rfl
    | some m' => exact foldL_app A B m'

theorem step_seg (m : Mt) {s : Svc} (h : (58 : UInt8) ∉ s.label) (hn : numsOk s) : stepL m (seg s) = some { m with ss := m.ss ++ [s] } := by
  obtain ⟨l, dg, p, q, w, t⟩ := s
  obtain ⟨⟨hp0, hp⟩, ⟨hq0, hq⟩, ⟨hw0, hw⟩⟩ := hn
  simp only at hp0 hp hq0 hq hw0 hw h
  have hsp := body_split (s := ⟨l, dg, p, q, w, t⟩) h
  simp only at hsp
  have e1 := numL_dec (n := p.toNat) (by omega)
  have e2 := numL_dec (n := q.toNat) (by omega)
  have e3 := numL_dec (n := w.toNat) (by omega)
  have i1 : ((p.toNat : Nat) : Int) = p := Int.toNat_of_nonneg hp0
  have i2 : ((q.toNat : Nat) : Int) = q := Int.toNat_of_nonneg hq0
  have i3 : ((w.toNat : Nat) : Int) = w := Int.toNat_of_nonneg hw0
  unfold seg
  cases dg with
  | true =>
    simp only [if_true, stepL, stepL.svcL, hsp, e1, e2, e3, i1, i2, i3, plainL_text]
    rfl
  | false =>
    simp only [Bool.false_eq_true, if_false, stepL, stepL.svcL, hsp, e1, e2, e3, i1, i2, i3, plainL_text]
    rfl
theorem fold_segs : ∀ (ss : List Svc) (m : Mt), (∀ s ∈ ss, (58 : UInt8) ∉ s.label ∧ numsOk s) → foldL m (ss.map seg) = some { m with ss := m.ss ++ ss }
  | [], m, _ => by
    obtain ⟨a, b, c, ss⟩ := m
    simp [foldL]
  | s :: ss, m, h => by
    have h1 := h s (by simp)
    show (stepL m (seg s)).bind (fun m => foldL m (ss.map seg)) = _
    rw [step_seg m h1.1 h1.2]
    show foldL _ _ = _
    rw [fold_segs ss _ (fun s hs => h s (by simp [hs]))]
    simp
theorem fold_head4 (m : Mt) (v : List UInt8) (h : m.b = []) : foldL m (headSeg 52 v) = some { m with b := v } := by
  unfold headSeg
  split
  · rename_i e
    obtain ⟨a, b, c, ss⟩ := m
    simp only at h
    subst h; subst e; rfl
  · simp [foldL, stepL, bytesL_hex]
theorem fold_head6 (m : Mt) (v : List UInt8) (h : m.c = []) : foldL m (headSeg 54 v) = some { m with c := v } := by
  unfold headSeg
  split
  · rename_i e
    obtain ⟨a, b, c, ss⟩ := m
    simp only at h
    subst h; subst e; rfl
  · simp [foldL, stepL, bytesL_hex]
/-- What packs to a text is what is read of it. -/
theorem loose_ok {w : Mt} {s : List UInt8} (hn : w.nums) (hw : w.pack = (s, 0)) : looseM s = some w := by
  obtain ⟨hmay, _, htold, _⟩ := pack_iff.1 hw
  have hsp := Mt.split hmay
  rw [htold] at hsp
  unfold looseM
  rw [hsp]
  show foldL ⟨w.a, [], [], []⟩ w.segs = some w
  unfold Mt.segs
  rw [foldL_app, foldL_app, fold_head4 _ _ rfl]
  show ((foldL ⟨w.a, w.b, [], []⟩ (headSeg 54 w.c)).bind fun m => foldL m (w.ss.map seg)) = _
  rw [fold_head6 _ _ rfl]
  show foldL ⟨w.a, w.b, w.c, []⟩ (w.ss.map seg) = _
  rw [fold_segs _ _ (not58 hmay hn)]
  rfl

/-- What bounds a meta as far as it is read. -/
structure WL (m : Mt) (k : Nat) : Prop where
  a : m.a.length ≤ 400
  b : m.b.length ≤ 400
  c : m.c.length ≤ 400
  n : m.ss.length ≤ k
  s : ∀ s ∈ m.ss, s.label.length ≤ 400 ∧ s.text.length ≤ 400 ∧ numsOk s
theorem numL_u (s : List UInt8) : inU (numL s : Nat) := ⟨by omega, by have := numL_lt s; omega⟩
theorem WL.svc {m m' : Mt} {k : Nat} {h : UInt8} {d : List UInt8} (w : WL m k) (hl : d.length ≤ 400) (hs : stepL.svcL m h d = some m') : WL m' (k + 1) := by
  unfold stepL.svcL at hs
  split at hs
  · rename_i l n1 n2 n3 t hsp
    simp only [Option.some.injEq] at hs
    subst hs
    have hj := split_join 58 d
    rw [hsp] at hj
    have hlen := congrArg List.length hj
    simp only [List.length_append, joinC, List.flatMap_cons, List.flatMap_nil, List.length_cons, List.length_nil, List.append_nil] at hlen
    have := plainL_len t
    refine ⟨w.a, w.b, w.c, ?_, fun s hs => ?_⟩
    · have := w.n
      simp only [List.length_append, List.length_singleton]; omega
    · simp only [List.mem_append, List.mem_singleton] at hs
      rcases hs with hs | rfl
      · exact w.s s hs
      · exact ⟨by simp only; omega, by simp only; omega, numL_u _, numL_u _, numL_u _⟩
  · cases hs
theorem WL.step {m m' : Mt} {k : Nat} {p : List UInt8} (w : WL m k) (hl : p.length ≤ 400) (hs : stepL m p = some m') : WL m' (k + 1) := by
  unfold stepL at hs
  split at hs
  · rename_i h d
    simp only [List.length_cons] at hl
    have := bytesL_len d
    have hn := w.n
    split at hs
    · cases hs; exact ⟨w.a, by simp only; omega, w.c, by simp only; omega, w.s⟩
    · split at hs
      · cases hs; exact ⟨w.a, w.b, by simp only; omega, by simp only; omega, w.s⟩
      · exact w.svc (by omega) hs
  · rename_i h _ d _
    simp only [List.length_cons] at hl
    exact w.svc (by omega) hs
  · cases hs
theorem WL.fold : ∀ {R : List (List UInt8)} {m m' : Mt} {k : Nat}, WL m k → (∀ p ∈ R, p.length ≤ 400) → foldL m R = some m' → WL m' (k + R.length)
  | [], m, m', k, w, _, h => by cases h; exact w
  | p :: R, m, m', k, w, hl, h => by
    have h : (stepL m p).bind (fun m => foldL m R) = some m' := h
    cases hs : stepL m p with
    | none => rw [hs] at h; cases h
    | some m1 =>
      rw [hs] at h
      have := (w.step (hl p (by simp)) hs).fold (fun q hq => hl q (by simp [hq])) h
      rw [List.length_cons]
      rwa [Nat.add_assoc, Nat.add_comm 1] at this
/-- What the reference answers. -/
theorem loose_end {s : List UInt8} (hl : s.length ≤ 400) {m : Mt} (h : looseM s = some m) (hw : m.nums) : (m.pack = (s, 0) → ParseR s m 0) ∧ (m.pack ≠ (s, 0) → ParseR s Mt.nil 210) :=
  ⟨fun hp => .inr ⟨hl, .inl ⟨rfl, hp, hw⟩⟩, fun hp => .inr ⟨hl, .inr ⟨rfl, rfl, fun w hn he => hp (by
    have := loose_ok hn he
    rw [h, Option.some.injEq] at this
    rw [this]; exact he)⟩⟩⟩
theorem loose_bad {s : List UInt8} (hl : s.length ≤ 400) (h : looseM s = none) : ParseR s Mt.nil 210 :=
  .inr ⟨hl, .inr ⟨rfl, rfl, fun w hn he => by
    have := loose_ok hn he
    rw [h] at this
    cases this⟩⟩
end Go.Proofs.YtjemmehgfheflaaDoor.V
