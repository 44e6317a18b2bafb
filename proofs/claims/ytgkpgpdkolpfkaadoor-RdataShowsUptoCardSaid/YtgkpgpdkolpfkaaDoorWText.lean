/- Short texts, one behind the other: as 'V' runs the program's and the document's functions. No conditions. -/
import Derived.Test.YtgkpgpdkolpfkaaDoorWByte
namespace Go.Proofs.YtgkpgpdkolpfkaaDoor.V
open Go
set_option linter.unusedSimpArgs false
set_option linter.unusedVariables false
attribute [local irreducible] go goOps goD opK callK callT stepK leaveTo nextK

def tkText (bs : List UInt8) (a : Nat) : List UInt8 × Nat × Nat :=
  if bs.length < a then ([], 0, 1) else match bs[a]? with
    | some c => if bs.length - (a + 1) < c.toNat then ([], 0, 6) else ((bs.drop (a + 1)).take c.toNat, a + (1 + c.toNat), 0)
    | none => ([], 0, 6)

set_option maxRecDepth 20000 in
theorem takeText (bs : List UInt8) (a : Nat) (H k) (v : AV) (hv : Rd H v bs) (hn : bs.length ≤ 4611686018427387904) (ha' : a ≤ 4611686018427387904) :
    callK Tryd.prog 73 [v, .int .i64 (a : Nat)] H k = k (.tuple [.str (tkText bs a).1, .int .i64 ((tkText bs a).2.1 : Nat), .int .i64 ((tkText bs a).2.2 : Nat)], H, z0) := by
  refine callK_eq (r := (.tuple [.str (tkText bs a).1, .int .i64 ((tkText bs a).2.1 : Nat), .int .i64 ((tkText bs a).2.2 : Nat)], H, z0)) ?_ k
  refine callK_start (n := 42) (rs := [.tmp 4, .tmp 5, .tmp 6]) Tryd.func73 rfl rfl rfl ?_
  intro σ hl ha
  have h0 := ha 0 (by simp)
  have h1 := ha 1 (by simp)
  clear ha
  simp only [Option.getD_some, List.getElem?_cons_zero, List.getElem?_cons_succ] at h0 h1
  have hs := fun H' (h : Rd H' v bs) k => take8 bs a H' k v h hn ha'
  have hs := fun k => hs H hv k
  have hlen := fun H' => hv.v.len H'
  by_cases hbig : bs.length < a
  · have ht : tkText bs a = ([], 0, 1) := if_pos hbig
    have h8 : tk8 bs a = (0, 0, 1) := if_pos hbig
    rw [h8] at hs
    simp only [go_sem, simprocAttr, hl, h0, h1, hs, ht, Int.natCast_one]
  · cases hc : bs[a]? with
    | none =>
      have ht : tkText bs a = ([], 0, 6) := by unfold tkText; rw [if_neg hbig, hc]
      have h8 : tk8 bs a = (0, 0, 6) := by unfold tk8; rw [if_neg hbig, hc]
      rw [h8] at hs
      simp only [go_sem, simprocAttr, hl, h0, h1, hs, ht]
    | some c =>
      have h8 : tk8 bs a = (c.toNat, a + 1, 0) := by unfold tk8; rw [if_neg hbig, hc]
      rw [h8] at hs
      have hlt : a < bs.length := (List.getElem?_eq_some_iff.1 hc).1
      have hcl := c.toNat_lt
      have w0 : IntKind.i64.wrap (c.toNat : Int) = (c.toNat : Int) := by rw [wrap_i64 (by omega)]
      have w1 : IntKind.i64.wrap ((bs.length : Int) - ((a + 1 : Nat) : Int)) = ((bs.length - (a + 1) : Nat) : Int) := by rw [wrap_i64 (by omega)]; omega
      by_cases hsh : bs.length - (a + 1) < c.toNat
      · have ht : tkText bs a = ([], 0, 6) := by unfold tkText; rw [if_neg hbig, hc]; exact if_pos hsh
        simp only [go_sem, simprocAttr, hl, h0, h1, hs, hlen, w0, w1, hsh, ht]
      · have ht : tkText bs a = ((bs.drop (a + 1)).take c.toNat, a + (1 + c.toNat), 0) := by unfold tkText; rw [if_neg hbig, hc]; exact if_neg hsh
        have w2 : IntKind.i64.wrap (((a + 1 : Nat) : Int) + (c.toNat : Int)) = ((a + (1 + c.toNat) : Nat) : Int) := by rw [wrap_i64 (by omega)]; omega
        obtain ⟨y, L, hsl, hy⟩ := hv.sl (lo := a + 1) (hi := a + (1 + c.toNat)) (by omega) (by omega)
        rw [show a + (1 + c.toNat) - (a + 1) = c.toNat by omega] at hy
        have hstr := hy.str
        simp only [go_sem, simprocAttr, hl, h0, h1, hs, hlen, w0, w1, w2, hsh, hsl, hstr, ht]

/-- The short texts that bytes come to. -/
def txF : Nat → List UInt8 → Option (List (List UInt8))
  | 0, _ => none
  | _ + 1, [] => some []
  | n + 1, c :: t => if t.length < c.toNat then none else (txF n (t.drop c.toNat)).map (t.take c.toNat :: ·)
theorem txF_more : ∀ (n m : Nat) (s : List UInt8), s.length < n → s.length < m → txF n s = txF m s
  | 0, _, s, h, _ => by omega
  | _ + 1, 0, s, _, h => by omega
  | n + 1, m + 1, [], _, _ => rfl
  | n + 1, m + 1, k :: t, h, h' => by
    simp only [txF]
    simp only [List.length_cons] at h h'
    rw [txF_more n m (t.drop k.toNat) (by rw [List.length_drop]; omega) (by rw [List.length_drop]; omega)]
def txts (s : List UInt8) : Option (List (List UInt8)) := txF (s.length + 1) s
theorem txts_nil : txts [] = some [] := rfl
theorem txts_cons (k : UInt8) (t : List UInt8) : txts (k :: t) = if t.length < k.toNat then none else (txts (t.drop k.toNat)).map (t.take k.toNat :: ·) := by
  unfold txts
  rw [List.length_cons, txF, txF_more (t.length + 1) _ (t.drop k.toNat) (by rw [List.length_drop]; omega) (Nat.lt_succ_self _)]
/-- One at least. -/
def txOk (s : List UInt8) : Bool := match txts s with
  | some (_ :: _) => true
  | _ => false

theorem txOk_nil {s : List UInt8} (h : txts s = some []) : txOk s = false := by unfold txOk; rw [h]
theorem txOk_none {s : List UInt8} (h : txts s = none) : txOk s = false := by unfold txOk; rw [h]
theorem txOk_some {s : List UInt8} {L : List (List UInt8)} (h : txts s = some L) (hL : L ≠ []) : txOk s = true := by
  unfold txOk; rw [h]
  cases L with
  | nil => exact absurd rfl hL
  | cons => rfl

set_option maxRecDepth 20000 in
theorem rdata_texts (s : List UInt8) (H) (hs : s.length ≤ 1048576) : ∃ b : AV × Hp, (∀ L, txts s = some L → L ≠ [] → GBuf H.length b.2 b.1 9 1 L.length (strs L)) ∧
    ∀ k, callK Tryd.prog 35 [.str s] H k = k (.tuple [b.1, .bool (txOk s)], H ++ b.2, z0) := by
  refine callK_exP (fun b : AV × Hp => ∀ L, txts s = some L → L ≠ [] → GBuf H.length b.2 b.1 9 1 L.length (strs L)) (fun b => (.tuple [b.1, .bool (txOk s)], H ++ b.2, z0)) ?_
  refine callK_start (n := 32) (rs := [.tmp 2, .tmp 3]) Tryd.func35 rfl rfl rfl ?_
  intro σ hl ha
  have h0 := ha 0 (by simp)
  clear ha
  simp only [Option.getD_some, List.getElem?_cons_zero, List.getElem?_cons_succ] at h0
  simp only [go_sem, simprocAttr, hl, h0]
  refine go_rounds (fun n st => ∃ σ i L1 v T e, n + i = s.length ∧ txts s = (txts (s.drop i)).map (L1 ++ ·) ∧ L1.length ≤ i ∧ GBuf H.length T v 9 1 L1.length (strs L1) ∧ st = ⟨σ, H ++ T, e⟩ ∧ clean H.length e ∧ σ.length = 32 ∧ fr σ 0 = .str s ∧ fr σ 4 = v ∧ fr σ 5 = .int .i64 (i : Nat)) s.length
    ⟨_, 0, [], .nils, [], _, rfl, by simp, Nat.le_refl _, .inl ⟨rfl, rfl, rfl⟩, by rw [List.append_nil], ⟨rfl, rfl⟩, by simp only [go_sem, simprocAttr, hl], by simp only [go_sem, simprocAttr, hl, h0], by simp only [go_sem, simprocAttr, hl], by simp only [go_sem, simprocAttr, hl]⟩ ?_
  rintro n _ ⟨σ, i, L1, v, T, e, hn, hm, hLi, hv, rfl, he, hl, h0, h4, h5⟩
  by_cases hlt : i < s.length
  · obtain ⟨c, hc⟩ : ∃ c, s[i]? = some c := ⟨_, List.getElem?_eq_getElem hlt⟩
    rw [drop_at hc, txts_cons, List.length_drop] at hm
    have hcl := c.toNat_lt
    have hrd : Rd ((H ++ T) ++ [.cells (u8s s) 5 (.op 0 true)]) (.slice (H ++ T).length 0 s.length (.op 0)) s :=
      .inr ⟨_, 0, _, [], [], _, _, rfl, rfl, by rw [hp_new0]; simp, .inr ⟨rfl, rfl, 0, true, rfl⟩⟩
    have ht := fun k => takeText s i _ k _ hrd (by omega) (by omega)
    simp only [List.append_assoc, List.length_append] at ht
    by_cases hsh : s.length - (i + 1) < c.toNat
    · have htx : tkText s i = ([], 0, 6) := by unfold tkText; rw [if_neg (by omega), hc]; exact if_pos hsh
      rw [htx] at ht
      rw [if_pos hsh] at hm
      have hm : txts s = none := hm
      have hok := txOk_none hm
      simp only [go_sem, simprocAttr, hl, h0, h4, h5, hlt, u8s_fold, ht, he]
      exact ⟨(.nils, []), by simp [hm], by simp [hok]⟩
    · have htx : tkText s i = ((s.drop (i + 1)).take c.toNat, i + (1 + c.toNat), 0) := by unfold tkText; rw [if_neg (by omega), hc]; exact if_neg hsh
      rw [htx] at ht
      rw [if_neg hsh, Option.map_map, List.drop_drop, Nat.add_assoc] at hm
      have hbs := bslice_str ((s.drop (i + 1)).take c.toNat)
      obtain ⟨v', T2, e2, happ, _, hcl2, _, hv3, _, _, _⟩ := (hv.more ([.cells (u8s s) 5 (.op 0 true), .cells [.str ((s.drop (i + 1)).take c.toNat)] 9 .rw])).app2 (P := Tryd.prog) (b := 16) (by decide) zok_64 [.str ((s.drop (i + 1)).take c.toNat)] 1 (by decide) rfl rfl (by simp only [fits, decide_eq_true_eq]; omega)
      simp only [go_sem, simprocAttr, hl, h0, h4, h5, hlt, u8s_fold, ht, hbs, happ]
      refine ⟨n - (1 + c.toNat), by omega, _, i + (1 + c.toNat), L1 ++ [(s.drop (i + 1)).take c.toNat], v', T2, _, by omega, ?_, by simp; omega, by simpa [strs] using hv3, rfl, by simp only [go_sem, simprocAttr, he, hcl2], by simp only [go_sem, simprocAttr, hl], by simp only [go_sem, simprocAttr, hl, h0], by simp only [go_sem, simprocAttr, hl], by simp only [go_sem, simprocAttr, hl]⟩
      rw [hm]
      congr 1
      funext x
      simp
  · have hi : i = s.length := by omega
    rw [hi, List.drop_length, txts_nil] at hm
    have hm : txts s = some L1 := by rw [hm]; simp
    obtain ⟨rfl, h2, h3⟩ | ⟨h1, h2, m, rfl, h3⟩ := hv
    · have : L1 = [] := List.length_eq_zero_iff.1 h3
      subst this
      have hok := txOk_nil hm
      simp only [go_sem, simprocAttr, hl, h0, h4, h5, hlt, he]
      exact ⟨(.nils, []), fun L hL hne => by rw [hm] at hL; cases hL; exact absurd rfl hne, by simp [hok]⟩
    · have hok := txOk_some hm (by intro e; rw [e] at h1; cases h1)
      have g : decide ((L1.length : Int) > 0) = true := by simp; omega
      simp only [go_sem, simprocAttr, hl, h0, h4, h5, hlt, he, g]
      exact ⟨(.slice (H.length + m) 0 L1.length (.op 0), T), fun L hL hne => by rw [hm] at hL; cases hL; exact .inr ⟨h1, h2, m, rfl, h3⟩, by simp [hok]⟩

set_option maxRecDepth 20000 in
theorem ref_texts (s : List UInt8) (H) (hs : s.length ≤ 1048576) : ∃ b : AV × Hp, (∀ L, txts s = some L → L ≠ [] → GBuf H.length b.2 b.1 9 1 L.length (strs L)) ∧
    ∀ k, callK Tryd.prog 43 [.str s] H k = k (.tuple [b.1, .bool (txOk s)], H ++ b.2, z0) := by
  refine callK_exP (fun b : AV × Hp => ∀ L, txts s = some L → L ≠ [] → GBuf H.length b.2 b.1 9 1 L.length (strs L)) (fun b => (.tuple [b.1, .bool (txOk s)], H ++ b.2, z0)) ?_
  refine callK_start (n := 32) (rs := [.tmp 2, .tmp 3]) Tryd.func43 rfl rfl rfl ?_
  intro σ hl ha
  have h0 := ha 0 (by simp)
  clear ha
  simp only [Option.getD_some, List.getElem?_cons_zero, List.getElem?_cons_succ] at h0
  simp only [go_sem, simprocAttr, hl, h0]
  refine go_rounds (fun n st => ∃ σ r L1 v T e, n = r.length ∧ txts s = (txts r).map (L1 ++ ·) ∧ L1.length + r.length ≤ s.length ∧ GBuf H.length T v 9 1 L1.length (strs L1) ∧ st = ⟨σ, H ++ T, e⟩ ∧ clean H.length e ∧ σ.length = 32 ∧ fr σ 0 = .str r ∧ fr σ 4 = v) s.length
    ⟨_, s, [], .nils, [], _, rfl, by simp, by simp, .inl ⟨rfl, rfl, rfl⟩, by rw [List.append_nil], ⟨rfl, rfl⟩, by simp only [go_sem, simprocAttr, hl], by simp only [go_sem, simprocAttr, hl, h0], by simp only [go_sem, simprocAttr, hl]⟩ ?_
  rintro n _ ⟨σ, r, L1, v, T, e, rfl, hm, hLr, hv, rfl, he, hl, h0, h4⟩
  cases r with
  | nil =>
    rw [txts_nil] at hm
    have hm : txts s = some L1 := by rw [hm]; simp
    obtain ⟨rfl, h2, h3⟩ | ⟨h1, h2, m, rfl, h3⟩ := hv
    · have : L1 = [] := List.length_eq_zero_iff.1 h3
      subst this
      have hok := txOk_nil hm
      simp only [go_sem, simprocAttr, hl, h0, h4, he]
      exact ⟨(.nils, []), fun L hL hne => by rw [hm] at hL; cases hL; exact absurd rfl hne, by simp [hok]⟩
    · have hok := txOk_some hm (by intro e; rw [e] at h1; cases h1)
      have g : decide ((L1.length : Int) > 0) = true := by simp; omega
      simp only [go_sem, simprocAttr, hl, h0, h4, he, g]
      exact ⟨(.slice (H.length + m) 0 L1.length (.op 0), T), fun L hL hne => by rw [hm] at hL; cases hL; exact .inr ⟨h1, h2, m, rfl, h3⟩, by simp [hok]⟩
  | cons c t =>
    rw [txts_cons] at hm
    have hcl := c.toNat_lt
    simp only [List.length_cons] at hLr
    have g0 : decide (((t.length + 1 : Nat) : Int) > 0) = true := by simp
    have w0 : IntKind.i64.wrap (c.toNat : Int) = (c.toNat : Int) := by rw [wrap_i64 (by omega)]
    have w1 : IntKind.i64.wrap ((c.toNat : Int) + 1) = ((c.toNat + 1 : Nat) : Int) := by rw [wrap_i64 (by omega)]; omega
    by_cases hsh : t.length < c.toNat
    · have g3 : decide (t.length + 1 < c.toNat + 1) = true := by simp; omega
      rw [if_pos hsh] at hm
      have hm : txts s = none := hm
      have hok := txOk_none hm
      simp only [go_sem, simprocAttr, hl, h0, h4, g0, w0, w1, g3, he]
      exact ⟨(.nils, []), by simp [hm], by simp [hok]⟩
    · have g3 : decide (t.length + 1 < c.toNat + 1) = false := by simp; omega
      rw [if_neg hsh, Option.map_map] at hm
      have b1 : (1 : Int) ≤ ((c.toNat + 1 : Nat) : Int) := by omega
      have b2 : c.toNat + 1 ≤ t.length + 1 := by omega
      have e1 : c.toNat + 1 - 1 = c.toNat := by omega
      have e2 : (t.drop c.toNat).take (t.length - c.toNat) = t.drop c.toNat := List.take_of_length_le (by rw [List.length_drop]; omega)
      have hbs := bslice_str (t.take c.toNat)
      obtain ⟨v', T2, e2', happ, _, hcl2, _, hv3, _, _, _⟩ := (hv.more [.cells [.str (t.take c.toNat)] 9 .rw]).app2 (P := Tryd.prog) (b := 16) (by decide) zok_64 [.str (t.take c.toNat)] 1 (by decide) rfl rfl (by simp only [fits, decide_eq_true_eq]; omega)
      simp only [go_sem, simprocAttr, hl, h0, h4, g0, w0, w1, g3, b1, b2, e1, e2, hbs, happ]
      refine ⟨(t.drop c.toNat).length, by rw [List.length_drop]; omega, _, t.drop c.toNat, L1 ++ [t.take c.toNat], v', T2, _, rfl, ?_, by simp; omega, by simpa [strs] using hv3, rfl, by simp only [go_sem, simprocAttr, he, hcl2], by simp only [go_sem, simprocAttr, hl], by simp only [go_sem, simprocAttr, hl], by simp only [go_sem, simprocAttr, hl]⟩
      rw [hm]
      congr 1
      funext x
      simp
end Go.Proofs.YtgkpgpdkolpfkaaDoor.V
