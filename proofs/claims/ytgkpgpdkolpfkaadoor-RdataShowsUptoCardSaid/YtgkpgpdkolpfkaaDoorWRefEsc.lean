/- Escapes and names' texts, as 'V' runs the document's functions. Printed by gen_refesc.py. No conditions. -/
import Derived.Test.YtgkpgpdkolpfkaaDoorWTextN
namespace Go.Proofs.YtgkpgpdkolpfkaaDoor.V
open Go
set_option linter.unusedSimpArgs false
set_option linter.unusedVariables false
attribute [local irreducible] go goOps goD opK callK callT stepK leaveTo nextK

def markB (c : UInt8) (q : Bool) : Bool := decide (c.toNat = 34 ∨ c.toNat = 92) || (!q && decide (c.toNat = 46 ∨ c.toNat = 59 ∨ c.toNat = 40 ∨ c.toNat = 41 ∨ c.toNat = 64 ∨ c.toNat = 36))
theorem escB_mark (q : Bool) (c : UInt8) : escB q c = if markB c q = true then [92, c] else if (32 < c.toNat ∧ c.toNat < 127) ∨ (c.toNat = 32 ∧ q = true) then [c] else [92, UInt8.ofNat (48 + c.toNat / 100), UInt8.ofNat (48 + c.toNat / 10 % 10), UInt8.ofNat (48 + c.toNat % 10)] := by
  unfold escB markB
  by_cases h : c.toNat = 34 ∨ c.toNat = 92
  · rw [if_pos h, decide_eq_true h, Bool.true_or, if_pos rfl]
  · rw [if_neg h, decide_eq_false h, Bool.false_or]
    by_cases h2 : c.toNat = 46 ∨ c.toNat = 59 ∨ c.toNat = 40 ∨ c.toNat = 41 ∨ c.toNat = 64 ∨ c.toNat = 36
    · rw [if_pos h2, decide_eq_true h2]
      cases q
      · rfl
      · rw [if_pos rfl, if_neg (by simp), if_pos (.inl (by omega))]
    · rw [if_neg h2, decide_eq_false h2, Bool.and_false]
      exact (if_neg (by simp)).symm
set_option maxRecDepth 20000 in
theorem ref_marked (c : UInt8) (q : Bool) (H k) : callK Tryd.prog 76 [.int .u8 c.toNat, .bool q] H k = k (.bool (markB c q), H, z0) := by
  refine callK_eq (r := (.bool (markB c q), H, z0)) ?_ k
  refine callK_start (n := 37) (rs := [.tmp 4]) Tryd.func76 rfl rfl rfl ?_
  intro σ hl ha
  have h0 := ha 0 (by simp)
  have h1 := ha 1 (by simp)
  clear ha
  have hcl := c.toNat_lt
  simp only [Option.getD_some, List.getElem?_cons_zero, List.getElem?_cons_succ] at h0 h1
  by_cases q34 : c.toNat = 34
  · have g34 : ((c.toNat : Int) == 34) = true := by simp; omega
    have g92 : ((c.toNat : Int) == 92) = false := by simp; omega
    have g46 : ((c.toNat : Int) == 46) = false := by simp; omega
    have g59 : ((c.toNat : Int) == 59) = false := by simp; omega
    have g40 : ((c.toNat : Int) == 40) = false := by simp; omega
    have g41 : ((c.toNat : Int) == 41) = false := by simp; omega
    have g64 : ((c.toNat : Int) == 64) = false := by simp; omega
    have g36 : ((c.toNat : Int) == 36) = false := by simp; omega
    have hm : markB c q = true := by unfold markB; rw [decide_eq_true (by omega), Bool.true_or]
    simp only [go_sem, simprocAttr, hl, h0, h1, g34, g92, g46, g59, g40, g41, g64, g36, hm]
  by_cases q92 : c.toNat = 92
  · have g34 : ((c.toNat : Int) == 34) = false := by simp; omega
    have g92 : ((c.toNat : Int) == 92) = true := by simp; omega
    have g46 : ((c.toNat : Int) == 46) = false := by simp; omega
    have g59 : ((c.toNat : Int) == 59) = false := by simp; omega
    have g40 : ((c.toNat : Int) == 40) = false := by simp; omega
    have g41 : ((c.toNat : Int) == 41) = false := by simp; omega
    have g64 : ((c.toNat : Int) == 64) = false := by simp; omega
    have g36 : ((c.toNat : Int) == 36) = false := by simp; omega
    have hm : markB c q = true := by unfold markB; rw [decide_eq_true (by omega), Bool.true_or]
    simp only [go_sem, simprocAttr, hl, h0, h1, g34, g92, g46, g59, g40, g41, g64, g36, hm]
  by_cases q46 : c.toNat = 46
  · have g34 : ((c.toNat : Int) == 34) = false := by simp; omega
    have g92 : ((c.toNat : Int) == 92) = false := by simp; omega
    have g46 : ((c.toNat : Int) == 46) = true := by simp; omega
    have g59 : ((c.toNat : Int) == 59) = false := by simp; omega
    have g40 : ((c.toNat : Int) == 40) = false := by simp; omega
    have g41 : ((c.toNat : Int) == 41) = false := by simp; omega
    have g64 : ((c.toNat : Int) == 64) = false := by simp; omega
    have g36 : ((c.toNat : Int) == 36) = false := by simp; omega
    have hm : markB c q = !q := by unfold markB; rw [decide_eq_false (by omega), decide_eq_true (by omega)]; simp
    cases q <;> simp only [go_sem, simprocAttr, hl, h0, h1, g34, g92, g46, g59, g40, g41, g64, g36, hm] <;> rfl
  by_cases q59 : c.toNat = 59
  · have g34 : ((c.toNat : Int) == 34) = false := by simp; omega
    have g92 : ((c.toNat : Int) == 92) = false := by simp; omega
    have g46 : ((c.toNat : Int) == 46) = false := by simp; omega
    have g59 : ((c.toNat : Int) == 59) = true := by simp; omega
    have g40 : ((c.toNat : Int) == 40) = false := by simp; omega
    have g41 : ((c.toNat : Int) == 41) = false := by simp; omega
    have g64 : ((c.toNat : Int) == 64) = false := by simp; omega
    have g36 : ((c.toNat : Int) == 36) = false := by simp; omega
    have hm : markB c q = !q := by unfold markB; rw [decide_eq_false (by omega), decide_eq_true (by omega)]; simp
    cases q <;> simp only [go_sem, simprocAttr, hl, h0, h1, g34, g92, g46, g59, g40, g41, g64, g36, hm] <;> rfl
  by_cases q40 : c.toNat = 40
  · have g34 : ((c.toNat : Int) == 34) = false := by simp; omega
    have g92 : ((c.toNat : Int) == 92) = false := by simp; omega
    have g46 : ((c.toNat : Int) == 46) = false := by simp; omega
    have g59 : ((c.toNat : Int) == 59) = false := by simp; omega
    have g40 : ((c.toNat : Int) == 40) = true := by simp; omega
    have g41 : ((c.toNat : Int) == 41) = false := by simp; omega
    have g64 : ((c.toNat : Int) == 64) = false := by simp; omega
    have g36 : ((c.toNat : Int) == 36) = false := by simp; omega
    have hm : markB c q = !q := by unfold markB; rw [decide_eq_false (by omega), decide_eq_true (by omega)]; simp
    cases q <;> simp only [go_sem, simprocAttr, hl, h0, h1, g34, g92, g46, g59, g40, g41, g64, g36, hm] <;> rfl
  by_cases q41 : c.toNat = 41
  · have g34 : ((c.toNat : Int) == 34) = false := by simp; omega
    have g92 : ((c.toNat : Int) == 92) = false := by simp; omega
    have g46 : ((c.toNat : Int) == 46) = false := by simp; omega
    have g59 : ((c.toNat : Int) == 59) = false := by simp; omega
    have g40 : ((c.toNat : Int) == 40) = false := by simp; omega
    have g41 : ((c.toNat : Int) == 41) = true := by simp; omega
    have g64 : ((c.toNat : Int) == 64) = false := by simp; omega
    have g36 : ((c.toNat : Int) == 36) = false := by simp; omega
    have hm : markB c q = !q := by unfold markB; rw [decide_eq_false (by omega), decide_eq_true (by omega)]; simp
    cases q <;> simp only [go_sem, simprocAttr, hl, h0, h1, g34, g92, g46, g59, g40, g41, g64, g36, hm] <;> rfl
  by_cases q64 : c.toNat = 64
  · have g34 : ((c.toNat : Int) == 34) = false := by simp; omega
    have g92 : ((c.toNat : Int) == 92) = false := by simp; omega
    have g46 : ((c.toNat : Int) == 46) = false := by simp; omega
    have g59 : ((c.toNat : Int) == 59) = false := by simp; omega
    have g40 : ((c.toNat : Int) == 40) = false := by simp; omega
    have g41 : ((c.toNat : Int) == 41) = false := by simp; omega
    have g64 : ((c.toNat : Int) == 64) = true := by simp; omega
    have g36 : ((c.toNat : Int) == 36) = false := by simp; omega
    have hm : markB c q = !q := by unfold markB; rw [decide_eq_false (by omega), decide_eq_true (by omega)]; simp
    cases q <;> simp only [go_sem, simprocAttr, hl, h0, h1, g34, g92, g46, g59, g40, g41, g64, g36, hm] <;> rfl
  by_cases q36 : c.toNat = 36
  · have g34 : ((c.toNat : Int) == 34) = false := by simp; omega
    have g92 : ((c.toNat : Int) == 92) = false := by simp; omega
    have g46 : ((c.toNat : Int) == 46) = false := by simp; omega
    have g59 : ((c.toNat : Int) == 59) = false := by simp; omega
    have g40 : ((c.toNat : Int) == 40) = false := by simp; omega
    have g41 : ((c.toNat : Int) == 41) = false := by simp; omega
    have g64 : ((c.toNat : Int) == 64) = false := by simp; omega
    have g36 : ((c.toNat : Int) == 36) = true := by simp; omega
    have hm : markB c q = !q := by unfold markB; rw [decide_eq_false (by omega), decide_eq_true (by omega)]; simp
    cases q <;> simp only [go_sem, simprocAttr, hl, h0, h1, g34, g92, g46, g59, g40, g41, g64, g36, hm] <;> rfl
  have g34 : ((c.toNat : Int) == 34) = false := by simp; omega
  have g92 : ((c.toNat : Int) == 92) = false := by simp; omega
  have g46 : ((c.toNat : Int) == 46) = false := by simp; omega
  have g59 : ((c.toNat : Int) == 59) = false := by simp; omega
  have g40 : ((c.toNat : Int) == 40) = false := by simp; omega
  have g41 : ((c.toNat : Int) == 41) = false := by simp; omega
  have g64 : ((c.toNat : Int) == 64) = false := by simp; omega
  have g36 : ((c.toNat : Int) == 36) = false := by simp; omega
  have hm : markB c q = false := by unfold markB; rw [decide_eq_false (by omega), decide_eq_false (by omega)]; simp
  cases q <;> simp only [go_sem, simprocAttr, hl, h0, h1, g34, g92, g46, g59, g40, g41, g64, g36, hm]
theorem bslice2 (a b : Int) (H : Hp) : evBuildSlice Tryd.prog 31 2 [(0, .int .u8 a), (1, .int .u8 b)] H = some (.slice H.length 0 2 (.ex 2), H ++ [.cells [.int .u8 a, .int .u8 b] 5 .rw]) := by
  simp only [evBuildSlice, tsh_31, tzero_5, Option.bind_some]
  rfl
theorem bslice1 (a : Int) (H : Hp) : evBuildSlice Tryd.prog 31 1 [(0, .int .u8 a)] H = some (.slice H.length 0 1 (.ex 1), H ++ [.cells [.int .u8 a] 5 .rw]) := by
  simp only [evBuildSlice, tsh_31, tzero_5, Option.bind_some]
  rfl
theorem Buf.more {n : Nat} {T : Hp} {v : AV} {bs : List UInt8} (h : Buf n T v bs) (l : Hp) : Buf n (T ++ l) v bs := by
  obtain h | ⟨q, m, rfl, hm⟩ := h
  · exact .inl h
  · exact .inr ⟨q, m, rfl, get_app hm⟩
theorem Buf.rd {H T : Hp} {v : AV} {bs : List UInt8} (h : Buf H.length T v bs) : Rd (H ++ T) v bs := by
  obtain h | ⟨q, m, rfl, hm⟩ := h
  · exact .inl h
  · exact .inr ⟨_, _, _, [], [], 5, .op 0 false, rfl, rfl, by rw [hp_new, hm]; simp, .inr ⟨rfl, rfl, 0, false, rfl⟩⟩

set_option maxRecDepth 20000 in
set_option maxHeartbeats 2000000 in
theorem ref_Escape (s : List UInt8) (q : Bool) (H k) (hs : s.length ≤ 1000000) : callK Tryd.prog 44 [.str s, .bool q] H k = k (.str (escS q s), H, z0) := by
  refine callK_eq (r := (.str (escS q s), H, z0)) ?_ k
  refine callK_start (n := 58) (rs := [.tmp 4]) Tryd.func44 rfl rfl rfl ?_
  intro σ hl ha
  have h0 := ha 0 (by simp)
  have h1 := ha 1 (by simp)
  clear ha
  simp only [Option.getD_some, List.getElem?_cons_zero, List.getElem?_cons_succ] at h0 h1
  have hb0 : Buf H.length [] .nils (escS q (s.take 0)) := .inl ⟨rfl, rfl⟩
  simp only [go_sem, simprocAttr, hl, h0, h1]
  refine go_rounds (fun n st => ∃ σ i v T e, n + i = s.length ∧ st = ⟨σ, H ++ T, e⟩ ∧ Buf H.length T v (escS q (s.take i)) ∧ clean H.length e ∧ σ.length = 58 ∧ fr σ 0 = .str s ∧ fr σ 1 = .bool q ∧ fr σ 5 = v ∧ fr σ 6 = .int .i64 (i : Nat)) s.length
    ⟨_, 0, _, [], _, rfl, by rw [List.append_nil], hb0, ⟨rfl, rfl⟩, by simp only [go_sem, simprocAttr, hl], by simp only [go_sem, simprocAttr, hl, h0], by simp only [go_sem, simprocAttr, hl, h1], by simp only [go_sem, simprocAttr, hl], by simp only [go_sem, simprocAttr, hl]⟩ ?_
  rintro n _ ⟨σ, i, v, T, e, hn, rfl, hb, he, hl, h0, h1, h5, h6⟩
  by_cases hlt : i < s.length
  · obtain ⟨c, hc⟩ : ∃ c, s[i]? = some c := ⟨_, List.getElem?_eq_getElem hlt⟩
    have hcl := c.toNat_lt
    have hw := wrap_succ (show i < 9223372036854775807 by omega)
    have hsn := escS_snoc (q := q) hc
    have hE := escB_mark q c
    have hmk := fun H k => ref_marked c q H k
    have hbl : (escS q (s.take i)).length ≤ 4000000 := by
      have := escS_len q (s.take i)
      rw [List.length_take] at this; omega
    generalize hB : escS q (s.take i) = B at *
    have hsc := hb.scl
    cases hm : markB c q with
    | true =>
      rw [hm, if_pos rfl] at hE
      simp only [hm] at hmk
      obtain ⟨v', T2, e2, happ, _, c2, _, b2⟩ := (hb.more [.cells (u8s [92, c]) 5 .rw]).app [92, c] (by simp only [fits, decide_eq_true_eq, List.length_cons, List.length_nil]; omega)
      have happ : ∀ kk, stepK (appTo Tryd.prog (.slice 5 1 1) v ([.int .u8 92, .int .u8 c.toNat], 2) (H ++ (T ++ [.cells [.int .u8 92, .int .u8 c.toNat] 5 .rw]))) kk = kk (v', H ++ T2, e2) := by
        simp only [u8s, List.map_cons, List.map_nil, List.length_cons, List.length_nil, ← dg_a hcl, ← dg_b hcl, ← dg_c hcl] at happ
        exact happ
      simp only [go_sem, simprocAttr, hl, h0, h1, h5, h6, hc, hlt, hmk, bslice4, bslice2, bslice1, happ, hw]
      refine ⟨n - 1, by omega, _, i + 1, v', T2, _, by omega, rfl, by rw [hsn, hE]; exact b2, by simp only [go_sem, simprocAttr, he, c2], by simp only [go_sem, simprocAttr, hl], by simp only [go_sem, simprocAttr, hl, h0], by simp only [go_sem, simprocAttr, hl, h1], by simp only [go_sem, simprocAttr, hl], by simp only [go_sem, simprocAttr, hl]⟩
    | false =>
      rw [hm, if_neg (by simp)] at hE
      simp only [hm] at hmk
      by_cases hp : 32 < c.toNat ∧ c.toNat < 127
      · rw [if_pos (.inl hp)] at hE
        have p0 : decide ((c.toNat : Int) > 32) = true := by simp; omega
        have p1 : decide ((c.toNat : Int) < 127) = true := by simp; omega
        have p2 : ((c.toNat : Int) == 32) = false := by simp; omega
        obtain ⟨v', T2, e2, happ, _, c2, _, b2⟩ := (hb.more [.cells (u8s [c]) 5 .rw]).app [c] (by simp only [fits, decide_eq_true_eq, List.length_cons, List.length_nil]; omega)
        have happ : ∀ kk, stepK (appTo Tryd.prog (.slice 5 1 1) v ([.int .u8 c.toNat], 1) (H ++ (T ++ [.cells [.int .u8 c.toNat] 5 .rw]))) kk = kk (v', H ++ T2, e2) := by
          simp only [u8s, List.map_cons, List.map_nil, List.length_cons, List.length_nil, ← dg_a hcl, ← dg_b hcl, ← dg_c hcl] at happ
          exact happ
        simp only [go_sem, simprocAttr, hl, h0, h1, h5, h6, hc, hlt, hmk, p0, p1, p2, bslice4, bslice2, bslice1, happ, hw]
        refine ⟨n - 1, by omega, _, i + 1, v', T2, _, by omega, rfl, by rw [hsn, hE]; exact b2, by simp only [go_sem, simprocAttr, he, c2], by simp only [go_sem, simprocAttr, hl], by simp only [go_sem, simprocAttr, hl, h0], by simp only [go_sem, simprocAttr, hl, h1], by simp only [go_sem, simprocAttr, hl], by simp only [go_sem, simprocAttr, hl]⟩
      by_cases hz : c.toNat = 32
      · have p0 : decide ((c.toNat : Int) > 32) = false := by simp; omega
        have p1 : decide ((c.toNat : Int) < 127) = true := by simp; omega
        have p2 : ((c.toNat : Int) == 32) = true := by simp; omega
        cases q
        · rw [if_neg (by simp; omega)] at hE
          obtain ⟨v', T2, e2, happ, _, c2, _, b2⟩ := (hb.more [.cells (u8s [92, UInt8.ofNat (48 + c.toNat / 100), UInt8.ofNat (48 + c.toNat / 10 % 10), UInt8.ofNat (48 + c.toNat % 10)]) 5 .rw]).app [92, UInt8.ofNat (48 + c.toNat / 100), UInt8.ofNat (48 + c.toNat / 10 % 10), UInt8.ofNat (48 + c.toNat % 10)] (by simp only [fits, decide_eq_true_eq, List.length_cons, List.length_nil]; omega)
          have happ : ∀ kk, stepK (appTo Tryd.prog (.slice 5 1 1) v ([.int .u8 92, .int .u8 (IntKind.u8.wrap (48 + IntKind.u8.wrap ((c.toNat : Int).tdiv 100))), .int .u8 (IntKind.u8.wrap (48 + (IntKind.u8.wrap ((c.toNat : Int).tdiv 10)).tmod 10)), .int .u8 (IntKind.u8.wrap (48 + (c.toNat : Int).tmod 10))], 4) (H ++ (T ++ [.cells [.int .u8 92, .int .u8 (IntKind.u8.wrap (48 + IntKind.u8.wrap ((c.toNat : Int).tdiv 100))), .int .u8 (IntKind.u8.wrap (48 + (IntKind.u8.wrap ((c.toNat : Int).tdiv 10)).tmod 10)), .int .u8 (IntKind.u8.wrap (48 + (c.toNat : Int).tmod 10))] 5 .rw]))) kk = kk (v', H ++ T2, e2) := by
            simp only [u8s, List.map_cons, List.map_nil, List.length_cons, List.length_nil, ← dg_a hcl, ← dg_b hcl, ← dg_c hcl] at happ
            exact happ
          simp only [go_sem, simprocAttr, hl, h0, h1, h5, h6, hc, hlt, hmk, p0, p1, p2, bslice4, bslice2, bslice1, happ, hw]
          refine ⟨n - 1, by omega, _, i + 1, v', T2, _, by omega, rfl, by rw [hsn, hE]; exact b2, by simp only [go_sem, simprocAttr, he, c2], by simp only [go_sem, simprocAttr, hl], by simp only [go_sem, simprocAttr, hl, h0], by simp only [go_sem, simprocAttr, hl, h1], by simp only [go_sem, simprocAttr, hl], by simp only [go_sem, simprocAttr, hl]⟩
        · rw [if_pos (.inr ⟨hz, rfl⟩)] at hE
          obtain ⟨v', T2, e2, happ, _, c2, _, b2⟩ := (hb.more [.cells (u8s [c]) 5 .rw]).app [c] (by simp only [fits, decide_eq_true_eq, List.length_cons, List.length_nil]; omega)
          have happ : ∀ kk, stepK (appTo Tryd.prog (.slice 5 1 1) v ([.int .u8 c.toNat], 1) (H ++ (T ++ [.cells [.int .u8 c.toNat] 5 .rw]))) kk = kk (v', H ++ T2, e2) := by
            simp only [u8s, List.map_cons, List.map_nil, List.length_cons, List.length_nil, ← dg_a hcl, ← dg_b hcl, ← dg_c hcl] at happ
            exact happ
          simp only [go_sem, simprocAttr, hl, h0, h1, h5, h6, hc, hlt, hmk, p0, p1, p2, bslice4, bslice2, bslice1, happ, hw]
          refine ⟨n - 1, by omega, _, i + 1, v', T2, _, by omega, rfl, by rw [hsn, hE]; exact b2, by simp only [go_sem, simprocAttr, he, c2], by simp only [go_sem, simprocAttr, hl], by simp only [go_sem, simprocAttr, hl, h0], by simp only [go_sem, simprocAttr, hl, h1], by simp only [go_sem, simprocAttr, hl], by simp only [go_sem, simprocAttr, hl]⟩
      rw [if_neg (by omega)] at hE
      by_cases hlo : c.toNat < 32
      · have p0 : decide ((c.toNat : Int) > 32) = false := by simp; omega
        have p1 : decide ((c.toNat : Int) < 127) = true := by simp; omega
        have p2 : ((c.toNat : Int) == 32) = false := by simp; omega
        obtain ⟨v', T2, e2, happ, _, c2, _, b2⟩ := (hb.more [.cells (u8s [92, UInt8.ofNat (48 + c.toNat / 100), UInt8.ofNat (48 + c.toNat / 10 % 10), UInt8.ofNat (48 + c.toNat % 10)]) 5 .rw]).app [92, UInt8.ofNat (48 + c.toNat / 100), UInt8.ofNat (48 + c.toNat / 10 % 10), UInt8.ofNat (48 + c.toNat % 10)] (by simp only [fits, decide_eq_true_eq, List.length_cons, List.length_nil]; omega)
        have happ : ∀ kk, stepK (appTo Tryd.prog (.slice 5 1 1) v ([.int .u8 92, .int .u8 (IntKind.u8.wrap (48 + IntKind.u8.wrap ((c.toNat : Int).tdiv 100))), .int .u8 (IntKind.u8.wrap (48 + (IntKind.u8.wrap ((c.toNat : Int).tdiv 10)).tmod 10)), .int .u8 (IntKind.u8.wrap (48 + (c.toNat : Int).tmod 10))], 4) (H ++ (T ++ [.cells [.int .u8 92, .int .u8 (IntKind.u8.wrap (48 + IntKind.u8.wrap ((c.toNat : Int).tdiv 100))), .int .u8 (IntKind.u8.wrap (48 + (IntKind.u8.wrap ((c.toNat : Int).tdiv 10)).tmod 10)), .int .u8 (IntKind.u8.wrap (48 + (c.toNat : Int).tmod 10))] 5 .rw]))) kk = kk (v', H ++ T2, e2) := by
          simp only [u8s, List.map_cons, List.map_nil, List.length_cons, List.length_nil, ← dg_a hcl, ← dg_b hcl, ← dg_c hcl] at happ
          exact happ
        simp only [go_sem, simprocAttr, hl, h0, h1, h5, h6, hc, hlt, hmk, p0, p1, p2, bslice4, bslice2, bslice1, happ, hw]
        refine ⟨n - 1, by omega, _, i + 1, v', T2, _, by omega, rfl, by rw [hsn, hE]; exact b2, by simp only [go_sem, simprocAttr, he, c2], by simp only [go_sem, simprocAttr, hl], by simp only [go_sem, simprocAttr, hl, h0], by simp only [go_sem, simprocAttr, hl, h1], by simp only [go_sem, simprocAttr, hl], by simp only [go_sem, simprocAttr, hl]⟩
      · have p0 : decide ((c.toNat : Int) > 32) = true := by simp; omega
        have p1 : decide ((c.toNat : Int) < 127) = false := by simp; omega
        have p2 : ((c.toNat : Int) == 32) = false := by simp; omega
        obtain ⟨v', T2, e2, happ, _, c2, _, b2⟩ := (hb.more [.cells (u8s [92, UInt8.ofNat (48 + c.toNat / 100), UInt8.ofNat (48 + c.toNat / 10 % 10), UInt8.ofNat (48 + c.toNat % 10)]) 5 .rw]).app [92, UInt8.ofNat (48 + c.toNat / 100), UInt8.ofNat (48 + c.toNat / 10 % 10), UInt8.ofNat (48 + c.toNat % 10)] (by simp only [fits, decide_eq_true_eq, List.length_cons, List.length_nil]; omega)
        have happ : ∀ kk, stepK (appTo Tryd.prog (.slice 5 1 1) v ([.int .u8 92, .int .u8 (IntKind.u8.wrap (48 + IntKind.u8.wrap ((c.toNat : Int).tdiv 100))), .int .u8 (IntKind.u8.wrap (48 + (IntKind.u8.wrap ((c.toNat : Int).tdiv 10)).tmod 10)), .int .u8 (IntKind.u8.wrap (48 + (c.toNat : Int).tmod 10))], 4) (H ++ (T ++ [.cells [.int .u8 92, .int .u8 (IntKind.u8.wrap (48 + IntKind.u8.wrap ((c.toNat : Int).tdiv 100))), .int .u8 (IntKind.u8.wrap (48 + (IntKind.u8.wrap ((c.toNat : Int).tdiv 10)).tmod 10)), .int .u8 (IntKind.u8.wrap (48 + (c.toNat : Int).tmod 10))] 5 .rw]))) kk = kk (v', H ++ T2, e2) := by
          simp only [u8s, List.map_cons, List.map_nil, List.length_cons, List.length_nil, ← dg_a hcl, ← dg_b hcl, ← dg_c hcl] at happ
          exact happ
        simp only [go_sem, simprocAttr, hl, h0, h1, h5, h6, hc, hlt, hmk, p0, p1, p2, bslice4, bslice2, bslice1, happ, hw]
        refine ⟨n - 1, by omega, _, i + 1, v', T2, _, by omega, rfl, by rw [hsn, hE]; exact b2, by simp only [go_sem, simprocAttr, he, c2], by simp only [go_sem, simprocAttr, hl], by simp only [go_sem, simprocAttr, hl, h0], by simp only [go_sem, simprocAttr, hl, h1], by simp only [go_sem, simprocAttr, hl], by simp only [go_sem, simprocAttr, hl]⟩
  · have hi : i = s.length := by omega
    subst hi
    rw [List.take_length] at hb
    have hstr := hb.rd.v.str
    simp only [go_sem, simprocAttr, hl, h0, h1, h5, h6, hlt, hstr]
    exact leave_flat rfl he

set_option maxRecDepth 20000 in
theorem ref_Text (s : List UInt8) (H k) (L : List (List UInt8)) (hn : nm s = some L) (hs : s.length ≤ maxI) : callK Tryd.prog 45 [.str s] H k = k (.str (txtN s), H, z0) := by
  refine callK_eq (r := (.str (txtN s), H, z0)) ?_ k
  refine callK_start (n := 32) (rs := [.tmp 2]) Tryd.func45 rfl rfl rfl ?_
  intro σ hl ha
  have h0 := ha 0 (by simp)
  clear ha
  simp only [Option.getD_some, List.getElem?_cons_zero, List.getElem?_cons_succ] at h0
  obtain ⟨⟨bv, bT⟩, hb, hst⟩ := ref_Split s H hs
  have hB := hb L hn
  rw [hn] at hst
  simp only [Option.isSome_some] at hst
  obtain ⟨hL, h255⟩ := nm_lab hn
  have hLs : labs s = L := by rw [labs, hn]; rfl
  have htl := tot_le L s hL
  have hll := len_tot L
  obtain ⟨rfl, _, h3⟩ | ⟨h1, h2, m, rfl, h3⟩ := hB
  · have hL0 : L = [] := List.length_eq_zero_iff.1 h3
    subst hL0
    have hs0 : s = [0] := by
      cases s with
      | nil => cases hL
      | cons c t =>
        rw [lab_cons] at hL
        split at hL
        · rename_i hc
          split at hL
          · rename_i ht
            have : c = 0 := UInt8.toNat.inj (by simpa using hc)
            rw [this, List.length_eq_zero_iff.1 ht]
          · cases hL
        · split at hL
          · cases hL
          · rw [Option.map_eq_some_iff] at hL
            obtain ⟨_, _, h⟩ := hL
            cases h
    have hx : txtN s = [46] := if_pos hs0
    simp only [go_sem, simprocAttr, hl, h0, hst, hx]
  have hx : txtN s = txtL L := by
    rw [txtN, hLs, if_neg]
    rintro rfl
    have : L = [] := by
      have : lab [0] = some [] := rfl
      rw [this] at hL; exact (Option.some.inj hL).symm
    rw [this] at h1; cases h1
  have hne : ((L.length : Int) == 0) = false := by simp; intro h; rw [h] at h1; cases h1
  have htx := txtL_len L
  have hg : (H ++ bT)[H.length + m]? = some (.cells (strs L) 9 (.op 0 false)) := by rw [hp_new, h3]
  simp only at hg h3
  rw [hx]
  simp only [go_sem, simprocAttr, hl, h0, hst, hne]
  refine go_rounds (fun n st => ∃ σ i, n + i = L.length ∧ st = ⟨σ, H ++ bT, z0⟩ ∧ σ.length = 32 ∧ fr σ 3 = .slice (H.length + m) 0 L.length (.op 0) ∧ fr σ 5 = .str (txtL (L.take i)) ∧ fr σ 6 = .int .i64 (i : Nat)) L.length
    ⟨_, 0, rfl, rfl, by simp only [go_sem, simprocAttr, hl], by simp only [go_sem, simprocAttr, hl], by simp only [go_sem, simprocAttr, hl]; rfl, by simp only [go_sem, simprocAttr, hl]⟩ ?_
  rintro n _ ⟨σ, i, hi, rfl, hl, h3', h5, h6⟩
  by_cases hlt : i < L.length
  · obtain ⟨l, hli⟩ : ∃ l, L[i]? = some l := ⟨_, List.getElem?_eq_getElem hlt⟩
    obtain ⟨p1, p2⟩ := labs_pos (s := s) (by rw [hLs]; exact hli)
    have hsn := txtL_snoc hli
    have hbl : (txtL (L.take i)).length ≤ 1020 := by have := txtL_len (L.take i); have := tot_take L i; omega
    have hw := wrap_succ (show i < 9223372036854775807 by omega)
    have hld := strs_ld hli
    have hE := fun H' k => ref_Escape l false H' k (by omega)
    have hEl := escS_len false l
    have a1 := add_ok (a := txtL (L.take i)) (b := escS false l) (m := 1020) (n := 252) hbl (by omega) (by omega)
    have a2 := add_ok (a := txtL (L.take i) ++ escS false l) (b := [46]) (m := 1272) (n := 1) (by rw [List.length_append]; omega) (by simp) (by omega)
    simp only [go_sem, simprocAttr, hl, h3', h5, h6, hlt, hg, h3, hld, hE, a1, a2, hw]
    refine ⟨n - 1, by omega, _, i + 1, by omega, rfl, by simp only [go_sem, simprocAttr, hl], by simp only [go_sem, simprocAttr, hl, h3'], ?_, by simp only [go_sem, simprocAttr, hl]⟩
    simp only [go_sem, simprocAttr, hl, hsn]
  · have hi : i = L.length := by omega
    subst hi
    rw [List.take_length] at h5
    simp only [go_sem, simprocAttr, hl, h3', h5, h6, hlt]
end Go.Proofs.YtgkpgpdkolpfkaaDoor.V
