/- Data of records checked by the document; data folded. No conditions. -/
import Derived.Test.YtgkpgpdkolpfkaaDoorWCheckC
namespace Go.Proofs.YtgkpgpdkolpfkaaDoor.V
open Go
set_option linter.unusedSimpArgs false
set_option linter.unusedVariables false
attribute [local irreducible] go goOps goD opK callK callT stepK leaveTo nextK

theorem rdata_Check (t : Int) (d : Dt) (H k) (hk : Tk H) (hd : d.wf) : callK Tryd.prog 14 [.int .u16 t, .agg d.cells] H k = k (.int .i64 (chk t d), H, z0) := callK_eq (rdata_CheckQ t d H hk hd) k

theorem beq_tf : ((true : Bool) == false) = false := rfl
theorem beq_ft : ((false : Bool) == true) = false := rfl
attribute [go_sem] beq_tf beq_ft
theorem Dt.at (d : Dt) {i : Nat} (hi : i < 5) (e : TypeId) (k : Kd) : ldC (3 + i) 1 false (.cells d.cells e k) = some (.int .u32 (d.n i)) := by
  have : i = 0 ∨ i = 1 ∨ i = 2 ∨ i = 3 ∨ i = 4 := by omega
  rcases this with rfl | rfl | rfl | rfl | rfl <;> rfl
theorem Dt.l0 (d : Dt) (e : TypeId) (k : Kd) : ldC 0 1 false (.cells d.cells e k) = some (.str d.raw) := rfl
theorem Dt.l1 (d : Dt) (e : TypeId) (k : Kd) : ldC 1 1 false (.cells d.cells e k) = some (.str d.host) := rfl
theorem Dt.l2 (d : Dt) (e : TypeId) (k : Kd) : ldC 2 1 false (.cells d.cells e k) = some (.str d.mail) := rfl
theorem Dt.l8 (d : Dt) (e : TypeId) (k : Kd) : ldC 0 8 true (.cells d.cells e k) = some (.agg d.cells) := rfl
theorem Dt.vc (d : Dt) : vcells (.agg d.cells) = d.cells := rfl
theorem Dt.len (d : Dt) : d.cells.length = 8 := rfl
theorem Dt.scl (d : Dt) : d.cells.all scal = true := rfl
theorem Dt.flat (d : Dt) : flats d.cells = true := by simp only [Dt.cells, go_sem]

theorem numT_le (t : Int) : numT t ≤ 5 := by
  unfold numT
  split
  · omega
  · split
    · omega
    · split <;> omega
theorem chk_bad {t : Int} {d : Dt} (h : headB t d = false) : chk t d = 40 := by unfold chk goodB; rw [h]; rfl
theorem chk_num {t : Int} {d : Dt} {i : Nat} (hi : i < 5) (h : numB t d i = false) : chk t d = 40 := by
  have : i = 0 ∨ i = 1 ∨ i = 2 ∨ i = 3 ∨ i = 4 := by omega
  unfold chk goodB
  rcases this with rfl | rfl | rfl | rfl | rfl <;> simp [h]
theorem chk_ok {t : Int} {d : Dt} (h : headB t d = true) (hn : ∀ j, j < 5 → numB t d j = true) : chk t d = 0 := by
  unfold chk goodB
  rw [h, hn 0 (by decide), hn 1 (by decide), hn 2 (by decide), hn 3 (by decide), hn 4 (by decide)]; rfl

set_option maxRecDepth 20000 in
set_option maxHeartbeats 2000000 in
theorem ref_CheckQ (t : Int) (d : Dt) (H) (hd : d.wf) : callK Tryd.prog 15 [.int .u16 t, .agg d.cells] H (fun q => q = (.int .i64 (chk t d), H, z0)) := by
  refine callK_start (n := 87) (rs := [.tmp 4]) Tryd.func15 rfl rfl rfl ?_
  intro σ hl ha
  have h0 := ha 0 (by simp)
  have h1 := ha 1 (by simp)
  clear ha
  simp only [Option.getD_some, List.getElem?_cons_zero, List.getElem?_cons_succ] at h0 h1
  have hn := fun (t : Int) H k => ref_names t H k
  have hu := fun (t : Int) H k => ref_numbers t H k
  have hr := fun (t : Int) H k => ref_raw t d.raw H k hd.raw
  have hh := fun H k => ref_Is d.host H k (by have := hd.host; show _ ≤ 9223372036854775807; omega)
  have hm := fun H k => ref_Is d.mail H k (by have := hd.mail; show _ ≤ 9223372036854775807; omega)
  have hdl0 := d.l0; have hdl1 := d.l1; have hdl2 := d.l2; have hvc := d.vc
  simp only [go_sem, simprocAttr, hl, h0, h1, hn, hu, hr, hh, hm, hdl0, hdl1, hdl2, hvc]
  cases r1 : rawT t d.raw
  · have hb := chk_bad (t := t) (d := d) (by unfold headB; rw [r1]; rfl)
    simp only [go_sem, simprocAttr, hl, h0, h1, hn, hu, hr, hh, hm, hdl0, hdl1, hdl2, hvc, r1, hb]
  have cs : ∀ p q r : Bool, (p = true ∧ q = true) ∨ (p = false ∧ q = false ∧ r = true) ∨ (p = true ∧ q = false) ∨ (p = false ∧ q = true) ∨ (p = false ∧ q = false ∧ r = false) := by decide
  rcases cs (hostT t) (nm d.host).isSome (d.host == []) with ⟨e1, e2⟩ | ⟨e1, e2, e3⟩ | ⟨e1, e2⟩ | ⟨e1, e2⟩ | ⟨e1, e2, e3⟩
  case inr.inr.inl =>
    have hb := chk_bad (t := t) (d := d) (by unfold headB; rw [r1, e1, e2]; rfl)
    simp only [go_sem, simprocAttr, hl, h0, h1, hn, hu, hr, hh, hm, hdl0, hdl1, hdl2, hvc, r1, e1, e2, hb]
  case inr.inr.inr.inl =>
    have hb := chk_bad (t := t) (d := d) (by unfold headB; rw [r1, e1, e2]; rfl)
    simp only [go_sem, simprocAttr, hl, h0, h1, hn, hu, hr, hh, hm, hdl0, hdl1, hdl2, hvc, r1, e1, e2, hb]
  case inr.inr.inr.inr =>
    have hb := chk_bad (t := t) (d := d) (by unfold headB; rw [r1, e1, e2, e3]; rfl)
    simp only [go_sem, simprocAttr, hl, h0, h1, hn, hu, hr, hh, hm, hdl0, hdl1, hdl2, hvc, r1, e1, e2, e3, hb]
  all_goals
    rcases cs (mailT t) (nm d.mail).isSome (d.mail == []) with ⟨f1, f2⟩ | ⟨f1, f2, f3⟩ | ⟨f1, f2⟩ | ⟨f1, f2⟩ | ⟨f1, f2, f3⟩
    case inr.inr.inl =>
      have hb := chk_bad (t := t) (d := d) (by unfold headB; simp only [r1, f1, f2]; simp)
      simp only [go_sem, simprocAttr, hl, h0, h1, hn, hu, hr, hh, hm, hdl0, hdl1, hdl2, hvc, r1, e1, e2, *, f1, f2, hb]
    case inr.inr.inr.inl =>
      have hb := chk_bad (t := t) (d := d) (by unfold headB; simp only [r1, f1, f2]; simp)
      simp only [go_sem, simprocAttr, hl, h0, h1, hn, hu, hr, hh, hm, hdl0, hdl1, hdl2, hvc, r1, e1, e2, *, f1, f2, hb]
    case inr.inr.inr.inr =>
      have hb := chk_bad (t := t) (d := d) (by unfold headB; simp only [r1, f1, f2, f3]; simp)
      simp only [go_sem, simprocAttr, hl, h0, h1, hn, hu, hr, hh, hm, hdl0, hdl1, hdl2, hvc, r1, e1, e2, *, f1, f2, f3, hb]
    all_goals
      have hhead : headB t d = true := by unfold headB; simp only [r1, e1, e2, f1, f2, *]; simp
      simp only [go_sem, simprocAttr, hl, h0, h1, hn, hu, hr, hh, hm, hdl0, hdl1, hdl2, hvc, r1, e1, e2, *, f1, f2]
      have hat := fun {i : Nat} (hi : i < 5) => d.at hi
      have hnt := numT_le t
      have hbt : bitT t = 0 ∨ bitT t = 16 ∨ bitT t = 32 := by unfold bitT; split; exact .inr (.inr rfl); split; exact .inr (.inl rfl); split; exact .inr (.inl rfl); exact .inl rfl
      refine go_rounds (fun n st => ∃ σ i, n + i = 5 ∧ (∀ j, j < i → numB t d j = true) ∧ st = ⟨σ, H ++ [.cells d.cells 37 .rw], z0⟩ ∧ σ.length = 87 ∧ fr σ 3 = .ptr H.length 0 ∧ fr σ 7 = .int .i64 (numT t : Nat) ∧ fr σ 8 = .int .i64 (bitT t : Nat) ∧ fr σ 9 = .int .i64 (i : Nat)) 5
        ⟨_, 0, rfl, fun j hj => by omega, rfl, by simp only [go_sem, simprocAttr, hl], by simp only [go_sem, simprocAttr, hl], by simp only [go_sem, simprocAttr, hl], by simp only [go_sem, simprocAttr, hl], by simp only [go_sem, simprocAttr, hl]⟩ ?_
      rintro n _ ⟨σ, i, hn', hall, rfl, hl, h3, h7, h8, h9⟩
      by_cases hlt : i < 5
      · have hld := fun (e : TypeId) (k : Kd) => d.at hlt e k
        have g0 : decide ((i : Int) < 5) = true := by simp; omega
        have b0 : (i : Int) < 5 := by omega
        have hw := wrap_succ (show i < 9223372036854775807 by omega)
        by_cases hk : i < numT t
        · have hk' : ¬ numT t ≤ i := by omega
          by_cases hb : bitT t = 16
          · have g1 : ((bitT t : Int) == 16) = true := by rw [hb]; rfl
            by_cases hv : d.n i > 65535
            · have g2 : decide (d.n i > 65535) = true := by simpa using hv
              have hc := chk_num (t := t) (d := d) hlt (by unfold numB; rw [if_pos hk, hb, g2]; rfl)
              simp only [go_sem, simprocAttr, hl, h3, h7, h8, h9, g0, b0, hk, hk', g1, hld, g2, hc, ge_iff_le]
            · have g2 : decide (d.n i > 65535) = false := by simpa using hv
              have hc : numB t d i = true := by unfold numB; rw [if_pos hk, g2]; simp
              simp only [go_sem, simprocAttr, hl, h3, h7, h8, h9, g0, b0, hk, hk', g1, hld, g2, hw, ge_iff_le]
              exact ⟨n - 1, by omega, _, i + 1, by omega, fun j hj => by (by_cases hji : j = i; rw [hji]; exact hc; exact hall j (by omega)), rfl, by simp only [go_sem, simprocAttr, hl], by simp only [go_sem, simprocAttr, hl, h3], by simp only [go_sem, simprocAttr, hl, h7], by simp only [go_sem, simprocAttr, hl, h8], by simp only [go_sem, simprocAttr, hl]⟩
          · have g1 : ((bitT t : Int) == 16) = false := by rw [beq_eq_false_iff_ne]; omega
            have hc : numB t d i = true := by
              unfold numB
              rw [if_pos hk]
              have : (bitT t == 16) = false := by rw [beq_eq_false_iff_ne]; exact hb
              rw [this]; rfl
            simp only [go_sem, simprocAttr, hl, h3, h7, h8, h9, g0, b0, hk, hk', g1, hld, hw, ge_iff_le]
            exact ⟨n - 1, by omega, _, i + 1, by omega, fun j hj => by (by_cases hji : j = i; rw [hji]; exact hc; exact hall j (by omega)), rfl, by simp only [go_sem, simprocAttr, hl], by simp only [go_sem, simprocAttr, hl, h3], by simp only [go_sem, simprocAttr, hl, h7], by simp only [go_sem, simprocAttr, hl, h8], by simp only [go_sem, simprocAttr, hl]⟩
        · have hk' : numT t ≤ i := by omega
          by_cases hv : d.n i = 0
          · have g2 : (d.n i != 0) = false := by rw [hv]; rfl
            have hc : numB t d i = true := by unfold numB; rw [if_neg hk, hv]; rfl
            simp only [go_sem, simprocAttr, hl, h3, h7, h8, h9, g0, b0, hk, hk', hld, g2, hw, ge_iff_le]
            exact ⟨n - 1, by omega, _, i + 1, by omega, fun j hj => by (by_cases hji : j = i; rw [hji]; exact hc; exact hall j (by omega)), rfl, by simp only [go_sem, simprocAttr, hl], by simp only [go_sem, simprocAttr, hl, h3], by simp only [go_sem, simprocAttr, hl, h7], by simp only [go_sem, simprocAttr, hl, h8], by simp only [go_sem, simprocAttr, hl]⟩
          · have g2 : (d.n i != 0) = true := by simpa using hv
            have hc := chk_num (t := t) (d := d) hlt (by unfold numB; rw [if_neg hk, beq_eq_false_iff_ne]; exact hv)
            simp only [go_sem, simprocAttr, hl, h3, h7, h8, h9, g0, b0, hk, hk', hld, g2, hc, ge_iff_le]
      · have g0 : decide ((i : Int) < 5) = false := by simp; omega
        have hc := chk_ok hhead (fun j hj => hall j (by omega))
        simp only [go_sem, simprocAttr, hl, h3, h7, h8, h9, g0, hc]

theorem ref_Check (t : Int) (d : Dt) (H k) (hd : d.wf) : callK Tryd.prog 15 [.int .u16 t, .agg d.cells] H k = k (.int .i64 (chk t d), H, z0) := callK_eq (ref_CheckQ t d H hd) k

/-- Data with names in small letters. -/
def foldD (t : Int) (d : Dt) : Dt := { d with host := if hostT t = true then lowS d.host else d.host, mail := if mailT t = true then lowS d.mail else d.mail }
theorem lowS_low (s : List UInt8) : lowS (lowS s) = lowS s := by
  have key : ∀ c : Fin 256, lowB (lowB (UInt8.ofNat c.val)) = lowB (UInt8.ofNat c.val) := by decide +kernel
  have h1 : ∀ c : UInt8, lowB (lowB c) = lowB c := fun c => by have := key ⟨c.toNat, c.toNat_lt⟩; simpa using this
  simp only [lowS, List.map_map]
  congr 1
  funext c
  exact h1 c
theorem st_host {r h m : List UInt8} {n0 n1 n2 n3 n4 : Int} (s : List UInt8) : splice (Dt.cells ⟨r, h, m, n0, n1, n2, n3, n4⟩) 1 [.str s] = Dt.cells ⟨r, s, m, n0, n1, n2, n3, n4⟩ := rfl

set_option maxRecDepth 20000 in
theorem ref_FoldD (t : Int) (d : Dt) (H k) (hd : d.wf) : callK Tryd.prog 17 [.int .u16 t, .agg d.cells] H k = k (.agg (foldD t d).cells, H, z0) := by
  refine callK_eq (r := (.agg (foldD t d).cells, H, z0)) ?_ k
  refine callK_start (n := 23) (rs := [.cell 4 37]) Tryd.func17 rfl rfl rfl ?_
  intro σ hl ha
  have h0 := ha 0 (by simp)
  have h1 := ha 1 (by simp)
  clear ha
  simp only [Option.getD_some, List.getElem?_cons_zero, List.getElem?_cons_succ] at h0 h1
  have hn := fun (t : Int) H k => ref_names t H k
  have hh := fun H k => ref_Fold d.host H k (by have := hd.host; show _ ≤ 9223372036854775807; omega)
  have hm := fun H k => ref_Fold d.mail H k (by have := hd.mail; show _ ≤ 9223372036854775807; omega)
  have hz : tzero Tryd.prog 37 = some (Dt.cells Dt.zero) := by rw [tzero_37]; rfl
  simp only [go_sem, simprocAttr, hl, h0, h1, hn, hh, hm, Dt.cells, foldD]
  cases eh : hostT t <;> cases em : mailT t <;> simp only [go_sem, simprocAttr, hl, h0, h1, hn, hh, hm, eh, em]
end Go.Proofs.YtgkpgpdkolpfkaaDoor.V
