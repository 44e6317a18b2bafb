/- Joined by mkclaim.py: WWordA WTypeOf WWordB WIndex WWordC WWordD WWordE WRead WReadB WCutW WLawW WFlat. No conditions. -/
import Derived.Test.YtgkpgpdkolpfkaaGreatDoorJ5
import Derived.Test.YtgkpgpdkolpfkaaGreatDoorJ3
set_option linter.unusedSimpArgs false
set_option linter.unusedVariables false
namespace Go.Proofs.YtgkpgpdkolpfkaaGreatDoor.V
open Go
attribute [local irreducible] go goOps goD opK callK callT stepK leaveTo nextK

theorem and_ee {b : Nat} : (⟨some b, some b⟩ : Ef).and ⟨some b, some b⟩ = ⟨some b, some b⟩ := by simp [Ef.and, omin]
theorem and_ew {b : Nat} : (⟨some b, some b⟩ : Ef).and ⟨none, some b⟩ = ⟨some b, some b⟩ := by simp [Ef.and, omin]
theorem and_we {b : Nat} : (⟨none, some b⟩ : Ef).and ⟨some b, some b⟩ = ⟨some b, some b⟩ := by simp [Ef.and, omin]
theorem omin_lo {b n : Nat} {o : Option Nat} (h : low n o = none) (hb : b < n) : omin (some b) o = some b := by
  cases o with
  | none => rfl
  | some x =>
    rw [low_w] at h
    show some (min b x) = some b
    congr 1; omega
theorem and_ec {b n : Nat} {e : Ef} (h : clean n e) (hb : b < n) : (⟨some b, some b⟩ : Ef).and e = ⟨some b, some b⟩ := by
  unfold Ef.and
  rw [omin_lo h.1 hb, omin_lo h.2 hb]
theorem and_ce {b n : Nat} {e : Ef} (h : clean n e) (hb : b < n) : e.and ⟨some b, some b⟩ = ⟨some b, some b⟩ := by
  unfold Ef.and
  simp only [omin_comm e.es, omin_comm e.ws]
  rw [omin_lo h.1 hb, omin_lo h.2 hb]
theorem leave_ee {n b : Nat} {v : AV} {H : Hp} (hb : b < n) : leave n v H ⟨some b, some b⟩ = (v, H, ⟨some b, some b⟩) := by
  have := leave_st (n := n) (v := v) (H := H) (e := ⟨some b, some b⟩) (low_sm hb)
  rw [this]
  have h : low n (some b) = some b := low_sm hb
  simp [h]

structure Wd where
  t : List UInt8
  q : Bool
  ln : Int
  cl : Int
def Wd.cells (w : Wd) : List AV := [.str w.t, .bool w.q, .int .i64 w.ln, .int .i64 w.cl]
def wcells (ws : List Wd) : List AV := ws.flatMap Wd.cells
theorem wcells_len (ws : List Wd) : (wcells ws).length = ws.length * 4 := by
  induction ws with
  | nil => rfl
  | cons w ws ih =>
    have e : wcells (w :: ws) = w.cells ++ wcells ws := rfl
    rw [e, List.length_append, ih, List.length_cons]; simp [Wd.cells]; omega
def Wv (H : Hp) (v : AV) (ws : List Wd) : Prop := (v = .nils ∧ ws = []) ∨
  (∃ b k pre fz st, v = .slice b (k * 4) ws.length (.op k) ∧ pre.length = k * 4 ∧ H[b]? = some (.cells (pre ++ wcells ws) 71 (.op fz st))) ∨
  ∃ b, v = .slice b 0 0 (.op 0) ∧ H[b]? = some .void ∧ ws = []
theorem Wv.old {H : Hp} {v : AV} {ws : List Wd} (h : Wv H v ws) (l : Hp) : Wv (H ++ l) v ws := by
  obtain h | ⟨b, k, pre, fz, st, h1, h2, h3⟩ | ⟨b, h1, h2, h3⟩ := h
  · exact .inl h
  · exact .inr (.inl ⟨b, k, pre, fz, st, h1, h2, get_app h3⟩)
  · exact .inr (.inr ⟨b, h1, get_app h2, h3⟩)
theorem Wv.set {H : Hp} {v : AV} {ws : List Wd} (h : Wv H v ws) {rb : Nat} {c : List AV} {e : TypeId} {x : ABlk} (hb : H[rb]? = some (.cells c e .rw)) : Wv (H.set rb x) v ws := by
  obtain h | ⟨b, k, pre, fz, st, h1, h2, h3⟩ | ⟨b, h1, h2, h3⟩ := h
  · exact .inl h
  · have hne : rb ≠ b := by
      rintro rfl
      rw [hb] at h3; injection h3 with h3; injection h3 with _ _ h3; cases h3
    exact .inr (.inl ⟨b, k, pre, fz, st, h1, h2, by rw [List.getElem?_set_ne hne]; exact h3⟩)
  · have hne : rb ≠ b := by
      rintro rfl
      rw [hb] at h2; cases h2
    exact .inr (.inr ⟨b, h1, by rw [List.getElem?_set_ne hne]; exact h2, h3⟩)
theorem Wv.len {H : Hp} {v : AV} {ws : List Wd} (h : Wv H v ws) (H' : Hp) : evLen Tryz.prog 34 v H' = some (.int .i64 ws.length) := by
  obtain ⟨rfl, rfl⟩ | ⟨b, k, pre, fz, st, rfl, _, _⟩ | ⟨b, rfl, _, rfl⟩ := h
  · simp only [evLen, tsh_34]; rfl
  · simp only [evLen, tsh_34]
  · simp only [evLen, tsh_34]; rfl
theorem Wv.scl {H : Hp} {v : AV} {ws : List Wd} (h : Wv H v ws) : scal v = true ∧ vcells v = [v] := by
  obtain ⟨rfl, _⟩ | ⟨b, k, pre, fz, st, rfl, _⟩ | ⟨b, rfl, _⟩ := h <;> exact ⟨rfl, rfl⟩
theorem Wv.hd {H : Hp} {v : AV} {w : Wd} {ws : List Wd} (h : Wv H v (w :: ws)) : ∃ b q row e k, evIndexAddr Tryz.prog 34 v (.int .i64 0) = some (.ptr b q) ∧ H[b]? = some (.cells row e k) ∧ ldC q 1 false (.cells row e k) = some (.str w.t) ∧ ldC (q + 1) 1 false (.cells row e k) = some (.bool w.q) := by
  obtain ⟨_, h⟩ | ⟨b, k, pre, fz, st, rfl, h2, h3⟩ | ⟨b, _, _, h⟩ := h
  · cases h
  · have e : wcells (w :: ws) = .str w.t :: .bool w.q :: .int .i64 w.ln :: .int .i64 w.cl :: wcells ws := rfl
    refine ⟨b, k * 4, _, _, _, ?_, h3, ?_, ?_⟩
    · simp only [evIndexAddr, tsh_34]
      rw [if_pos ⟨by decide, by simp only [List.length_cons]; omega⟩]
      simp
    · rw [ldC_f, e, List.getElem?_append_right (by omega), h2, Nat.sub_self]; rfl
    · rw [ldC_f, e, List.getElem?_append_right (by omega), h2, Nat.add_sub_cancel_left]; rfl
  · cases h
theorem Wv.tl {H : Hp} {v : AV} {w : Wd} {ws : List Wd} (h : Wv H v (w :: ws)) : ∃ v' L, (∀ kk, slK Tryz.prog 34 v (some (.int .i64 1)) none none H kk = kk (v', H ++ L, z0)) ∧ Wv (H ++ L) v' ws ∧ (L = [] ∨ L = [.void]) ∧ flat v' = false := by
  obtain ⟨_, h⟩ | ⟨b, k, pre, fz, st, rfl, h2, h3⟩ | ⟨b, _, _, h⟩ := h
  · cases h
  · have e : wcells (w :: ws) = w.cells ++ wcells ws := rfl
    have hl : (pre ++ wcells (w :: ws)).length = k * 4 + (ws.length + 1) * 4 := by rw [List.length_append, h2, wcells_len]; rfl
    have hrule : ∀ kk, slK Tryz.prog 34 (.slice b (k * 4) (ws.length + 1) (.op k)) (some (.int .i64 1)) none none H kk = guardK (.bool (decide (1 = 0 ∨ 1 < ws.length + 1))) true (kk (.slice b ((k + 1) * 4) ws.length (.op (k + 1)), H, z0)) (1 = ws.length + 1 ∧ kk (.slice H.length 0 0 (.op 0), H ++ [.void], z0)) := by
      intro kk
      rw [slK_op (by rw [tsh_34]; rfl), tsh_34, bindK_some, h3, bindK_some, knC_c, if_pos ⟨rfl, by decide, rfl⟩, bindK_some, bnd_ln, hl, Nat.add_sub_cancel_left, Nat.mul_div_cancel _ (by decide)]
      simp only [shZ_s]
      have q1 : ((0 : Int) ≤ 1 ∧ (1 : Int) ≤ ((ws.length + 1 : Nat) : Int)) = True := eq_true ⟨by decide, by omega⟩
      have e1 : (1 : Int).toNat = 1 := rfl
      rw [q1, true_and, e1, show k * 4 + 1 * 4 = (k + 1) * 4 by omega, Nat.add_sub_cancel]
    cases ws with
    | cons x xs =>
      refine ⟨.slice b ((k + 1) * 4) (xs.length + 1) (.op (k + 1)), [], fun kk => ?_, ?_, .inl rfl, rfl⟩
      · have := hrule kk
        rw [List.length_cons] at this ⊢
        rw [List.length_cons, this, decide_eq_true (by right; omega), guardK_tt, List.append_nil]
      · rw [List.append_nil]
        exact .inr (.inl ⟨b, k + 1, pre ++ w.cells, fz, st, rfl, by simp [h2, Wd.cells]; omega, by rw [List.append_assoc, ← e]; exact h3⟩)
    | nil =>
      refine ⟨.slice H.length 0 0 (.op 0), [.void], fun kk => ?_, .inr (.inr ⟨H.length, rfl, by rw [hp_new0]; rfl, rfl⟩), .inr rfl, rfl⟩
      have := hrule kk
      have e0 : ([w] : List Wd).length = ([] : List Wd).length + 1 := rfl
      rw [e0, this]
      have d0 : decide ((1 : Nat) = 0 ∨ 1 < ([] : List Wd).length + 1) = false := by decide
      rw [d0, guardK_ft]
      simp
  · cases h

def WdC (v : AV) (o : List UInt8) (d : Dt) (k : Nat) : List AV := [v, .str o, .str d.raw, .str d.host, .str d.mail, .int .u32 d.n0, .int .u32 d.n1, .int .u32 d.n2, .int .u32 d.n3, .int .u32 d.n4, .int .i64 k]
section
variable {v : AV} {o : List UInt8} {d : Dt} {k : Nat} {e : TypeId} {kd : Kd}
theorem WdC.l0 : ldC 0 1 false (.cells (WdC v o d k) e kd) = some v := rfl
theorem WdC.l1 : ldC 1 1 false (.cells (WdC v o d k) e kd) = some (.str o) := rfl
theorem WdC.l2 : ldC 2 1 false (.cells (WdC v o d k) e kd) = some (.str d.raw) := rfl
theorem WdC.ld : ldC 2 8 true (.cells (WdC v o d k) e kd) = some (.agg d.cells) := rfl
theorem WdC.l10 : ldC 10 1 false (.cells (WdC v o d k) e kd) = some (.int .i64 k) := rfl
theorem WdC.len : (WdC v o d k).length = 11 := rfl
theorem WdC.s0 {x : AV} : splice (WdC v o d k) 0 [x] = WdC x o d k := rfl
theorem WdC.s2 {x : List UInt8} : splice (WdC v o d k) 2 [.str x] = WdC v o { d with raw := x } k := rfl
theorem WdC.s3 {x : List UInt8} : splice (WdC v o d k) 3 [.str x] = WdC v o { d with host := x } k := rfl
theorem WdC.s4 {x : List UInt8} : splice (WdC v o d k) 4 [.str x] = WdC v o { d with mail := x } k := rfl
theorem WdC.s10 {x : Nat} : splice (WdC v o d k) 10 [.int .i64 x] = WdC v o d x := rfl
theorem WdC.sN {j : Nat} {x : Int} (hj : j < 5) : splice (WdC v o d k) (5 + j) [.int .u32 x] = WdC v o (d.setN j x) k := by
  have : j = 0 ∨ j = 1 ∨ j = 2 ∨ j = 3 ∨ j = 4 := by omega
  rcases this with rfl | rfl | rfl | rfl | rfl <;> rfl
end
set_option maxRecDepth 20000 in
theorem wd_next (H) (rb : Nat) (v : AV) (o : List UInt8) (d : Dt) (j : Nat) (w : Wd) (ws : List Wd) (hq : w.q = false) (hb : H[rb]? = some (.cells (WdC v o d j) 69 .rw)) (hv : Wv H v (w :: ws)) :
    ∃ v' L, Wv (H ++ L) v' ws ∧ ∀ k, callK Tryz.prog 45 [.ptr rb 0] H k = k (.str w.t, H.set rb (.cells (WdC v' o d j) 69 .rw) ++ L, ⟨some rb, some rb⟩) := by
  obtain ⟨v', L, hsl, hv', hL, hfl⟩ := hv.tl
  obtain ⟨b, q, row, e, kd, hi, hg, hl1, hl2⟩ := hv.hd
  refine ⟨v', L, hv', fun k => ?_⟩
  obtain ⟨hsc, hvc⟩ := hv'.scl
  have hlt := lt_of_get hb
  have hlen := hv.len
  have hgL : (H ++ L)[rb]? = some (.cells (WdC v o d j) 69 .rw) := get_app hb
  have hsL : ∀ y, (H ++ L).set rb y = H.set rb y ++ L := fun y => List.set_append_left _ _ hlt
  have hlv : ∀ (x : AV) (H' : Hp), leave H.length x H' ⟨some rb, some rb⟩ = (x, H', ⟨some rb, some rb⟩) := fun x H' => leave_ee hlt
  refine callK_eq ?_ k
  refine callK_start (n := 36) (rs := [.tmp 2]) Tryz.func45 rfl rfl rfl ?_
  intro σ hl ha
  have h0 := ha 0 (by simp)
  clear ha
  simp only [Option.getD_some, List.getElem?_cons_zero, List.getElem?_cons_succ] at h0
  rw [hq] at hl2
  have hz : (((ws.length + 1 : Nat) : Int) == 0) = false := by rw [beq_eq_false_iff_ne]; omega
  simp only [go_sem, simprocAttr, hl, h0, hb, WdC.l0, WdC.len, WdC.s0, hlen, hz, hi, hg, hl1, hl2, hsl, hgL, hsc, hvc, hfl, hsL, hlv, flats]
theorem Te.set {H : Hp} (h : Te H) {rb : Nat} {v : AV} {o : List UInt8} {d : Dt} {j : Nat} {x : ABlk} (hb : H[rb]? = some (.cells (WdC v o d j) 69 .rw)) : Te (H.set rb x) := by
  obtain ⟨⟨e, k, u, b, h1⟩, ⟨e', k', u', b', h2⟩⟩ := h
  have g1 : rb ≠ 5 := by rintro rfl; rw [hb] at h1; simp [WdC] at h1
  have g2 : rb ≠ 6 := by rintro rfl; rw [hb] at h2; simp [WdC] at h2
  exact ⟨⟨e, k, u, b, by rw [List.getElem?_set_ne g1]; exact h1⟩, ⟨e', k', u', b', by rw [List.getElem?_set_ne g2]; exact h2⟩⟩
section
variable (H : Hp) (rb : Nat) (v : AV) (o : List UInt8) (d : Dt) (j : Nat) (w : Wd) (ws : List Wd) (hq : w.q = false) (hb : H[rb]? = some (.cells (WdC v o d j) 69 .rw)) (hv : Wv H v (w :: ws)) (hw : w.t.length ≤ 1048576)
include hq hb hv hw
set_option maxRecDepth 20000 in
theorem wd_name (n : List UInt8) (ho : o.length ≤ 1048576) (hn : nameS w.t o = (n, 0)) (h64 : w.t ≠ [64]) :
    ∃ v' L, Wv (H ++ L) v' ws ∧ ∀ k, callK Tryz.prog 48 [.ptr rb 0] H k = k (.str n, H.set rb (.cells (WdC v' o d j) 69 .rw) ++ L, ⟨some rb, some rb⟩) := by
  obtain ⟨v', L, hv', hnx⟩ := wd_next H rb v o d j w ws hq hb hv
  refine ⟨v', L, hv', fun k => ?_⟩
  have hlt := lt_of_get hb
  have hg : ∀ y, (H.set rb y ++ L)[rb]? = some y := fun y => get_app (by rw [List.getElem?_set_self hlt])
  have hlv : ∀ (x : AV) (H' : Hp), leave H.length x H' ⟨some rb, some rb⟩ = (x, H', ⟨some rb, some rb⟩) := fun x H' => leave_ee hlt
  have hp := fun H' k => name_Parse w.t o H' k hw ho
  rw [hn] at hp
  have hp : ∀ H' k, callK Tryz.prog 73 [.str w.t, .str o] H' k = k (.tuple [.str n, .int .i64 0], H', z0) := hp
  have h0' : (w.t == [64]) = false := by rw [beq_eq_false_iff_ne]; exact h64
  refine callK_eq ?_ k
  refine callK_start (n := 27) (rs := [.tmp 2]) Tryz.func48 rfl rfl rfl ?_
  intro σ hl ha
  have h0 := ha 0 (by simp)
  clear ha
  simp only [Option.getD_some, List.getElem?_cons_zero, List.getElem?_cons_succ] at h0
  simp only [go_sem, simprocAttr, hl, h0, hnx, h0', hg, WdC.l1, hp, hlv]
theorem wd_host (n : List UInt8) (ho : o.length ≤ 1048576) (hn : nameS w.t o = (n, 0)) (h64 : w.t ≠ [64]) :
    ∃ v' L, Wv (H ++ L) v' ws ∧ ∀ k, callK Tryz.prog 23 [.ptr rb 0] H k = k (.tuple [], H.set rb (.cells (WdC v' o { d with host := n } j) 69 .rw) ++ L, ⟨some rb, some rb⟩) := by
  obtain ⟨v', L, hv', hnx⟩ := wd_name H rb v o d j w ws hq hb hv hw n ho hn h64
  refine ⟨v', L, hv', fun k => ?_⟩
  have hlt := lt_of_get hb
  have hg : ∀ y, (H.set rb y ++ L)[rb]? = some y := fun y => get_app (by rw [List.getElem?_set_self hlt])
  have hs : ∀ y z, (H.set rb y ++ L).set rb z = H.set rb z ++ L := fun y z => by rw [List.set_append_left _ _ (by simpa using hlt), List.set_set]
  have hlv : ∀ (x : AV) (H' : Hp), leave H.length x H' ⟨some rb, some rb⟩ = (x, H', ⟨some rb, some rb⟩) := fun x H' => leave_ee hlt
  refine callK_eq ?_ k
  refine callK_start (n := 8) (rs := []) Tryz.func23 rfl rfl rfl ?_
  intro σ hl ha
  have h0 := ha 0 (by simp)
  clear ha
  simp only [Option.getD_some, List.getElem?_cons_zero, List.getElem?_cons_succ] at h0
  simp only [go_sem, simprocAttr, hl, h0, hnx, hg, hs, WdC.len, WdC.s3, and_ew, hlv]
theorem wd_mail (n : List UInt8) (ho : o.length ≤ 1048576) (hn : nameS w.t o = (n, 0)) (h64 : w.t ≠ [64]) :
    ∃ v' L, Wv (H ++ L) v' ws ∧ ∀ k, callK Tryz.prog 24 [.ptr rb 0] H k = k (.tuple [], H.set rb (.cells (WdC v' o { d with mail := n } j) 69 .rw) ++ L, ⟨some rb, some rb⟩) := by
  obtain ⟨v', L, hv', hnx⟩ := wd_name H rb v o d j w ws hq hb hv hw n ho hn h64
  refine ⟨v', L, hv', fun k => ?_⟩
  have hlt := lt_of_get hb
  have hg : ∀ y, (H.set rb y ++ L)[rb]? = some y := fun y => get_app (by rw [List.getElem?_set_self hlt])
  have hs : ∀ y z, (H.set rb y ++ L).set rb z = H.set rb z ++ L := fun y z => by rw [List.set_append_left _ _ (by simpa using hlt), List.set_set]
  have hlv : ∀ (x : AV) (H' : Hp), leave H.length x H' ⟨some rb, some rb⟩ = (x, H', ⟨some rb, some rb⟩) := fun x H' => leave_ee hlt
  refine callK_eq ?_ k
  refine callK_start (n := 8) (rs := []) Tryz.func24 rfl rfl rfl ?_
  intro σ hl ha
  have h0 := ha 0 (by simp)
  clear ha
  simp only [Option.getD_some, List.getElem?_cons_zero, List.getElem?_cons_succ] at h0
  simp only [go_sem, simprocAttr, hl, h0, hnx, hg, hs, WdC.len, WdC.s4, and_ew, hlv]
set_option maxRecDepth 20000 in
theorem wd_number (bits : Int) (mx n : Nat) (hbt : Bits bits mx) (hmx : mx ≤ 4294967295) (ht : Te H) (hn : numS w.t mx = some n) (hj : j < 5) :
    ∃ v' L, Wv (H ++ L) v' ws ∧ ∀ k, callK Tryz.prog 49 [.ptr rb 0, .int .i64 bits] H k = k (.tuple [], H.set rb (.cells (WdC v' o (d.setN j n) (j + 1)) 69 .rw) ++ L, ⟨some rb, some rb⟩) := by
  obtain ⟨v', L, hv', hnx⟩ := wd_next H rb v o d j w ws hq hb hv
  refine ⟨v', L, hv', fun k => ?_⟩
  have hlt := lt_of_get hb
  have hg : ∀ y, (H.set rb y ++ L)[rb]? = some y := fun y => get_app (by rw [List.getElem?_set_self hlt])
  have hs : ∀ y z, (H.set rb y ++ L).set rb z = H.set rb z ++ L := fun y z => by rw [List.set_append_left _ _ (by simpa using hlt), List.set_set]
  have hlv : ∀ (x : AV) (H' : Hp), leave H.length x H' ⟨some rb, some rb⟩ = (x, H', ⟨some rb, some rb⟩) := fun x H' => leave_ee hlt
  have hp := fun y k => rdata_number w.t bits mx hbt hmx (H.set rb y ++ L) k ((ht.set hb).old L) hw
  rw [hn] at hp
  simp only [Option.getD_some, Option.isSome_some] at hp
  refine callK_eq ?_ k
  refine callK_start (n := 33) (rs := []) Tryz.func49 rfl rfl rfl ?_
  intro σ hl ha
  have h0 := ha 0 (by simp)
  have h1 := ha 1 (by simp)
  clear ha
  simp only [Option.getD_some, List.getElem?_cons_zero, List.getElem?_cons_succ] at h0 h1
  have hix : evIndexAddr Tryz.prog 25 (.ptr rb 5) (.int .i64 (j : Nat)) = some (.ptr rb (5 + j)) := by
    simp only [evIndexAddr, tsh_25]
    rw [if_pos (by omega)]
    simp
  have hln : 5 + j + 1 ≤ 11 := by omega
  have hsn := fun v o d k x => WdC.sN (v := v) (o := o) (d := d) (k := k) (x := x) hj
  have w1 := wrap_succ (show j < 9223372036854775807 by omega)
  simp only [go_sem, simprocAttr, hl, h0, h1, hnx, hp]
  refine go_drawZ tFollows (by kernel_rfl) ?_
  simp only [go_sem, simprocAttr, hl, h0, h1, hg, hs, WdC.l10, WdC.len, hix, hln, hsn, w1, WdC.s10, and_ew, hlv]
  exact ⟨by omega, by kernel_rfl⟩
end
end Go.Proofs.YtgkpgpdkolpfkaaGreatDoor.V
namespace Go.Proofs.YtgkpgpdkolpfkaaGreatDoor.V
open Go
attribute [local irreducible] go goOps goD opK callK callT stepK leaveTo nextK

theorem decP_ne (n : Nat) : decP n ≠ [] := by
  unfold decP
  split <;> simp
theorem hexD_isD {n : Nat} (h : n < 10) : isD (hexD n) = true ∧ (hexD n).toNat - 48 = n ∧ (n ≠ 0 → hexD n ≠ 48) := by
  have : ∀ n : Fin 10, isD (hexD n.val) = true ∧ (hexD n.val).toNat - 48 = n.val ∧ (n.val ≠ 0 → hexD n.val ≠ 48) := by decide
  exact this ⟨n, h⟩
theorem decP_ok (n : Nat) : (decP n).all isD = true ∧ valS (decP n) = n ∧ (n ≠ 0 → (decP n)[0]? ≠ some 48) ∧ (n < 10 → (decP n).length = 1) := by
  induction n using Nat.strongRecOn with
  | _ n ih =>
    by_cases h : n < 10
    · obtain ⟨h1, h2, h3⟩ := hexD_isD h
      have he : decP n = [hexD n] := by unfold decP; exact if_pos h
      rw [he]
      refine ⟨by simp [h1], by simp [valS, h2], fun hn => by simpa using h3 hn, fun _ => rfl⟩
    · have he : decP n = decP (n / 10) ++ [hexD (n % 10)] := by rw [decP]; exact if_neg h
      obtain ⟨i1, i2, i3, _⟩ := ih (n / 10) (by omega)
      obtain ⟨h1, h2, _⟩ := hexD_isD (n := n % 10) (by omega)
      rw [he]
      refine ⟨by rw [List.all_append, i1]; simp [h1], ?_, fun _ => ?_, fun h' => absurd h' h⟩
      · have : valS (decP (n / 10) ++ [hexD (n % 10)]) = 10 * valS (decP (n / 10)) + ((hexD (n % 10)).toNat - 48) := by simp [valS]
        rw [this, i2, h2]; omega
      · have hp : 0 < (decP (n / 10)).length := List.length_pos_iff.2 (decP_ne _)
        rw [List.getElem?_append_left hp]
        exact i3 (by omega)
end Go.Proofs.YtgkpgpdkolpfkaaGreatDoor.V
namespace Go.Proofs.YtgkpgpdkolpfkaaGreatDoor.V
open Go
attribute [local irreducible] go goOps goD opK callK callT stepK leaveTo nextK

def isHx (c : UInt8) : Bool := decide ((48 ≤ c.toNat ∧ c.toNat ≤ 57) ∨ (97 ≤ c.toNat ∧ c.toNat ≤ 102) ∨ (65 ≤ c.toNat ∧ c.toNat ≤ 70))
def hxDs : List UInt8 := [48, 49, 50, 51, 52, 53, 54, 55, 56, 57, 97, 98, 99, 100, 101, 102]
def hexV (c : UInt8) : Nat := (Lib.indexByte hxDs (c ||| 32)).toNat
theorem hexV_ok {c : UInt8} (h : isHx c = true) : Lib.indexByte hxDs (c ||| 32) = (hexV c : Int) ∧ hexV c < 16 := by
  have key : ∀ n : Fin 256, isHx (UInt8.ofNat n.val) = true → (0 ≤ Lib.indexByte hxDs (UInt8.ofNat n.val ||| 32) ∧ hexV (UInt8.ofNat n.val) < 16) := by decide +kernel
  have := key ⟨c.toNat, c.toNat_lt⟩
  simp only [UInt8.ofNat_toNat] at this
  obtain ⟨h1, h2⟩ := this h
  refine ⟨?_, h2⟩
  unfold hexV
  omega
theorem hexV_D {n : Nat} (h : n < 16) : isHx (hexD n) = true ∧ hexV (hexD n) = n := by
  have key : ∀ n : Fin 16, isHx (hexD n.val) = true ∧ hexV (hexD n.val) = n.val := by decide +kernel
  exact key ⟨n, h⟩
theorem or32 (c : UInt8) : evInt .or .u8 (c.toNat : Int) 32 = some (.int .u8 (c ||| 32).toNat) := by
  have hlt := (c ||| 32).toNat_lt
  have : (BitVec.ofInt 8 (c.toNat : Int) ||| BitVec.ofInt 8 32).toNat = (c ||| 32).toNat := by
    rw [BitVec.toNat_or, BitVec.ofInt_natCast, UInt8.toNat_or]
    simp only [BitVec.toNat_ofNat]
    rw [Nat.mod_eq_of_lt (show c.toNat < 2 ^ 8 from c.toNat_lt)]
    rfl
  show some (AV.int .u8 (IntKind.u8.wrap ((BitVec.ofInt 8 (c.toNat : Int) ||| BitVec.ofInt 8 32).toNat : Int))) = _
  rw [this, wrap_u8 (by omega)]
theorem rdata_hex (c : UInt8) (H k) (hc : isHx c = true) : callK Tryz.prog 46 [.int .u8 c.toNat] H k = k (.int .i64 (hexV c : Nat), H, z0) := by
  refine callK_eq (r := (.int .i64 (hexV c : Nat), H, z0)) ?_ k
  refine callK_start (n := 31) (rs := [.tmp 2]) Tryz.func46 rfl rfl rfl ?_
  intro σ hl ha
  have h0 := ha 0 (by simp)
  clear ha
  simp only [Option.getD_some, List.getElem?_cons_zero, List.getElem?_cons_succ] at h0
  have ho := or32 c
  have hi := fun k => s_IndexByte hxDs (c ||| 32) H k
  rw [(hexV_ok hc).1] at hi
  have hi : ∀ k, callK Tryz.prog 67 [.str [48, 49, 50, 51, 52, 53, 54, 55, 56, 57, 97, 98, 99, 100, 101, 102], .int .u8 (c ||| 32).toNat] H k = k (.int .i64 (hexV c : Nat), H, z0) := hi
  have hcl := c.toNat_lt
  have hc' : (48 ≤ c.toNat ∧ c.toNat ≤ 57) ∨ (97 ≤ c.toNat ∧ c.toNat ≤ 102) ∨ (65 ≤ c.toNat ∧ c.toNat ≤ 70) := by simpa [isHx] using hc
  generalize hN : c.toNat = N at *
  rcases hc' with h | h | h
  · have g1 : decide ((N : Int) ≥ 97) = false := by simp; omega
    have g2 : decide ((N : Int) ≥ 65) = false := by simp; omega
    have g3 : decide ((N : Int) ≥ 48) = true := by simp; omega
    have g4 : decide ((N : Int) ≤ 57) = true := by simp; omega
    simp only [go_sem, simprocAttr, hl, h0, ho, hi, g1, g2, g3, g4]
  · have g1 : decide ((N : Int) ≥ 97) = true := by simp; omega
    have g2 : decide ((N : Int) ≤ 102) = true := by simp; omega
    simp only [go_sem, simprocAttr, hl, h0, ho, hi, g1, g2]
  · have g1 : decide ((N : Int) ≥ 97) = false := by simp; omega
    have g2 : decide ((N : Int) ≥ 65) = true := by simp; omega
    have g3 : decide ((N : Int) ≤ 70) = true := by simp; omega
    simp only [go_sem, simprocAttr, hl, h0, ho, hi, g1, g2, g3]
def grpV (g : List UInt8) : Nat := g.foldl (fun v c => v * 16 + hexV c) 0
theorem grpV_snoc {s : List UInt8} {i : Nat} {c : UInt8} (h : s[i]? = some c) : grpV (s.take (i + 1)) = grpV (s.take i) * 16 + hexV c := by
  rw [take_snoc h]; simp [grpV]
theorem or_16 {v h : Nat} (hv : v < 65536) (hh : h < 16) : evInt .or .i64 ((v * 16 : Nat) : Int) (h : Nat) = some (.int .i64 ((v * 16 + h : Nat) : Int)) := by
  have h1 : (BitVec.ofInt 64 ((v * 16 : Nat) : Int) ||| BitVec.ofInt 64 (h : Int)).toNat = v * 16 + h := by
    rw [BitVec.toNat_or, BitVec.ofInt_natCast, BitVec.ofInt_natCast, BitVec.toNat_ofNat, BitVec.toNat_ofNat, Nat.mod_eq_of_lt (by omega), Nat.mod_eq_of_lt (by omega)]
    have := Nat.two_pow_add_eq_or_of_lt (i := 4) (b := h) (by omega) v
    rw [Nat.mul_comm v 16, show (16 : Nat) = 2 ^ 4 from rfl, ← this]
  show some (AV.int .i64 (IntKind.i64.wrap ((BitVec.ofInt 64 ((v * 16 : Nat) : Int) ||| BitVec.ofInt 64 (h : Int)).toNat : Int))) = _
  rw [h1, wrap_i64 (by omega)]
def two (n : Nat) : List UInt8 := [UInt8.ofNat (n / 256), UInt8.ofNat n]
def grpS (G : List (List UInt8)) : List UInt8 := G.flatMap fun g => two (grpV g)
theorem grpS_snoc {G : List (List UInt8)} {i : Nat} {g : List UInt8} (h : G[i]? = some g) : grpS (G.take (i + 1)) = grpS (G.take i) ++ two (grpV g) := by
  rw [take_snoc h]; simp [grpS]
theorem grpS_len (G : List (List UInt8)) : (grpS G).length = 2 * G.length := by
  induction G with
  | nil => rfl
  | cons g G ih =>
    have e : grpS (g :: G) = two (grpV g) ++ grpS G := rfl
    rw [e, List.length_append, ih, List.length_cons]; simp [two]; omega
set_option maxRecDepth 20000 in
set_option maxHeartbeats 2000000 in
theorem rdata_groups (s : List UInt8) (H k) (hs : s ≠ []) (hl8 : s.length ≤ 1048576) (hG : ∀ g ∈ splitB 58 s, g ≠ [] ∧ g.length ≤ 4 ∧ ∀ c ∈ g, isHx c = true) : callK Tryz.prog 52 [.str s] H k = k (.str (grpS (splitB 58 s)), H, z0) := by
  refine callK_eq (r := (.str (grpS (splitB 58 s)), H, z0)) ?_ k
  refine callK_start (n := 50) (rs := [.tmp 2]) Tryz.func52 rfl rfl rfl ?_
  intro σ hl ha
  have h0 := ha 0 (by simp)
  clear ha
  simp only [Option.getD_some, List.getElem?_cons_zero, List.getElem?_cons_succ] at h0
  have g0 : (s == []) = false := by rw [beq_eq_false_iff_ne]; exact hs
  have hsp := fun k => s_Split s 58 H k hl8
  have hSl := splitB_len 58 s
  have hcl : s.count 58 ≤ s.length := List.count_le_length
  obtain ⟨G, hGe⟩ : ∃ G, G = splitB 58 s := ⟨_, rfl⟩
  rw [← hGe] at hsp hG hSl ⊢
  simp only [go_sem, simprocAttr, hl, h0, g0, hsp]
  refine go_rounds (fun n st => ∃ σ i T e, n + i = G.length ∧ st = ⟨σ, H ++ (.cells (strs G) 9 .rw :: T), e⟩ ∧ clean H.length e ∧ σ.length = 50 ∧ fr σ 3 = .str (grpS (G.take i)) ∧ fr σ 12 = .slice H.length 0 G.length (.ex G.length) ∧ fr σ 13 = .int .i64 G.length ∧ fr σ 14 = .int .i64 (i : Nat)) G.length
    ⟨_, 0, [], _, rfl, rfl, ⟨rfl, rfl⟩, by simp only [go_sem, simprocAttr, hl], by simp only [go_sem, simprocAttr, hl]; rfl, by simp only [go_sem, simprocAttr, hl], by simp only [go_sem, simprocAttr, hl], by simp only [go_sem, simprocAttr, hl]⟩ ?_
  rintro n _ ⟨σ, i, T, e, hn, rfl, he, hl, h3, h12, h13, h14⟩
  by_cases hlt : i < G.length
  · obtain ⟨g, hg⟩ : ∃ g, G[i]? = some g := ⟨_, List.getElem?_eq_getElem hlt⟩
    obtain ⟨g1, g2, g3⟩ := hG g (List.mem_of_getElem? hg)
    have hld := strs_ld hg
    have hw := wrap_succ (show i < 9223372036854775807 by omega)
    have e1 : (g == []) = false := by rw [beq_eq_false_iff_ne]; exact g1
    have e2 : decide ((g.length : Int) > 4) = false := by simp; omega
    simp only [go_sem, simprocAttr, hl, h3, h12, h13, h14, hlt, hld, e1, e2]
    refine go_rounds (fun m st => ∃ σ q e, m + q = g.length ∧ grpV (g.take q) < 16 ^ q ∧ st = ⟨σ, H ++ (.cells (strs G) 9 .rw :: T), e⟩ ∧ clean H.length e ∧ σ.length = 50 ∧ fr σ 3 = .str (grpS (G.take i)) ∧ fr σ 5 = .str g ∧ fr σ 6 = .int .i64 (grpV (g.take q) : Nat) ∧ fr σ 12 = .slice H.length 0 G.length (.ex G.length) ∧ fr σ 13 = .int .i64 G.length ∧ fr σ 14 = .int .i64 (i : Nat) ∧ fr σ 27 = .int .i64 g.length ∧ fr σ 28 = .int .i64 (q : Nat)) g.length
      ⟨_, 0, _, rfl, by simp [grpV], rfl, by simp only [go_sem, simprocAttr, he], by simp only [go_sem, simprocAttr, hl], by simp only [go_sem, simprocAttr, hl, h3], by simp only [go_sem, simprocAttr, hl], by simp only [go_sem, simprocAttr, hl]; rfl, by simp only [go_sem, simprocAttr, hl, h12], by simp only [go_sem, simprocAttr, hl, h13], by simp only [go_sem, simprocAttr, hl, h14], by simp only [go_sem, simprocAttr, hl], by simp only [go_sem, simprocAttr, hl]⟩ ?_
    clear h3 h12 h13 h14 hl he
    rintro m _ ⟨σ, q, e, hm, hv, rfl, he, hl, h3, h5, h6, h12, h13, h14, h27, h28⟩
    by_cases hqt : q < g.length
    · obtain ⟨c, hc⟩ : ∃ c, g[q]? = some c := ⟨_, List.getElem?_eq_getElem hqt⟩
      have hhx := g3 c (List.mem_of_getElem? hc)
      have hx := fun H' k => rdata_hex c H' k hhx
      have hv16 := (hexV_ok hhx).2
      have hsn := grpV_snoc hc
      have hp : (16 : Nat) ^ q ≤ 16 ^ 3 := Nat.pow_le_pow_right (by decide) (by omega)
      have hwq := wrap_succ (show q < 9223372036854775807 by omega)
      generalize hV : grpV (g.take q) = V at *
      have hor := or_16 (v := V) (h := hexV c) (by omega) hv16
      have ws : IntKind.i64.wrap ((V : Int) * 2 ^ (min 4 64)) = ((V * 16 : Nat) : Int) := by
        have : (V : Int) * 2 ^ (min 4 64) = ((V * 16 : Nat) : Int) := by
          show (V : Int) * 16 = _
          omega
        rw [this]; exact wrap_i64 (by omega)
      simp only [go_sem, simprocAttr, hl, h3, h5, h6, h12, h13, h14, h27, h28, hqt, hc, hx, ws, hor, hwq]
      exact ⟨m - 1, by omega, _, q + 1, _, by omega, by rw [hsn, Nat.pow_succ]; omega, rfl, by simp only [go_sem, simprocAttr, he], by simp only [go_sem, simprocAttr, hl], by simp only [go_sem, simprocAttr, hl, h3], by simp only [go_sem, simprocAttr, hl, h5], by simp only [go_sem, simprocAttr, hl, hsn], by simp only [go_sem, simprocAttr, hl, h12], by simp only [go_sem, simprocAttr, hl, h13], by simp only [go_sem, simprocAttr, hl, h14], by simp only [go_sem, simprocAttr, hl, h27], by simp only [go_sem, simprocAttr, hl]⟩
    · have hq : q = g.length := by omega
      subst hq
      rw [List.take_length] at hv h6
      have hp : (16 : Nat) ^ g.length ≤ 16 ^ 4 := Nat.pow_le_pow_right (by decide) g2
      have hsn := grpS_snoc hg
      have hgl := grpS_len (G.take i)
      have hgl2 : (G.take i).length ≤ G.length := by rw [List.length_take]; omega
      generalize hV : grpV g = V at *
      have wa : IntKind.u8.wrap ((V : Int).fdiv (2 ^ (min 8 64))) = ((UInt8.ofNat (V / 256)).toNat : Int) := by
        have : (V : Int).fdiv (2 ^ (min 8 64)) = ((V / 256 : Nat) : Int) := by
          show (V : Int).fdiv 256 = _
          rw [Int.fdiv_eq_ediv_of_nonneg _ (by decide)]; rfl
        rw [this, UInt8.toNat_ofNat', wrap_u8 (by omega)]; omega
      have wb : IntKind.u8.wrap (V : Int) = ((UInt8.ofNat V).toNat : Int) := by
        rw [UInt8.toNat_ofNat']
        show ((V : Int) % 256 : Int) = _
        omega
      have hbs := bslice2b ((UInt8.ofNat (V / 256)).toNat : Int) ((UInt8.ofNat V).toNat : Int)
      simp only [go_sem, simprocAttr, hl, h3, h5, h6, h12, h13, h14, h27, h28, hqt, wa, wb, hbs, hw]
      exact ⟨by unfold maxI; omega, n - 1, by omega, _, i + 1, _, _, by omega, rfl, he, by simp only [go_sem, simprocAttr, hl], by simp only [go_sem, simprocAttr, hl, hsn, two], by simp only [go_sem, simprocAttr, hl, h12], by simp only [go_sem, simprocAttr, hl, h13], by simp only [go_sem, simprocAttr, hl]⟩
  · have hi : i = G.length := by omega
    subst hi
    rw [List.take_length] at h3
    simp only [go_sem, simprocAttr, hl, h3, h12, h13, h14, hlt, he]
end Go.Proofs.YtgkpgpdkolpfkaaGreatDoor.V
namespace Go.Proofs.YtgkpgpdkolpfkaaGreatDoor.V
open Go
attribute [local irreducible] go goOps goD opK callK callT stepK leaveTo nextK

def noCC (s : List UInt8) : Prop := ∀ j : Nat, s[j]? = some 58 → s[j + 1]? ≠ some 58
theorem noCC.drop {s : List UInt8} (h : noCC s) (i : Nat) : noCC (s.drop i) := by
  intro j h1 h2
  rw [List.getElem?_drop] at h1 h2
  exact h (i + j) h1 h2
theorem noCC.tk {s : List UInt8} (h : noCC s) (i : Nat) : ((s.drop i).take 2 == [58, 58]) = false := by
  rw [beq_eq_false_iff_ne]
  intro e
  have h1 : s[i]? = some 58 := by have := congrArg (·[0]?) e; simpa [List.getElem?_take, List.getElem?_drop] using this
  have h2 : s[i + 1]? = some 58 := by have := congrArg (·[1]?) e; simpa [List.getElem?_take, List.getElem?_drop] using this
  exact h i h1 h2
theorem noCC.ix {s : List UInt8} (h : noCC s) : Lib.index s [58, 58] = -1 := by
  refine Lib.index_none (fun j _ => ?_)
  cases ho : Lib.occAt s [58, 58] j with
  | false => rfl
  | true => exact absurd (Lib.occAt_second rfl ho) (h j (Lib.occAt_head rfl ho))
theorem split_cc (c : UInt8) : ∀ (s : List UInt8) (j : Nat), s[j]? = some c → s[j + 1]? = some c → [] ∈ (splitB c s).tail
  | [], j, h, _ => by simp at h
  | x :: r, 0, h1, h2 => by
    simp only [List.getElem?_cons_zero, Option.some.injEq] at h1
    subst h1
    rw [splitB, if_pos rfl]
    cases r with
    | nil => simp at h2
    | cons y r =>
      simp only [List.getElem?_cons_succ, List.getElem?_cons_zero, Option.some.injEq] at h2
      subst h2
      rw [splitB, if_pos rfl]; simp
  | x :: r, j + 1, h1, h2 => by
    have ih := split_cc c r j (by simpa using h1) (by simpa using h2)
    rw [splitB]
    split
    · exact List.mem_of_mem_tail ih
    · cases hs : splitB c r with
      | nil => rw [hs] at ih; simp at ih
      | cons a b => rw [hs] at ih; exact ih
set_option maxRecDepth 20000 in
theorem hash_cc (H) : ∃ a : Int × Int, True ∧ ∀ k, callK Tryz.prog 124 [.str [58, 58]] H k = k (.tuple [.int .u32 a.1, .int .u32 a.2], H, z0) := by
  refine callK_exP (fun _ : Int × Int => True) (fun a => (.tuple [.int .u32 a.1, .int .u32 a.2], H, z0)) ?_
  refine callK_start (n := 39) (rs := [.tmp 2, .tmp 3]) Tryz.func124 rfl rfl rfl ?_
  intro σ hl ha
  have h0 := ha 0 (by simp)
  clear ha
  simp only [Option.getD_some, List.getElem?_cons_zero, List.getElem?_cons_succ] at h0
  simp only [go_sem, simprocAttr, hl, h0]
  refine go_rounds (fun n st => ∃ σ i x, n + i = 2 ∧ st = ⟨σ, H, z0⟩ ∧ σ.length = 39 ∧ fr σ 0 = .str [58, 58] ∧ fr σ 4 = .int .u32 x ∧ fr σ 5 = .int .i64 (i : Nat)) 2
    ⟨_, 0, 0, rfl, rfl, by simp only [go_sem, simprocAttr, hl], by simp only [go_sem, simprocAttr, hl, h0], by simp only [go_sem, simprocAttr, hl], by simp only [go_sem, simprocAttr, hl]⟩ ?_
  rintro n _ ⟨σ, i, x, hn, rfl, hl, h0, h4, h5⟩
  have hi : i = 0 ∨ i = 1 ∨ i = 2 := by omega
  rcases hi with rfl | rfl | rfl
  · simp only [go_sem, simprocAttr, hl, h0, h4, h5]
    exact ⟨n - 1, by omega, _, 1, _, by omega, rfl, by simp only [go_sem, simprocAttr, hl], by simp only [go_sem, simprocAttr, hl, h0], by simp only [go_sem, simprocAttr, hl]; rfl, by simp only [go_sem, simprocAttr, hl]⟩
  · simp only [go_sem, simprocAttr, hl, h0, h4, h5]
    exact ⟨n - 1, by omega, _, 2, _, by omega, rfl, by simp only [go_sem, simprocAttr, hl], by simp only [go_sem, simprocAttr, hl, h0], by simp only [go_sem, simprocAttr, hl]; rfl, by simp only [go_sem, simprocAttr, hl]⟩
  · have a1 : evInt .and .i64 2 1 = some (.int .i64 0) := by rfl
    have a2 : evInt .and .i64 1 1 = some (.int .i64 1) := by rfl
    have s1 : evShift .shr .i64 2 1 = some (.int .i64 1) := by rfl
    have s2 : evShift .shr .i64 1 1 = some (.int .i64 0) := by rfl
    simp only [go_sem, simprocAttr, hl, h0, h4, h5]
    rw [go_loop]
    simp only [go_sem, simprocAttr, hl, h0, h4, h5, ↓a1, ↓a2, ↓s1, ↓s2]
    rw [go_loop]
    simp only [go_sem, simprocAttr, hl, h0, h4, h5, ↓a1, ↓a2, ↓s1, ↓s2]
    rw [go_loop]
    simp only [go_sem, simprocAttr, hl, h0, h4, h5, ↓a1, ↓a2, ↓s1, ↓s2]
    exact ⟨(_, _), rfl⟩
set_option maxRecDepth 20000 in
theorem rk_none (s : List UInt8) (H k) (hs : noCC s) (h2 : 2 ≤ s.length) (hl : s.length ≤ 1048576) : callK Tryz.prog 119 [.str s, .str [58, 58]] H k = k (.int .i64 (-1), H, z0) := by
  have hsl := hl
  obtain ⟨⟨a, p⟩, _, hh⟩ := hash_cc H
  refine callK_eq (r := (.int .i64 (-1), H, z0)) ?_ k
  refine callK_start (n := 81) (rs := [.tmp 4]) Tryz.func119 rfl rfl rfl ?_
  intro σ hl ha
  have h0 := ha 0 (by simp)
  have h1 := ha 1 (by simp)
  clear ha
  simp only [Option.getD_some, List.getElem?_cons_zero, List.getElem?_cons_succ] at h0 h1
  simp only at hh
  simp only [go_sem, simprocAttr, hl, h0, h1, hh]
  refine go_rounds (fun n st => ∃ σ i x, n + i = 2 ∧ st = ⟨σ, H, z0⟩ ∧ σ.length = 81 ∧ fr σ 0 = .str s ∧ fr σ 1 = .str [58, 58] ∧ fr σ 5 = .int .u32 a ∧ fr σ 6 = .int .u32 p ∧ fr σ 7 = .int .i64 2 ∧ fr σ 8 = .int .u32 x ∧ fr σ 9 = .int .i64 (i : Nat)) 2
    ⟨_, 0, 0, rfl, rfl, by simp only [go_sem, simprocAttr, hl], by simp only [go_sem, simprocAttr, hl, h0], by simp only [go_sem, simprocAttr, hl, h1], by simp only [go_sem, simprocAttr, hl], by simp only [go_sem, simprocAttr, hl], by simp only [go_sem, simprocAttr, hl], by simp only [go_sem, simprocAttr, hl], by simp only [go_sem, simprocAttr, hl]⟩ ?_
  rintro n _ ⟨σ, i, x, hn, rfl, hl, h0, h1, h5, h6, h7, h8, h9⟩
  by_cases hlt : i < 2
  · obtain ⟨c, hc⟩ : ∃ c, s[i]? = some c := ⟨_, List.getElem?_eq_getElem (by omega)⟩
    have hw := wrap_succ (show i < 9223372036854775807 by omega)
    have g0 : decide ((i : Int) < 2) = true := by simp; omega
    simp only [go_sem, simprocAttr, hl, h0, h1, h5, h6, h7, h8, h9, g0, hc, hw]
    exact ⟨n - 1, by omega, _, i + 1, _, by omega, rfl, by simp only [go_sem, simprocAttr, hl], by simp only [go_sem, simprocAttr, hl, h0], by simp only [go_sem, simprocAttr, hl, h1], by simp only [go_sem, simprocAttr, hl, h5], by simp only [go_sem, simprocAttr, hl, h6], by simp only [go_sem, simprocAttr, hl, h7], by simp only [go_sem, simprocAttr, hl]; rfl, by simp only [go_sem, simprocAttr, hl]⟩
  · have hi : i = 2 := by omega
    subst hi
    have t0 := hs.tk 0
    rw [List.drop_zero] at t0
    have b0 : (2 : Int) ≤ (s.length : Int) := by omega
    cases hx : (x == a)
    all_goals
      simp only [go_sem, simprocAttr, hl, h0, h1, h5, h6, h7, h8, h9, hx, t0, b0]
      refine go_rounds (fun n st => ∃ σ i x, n + i = s.length ∧ 2 ≤ i ∧ st = ⟨σ, H, z0⟩ ∧ σ.length = 81 ∧ fr σ 0 = .str s ∧ fr σ 1 = .str [58, 58] ∧ fr σ 5 = .int .u32 a ∧ fr σ 6 = .int .u32 p ∧ fr σ 7 = .int .i64 2 ∧ fr σ 8 = .int .u32 x ∧ fr σ 10 = .int .i64 (i : Nat)) (s.length - 2)
        ⟨_, 2, x, by omega, by omega, rfl, by simp only [go_sem, simprocAttr, hl], by simp only [go_sem, simprocAttr, hl, h0], by simp only [go_sem, simprocAttr, hl, h1], by simp only [go_sem, simprocAttr, hl, h5], by simp only [go_sem, simprocAttr, hl, h6], by simp only [go_sem, simprocAttr, hl, h7], by simp only [go_sem, simprocAttr, hl, h8], by simp only [go_sem, simprocAttr, hl]⟩ ?_
      clear h0 h1 h5 h6 h7 h8 h9 hl hx
      rintro m _ ⟨σ, i, x, hm, hi2, rfl, hl, h0, h1, h5, h6, h7, h8, h10⟩
      by_cases hlt : i < s.length
      · obtain ⟨c, hc⟩ : ∃ c, s[i]? = some c := ⟨_, List.getElem?_eq_getElem hlt⟩
        obtain ⟨c2, hc2⟩ : ∃ c, s[i - 2]? = some c := ⟨_, List.getElem?_eq_getElem (by omega)⟩
        have hw := wrap_succ (show i < 9223372036854775807 by omega)
        have w2 : IntKind.i64.wrap ((i : Int) - 2) = ((i - 2 : Nat) : Int) := by rw [wrap_i64 (by omega)]; omega
        have w3 : IntKind.i64.wrap (((i + 1 : Nat) : Int) - 2) = ((i - 1 : Nat) : Int) := by rw [wrap_i64 (by omega)]; omega
        have tq := hs.tk (i - 1)
        have b1 : i - 1 ≤ i + 1 := by omega
        have b2 : i + 1 ≤ s.length := by omega
        have e3 : i + 1 - (i - 1) = 2 := by omega
        cases hx : (IntKind.u32.wrap (IntKind.u32.wrap (IntKind.u32.wrap (x * 16777619) + IntKind.u32.wrap (c.toNat : Int)) - IntKind.u32.wrap (p * IntKind.u32.wrap (c2.toNat : Int))) == a)
        all_goals
          simp only [go_sem, simprocAttr, hl, h0, h1, h5, h6, h7, h8, h10, hlt, hc, hc2, hw, w2, w3, hx, b1, b2, e3, tq]
          exact ⟨m - 1, by omega, _, i + 1, _, by omega, by omega, rfl, by simp only [go_sem, simprocAttr, hl], by simp only [go_sem, simprocAttr, hl, h0], by simp only [go_sem, simprocAttr, hl, h1], by simp only [go_sem, simprocAttr, hl, h5], by simp only [go_sem, simprocAttr, hl, h6], by simp only [go_sem, simprocAttr, hl, h7], by simp only [go_sem, simprocAttr, hl]; rfl, by simp only [go_sem, simprocAttr, hl]⟩
      · simp only [go_sem, simprocAttr, hl, h0, h1, h5, h6, h7, h8, h10, hlt]
def Ml (H : Hp) : Prop := ∃ (m : Int) (e : TypeId) (k : Kd), H[2]? = some (.cells [.int .i64 m] e k)
theorem Ml.old {H : Hp} (h : Ml H) (l : Hp) : Ml (H ++ l) := by
  obtain ⟨m, e, k, h⟩ := h
  exact ⟨m, e, k, get_app h⟩
theorem mxG_is : mxG Tryz.prog = some 2 := by kernel_rfl
theorem mxL_is {H : Hp} {m : Int} {e : TypeId} {k : Kd} (h : H[2]? = some (.cells [.int .i64 m] e k)) : mxL Tryz.prog H = some m := by
  have hlt : 2 < Tryz.prog.globals.size := of_decide_eq_true (by kernel_rfl)
  unfold mxL
  rw [mxG_is]
  simp only
  rw [if_pos hlt]
  have : rd H 2 0 1 = some [.int .i64 m] := by
    unfold rd
    rw [h]
    rfl
  rw [this]
set_option maxRecDepth 20000 in
theorem sl_Index2 (s : List UInt8) (H k) (hs : noCC s) (h2 : 2 < s.length) (h64 : s.length ≤ 64) (hm : Ml H) : callK Tryz.prog 98 [.str s, .str [58, 58]] H k = k (.int .i64 (-1), H, z0) := by
  obtain ⟨m, e, kd, hg⟩ := hm
  have hmx := mxL_is hg
  refine callK_eq (r := (.int .i64 (-1), H, z0)) ?_ k
  refine callK_start (n := 143) (rs := [.tmp 4]) Tryz.func98 rfl rfl rfl ?_
  intro σ hl ha
  have h0 := ha 0 (by simp)
  have h1 := ha 1 (by simp)
  clear ha
  simp only [Option.getD_some, List.getElem?_cons_zero, List.getElem?_cons_succ] at h0 h1
  have e0 : ([58, 58] == s) = false := by rw [beq_eq_false_iff_ne]; rintro rfl; simp at h2
  have e1 : decide ((2 : Int) ≥ (s.length : Int)) = false := by simp; omega
  have hix := hs.ix
  have w1 : IntKind.i64.wrap ((s.length : Int) - 2) = ((s.length - 2 : Nat) : Int) := by rw [wrap_i64 (by omega)]; omega
  have w2 : IntKind.i64.wrap (((s.length - 2 : Nat) : Int) + 1) = ((s.length - 1 : Nat) : Int) := by rw [wrap_i64 (by omega)]; omega
  have hib := fun (s : List UInt8) H' k => sl_IndexByte s 58 H' k
  have hib : ∀ (s : List UInt8) H' k, callK Tryz.prog 90 [.str s, .int .u8 58] H' k = k (.int .i64 (Lib.indexByte s 58), H', z0) := hib
  by_cases hm2 : (2 : Int) ≤ m
  · have g1 : decide ((2 : Int) ≤ m) = true := by simp; omega
    have g2 : decide ((s.length : Int) ≤ 64) = true := by simp; omega
    have g3 : s.length < 4294967281 := by omega
    simp only [go_sem, simprocAttr, hl, h0, h1, e0, e1, hg, g1, g2, hmx, hm2, g3, hix]
  · have g1 : decide ((2 : Int) ≤ m) = false := by simp; omega
    have g4 : decide ((2 : Int) > m) = true := by simp; omega
    simp only [go_sem, simprocAttr, hl, h0, h1, e0, e1, hg, g1, w1, w2]
    refine go_rounds (fun n st => ∃ σ i q, n + i = s.length ∧ st = ⟨σ, H, z0⟩ ∧ σ.length = 143 ∧ fr σ 0 = .str s ∧ fr σ 1 = .str [58, 58] ∧ fr σ 5 = .int .i64 2 ∧ fr σ 6 = .int .u8 58 ∧ fr σ 7 = .int .u8 58 ∧ fr σ 8 = .int .i64 (i : Nat) ∧ fr σ 9 = .int .i64 (s.length - 1 : Nat) ∧ fr σ 10 = .int .i64 q) s.length
      ⟨_, 0, 0, rfl, rfl, by simp only [go_sem, simprocAttr, hl], by simp only [go_sem, simprocAttr, hl, h0], by simp only [go_sem, simprocAttr, hl, h1], by simp only [go_sem, simprocAttr, hl], by simp only [go_sem, simprocAttr, hl], by simp only [go_sem, simprocAttr, hl], by simp only [go_sem, simprocAttr, hl], by simp only [go_sem, simprocAttr, hl, w1, w2], by simp only [go_sem, simprocAttr, hl]⟩ ?_
    clear h0 h1 hl
    rintro n _ ⟨σ, i, q, hn, rfl, hl, h0, h1, h5, h6, h7, h8, h9, h10⟩
    by_cases hlt : i < s.length - 1
    · obtain ⟨c, hc⟩ : ∃ c, s[i]? = some c := ⟨_, List.getElem?_eq_getElem (by omega)⟩
      have hw := wrap_succ (show i < 9223372036854775807 by omega)
      -- behind the place where a colon is
      have fin : ∀ (i : Nat), i < s.length - 1 → s[i]? = some 58 → ∃ d : UInt8, s[i + 1]? = some d ∧ ((d.toNat : Int) == 58) = false := by
        intro i hi h
        obtain ⟨d, hd⟩ : ∃ d, s[i + 1]? = some d := ⟨_, List.getElem?_eq_getElem (by omega)⟩
        refine ⟨d, hd, ?_⟩
        have h3 := hs i h
        rw [hd] at h3
        have : d.toNat ≠ 58 := fun e => h3 (by congr 1; exact UInt8.toNat.inj e)
        rw [beq_eq_false_iff_ne]; omega
      by_cases hc58 : c.toNat = 58
      · have ce : c = 58 := UInt8.toNat.inj hc58
        have gc : ((c.toNat : Int) != 58) = false := by simp; omega
        obtain ⟨d, hd, gd⟩ := fin i hlt (by rw [hc, ce])
        obtain ⟨J, hJ⟩ : ∃ J, J = i := ⟨_, rfl⟩
        have hwJ : IntKind.i64.wrap ((J : Int) + 1) = ((J + 1 : Nat) : Int) := by rw [hJ]; exact hw
        subst hJ
        cases hB : decide (IntKind.i64.wrap (q + 1) ≥ IntKind.i64.wrap (4 + ((J + 1 : Nat) : Int).fdiv (2 ^ min 4 64)))
        · simp only [go_sem, simprocAttr, hl, h0, h1, h5, h6, h7, h8, h9, h10, hlt, hc, gc, hw, hwJ, hd, gd, hg, g1, g4, hB]
          exact ⟨n - 1, by omega, _, J + 1, _, by omega, rfl, by simp only [go_sem, simprocAttr, hl], by simp only [go_sem, simprocAttr, hl, h0], by simp only [go_sem, simprocAttr, hl, h1], by simp only [go_sem, simprocAttr, hl, h5], by simp only [go_sem, simprocAttr, hl, h6], by simp only [go_sem, simprocAttr, hl, h7], by simp only [go_sem, simprocAttr, hl], by simp only [go_sem, simprocAttr, hl, h9], by simp only [go_sem, simprocAttr, hl]; rfl⟩
        · by_cases hlt2 : J + 1 < s.length - 1
          · have e5 : (s.drop (J + 1)).take (s.length - (J + 1)) = s.drop (J + 1) := List.take_of_length_le (by rw [List.length_drop]; omega)
            have hrk := fun H' k => rk_none (s.drop (J + 1)) H' k (hs.drop (J + 1)) (by rw [List.length_drop]; omega) (by rw [List.length_drop]; omega)
            have b5 : J + 1 ≤ s.length := by omega
            simp only [go_sem, simprocAttr, hl, h0, h1, h5, h6, h7, h8, h9, h10, hlt, hc, gc, hw, hwJ, hd, gd, hg, g1, g4, hB, hlt2, b5, e5, hrk]
          · simp only [go_sem, simprocAttr, hl, h0, h1, h5, h6, h7, h8, h9, h10, hlt, hc, gc, hw, hwJ, hd, gd, hg, g1, g4, hB, hlt2]
            exact ⟨n - 1, by omega, _, J + 1, _, by omega, rfl, by simp only [go_sem, simprocAttr, hl], by simp only [go_sem, simprocAttr, hl, h0], by simp only [go_sem, simprocAttr, hl, h1], by simp only [go_sem, simprocAttr, hl, h5], by simp only [go_sem, simprocAttr, hl, h6], by simp only [go_sem, simprocAttr, hl, h7], by simp only [go_sem, simprocAttr, hl], by simp only [go_sem, simprocAttr, hl, h9], by simp only [go_sem, simprocAttr, hl]; rfl⟩
      · have gc : ((c.toNat : Int) != 58) = true := by simp; omega
        have b6 : i + 1 ≤ s.length - 1 := by omega
        have b7 : s.length - 1 ≤ s.length := by omega
        rcases idx_or ((s.drop (i + 1)).take (s.length - 1 - (i + 1))) 58 with ⟨hno, _⟩ | ⟨o, ho, hol, hre, _⟩
        · have g6 : decide ((-1 : Int) < 0) = true := by decide
          simp only [go_sem, simprocAttr, hl, h0, h1, h5, h6, h7, h8, h9, h10, hlt, hc, gc, hw, b6, b7, hib, hno, g6]
        · rw [List.length_take, List.length_drop] at hol
          have hsJ : s[i + (o + 1)]? = some 58 := by
            have h3 : ((s.drop (i + 1)).take (s.length - 1 - (i + 1)))[o]? = some 58 := by
              rw [hre, List.getElem?_append_right (by rw [List.length_take]; omega)]
              have : o - (List.take o (List.take (s.length - 1 - (i + 1)) (List.drop (i + 1) s))).length = 0 := by simp only [List.length_take, List.length_drop]; omega
              rw [this]; rfl
            rw [List.getElem?_take, List.getElem?_drop] at h3
            split at h3
            · rw [show i + (o + 1) = i + 1 + o by omega]; exact h3
            · cases h3
          obtain ⟨d, hd, gd⟩ := fin (i + (o + 1)) (by omega) hsJ
          have g6 : decide ((o : Int) < 0) = false := by simp
          have wo : IntKind.i64.wrap ((o : Int) + 1) = ((o + 1 : Nat) : Int) := wrap_succ (by omega)
          have wi : IntKind.i64.wrap ((i : Int) + ((o + 1 : Nat) : Int)) = ((i + (o + 1) : Nat) : Int) := by rw [wrap_i64 (by omega)]; omega
          have hJlt : i + (o + 1) < s.length - 1 := by omega
          obtain ⟨J, hJ⟩ : ∃ J, J = i + (o + 1) := ⟨_, rfl⟩
          rw [← hJ] at hd wi hJlt
          have hwJ : IntKind.i64.wrap ((J : Int) + 1) = ((J + 1 : Nat) : Int) := wrap_succ (by omega)
          cases hB : decide (IntKind.i64.wrap (q + 1) ≥ IntKind.i64.wrap (4 + ((J + 1 : Nat) : Int).fdiv (2 ^ min 4 64)))
          · simp only [go_sem, simprocAttr, hl, h0, h1, h5, h6, h7, h8, h9, h10, hlt, hc, gc, hw, hwJ, hd, gd, hg, g1, g4, b6, b7, hib, ho, g6, wo, wi, hB]
            exact ⟨n - (J + 1 - i), by omega, _, J + 1, _, by omega, rfl, by simp only [go_sem, simprocAttr, hl], by simp only [go_sem, simprocAttr, hl, h0], by simp only [go_sem, simprocAttr, hl, h1], by simp only [go_sem, simprocAttr, hl, h5], by simp only [go_sem, simprocAttr, hl, h6], by simp only [go_sem, simprocAttr, hl, h7], by simp only [go_sem, simprocAttr, hl], by simp only [go_sem, simprocAttr, hl, h9], by simp only [go_sem, simprocAttr, hl]; rfl⟩
          · by_cases hlt2 : J + 1 < s.length - 1
            · have e5 : (s.drop (J + 1)).take (s.length - (J + 1)) = s.drop (J + 1) := List.take_of_length_le (by rw [List.length_drop]; omega)
              have hrk := fun H' k => rk_none (s.drop (J + 1)) H' k (hs.drop (J + 1)) (by rw [List.length_drop]; omega) (by rw [List.length_drop]; omega)
              have b5 : J + 1 ≤ s.length := by omega
              simp only [go_sem, simprocAttr, hl, h0, h1, h5, h6, h7, h8, h9, h10, hlt, hc, gc, hw, hwJ, hd, gd, hg, g1, g4, b6, b7, hib, ho, g6, wo, wi, hB, hlt2, b5, e5, hrk]
            · simp only [go_sem, simprocAttr, hl, h0, h1, h5, h6, h7, h8, h9, h10, hlt, hc, gc, hw, hwJ, hd, gd, hg, g1, g4, b6, b7, hib, ho, g6, wo, wi, hB, hlt2]
              exact ⟨n - (J + 1 - i), by omega, _, J + 1, _, by omega, rfl, by simp only [go_sem, simprocAttr, hl], by simp only [go_sem, simprocAttr, hl, h0], by simp only [go_sem, simprocAttr, hl, h1], by simp only [go_sem, simprocAttr, hl, h5], by simp only [go_sem, simprocAttr, hl, h6], by simp only [go_sem, simprocAttr, hl, h7], by simp only [go_sem, simprocAttr, hl], by simp only [go_sem, simprocAttr, hl, h9], by simp only [go_sem, simprocAttr, hl]; rfl⟩
    · simp only [go_sem, simprocAttr, hl, h0, h1, h5, h6, h7, h8, h9, h10, hlt]
set_option maxRecDepth 20000 in
theorem sl_Cut2 (s : List UInt8) (H k) (hs : noCC s) (h2 : 2 < s.length) (h64 : s.length ≤ 64) (hm : Ml H) : callK Tryz.prog 75 [.str s, .str [58, 58]] H k = k (.tuple [.str s, .str [], .bool false], H, z0) := by
  refine callK_eq (r := (.tuple [.str s, .str [], .bool false], H, z0)) ?_ k
  refine callK_start (n := 23) (rs := [.tmp 4, .tmp 5, .tmp 6]) Tryz.func75 rfl rfl rfl ?_
  intro σ hl ha
  have h0 := ha 0 (by simp)
  have h1 := ha 1 (by simp)
  clear ha
  simp only [Option.getD_some, List.getElem?_cons_zero, List.getElem?_cons_succ] at h0 h1
  have hi := fun k => sl_Index2 s H k hs h2 h64 hm
  have g : decide ((-1 : Int) ≥ 0) = false := by decide
  simp only [go_sem, simprocAttr, hl, h0, h1, hi, g]
theorem s_Cut2 (s : List UInt8) (H k) (hs : noCC s) (h2 : 2 < s.length) (h64 : s.length ≤ 64) (hm : Ml H) : callK Tryz.prog 51 [.str s, .str [58, 58]] H k = k (.tuple [.str s, .str [], .bool false], H, z0) := by
  refine callK_eq (r := (.tuple [.str s, .str [], .bool false], H, z0)) ?_ k
  refine callK_start (n := 13) (rs := [.tmp 4, .tmp 5, .tmp 6]) Tryz.func51 rfl rfl rfl ?_
  intro σ hl ha
  have h0 := ha 0 (by simp)
  have h1 := ha 1 (by simp)
  clear ha
  simp only [Option.getD_some, List.getElem?_cons_zero, List.getElem?_cons_succ] at h0 h1
  have hi := fun k => sl_Cut2 s H k hs h2 h64 hm
  simp only [go_sem, simprocAttr, hl, h0, h1, hi]
end Go.Proofs.YtgkpgpdkolpfkaaGreatDoor.V
namespace Go.Proofs.YtgkpgpdkolpfkaaGreatDoor.V
open Go
attribute [local irreducible] go goOps goD opK callK callT stepK leaveTo nextK

theorem set_new {H T : Hp} {rb a : Nat} {y x : ABlk} (h : T[a]? = some x) : (H.set rb y ++ T)[H.length + a]? = some x := by
  rw [List.getElem?_append_right (by simp)]
  simpa using h
theorem numS_decP {n mx : Nat} (h : n ≤ mx) (hm : mx ≤ 4294967295) : numS (decP n) mx = some n := by
  obtain ⟨h1, h2, h3, h4⟩ := decP_ok n
  have hl := decP_le2 (n := n) (by omega)
  unfold numS
  rw [if_neg, if_pos h1, h2, if_pos h]
  rintro (h | ⟨h, h'⟩ | h)
  · exact decP_ne n h
  · by_cases hn : n < 10
    · have := h4 hn; omega
    · exact h3 (by omega) h'
  · omega
theorem decA_split (raw : List UInt8) (hr : raw ≠ []) : splitB 46 (joinS [46] (decA raw)) = decA raw := by
  have hno : ∀ x ∈ decA raw, (46 : UInt8) ∉ x := by
    intro x hx h
    simp only [decA, List.mem_map] at hx
    obtain ⟨b, _, rfl⟩ := hx
    have := decP_dig _ _ h
    revert this; decide
  cases raw with
  | nil => exact absurd rfl hr
  | cons b r => exact splitB_join 46 _ _ (hno _ (by simp [decA])) (fun y hy => hno y (by simp [decA] at hy ⊢; exact .inr hy))
section
variable (H : Hp) (rb : Nat) (v : AV) (o : List UInt8) (d : Dt) (j : Nat) (w : Wd) (ws : List Wd) (hq : w.q = false) (hb : H[rb]? = some (.cells (WdC v o d j) 69 .rw)) (hv : Wv H v (w :: ws)) (hw : w.t.length ≤ 1048576)
include hq hb hv hw
set_option maxRecDepth 20000 in
set_option maxHeartbeats 2000000 in
theorem wd_four (raw : List UInt8) (hr : raw.length = 4) (hwt : w.t = joinS [46] (decA raw)) (ht : Te H) (hdr : d.raw.length ≤ 1048576) :
    ∃ b : AV × Hp, Wv (H ++ b.2) b.1 ws ∧ ∀ k, callK Tryz.prog 27 [.ptr rb 0] H k = k (.tuple [], H.set rb (.cells (WdC b.1 o { d with raw := d.raw ++ raw } j) 69 .rw) ++ b.2, ⟨some rb, some rb⟩) := by
  obtain ⟨v', L, hv', hnx⟩ := wd_next H rb v o d j w ws hq hb hv
  have hlt := lt_of_get hb
  have hg : ∀ y T, (H.set rb y ++ T)[rb]? = some y := fun y T => get_app (by rw [List.getElem?_set_self hlt])
  have hs : ∀ y z T, (H.set rb y ++ T).set rb z = H.set rb z ++ T := fun y z T => by rw [List.set_append_left _ _ (by simpa using hlt), List.set_set]
  have hlv : ∀ (x : AV) (H' : Hp), leave H.length x H' ⟨some rb, some rb⟩ = (x, H', ⟨some rb, some rb⟩) := fun x H' => leave_ee hlt
  have hsp := fun y k => s_Split w.t 46 (H.set rb y ++ L) k hw
  have hne : raw ≠ [] := by rintro rfl; simp at hr
  rw [hwt, decA_split raw hne] at hsp
  have hAl : (decA raw).length = 4 := by simp [decA, hr]
  simp only [List.length_append, List.length_set, hAl] at hsp
  rw [hwt] at hnx
  refine callK_exP (fun b : AV × Hp => Wv (H ++ b.2) b.1 ws) (fun b => (.tuple [], H.set rb (.cells (WdC b.1 o { d with raw := d.raw ++ raw } j) 69 .rw) ++ b.2, ⟨some rb, some rb⟩)) ?_
  refine callK_start (n := 42) (rs := []) Tryz.func27 rfl rfl rfl ?_
  intro σ hl ha
  have h0 := ha 0 (by simp)
  clear ha
  simp only [Option.getD_some, List.getElem?_cons_zero, List.getElem?_cons_succ] at h0
  simp only [go_sem, simprocAttr, hl, h0, hnx, hsp]
  refine go_rounds (fun n st => ∃ σ i T, n + i = 4 ∧ (L ++ [.cells (strs (decA raw)) 9 .rw])[L.length]? = T[L.length]? ∧ (∃ T2, T = L ++ T2) ∧ st = ⟨σ, H.set rb (.cells (WdC v' o { d with raw := d.raw ++ raw.take i } j) 69 .rw) ++ T, ⟨some rb, some rb⟩⟩ ∧ σ.length = 42 ∧ fr σ 0 = .ptr rb 0 ∧ fr σ 14 = .slice (H.length + L.length) 0 4 (.ex 4) ∧ fr σ 15 = .int .i64 4 ∧ fr σ 16 = .int .i64 (i : Nat)) 4
    ⟨_, 0, L ++ [.cells (strs (decA raw)) 9 .rw], rfl, rfl, ⟨_, rfl⟩, by simp only [List.take_zero, List.append_nil]; rfl, by simp only [go_sem, simprocAttr, hl], by simp only [go_sem, simprocAttr, hl, h0], by simp only [go_sem, simprocAttr, hl], by simp only [go_sem, simprocAttr, hl], by simp only [go_sem, simprocAttr, hl]⟩ ?_
  rintro n _ ⟨σ, i, T, hn, hT, ⟨T2, hT2⟩, rfl, hl, h0, h14, h15, h16⟩
  have hT' : T[L.length]? = some (.cells (strs (decA raw)) 9 .rw) := by rw [← hT, List.getElem?_append_right (Nat.le_refl _)]; simp
  by_cases hlt4 : i < 4
  · obtain ⟨c, hc⟩ : ∃ c, raw[i]? = some c := ⟨_, List.getElem?_eq_getElem (by omega)⟩
    have hgA := fun y => set_new (H := H) (rb := rb) (y := y) hT'
    have hdi : (decA raw)[i]? = some (decP c.toNat) := by simp [decA, hc]
    have hld := strs_ld hdi
    have hcl := c.toNat_lt
    have hw1 := wrap_succ (show i < 9223372036854775807 by omega)
    have hdl := decP_le2 (n := c.toNat) (by omega)
    have hnm := fun y k => rdata_number (decP c.toNat) 8 255 (.inl ⟨rfl, rfl⟩) (by decide) (H.set rb y ++ T) k ((ht.set hb).old T) (by omega)
    rw [numS_decP (n := c.toNat) (mx := 255) (by omega) (by decide)] at hnm
    simp only [Option.getD_some, Option.isSome_some] at hnm
    have g0 : decide ((i : Int) < 4) = true := by simp; omega
    have g1 : (i : Int) < 4 := by omega
    have w8 : IntKind.u8.wrap (c.toNat : Int) = (c.toNat : Int) := wrap_u8 (by omega)
    have hbs := bsliceU c.toNat
    have hsn : raw.take i ++ [c] = raw.take (i + 1) := (take_snoc hc).symm
    have hml : d.raw.length + ((raw.take i).length + 1) ≤ maxI := by unfold maxI; rw [List.length_take]; omega
    have hgN : ∀ y X, (H.set rb y ++ (T ++ [X]))[H.length + T.length]? = some X := fun y X => set_new (by simp)
    simp only [go_sem, simprocAttr, hl, h0, h14, h15, h16, g0, g1, hgA, hld, hnm]
    refine go_drawZ tFollows (by kernel_rfl) ?_
    simp only [go_sem, simprocAttr, hl, h0, h14, h15, h16, hg, hs, WdC.l2, WdC.len, WdC.s2, w8, hbs, hgN, hml, hw1, and_ew, hsn]
    exact ⟨by kernel_rfl, n - 1, by omega, _, i + 1, T ++ [_], by omega, (get_app hT').symm, ⟨T2 ++ [_], by rw [hT2, List.append_assoc]⟩, rfl, by simp only [go_sem, simprocAttr, hl], by simp only [go_sem, simprocAttr, hl, h0], by simp only [go_sem, simprocAttr, hl, h14], by simp only [go_sem, simprocAttr, hl, h15], by simp only [go_sem, simprocAttr, hl]⟩
  · have hi : i = 4 := by omega
    subst hi
    rw [List.take_of_length_le (by omega)]
    simp only [go_sem, simprocAttr, hl, h0, h14, h15, h16, hlv]
    exact ⟨(v', T), by rw [hT2, ← List.append_assoc]; exact hv'.old _, rfl⟩
end
theorem Ml.set {H : Hp} (h : Ml H) {rb : Nat} {v : AV} {o : List UInt8} {d : Dt} {j : Nat} {x : ABlk} (hb : H[rb]? = some (.cells (WdC v o d j) 69 .rw)) : Ml (H.set rb x) := by
  obtain ⟨m, e, k, h1⟩ := h
  have g1 : rb ≠ 2 := by rintro rfl; rw [hb] at h1; simp [WdC] at h1
  exact ⟨m, e, k, by rw [List.getElem?_set_ne g1]; exact h1⟩
theorem grpV_app (x : List UInt8) (c : UInt8) : grpV (x ++ [c]) = grpV x * 16 + hexV c := by simp [grpV]
theorem hexN_V (n : Nat) : grpV (hexN n) = n ∧ ∀ c ∈ hexN n, isHx c = true := by
  induction n using Nat.strongRecOn with
  | ind n ih =>
    by_cases h : n < 16
    · rw [hexN_small h]
      obtain ⟨h1, h2⟩ := hexV_D h
      exact ⟨by simp [grpV, h2], fun c hc => by simp only [List.mem_singleton] at hc; subst hc; exact h1⟩
    · rw [hexN_big h]
      obtain ⟨i1, i2⟩ := ih (n / 16) (by omega)
      obtain ⟨h1, h2⟩ := hexV_D (n := n % 16) (by omega)
      refine ⟨by rw [grpV_app, i1, h2]; omega, fun c hc => ?_⟩
      rcases List.mem_append.1 hc with hc | hc
      · exact i2 c hc
      · simp only [List.mem_singleton] at hc; subst hc; exact h1
theorem hexA_no (raw : List UInt8) : ∀ x ∈ hexA raw, (58 : UInt8) ∉ x ∧ x ≠ [] ∧ x.length ≤ 4 ∧ ∀ c ∈ x, isHx c = true := by
  intro x hx
  simp only [hexA, List.mem_map] at hx
  obtain ⟨i, _, rfl⟩ := hx
  have hp : pairN raw i < 16 ^ (3 + 1) := by
    unfold pairN
    have := ((raw[2 * i]?).getD 0).toNat_lt; have := ((raw[2 * i + 1]?).getD 0).toNat_lt; omega
  refine ⟨fun h => ?_, fun h => ?_, hexN_pow 3 _ hp, (hexN_V _).2⟩
  · have := (hexN_V _).2 _ h
    revert this; decide
  · have := hexN_pos (pairN raw i)
    rw [h] at this; cases this
theorem hexA_split (raw : List UInt8) : splitB 58 (joinS [58] (hexA raw)) = hexA raw := by
  have hno := hexA_no raw
  cases h : hexA raw with
  | nil => simp [hexA] at h
  | cons x r =>
    rw [h] at hno
    exact splitB_join 58 _ _ (hno _ (by simp)).1 (fun y hy => (hno y (by simp [hy])).1)
theorem hexA_cc (raw : List UInt8) : noCC (joinS [58] (hexA raw)) := by
  intro j h1 h2
  have := split_cc 58 _ j h1 h2
  rw [hexA_split] at this
  exact (hexA_no raw _ (List.mem_of_mem_tail this)).2.1 rfl
theorem hexA_len (raw : List UInt8) : 2 < (joinS [58] (hexA raw)).length ∧ (joinS [58] (hexA raw)).length ≤ 64 := by
  have hno := hexA_no raw
  have hl : (hexA raw).length = 8 := by simp [hexA]
  cases h : hexA raw with
  | nil => rw [h] at hl; cases hl
  | cons x r =>
    rw [h] at hno hl
    have h1 : (joinS [58] (x :: r)).length = x.length + (r.length * [58].length + totS r) := joinS_len [58] x r
    have h2 := totS_le r 4 (fun y hy => (hno y (by simp [hy])).2.2.1)
    have h3 := (hno x (by simp)).2.2.1
    simp only [List.length_cons, List.length_nil] at h1 hl
    omega
theorem two_pair (a b : UInt8) : two (a.toNat * 256 + b.toNat) = [a, b] := by
  have ha := a.toNat_lt
  have hb := b.toNat_lt
  have e1 : (a.toNat * 256 + b.toNat) / 256 = a.toNat := by omega
  unfold two
  rw [e1, UInt8.ofNat_toNat]
  congr 2
  apply UInt8.toNat.inj
  rw [UInt8.toNat_ofNat']; omega
theorem hexA_back (raw : List UInt8) (hr : raw.length = 16) : grpS (hexA raw) = raw := by
  obtain ⟨a0, a1, a2, a3, a4, a5, a6, a7, a8, a9, a10, a11, a12, a13, a14, a15, rfl⟩ : ∃ a0 a1 a2 a3 a4 a5 a6 a7 a8 a9 a10 a11 a12 a13 a14 a15, raw = [a0, a1, a2, a3, a4, a5, a6, a7, a8, a9, a10, a11, a12, a13, a14, a15] := by
    match raw, hr with
    | [a0, a1, a2, a3, a4, a5, a6, a7, a8, a9, a10, a11, a12, a13, a14, a15], _ => exact ⟨_, _, _, _, _, _, _, _, _, _, _, _, _, _, _, _, rfl⟩
  have e : hexA [a0, a1, a2, a3, a4, a5, a6, a7, a8, a9, a10, a11, a12, a13, a14, a15] = [hexN (a0.toNat * 256 + a1.toNat), hexN (a2.toNat * 256 + a3.toNat), hexN (a4.toNat * 256 + a5.toNat), hexN (a6.toNat * 256 + a7.toNat), hexN (a8.toNat * 256 + a9.toNat), hexN (a10.toNat * 256 + a11.toNat), hexN (a12.toNat * 256 + a13.toNat), hexN (a14.toNat * 256 + a15.toNat)] := rfl
  rw [e]
  simp only [grpS, List.flatMap_cons, List.flatMap_nil, (hexN_V _).1, two_pair]
  rfl
section
variable (H : Hp) (rb : Nat) (v : AV) (o : List UInt8) (d : Dt) (j : Nat) (w : Wd) (ws : List Wd) (hq : w.q = false) (hb : H[rb]? = some (.cells (WdC v o d j) 69 .rw)) (hv : Wv H v (w :: ws))
include hq hb hv
set_option maxRecDepth 20000 in
theorem wd_eight (raw : List UInt8) (hr : raw.length = 16) (hwt : w.t = joinS [58] (hexA raw)) (hm : Ml H) :
    ∃ v' L, Wv (H ++ L) v' ws ∧ ∀ k, callK Tryz.prog 28 [.ptr rb 0] H k = k (.tuple [], H.set rb (.cells (WdC v' o { d with raw := raw } j) 69 .rw) ++ L, ⟨some rb, some rb⟩) := by
  obtain ⟨v', L, hv', hnx⟩ := wd_next H rb v o d j w ws hq hb hv
  refine ⟨v', L, hv', fun k => ?_⟩
  have hlt := lt_of_get hb
  have hg : ∀ y, (H.set rb y ++ L)[rb]? = some y := fun y => get_app (by rw [List.getElem?_set_self hlt])
  have hs : ∀ y z, (H.set rb y ++ L).set rb z = H.set rb z ++ L := fun y z => by rw [List.set_append_left _ _ (by simpa using hlt), List.set_set]
  have hlv : ∀ (x : AV) (H' : Hp), leave H.length x H' ⟨some rb, some rb⟩ = (x, H', ⟨some rb, some rb⟩) := fun x H' => leave_ee hlt
  obtain ⟨l1, l2⟩ := hexA_len raw
  have hno := hexA_no raw
  have hct := fun y k => s_Cut2 w.t (H.set rb y ++ L) k (by rw [hwt]; exact hexA_cc raw) (by rw [hwt]; exact l1) (by rw [hwt]; exact l2) ((hm.set hb).old L)
  have hgr := fun H' k => rdata_groups w.t H' k (by rw [hwt]; intro h; rw [h] at l1; cases l1) (by rw [hwt]; omega) (by rw [hwt, hexA_split]; exact fun g hg => (hno g hg).2)
  rw [hwt, hexA_split, hexA_back raw hr] at hgr
  rw [hwt] at hct hnx
  have g16 : ((raw.length : Int) != 16) = false := by rw [hr]; rfl
  refine callK_eq ?_ k
  refine callK_start (n := 48) (rs := []) Tryz.func28 rfl rfl rfl ?_
  intro σ hl ha
  have h0 := ha 0 (by simp)
  clear ha
  simp only [Option.getD_some, List.getElem?_cons_zero, List.getElem?_cons_succ] at h0
  simp only [go_sem, simprocAttr, hl, h0, hnx, hct, hgr, g16, hg, hs, WdC.len, WdC.s2, and_ew, hlv]
end
end Go.Proofs.YtgkpgpdkolpfkaaGreatDoor.V
namespace Go.Proofs.YtgkpgpdkolpfkaaGreatDoor.V
open Go
attribute [local irreducible] go goOps goD opK callK callT stepK leaveTo nextK

theorem Buf.gb {n : Nat} {T : Hp} {v : AV} {bs : List UInt8} (h : Buf n T v bs) : GBuf n T v 5 1 bs.length (u8s bs) := by
  obtain ⟨rfl, rfl⟩ | ⟨h1, m, h2, h3⟩ := h
  · exact .inl ⟨rfl, rfl, rfl⟩
  · exact .inr ⟨h1, by rw [u8s_len, Nat.mul_one], m, h2, h3⟩
theorem b_wemp (H T : Hp) (j : Nat) (bs : List UInt8) (hb : Bld H.length T j bs) (hp0 : 0 < bs.length) :
    ∃ T' e, Bld H.length T' j bs ∧ Keep T j T' ∧ clean H.length e ∧ ∀ k, callK Tryz.prog 32 [.ptr (H.length + j) 0, .str []] (H ++ T) k = k (.tuple [.int .i64 0, .nili], H ++ T', e) := by
  obtain ⟨p, v, hj, hp, hv⟩ := hb
  have hlt := lt_of_get hj
  obtain ⟨e1, he1, hck⟩ := b_check H T j p v hj hp hv.scl
  have hj1 : (T.set j (.cells [.ptr (H.length + j) 0, v] 54 .rw))[j]? = some (.cells [.ptr (H.length + j) 0, v] 54 .rw) := by rw [List.getElem?_set_self hlt]
  have hv1 := hv.set (x := .cells [.ptr (H.length + j) 0, v] 54 .rw) hj
  obtain ⟨w, happ, hw⟩ := hv1.gb.app0 (P := Tryz.prog) (b := 1) hp0 (by decide) zok_52
  have hfl : flat v = false := by
    obtain ⟨_, rfl⟩ | ⟨_, m, rfl, _⟩ := hv
    · cases hp0
    · rfl
  have hsc := hv.scl
  have hvc : vcells v = [v] := by obtain ⟨rfl, _⟩ | ⟨_, m, rfl, _⟩ := hv <;> rfl
  have hc0 : clean H.length e1 := by
    obtain rfl | h := he1
    · exact ⟨rfl, rfl⟩
    · exact h.cln
  have hcl3 : Cl H.length j ((e1.and ⟨none, some w⟩).and ⟨some (H.length + j), some (H.length + j)⟩) := .andr (clean_and hc0 (clean_w hw)) ⟨_, rfl, by omega, by omega, by simp [low]⟩
  obtain ⟨e', hE, hleave⟩ := hcl3.leave (m := H.length + T.length) (by omega)
  refine ⟨T.set j (.cells [.ptr (H.length + j) 0, v] 54 .rw), e', ⟨_, v, hj1, .inr rfl, hv1⟩, ⟨by simp, fun i x hi hx hf => by rw [List.getElem?_set_ne (Ne.symm hi)]; exact hx⟩, hE.cln, fun k => ?_⟩
  refine callK_eq ?_ k
  refine callK_start (n := 19) (rs := [.tmp 4, .tmp 5]) Tryz.func32 rfl rfl rfl ?_
  intro σ hl ha
  have h0 := ha 0 (by simp)
  have h1 := ha 1 (by simp)
  clear ha
  simp only [Option.getD_some, List.getElem?_cons_zero, List.getElem?_cons_succ] at h0 h1
  have d1 : decide (j < T.length) = true := by simpa using hlt
  simp only [go_sem, simprocAttr, hl, h0, h1, hck, d1, hj1, ↓happ, List.map_nil, hvc, hsc, hfl, List.set_set]
  exact hleave _ _
theorem b_any (H T : Hp) (j : Nat) (bs : List UInt8) (hb : Bld H.length T j bs) (hp0 : 0 < bs.length) (s : List UInt8) (hf : bs.length + s.length ≤ 1000000000) :
    ∃ T' e, Bld H.length T' j (bs ++ s) ∧ Keep T j T' ∧ clean H.length e ∧ ∀ k, callK Tryz.prog 32 [.ptr (H.length + j) 0, .str s] (H ++ T) k = k (.tuple [.int .i64 s.length, .nili], H ++ T', e) := by
  cases s with
  | nil =>
    obtain ⟨T', e, h1, h2, h3, h4⟩ := b_wemp H T j bs hb hp0
    exact ⟨T', e, by rw [List.append_nil]; exact h1, h2, h3, h4⟩
  | cons c s => exact b_wst H T j bs hb (c :: s) (by simp) hf
def packS (xs : List (List UInt8)) : List UInt8 := xs.flatMap fun x => UInt8.ofNat x.length :: x
theorem packS_snoc {L : List (List UInt8)} {i : Nat} {l : List UInt8} (h : L[i]? = some l) : packS (L.take (i + 1)) = packS (L.take i) ++ (UInt8.ofNat l.length :: l) := by
  rw [take_snoc h]; simp [packS]
theorem packS_le (L : List (List UInt8)) (i : Nat) : (packS (L.take i)).length ≤ (packS L).length := by
  have : packS L = packS (L.take i) ++ packS (L.drop i) := by
    conv => lhs; rw [← List.take_append_drop i L]
    simp only [packS, List.flatMap_append]
  rw [this, List.length_append]; omega
theorem wcells_at : ∀ (ws : List Wd) (i : Nat) (w : Wd), ws[i]? = some w → ((wcells ws).drop (i * 4)).take 4 = w.cells ∧ i * 4 + 4 ≤ (wcells ws).length
  | [], i, w, h => by simp at h
  | x :: ws, 0, w, h => by
    simp only [List.getElem?_cons_zero, Option.some.injEq] at h
    subst h
    exact ⟨rfl, by rw [wcells_len, List.length_cons]; omega⟩
  | x :: ws, i + 1, w, h => by
    obtain ⟨h1, h2⟩ := wcells_at ws i w (by simpa using h)
    have e : wcells (x :: ws) = x.cells ++ wcells ws := rfl
    have e2 : (i + 1) * 4 = x.cells.length + i * 4 := by simp [Wd.cells]; omega
    refine ⟨?_, by rw [wcells_len] at h2 ⊢; simp; omega⟩
    rw [e, e2, ← List.drop_drop, List.drop_left]; exact h1
theorem Wv.at {H : Hp} {v : AV} {ws : List Wd} (h : Wv H v ws) {i : Nat} {w : Wd} (hi : ws[i]? = some w) : ∃ b q row e k, evIndexAddr Tryz.prog 34 v (.int .i64 (i : Nat)) = some (.ptr b q) ∧ H[b]? = some (.cells row e k) ∧ ldC q 4 true (.cells row e k) = some (.agg w.cells) := by
  have hlt := (List.getElem?_eq_some_iff.1 hi).1
  obtain ⟨_, rfl⟩ | ⟨b, k, pre, fz, st, rfl, h2, h3⟩ | ⟨b, _, _, rfl⟩ := h
  · simp at hlt
  · obtain ⟨h4, h5⟩ := wcells_at ws i w hi
    refine ⟨b, k * 4 + i * 4, _, _, _, ?_, h3, ?_⟩
    · simp only [evIndexAddr, tsh_34]
      rw [if_pos ⟨by omega, by omega⟩]
      simp
    · unfold ldC
      simp only [if_true]
      rw [if_pos (by rw [List.length_append, h2]; omega), ← List.drop_drop, ← h2, List.drop_left, h4]
  · simp at hlt
theorem Wv.nul {H : Hp} {v : AV} {ws : List Wd} (h : Wv H v ws) (hne : ws ≠ []) : ∃ v', (∀ L kk, slK Tryz.prog 34 v none (some (.int .i64 0)) none (H ++ L) kk = kk (v', H ++ L, z0)) ∧ (∀ H', evLen Tryz.prog 34 v' H' = some (.int .i64 0)) ∧ scal v' = true ∧ vcells v' = [v'] ∧ flat v' = false := by
  obtain ⟨_, rfl⟩ | ⟨b, k, pre, fz, st, rfl, h2, h3⟩ | ⟨b, _, _, rfl⟩ := h
  · exact absurd rfl hne
  · refine ⟨.slice b (k * 4) 0 (.op k), fun L kk => ?_, fun H' => by simp only [evLen, tsh_34]; rfl, rfl, rfl, rfl⟩
    rw [slK_op (by rw [tsh_34]; rfl), tsh_34, bindK_some, get_app h3, bindK_some, knC_c, if_pos ⟨rfl, by decide, rfl⟩, bindK_some, bnd_nh]
    have q1 : ((0 : Int) ≤ 0 ∧ (0 : Int) ≤ (((pre ++ wcells ws).length - k * 4) / 4 : Nat)) = True := eq_true ⟨by decide, by omega⟩
    have d0 : decide ((0 : Nat) = 0 ∨ 0 < ((pre ++ wcells ws).length - k * 4) / 4) = true := decide_eq_true (.inl rfl)
    rw [q1, true_and, d0, guardK_tt]
    simp only [shZ_s]
    rfl
  · exact absurd rfl hne
section
variable (H : Hp) (rb : Nat) (v : AV) (o : List UInt8) (d : Dt) (j : Nat) (ws : List Wd) (hb : H[rb]? = some (.cells (WdC v o d j) 69 .rw)) (hv : Wv H v ws) (hw : ∀ w ∈ ws, w.t.length ≤ 1048576)
include hb hv hw
set_option maxRecDepth 20000 in
set_option maxHeartbeats 2000000 in
theorem wd_texts (xs : List (List UInt8)) (hx : ws.map (fun w => unB w.t) = xs.map some) (hxl : ∀ x ∈ xs, x.length ≤ 255) (hne : packS xs ≠ []) (hle : (packS xs).length ≤ 65535) (hwl : ws.length ≤ 10000000) :
    ∃ b : AV × Hp, (∀ H', evLen Tryz.prog 34 b.1 H' = some (.int .i64 0)) ∧ ∀ k, callK Tryz.prog 29 [.ptr rb 0] H k = k (.tuple [], H.set rb (.cells (WdC b.1 o { d with raw := packS xs } j) 69 .rw) ++ b.2, ⟨some rb, some rb⟩) := by
  have hlt := lt_of_get hb
  have hg : ∀ y T, (H.set rb y ++ T)[rb]? = some y := fun y T => get_app (by rw [List.getElem?_set_self hlt])
  have hs : ∀ y z T, (H.set rb y ++ T).set rb z = H.set rb z ++ T := fun y z T => by rw [List.set_append_left _ _ (by simpa using hlt), List.set_set]
  have hs0 : ∀ z T, (H ++ T).set rb z = H.set rb z ++ T := fun z T => by rw [List.set_append_left _ _ hlt]
  have hlv : ∀ (x : AV) (H' : Hp), leave H.length x H' ⟨some rb, some rb⟩ = (x, H', ⟨some rb, some rb⟩) := fun x H' => leave_ee hlt
  have hlen := hv.len
  have hll : ws.length = xs.length := by have := congrArg List.length hx; simpa using this
  have hxne : xs ≠ [] := by rintro rfl; exact hne rfl
  have hwne : ws ≠ [] := by rintro rfl; exact hxne (List.length_eq_zero_iff.1 hll.symm)
  have hb0 : Bld H.length [.cells [.nilp, .nils] 54 .rw] 0 (packS (xs.take 0)) := ⟨_, _, rfl, .inl rfl, .inl ⟨rfl, rfl⟩⟩
  refine callK_exP (fun b : AV × Hp => ∀ H', evLen Tryz.prog 34 b.1 H' = some (.int .i64 0)) (fun b => (.tuple [], H.set rb (.cells (WdC b.1 o { d with raw := packS xs } j) 69 .rw) ++ b.2, ⟨some rb, some rb⟩)) ?_
  refine callK_start (n := 66) (rs := []) Tryz.func29 rfl rfl rfl ?_
  intro σ hl ha
  have h0 := ha 0 (by simp)
  clear ha
  simp only [Option.getD_some, List.getElem?_cons_zero, List.getElem?_cons_succ] at h0
  have hbT := fun T => get_app (l := T) hb
  simp only [go_sem, simprocAttr, hl, h0, hbT, WdC.l0, hlen]
  refine go_rounds (fun n st => ∃ σ i T e, n + i = ws.length ∧ Bld H.length T 0 (packS (xs.take i)) ∧ st = ⟨σ, H ++ T, e⟩ ∧ clean H.length e ∧ σ.length = 66 ∧ fr σ 0 = .ptr rb 0 ∧ fr σ 2 = .ptr H.length 0 ∧ fr σ 10 = v ∧ fr σ 11 = .int .i64 ws.length ∧ fr σ 12 = .int .i64 (i : Nat)) ws.length
    ⟨_, 0, _, _, rfl, hb0, rfl, ⟨rfl, rfl⟩, by simp only [go_sem, simprocAttr, hl], by simp only [go_sem, simprocAttr, hl, h0], by simp only [go_sem, simprocAttr, hl], by simp only [go_sem, simprocAttr, hl], by simp only [go_sem, simprocAttr, hl], by simp only [go_sem, simprocAttr, hl]⟩ ?_
  rintro n _ ⟨σ, i, T, e, hn, hbl, rfl, he, hl, h0, h2, h10, h11, h12⟩
  by_cases hlti : i < ws.length
  · obtain ⟨w, hwi⟩ : ∃ w, ws[i]? = some w := ⟨_, List.getElem?_eq_getElem hlti⟩
    obtain ⟨x, hxi⟩ : ∃ x, xs[i]? = some x := ⟨_, List.getElem?_eq_getElem (by omega)⟩
    obtain ⟨b, q, row, ee, kd, hi, hgw, hld⟩ := hv.at hwi
    have hgT := fun T => get_app (l := T) hgw
    have hux : unB w.t = some x := by have := congrArg (·[i]?) hx; simpa [hwi, hxi] using this
    have hwm := hw w (List.mem_of_getElem? hwi)
    have hxm := hxl x (List.mem_of_getElem? hxi)
    have hby := fun H' k => name_Bytes w.t H' k hwm
    rw [hux] at hby
    simp only [Option.getD_some, Option.isSome_some, if_true] at hby
    have hw1 := wrap_succ (show i < 9223372036854775807 by omega)
    have g1 : decide ((x.length : Int) > 255) = false := by simp; omega
    have w3 : IntKind.u8.wrap (x.length : Int) = ((UInt8.ofNat x.length).toNat : Int) := by rw [UInt8.toNat_ofNat', wrap_u8 (by omega)]; omega
    have hst : ∀ (x y : ABlk), (T ++ [x]).set T.length y = T ++ [y] := fun x y => by rw [List.set_append_right _ _ (Nat.le_refl _)]; simp
    have hgt : ∀ (x : ABlk), (T ++ [x])[T.length]? = some x := fun x => by simp
    have hple := packS_le xs i
    have hple2 := packS_le xs (i + 1)
    rw [packS_snoc hxi, List.length_append, List.length_cons] at hple2
    obtain ⟨T1, e1, b1, k1, c1, r1⟩ := b_lit H (T ++ [.cells w.cells 71 .rw]) 0 _ (hbl.more _) (UInt8.ofNat x.length) _ rfl (by omega)
    obtain ⟨T2, e2, b2, k2, c2, r2⟩ := b_any H T1 0 _ b1 (by simp) x (by simp; omega)
    simp only [Nat.add_zero] at r1 r2
    have hwc : w.cells.length = 4 := rfl
    have hvc : vcells (.agg w.cells) = w.cells := rfl
    have hsc : w.cells.all scal = true := rfl
    have hfc : flats w.cells = true := by simp [Wd.cells, flats, flat]
    have hsp : splice [.str [], .bool false, .int .i64 0, .int .i64 0] 0 w.cells = w.cells := rfl
    have hl0 : ∀ e k, ldC 0 1 false (.cells w.cells e k) = some (.str w.t) := fun _ _ => rfl
    simp only [go_sem, simprocAttr, hl, h0, h2, h10, h11, h12, hlti, hi, hgT, hld, hst, hgt, hwc, hvc, hsc, hfc, hsp, hl0, hby, g1, w3, r1, r2, hw1]
    exact ⟨n - 1, by omega, _, i + 1, T2, _, by omega, by rw [packS_snoc hxi]; simpa using b2, rfl, by simp only [go_sem, simprocAttr, he, c1, c2], by simp only [go_sem, simprocAttr, hl], by simp only [go_sem, simprocAttr, hl, h0], by simp only [go_sem, simprocAttr, hl, h2], by simp only [go_sem, simprocAttr, hl, h10], by simp only [go_sem, simprocAttr, hl, h11], by simp only [go_sem, simprocAttr, hl]⟩
  · have hi : i = xs.length := by omega
    subst hi
    rw [List.take_length] at hbl
    obtain ⟨T2, e2, k2, c2, r2⟩ := b_stringK H T 0 _ hbl (by omega)
    simp only [Nat.add_zero] at r2
    obtain ⟨v0, hsl, hl0, hsc, hvc, hfl⟩ := (hv.set (x := .cells (WdC v o { d with raw := packS xs } j) 69 .rw) hb).nul hwne
    have hse : ((packS xs) == []) = false := by rw [beq_eq_false_iff_ne]; exact hne
    have gle : decide (((packS xs).length : Int) > 65535) = false := by simp; omega
    have ae := and_ce (b := rb) (clean_and he c2) hlt
    have hge := hbT T2
    have hclw : ∀ e' : Ef, clean H.length e' → (e'.and ⟨none, some rb⟩).and ⟨some rb, some rb⟩ = ⟨some rb, some rb⟩ := by
      intro e' hc
      rw [Ef.and_assoc, and_we]
      exact and_ce hc hlt
    have hfin := hclw _ (clean_and he c2)
    simp only [go_sem, simprocAttr, hl, h0, h2, h10, h11, h12, hlti, r2, hbT, WdC.len, WdC.s2, hs0, hg, hs, WdC.l0, hsl, hsc, hvc, hfl, WdC.s0, WdC.l2, hse, gle, hfin, hlv]
    exact ⟨(v0, T2), hl0, rfl⟩
end
end Go.Proofs.YtgkpgpdkolpfkaaGreatDoor.V
namespace Go.Proofs.YtgkpgpdkolpfkaaGreatDoor.V
open Go
attribute [local irreducible] go goOps goD opK callK callT stepK leaveTo nextK

theorem Tk.set {H : Hp} (h : Tk H) {rb : Nat} {v : AV} {o : List UInt8} {d : Dt} {j : Nat} {x : ABlk} (hb : H[rb]? = some (.cells (WdC v o d j) 69 .rw)) : Tk (H.set rb x) := by
  obtain ⟨e, k, h⟩ := h
  have hne : rb ≠ 0 := by
    rintro rfl
    rw [hb] at h
    have := congrArg (Option.map fun | ABlk.cells c _ _ => c.length | _ => 0) h
    simp [WdC, kindsC] at this
  exact ⟨e, k, by rw [List.getElem?_set_ne hne]; exact h⟩
theorem Wv.keep {B T T' : Hp} {v : AV} {ws : List Wd} {jb : Nat} {c : List AV} {e : TypeId} (h : Wv (B ++ T) v ws) (hk : Keep T jb T') (hj : T[jb]? = some (.cells c e .rw)) : Wv (B ++ T') v ws := by
  have key : ∀ (b : Nat) (x : ABlk), (B ++ T)[b]? = some x → fixd x = true → (∀ c e, x ≠ .cells c e .rw) → (B ++ T')[b]? = some x := by
    intro b x hb hf hr
    by_cases hlt : b < B.length
    · rw [List.getElem?_append_left hlt] at hb ⊢; exact hb
    · rw [List.getElem?_append_right (by omega)] at hb ⊢
      refine hk.2 (b - B.length) x ?_ hb hf
      intro he
      rw [he, hj] at hb
      cases hb
      exact hr c e rfl
  obtain h | ⟨b, k, pre, fz, st, h1, h2, h3⟩ | ⟨b, h1, h2, h3⟩ := h
  · exact .inl h
  · exact .inr (.inl ⟨b, k, pre, fz, st, h1, h2, key b _ h3 rfl (by intro c e h; injection h with _ _ h; cases h)⟩)
  · exact .inr (.inr ⟨b, h1, key b _ h2 rfl (by intro c e h; cases h), h3⟩)
theorem mk_rowk (kd kd' : IntKind) (n : Nat) (H : Hp) (hn : n ≤ 1048576) : evMake Tryz.prog 52 (.int kd (n : Nat)) (.int kd' (n : Nat)) H = some (.slice H.length 0 n (.ex n), H ++ [.cells (rowB [] n) 5 .rw]) := by
  have hr : ∀ n, rep [.int .u8 0] n = List.replicate n (AV.int .u8 0) := by
    intro n; induction n with
    | zero => rfl
    | succ n ih => rw [rep, ih]; rfl
  simp only [evMake, tsh_52, tzero_5, Option.bind_some]
  rw [if_pos (by omega)]
  simp [hr, rowB, u8s]
def pairsV : List UInt8 → List UInt8
  | a :: b :: r => UInt8.ofNat (hexV a * 16 + hexV b) :: pairsV r
  | _ => []
theorem pairs_hexP : ∀ s : List UInt8, pairsV (hexP s) = s
  | [] => rfl
  | c :: s => by
    have e : hexP (c :: s) = hexD (c.toNat / 16) :: hexD (c.toNat % 16) :: hexP s := rfl
    have := c.toNat_lt
    rw [e, pairsV, pairs_hexP s, (hexV_D (n := c.toNat / 16) (by omega)).2, (hexV_D (n := c.toNat % 16) (by omega)).2]
    have e2 : c.toNat / 16 * 16 + c.toNat % 16 = c.toNat := by omega
    rw [e2, UInt8.ofNat_toNat]
theorem pairs_at : ∀ (D : List UInt8) (i : Nat) (a b : UInt8), D[2 * i]? = some a → D[2 * i + 1]? = some b → (pairsV D)[i]? = some (UInt8.ofNat (hexV a * 16 + hexV b))
  | [], i, a, b, h, _ => by simp at h
  | [x], 0, a, b, _, h => by simp at h
  | [x], i + 1, a, b, h, _ => by rw [show 2 * (i + 1) = (2 * i + 1) + 1 by omega] at h; simp at h
  | x :: y :: D, 0, a, b, h1, h2 => by
    simp at h1 h2; subst h1 h2; rfl
  | x :: y :: D, i + 1, a, b, h1, h2 => by
    have := pairs_at D i a b (by rw [show 2 * (i + 1) = 2 * i + 1 + 1 by omega] at h1; simpa using h1) (by rw [show 2 * (i + 1) + 1 = (2 * i + 1) + 1 + 1 by omega] at h2; simpa using h2)
    rw [pairsV, List.getElem?_cons_succ]; exact this
theorem pairs_len : ∀ (n : Nat) (D : List UInt8), D.length = 2 * n → (pairsV D).length = n
  | 0, D, h => by
    have : D = [] := List.length_eq_zero_iff.1 (by omega)
    subst this; rfl
  | n + 1, [], h => by simp at h
  | n + 1, [x], h => by simp at h; omega
  | n + 1, x :: y :: D, h => by
    rw [pairsV, List.length_cons, pairs_len n D (by simp at h; omega)]
theorem or_16u {v h : Nat} (hv : v < 16) (hh : h < 16) : evInt .or .i64 (IntKind.i64.wrap ((v : Int) * 2 ^ (min 4 64))) (h : Nat) = some (.int .i64 ((v * 16 + h : Nat) : Int)) := by
  have ws : IntKind.i64.wrap ((v : Int) * 2 ^ (min 4 64)) = ((v * 16 : Nat) : Int) := by
    have : (v : Int) * 2 ^ (min 4 64) = ((v * 16 : Nat) : Int) := by
      show (v : Int) * 16 = _
      omega
    rw [this]; exact wrap_i64 (by omega)
  rw [ws]; exact or_16 (by omega) hh
section
variable (H : Hp) (rb : Nat) (v : AV) (o : List UInt8) (d : Dt) (j : Nat) (w : Wd) (ws : List Wd) (hq : w.q = false) (hb : H[rb]? = some (.cells (WdC v o d j) 69 .rw)) (hv : Wv H v (w :: ws)) (hw : w.t.length ≤ 1048576)
include hq hb hv hw
set_option maxRecDepth 20000 in
set_option maxHeartbeats 4000000 in
theorem wd_raw (t : Int) (n : Nat) (d' : Dt) (D : List UInt8) (ht : Te H) (hk : Tk H) (hn : numS w.t 65535 = some n) (hn6 : n ≤ 65535) (hws : ∀ x ∈ ws, x.q = false ∧ 0 < x.t.length ∧ x.t.length ≤ 1048576) (hwn : ws.length ≤ 10000000) (hD : D = ws.flatMap Wd.t) (hDl : D.length = 2 * n) (hDx : ∀ c ∈ D, isHx c = true)
    (hd : d'.wf) (hck : chk t d' = 0) (hr : Rds (pairsV D) (0 + n) d' (formS t) 0 0) (hgot : gotF d' (formS t) 0 Dt.zero = d') :
    ∃ b : AV × Hp, True ∧ ∀ k, callK Tryz.prog 22 [.ptr rb 0, .int .u16 t] H k = k (.agg d'.cells, H.set rb (.cells (WdC b.1 o d j) 69 .rw) ++ b.2, ⟨some rb, some rb⟩) := by
  have hlt := lt_of_get hb
  have hg : ∀ y T, (H.set rb y ++ T)[rb]? = some y := fun y T => get_app (by rw [List.getElem?_set_self hlt])
  have hs : ∀ y z T, (H.set rb y ++ T).set rb z = H.set rb z ++ T := fun y z T => by rw [List.set_append_left _ _ (by simpa using hlt), List.set_set]
  have hlv : ∀ (x : AV) (H' : Hp), leave H.length x H' ⟨some rb, some rb⟩ = (x, H', ⟨some rb, some rb⟩) := fun x H' => leave_ee hlt
  obtain ⟨v1, L1, hv1, hnx1⟩ := wd_next (H ++ [.cells Dt.zero.cells 27 .rw]) rb v o d j w ws hq (get_app hb) (hv.old _)
  rw [List.set_append_left _ _ hlt] at hnx1
  have hz : Dt.zero.cells = [.str [], .str [], .str [], .int .u32 0, .int .u32 0, .int .u32 0, .int .u32 0, .int .u32 0] := rfl
  simp only [List.append_assoc, List.cons_append, List.nil_append] at hnx1 hv1
  have hnm := fun y T k => rdata_number w.t 16 65535 (.inr (.inl ⟨rfl, rfl⟩)) (by decide) (H.set rb y ++ T) k ((ht.set hb).old T) hw
  rw [hn] at hnm
  simp only [Option.getD_some, Option.isSome_some] at hnm
  refine callK_exP (fun _ : AV × Hp => True) (fun b => (.agg d'.cells, H.set rb (.cells (WdC b.1 o d j) 69 .rw) ++ b.2, ⟨some rb, some rb⟩)) ?_
  refine callK_start (n := 76) (rs := [.cell 4 27]) Tryz.func22 rfl rfl rfl ?_
  intro σ hl ha
  have h0 := ha 0 (by simp)
  have h1 := ha 1 (by simp)
  clear ha
  simp only [Option.getD_some, List.getElem?_cons_zero, List.getElem?_cons_succ] at h0 h1
  rw [hz] at hnx1 hv1
  simp only [go_sem, simprocAttr, hl, h0, h1, hnx1, hnm]
  obtain ⟨jb, hjb⟩ : ∃ jb, jb = L1.length + 1 := ⟨_, rfl⟩
  obtain ⟨Z, hZ⟩ : ∃ Z : ABlk, Z = .cells [.str [], .str [], .str [], .int .u32 0, .int .u32 0, .int .u32 0, .int .u32 0, .int .u32 0] 27 .rw := ⟨_, rfl⟩
  have hfZ : fixd Z = true := by rw [hZ]; rfl
  have hen : ∀ k, (⟨some rb, some rb⟩ : Ef).and ⟨none, some (H.length + k)⟩ = ⟨some rb, some rb⟩ := fun k => and_ec (clean_w (by omega)) hlt
  have hen0 : (⟨some rb, some rb⟩ : Ef).and ⟨none, some H.length⟩ = ⟨some rb, some rb⟩ := and_ec (clean_w (Nat.le_refl _)) hlt
  rw [← hZ] at hv1 ⊢
  rw [← hjb]
  refine go_rounds (fun m st => ∃ σ v' ws' Dn T, m = ws'.length ∧ D = Dn ++ ws'.flatMap Wd.t ∧ (∀ x ∈ ws', x.q = false ∧ 0 < x.t.length ∧ x.t.length ≤ 1048576) ∧ Wv (H.set rb (.cells (WdC v' o d j) 69 .rw) ++ T) v' ws' ∧ Bld H.length T jb Dn ∧ T[0]? = some Z ∧ st = ⟨σ, H.set rb (.cells (WdC v' o d j) 69 .rw) ++ T, ⟨some rb, some rb⟩⟩ ∧ σ.length = 76 ∧ fr σ 0 = .ptr rb 0 ∧ fr σ 1 = .int .u16 t ∧ fr σ 4 = .ptr H.length 0 ∧ fr σ 5 = .int .u32 (n : Nat) ∧ fr σ 7 = .ptr (H.length + jb) 0) ws.length
    ⟨_, v1, ws, [], Z :: (L1 ++ [.cells [.nilp, .nils] 54 .rw]), rfl, by rw [hD]; rfl, hws, ?_, ⟨_, _, by rw [hjb]; simp, .inl rfl, .inl ⟨rfl, rfl⟩⟩, rfl, rfl, by simp only [go_sem, simprocAttr, hl], by simp only [go_sem, simprocAttr, hl, h0], by simp only [go_sem, simprocAttr, hl, h1], by simp only [go_sem, simprocAttr, hl], by simp only [go_sem, simprocAttr, hl], by simp only [go_sem, simprocAttr, hl]⟩ ?_
  · have h := (hv1.old [.cells [.nilp, .nils] 54 .rw]).set (rb := rb) (x := .cells (WdC v1 o d j) 69 .rw) (get_app (get_app hb))
    rw [List.append_assoc, List.set_append_left _ _ hlt] at h
    simpa using h
  clear h0 h1 hl hnx1 hv1
  rintro m _ ⟨σ, v', ws', Dn, T, rfl, hDn, hws', hv', hbl, hT0, rfl, hl, h0, h1, h4, h5, h7⟩
  have hlen := hv'.len
  cases ws' with
  | cons x ws2 =>
    obtain ⟨xq, xp, xl⟩ := hws' x (by simp)
    obtain ⟨v2, L2, hv2, hnx⟩ := wd_next (H.set rb (.cells (WdC v' o d j) 69 .rw) ++ T) rb v' o d j x ws2 xq (hg _ _) hv'
    rw [hs] at hnx
    have hv2' := hv2.set (rb := rb) (x := .cells (WdC v2 o d j) 69 .rw) (get_app (hg _ _))
    rw [List.append_assoc, hs] at hv2'
    have hDl2 : Dn.length + x.t.length ≤ D.length := by rw [hDn]; simp
    obtain ⟨p, vb, hjT, _⟩ := hbl
    have hbl : Bld H.length T jb Dn := ⟨p, vb, hjT, by assumption⟩
    obtain ⟨T3, e3, b3, k3, c3, r3⟩ := b_wst (H.set rb (.cells (WdC v2 o d j) 69 .rw)) (T ++ L2) jb Dn (by rw [List.length_set]; exact hbl.more L2) x.t xp (by omega)
    rw [List.length_set] at b3 c3 r3
    have hv3 := hv2'.keep k3 (get_app hjT)
    have hZ3 : T3[0]? = some Z := k3.2 0 Z (by omega) (get_app hT0) hfZ
    have ae := and_ec c3 hlt
    have g0 : decide (((ws2.length + 1 : Nat) : Int) > 0) = true := by simp
    simp only [List.append_assoc] at hnx
    simp only [go_sem, simprocAttr, hl, h0, h1, h4, h5, h7, hg, WdC.l0, hlen, g0, hnx, r3, and_ee, ae]
    exact ⟨ws2.length, by simp, _, v2, ws2, Dn ++ x.t, T3, rfl, by rw [hDn]; simp, fun y hy => hws' y (by simp [hy]), hv3, b3, hZ3, rfl, by simp only [go_sem, simprocAttr, hl], by simp only [go_sem, simprocAttr, hl, h0], by simp only [go_sem, simprocAttr, hl, h1], by simp only [go_sem, simprocAttr, hl, h4], by simp only [go_sem, simprocAttr, hl, h5], by simp only [go_sem, simprocAttr, hl, h7]⟩
  | nil =>
    have hDD : D = Dn := by rw [hDn]; simp
    subst hDD
    obtain ⟨T4, e4, k4, c4, r4⟩ := b_stringK (H.set rb (.cells (WdC v' o d j) 69 .rw)) T jb D (by rw [List.length_set]; exact hbl) (by omega)
    rw [List.length_set] at c4 r4
    have hZ4 : T4[0]? = some Z := k4.2 0 Z (by omega) hT0 hfZ
    have ae := and_ec c4 hlt
    have w1 : IntKind.i64.wrap (n : Int) = (n : Int) := wrap_i64 (by omega)
    have w2 : IntKind.i64.wrap (2 * (n : Int)) = ((2 * n : Nat) : Int) := by rw [wrap_i64 (by omega)]; omega
    have g1 : ((D.length : Int) != ((2 * n : Nat) : Int)) = false := by rw [hDl]; simp
    have hmk := fun H' => mk_rowk .u32 .u32 n H' (by omega)
    have hpl := pairs_len n D hDl
    simp only [go_sem, simprocAttr, hl, h0, h1, h4, h5, h7, hg, WdC.l0, hlen, r4, ae, w1, w2, g1, hmk]
    obtain ⟨Bk, hBk⟩ : ∃ Bk, Bk = pairsV D := ⟨_, rfl⟩
    rw [← hBk] at hpl hr
    obtain ⟨Y, hY⟩ : ∃ Y : ABlk, Y = .cells (WdC v' o d j) 69 .rw := ⟨_, rfl⟩
    rw [← hY] at r4 ⊢
    have hlY : (H.set rb Y).length = H.length := by simp
    refine go_rounds (fun m st => ∃ σ i, m + i = n ∧ st = ⟨σ, H.set rb Y ++ (T4 ++ [.cells (rowB (Bk.take i) n) 5 .rw]), ⟨some rb, some rb⟩⟩ ∧ σ.length = 76 ∧ fr σ 0 = .ptr rb 0 ∧ fr σ 1 = .int .u16 t ∧ fr σ 4 = .ptr H.length 0 ∧ fr σ 8 = .str D ∧ fr σ 9 = .slice (H.length + T4.length) 0 n (.ex n) ∧ fr σ 42 = .int .i64 (n : Nat) ∧ fr σ 43 = .int .i64 (i : Nat)) n
      ⟨_, 0, rfl, rfl, by simp only [go_sem, simprocAttr, hl], by simp only [go_sem, simprocAttr, hl, h0], by simp only [go_sem, simprocAttr, hl, h1], by simp only [go_sem, simprocAttr, hl, h4], by simp only [go_sem, simprocAttr, hl], by simp only [go_sem, simprocAttr, hl], by simp only [go_sem, simprocAttr, hl], by simp only [go_sem, simprocAttr, hl]⟩ ?_
    clear h0 h1 h4 h5 h7 hl
    rintro m _ ⟨σ, i, hm, rfl, hl, h0, h1, h4, h8, h9, h42, h43⟩
    by_cases hli : i < n
    · obtain ⟨a, ha⟩ : ∃ a, D[2 * i]? = some a := ⟨_, List.getElem?_eq_getElem (by omega)⟩
      obtain ⟨b, hb2⟩ : ∃ a, D[2 * i + 1]? = some a := ⟨_, List.getElem?_eq_getElem (by omega)⟩
      have xa := hDx a (List.mem_of_getElem? ha)
      have xb := hDx b (List.mem_of_getElem? hb2)
      have va := (hexV_ok xa).2
      have vb := (hexV_ok xb).2
      have hha := fun H' k => rdata_hex a H' k xa
      have hhb := fun H' k => rdata_hex b H' k xb
      have hat := pairs_at D i a b ha hb2
      rw [← hBk] at hat
      have hsn : Bk.take i ++ [UInt8.ofNat (hexV a * 16 + hexV b)] = Bk.take (i + 1) := (take_snoc hat).symm
      have w3 : IntKind.i64.wrap (2 * (i : Int)) = ((2 * i : Nat) : Int) := by rw [wrap_i64 (by omega)]; omega
      have w4 : IntKind.i64.wrap (((2 * i : Nat) : Int) + 1) = ((2 * i + 1 : Nat) : Int) := by rw [wrap_i64 (by omega)]; omega
      have hor := or_16u va vb
      have w5 : IntKind.u8.wrap ((hexV a * 16 + hexV b : Nat) : Int) = ((UInt8.ofNat (hexV a * 16 + hexV b)).toNat : Int) := by rw [UInt8.toNat_ofNat', wrap_u8 (by omega)]; omega
      have hw1 := wrap_succ (show i < 9223372036854775807 by omega)
      have hgA : ∀ (x : ABlk), (H.set rb Y ++ (T4 ++ [x]))[H.length + T4.length]? = some x := fun x => set_new (by simp)
      have hsA : ∀ (x y : ABlk), (H.set rb Y ++ (T4 ++ [x])).set (H.length + T4.length) y = H.set rb Y ++ (T4 ++ [y]) := fun x y => by
        rw [List.set_append_right _ _ (by rw [hlY]; omega), hlY, Nat.add_sub_cancel_left, List.set_append_right _ _ (Nat.le_refl _)]; simp
      have htl : (Bk.take i).length = i := by rw [List.length_take, hpl]; omega
      have hput := rowB_put (out := Bk.take i) (n := n) (c := UInt8.ofNat (hexV a * 16 + hexV b)) (by omega)
      rw [htl, hsn] at hput
      have hrl := rowB_len (out := Bk.take i) (n := n) (by omega)
      have b1 : i + 1 ≤ n := by omega
      simp only [go_sem, simprocAttr, hl, h0, h1, h4, h8, h9, h42, h43, hli]
      refine go_drawZ tFollows (by kernel_rfl) ?_
      simp only [go_sem, simprocAttr, hl, h0, h1, h4, h8, h9, h42, h43, hli, w3, w4, ha, hb2, hha, hhb, ↓hor, w5, hgA, hrl, b1, hput, hsA, hw1, hen]
      exact ⟨by kernel_rfl, m - 1, by omega, _, i + 1, by omega, rfl, by simp only [go_sem, simprocAttr, hl], by simp only [go_sem, simprocAttr, hl, h0], by simp only [go_sem, simprocAttr, hl, h1], by simp only [go_sem, simprocAttr, hl, h4], by simp only [go_sem, simprocAttr, hl, h8], by simp only [go_sem, simprocAttr, hl, h9], by simp only [go_sem, simprocAttr, hl, h42], by simp only [go_sem, simprocAttr, hl]⟩
    · have hi : i = n := by omega
      subst hi
      have hrow : rowB (Bk.take i) i = u8s Bk := by rw [List.take_of_length_le (by omega)]; simp [rowB, hpl]
      rw [hrow]
      obtain ⟨R, hR⟩ : ∃ R : ABlk, R = .cells (u8s Bk) 5 .rw := ⟨_, rfl⟩
      have hgR : (H.set rb Y ++ (T4 ++ [R]))[H.length + T4.length]? = some R := set_new (by simp)
      have hRd : Rd (H.set rb Y ++ (T4 ++ [R])) (.slice (H.length + T4.length) 0 i (.ex i)) Bk := by
        refine .inr ⟨H.length + T4.length, 0, .ex i, [], [], 5, .rw, by rw [hpl], rfl, ?_, .inl ⟨i, rfl, by omega⟩⟩
        rw [hgR, hR]; simp
      rw [← hR]
      have htk := fun k => rdata_Take (H.set rb Y ++ (T4 ++ [R])) k (.slice (H.length + T4.length) 0 i (.ex i)) Bk 0 i t d' ((hk.set hb).old _) hRd (by omega) (by omega) hd hck hr hgot
      have htk : ∀ k, callK Tryz.prog 47 [.slice (H.length + T4.length) 0 i (.ex i), .int .i64 0, .int .i64 (i : Nat), .int .u16 t] (H.set rb Y ++ (T4 ++ [R])) k = k (.tuple [.agg d'.cells, .int .i64 0], H.set rb Y ++ (T4 ++ [R]), z0) := htk
      have hl4 := lt_of_get hZ4
      have hgN : ∀ (x : ABlk), (H.set rb Y ++ (T4 ++ [R, x]))[H.length + (T4.length + 1)]? = some x := fun x => set_new (by rw [List.getElem?_append_right (by omega)]; simp)
      have hsN : ∀ (x y : ABlk), (H.set rb Y ++ (T4 ++ [R, x])).set (H.length + (T4.length + 1)) y = H.set rb Y ++ (T4 ++ [R, y]) := fun x y => by
        rw [List.set_append_right _ _ (by rw [hlY]; omega), hlY, Nat.add_sub_cancel_left, List.set_append_right _ _ (by omega)]; simp
      have hgZ : ∀ l, (H.set rb Y ++ (T4 ++ l))[H.length]? = some (.cells [.str [], .str [], .str [], .int .u32 0, .int .u32 0, .int .u32 0, .int .u32 0, .int .u32 0] 27 .rw) := fun l => by
        have := set_new (H := H) (rb := rb) (a := 0) (y := Y) (get_app (l := l) hZ4)
        rw [hZ] at this; exact this
      have hsZ : ∀ y l, (H.set rb Y ++ (T4 ++ l)).set H.length y = H.set rb Y ++ (T4.set 0 y ++ l) := fun y l => by
        rw [List.set_append_right _ _ (by rw [hlY]; omega), hlY, Nat.sub_self, List.set_append_left _ _ hl4]
      have hgZ2 : ∀ y l, (H.set rb Y ++ (T4.set 0 y ++ l))[H.length]? = some y := fun y l => set_new (H := H) (rb := rb) (a := 0) (y := Y) (get_app (l := l) (by rw [List.getElem?_set_self hl4]))
      have hsp : splice [.str [], .str [], .str [], .int .u32 0, .int .u32 0, .int .u32 0, .int .u32 0, .int .u32 0] 0 d'.cells = d'.cells := rfl
      have q3 : d'.cells.all scal = true := rfl
      simp only [go_sem, simprocAttr, hl, h0, h1, h4, h8, h9, h42, h43, hli, htk, hgN, hsN, hgZ, hsZ, hgZ2, hsp, q3, Dt.vc, Dt.len, Dt.flat, Dt.l8, hen, hen0, hlv]
      exact ⟨(v', _), by rw [hY]⟩
end
end Go.Proofs.YtgkpgpdkolpfkaaGreatDoor.V
namespace Go.Proofs.YtgkpgpdkolpfkaaGreatDoor.V
open Go
attribute [local irreducible] go goOps goD opK callK callT stepK leaveTo nextK

def Wd.key (w : Wd) : List UInt8 × Bool := (w.t, w.q)
theorem txt_46 {s : List UInt8} (h : (nm s).isSome = true) : (46 : UInt8) ∈ txtN s := by
  have hp := txtN_pos h
  unfold txtN at hp ⊢
  split
  · simp
  · rename_i h0
    rw [if_neg h0] at hp
    cases hL : labs s with
    | nil => rw [hL] at hp; cases hp
    | cons l L =>
      show (46 : UInt8) ∈ (escS false l ++ [46]) ++ txtL L
      simp
theorem txF_pack : ∀ (n : Nat) (s : List UInt8) (L : List (List UInt8)), txF n s = some L → packS L = s ∧ ∀ x ∈ L, x.length ≤ 255
  | 0, s, L, h => by cases h
  | n + 1, [], L, h => by simp only [txF] at h; cases h; exact ⟨rfl, fun x hx => by cases hx⟩
  | n + 1, c :: t, L, h => by
    simp only [txF] at h
    split at h
    · cases h
    · rename_i hl
      rw [Option.map_eq_some_iff] at h
      obtain ⟨L', h1, rfl⟩ := h
      obtain ⟨i1, i2⟩ := txF_pack n _ _ h1
      have hc := c.toNat_lt
      have htl : (t.take c.toNat).length = c.toNat := by rw [List.length_take]; omega
      refine ⟨?_, fun x hx => ?_⟩
      · show (UInt8.ofNat (t.take c.toNat).length :: t.take c.toNat) ++ packS L' = c :: t
        rw [i1, htl, UInt8.ofNat_toNat, List.cons_append, List.take_append_drop]
      · rcases List.mem_cons.1 hx with rfl | hx
        · omega
        · exact i2 x hx
theorem plain_w {x : List UInt8} (hx : 0 < x.length) (h : ∀ c ∈ x, c.toNat ≠ 32 ∧ c.toNat ≠ 34 ∧ c.toNat ≠ 92) : wOf x = (x, false) ∧ x ≠ [92, 35] := by
  refine ⟨wOf_1 (fine_plain1 hx h), ?_⟩
  rintro rfl
  exact absurd rfl (h 92 (by simp)).2.2
theorem txt_w {s : List UInt8} (h : (nm s).isSome = true) : wOf (txtN s) = (txtN s, false) ∧ txtN s ≠ [92, 35] ∧ txtN s ≠ [64] := by
  have h46 := txt_46 h
  refine ⟨wOf_1 (fine_txt1 h), ?_, ?_⟩
  · intro e; rw [e] at h46; revert h46; decide
  · intro e; rw [e] at h46; revert h46; decide
theorem dec_w (n : Nat) : wOf (decP n) = (decP n, false) ∧ decP n ≠ [92, 35] :=
  plain_w (decP_pos n) (fun c hc => by have := decP_dig n c hc; omega)
theorem decA_w {raw : List UInt8} (hr : raw.length = 4) : wOf (joinS [46] (decA raw)) = (joinS [46] (decA raw), false) ∧ joinS [46] (decA raw) ≠ [92, 35] := by
  refine plain_w ?_ (fun c hc => ?_)
  · match raw, hr with
    | [a, b, c, d], _ =>
      have := decP_pos a.toNat
      show 0 < (decP a.toNat ++ _).length
      rw [List.length_append]; omega
  · rcases joinS_mem hc with h | ⟨y, hy, h⟩
    · simp only [List.mem_singleton] at h; subst h; decide
    · simp only [decA, List.mem_map] at hy; obtain ⟨b, _, rfl⟩ := hy
      have := decP_dig _ c h; omega
theorem hx_no {c : UInt8} (h : isHx c = true) : c.toNat ≠ 32 ∧ c.toNat ≠ 34 ∧ c.toNat ≠ 92 := by
  simp only [isHx, decide_eq_true_eq] at h; omega
theorem hexA_w (raw : List UInt8) : wOf (joinS [58] (hexA raw)) = (joinS [58] (hexA raw), false) ∧ joinS [58] (hexA raw) ≠ [92, 35] := by
  refine plain_w (by have := (hexA_len raw).1; omega) (fun c hc => ?_)
  rcases joinS_mem hc with h | ⟨y, hy, h⟩
  · simp only [List.mem_singleton] at h; subst h; decide
  · exact hx_no ((hexA_no raw y hy).2.2.2 c h)
theorem form_last {t : Int} {i : Nat} {c : UInt8} (h : (formS t)[i]? = some c) (hc : c.toNat = 97 ∨ c.toNat = 113 ∨ c.toNat = 120 ∨ c.toNat = 114) : formS t = [c] ∧ i = 0 := by
  rcases kinds_cases t with rfl | rfl | rfl | rfl | rfl | rfl | rfl | rfl | rfl | ht
  case inr.inr.inr.inr.inr.inr.inr.inr.inr =>
    rw [formS_o ht] at h ⊢
    match i, h with
    | 0, h => cases h; exact ⟨rfl, rfl⟩
    | i + 1, h => simp at h
  all_goals
    simp only [formS] at h ⊢
    simp at h ⊢
    match i, h with
    | 0, h => simp at h; subst h; first | exact ⟨rfl, rfl⟩ | (exfalso; revert hc; decide)
    | 1, h => simp at h <;> (subst h; exfalso; revert hc; decide)
    | 2, h => simp at h <;> (subst h; exfalso; revert hc; decide)
    | 3, h => simp at h <;> (subst h; exfalso; revert hc; decide)
    | 4, h => simp at h <;> (subst h; exfalso; revert hc; decide)
    | 5, h => simp at h <;> (subst h; exfalso; revert hc; decide)
    | 6, h => simp at h <;> (subst h; exfalso; revert hc; decide)
    | i + 7, h => simp at h
theorem first_ok {t : Int} {d : Dt} (hg : goodB t d = true) (ht : formS t ≠ [114]) : ∃ x L, (showL d (formS t) 0).map wOf = x :: L ∧ (x.2 = true ∨ x.1 ≠ [92, 35]) := by
  obtain ⟨gh, gm, ga, gq, gx, graw⟩ := good_by hg
  cases hf : formS t with
  | nil =>
    exfalso
    rcases kinds_cases t with rfl | rfl | rfl | rfl | rfl | rfl | rfl | rfl | rfl | h
    case inr.inr.inr.inr.inr.inr.inr.inr.inr => rw [formS_o h] at hf; cases hf
    all_goals revert hf; decide
  | cons c F =>
    have hc : c ∈ formS t := by rw [hf]; simp
    have hc0 : (formS t)[0]? = some c := by rw [hf]; rfl
    rw [showL, List.map_append]
    have one : ∀ x, elemS d c 0 = [x] → (wOf x = (x, false) ∧ x ≠ [92, 35]) → ∃ y L, (elemS d c 0).map wOf ++ (showL d F (if isN c = true then 0 + 1 else 0)).map wOf = y :: L ∧ (y.2 = true ∨ y.1 ≠ [92, 35]) := by
      intro x he hx
      rw [he]
      exact ⟨wOf x, _, rfl, .inr (by rw [hx.1]; exact hx.2)⟩
    by_cases c1 : c = 104 ∨ c = 112
    · exact one (txtN d.host) (by unfold elemS; rw [if_pos c1]) ⟨(txt_w (gh c hc c1)).1, (txt_w (gh c hc c1)).2.1⟩
    by_cases c2 : c = 109
    · exact one (txtN d.mail) (by unfold elemS; rw [if_neg c1, if_pos c2]) ⟨(txt_w (gm c hc c2)).1, (txt_w (gm c hc c2)).2.1⟩
    by_cases c3 : isN c = true
    · exact one (decP (d.n 0).toNat) (by unfold elemS; rw [if_neg c1, if_neg c2, if_pos c3]) (dec_w _)
    by_cases c4 : c = 97
    · exact one (joinS [46] (decA d.raw)) (by unfold elemS; rw [if_neg c1, if_neg c2, if_neg c3, if_pos c4]) (decA_w (ga c hc c4))
    by_cases c5 : c = 113
    · exact one (joinS [58] (hexA d.raw)) (by unfold elemS; rw [if_neg c1, if_neg c2, if_neg c3, if_neg c4, if_pos c5]) (hexA_w _)
    by_cases c6 : c = 120
    · have hok := gx c hc c6
      have he : elemS d c 0 = ((txts d.raw).getD []).map quoP := by unfold elemS; rw [if_neg c1, if_neg c2, if_neg c3, if_neg c4, if_neg c5, if_pos c6]
      cases h : txts d.raw with
      | none => rw [txOk_none h] at hok; cases hok
      | some L =>
        cases L with
        | nil => rw [txOk_nil h] at hok; cases hok
        | cons a b =>
          rw [he, h]
          exact ⟨wOf (quoP a), _, rfl, .inl (by show (wOf (34 :: (escS true a ++ [34]))).2 = true; rw [wOf_q])⟩
    · exfalso
      have hin := form_in t c hc
      have c7 : c = 114 := by
        rcases hin with h | h | h | h | h | h | h | h
        · exact absurd (.inl h) c1
        · exact absurd (.inr h) c1
        · exact absurd h c2
        · exact absurd h c3
        · exact absurd h c4
        · exact absurd h c5
        · exact absurd h c6
        · exact h
      have := (form_last hc0 (.inr (.inr (.inr (by rw [c7]; rfl))))).1
      rw [c7] at this
      exact ht this
end Go.Proofs.YtgkpgpdkolpfkaaGreatDoor.V
namespace Go.Proofs.YtgkpgpdkolpfkaaGreatDoor.V
open Go
attribute [local irreducible] go goOps goD opK callK callT stepK leaveTo nextK

theorem Wv.set2 {H : Hp} {v : AV} {ws : List Wd} (h : Wv H v ws) {rb : Nat} {x y : ABlk} (hb : H[rb]? = some y) (hy : (∀ c e fz st, y ≠ .cells c e (.op fz st)) ∧ y ≠ .void) : Wv (H.set rb x) v ws := by
  obtain h | ⟨b, k, pre, fz, st, h1, h2, h3⟩ | ⟨b, h1, h2, h3⟩ := h
  · exact .inl h
  · have hne : rb ≠ b := by
      rintro rfl
      rw [hb] at h3; injection h3 with h3; exact hy.1 _ _ _ _ h3
    exact .inr (.inl ⟨b, k, pre, fz, st, h1, h2, by rw [List.getElem?_set_ne hne]; exact h3⟩)
  · have hne : rb ≠ b := by
      rintro rfl
      rw [hb] at h2; injection h2 with h2; exact hy.2 h2
    exact .inr (.inr ⟨b, h1, by rw [List.getElem?_set_ne hne]; exact h2, h3⟩)
section
variable (H : Hp) (rb : Nat) (v : AV) (o : List UInt8) (d : Dt) (j : Nat) (w : Wd) (ws : List Wd) (hq : w.q = false) (hb : H[rb]? = some (.cells (WdC v o d j) 69 .rw)) (hv : Wv H v (w :: ws)) (hw : w.t.length ≤ 1048576)
include hq hb hv hw
theorem wd_short (n : Nat) (ht : Te H) (hn : numS w.t 65535 = some n) (hj : j < 5) :
    ∃ v' L, Wv (H ++ L) v' ws ∧ ∀ k, callK Tryz.prog 25 [.ptr rb 0] H k = k (.tuple [], H.set rb (.cells (WdC v' o (d.setN j n) (j + 1)) 69 .rw) ++ L, ⟨some rb, some rb⟩) := by
  obtain ⟨v', L, hv', hnx⟩ := wd_number H rb v o d j w ws hq hb hv hw 16 65535 n (.inr (.inl ⟨rfl, rfl⟩)) (by decide) ht hn hj
  refine ⟨v', L, hv', fun k => ?_⟩
  have hlt := lt_of_get hb
  have hlv : ∀ (x : AV) (H' : Hp), leave H.length x H' ⟨some rb, some rb⟩ = (x, H', ⟨some rb, some rb⟩) := fun x H' => leave_ee hlt
  refine callK_eq ?_ k
  refine callK_start (n := 4) (rs := []) Tryz.func25 rfl rfl rfl ?_
  intro σ hl ha
  have h0 := ha 0 (by simp)
  clear ha
  simp only [Option.getD_some, List.getElem?_cons_zero, List.getElem?_cons_succ] at h0
  simp only [go_sem, simprocAttr, hl, h0, hnx, hlv]
theorem wd_long (n : Nat) (ht : Te H) (hn : numS w.t 4294967295 = some n) (hj : j < 5) :
    ∃ v' L, Wv (H ++ L) v' ws ∧ ∀ k, callK Tryz.prog 26 [.ptr rb 0] H k = k (.tuple [], H.set rb (.cells (WdC v' o (d.setN j n) (j + 1)) 69 .rw) ++ L, ⟨some rb, some rb⟩) := by
  obtain ⟨v', L, hv', hnx⟩ := wd_number H rb v o d j w ws hq hb hv hw 32 4294967295 n (.inr (.inr (.inl ⟨rfl, rfl⟩))) (by decide) ht hn hj
  refine ⟨v', L, hv', fun k => ?_⟩
  have hlt := lt_of_get hb
  have hlv : ∀ (x : AV) (H' : Hp), leave H.length x H' ⟨some rb, some rb⟩ = (x, H', ⟨some rb, some rb⟩) := fun x H' => leave_ee hlt
  refine callK_eq ?_ k
  refine callK_start (n := 4) (rs := []) Tryz.func26 rfl rfl rfl ?_
  intro σ hl ha
  have h0 := ha 0 (by simp)
  clear ha
  simp only [Option.getD_some, List.getElem?_cons_zero, List.getElem?_cons_succ] at h0
  simp only [go_sem, simprocAttr, hl, h0, hnx, hlv]
end
theorem good_short {t : Int} {d : Dt} (hg : goodB t d = true) {i : Nat} {c : UInt8} (h : (formS t)[i]? = some c) (hc : c.toNat = 115) : (d.n (cntN ((formS t).take i))).toNat ≤ 65535 := by
  have e : c = 115 := UInt8.toNat.inj hc
  subst e
  have hn : ∀ k, k < 5 → k < numT t → bitT t = 16 → (d.n k).toNat ≤ 65535 := by
    intro k hk hkn hb
    have h1 : numB t d k = true := by
      simp only [goodB, Bool.and_eq_true] at hg
      obtain ⟨_, g0, g1, g2, g3, g4⟩ := hg
      have : k = 0 ∨ k = 1 ∨ k = 2 ∨ k = 3 ∨ k = 4 := by omega
      rcases this with rfl | rfl | rfl | rfl | rfl <;> assumption
    unfold numB at h1
    rw [if_pos hkn, hb] at h1
    simp at h1
    omega
  rcases kinds_cases t with rfl | rfl | rfl | rfl | rfl | rfl | rfl | rfl | rfl | ht
  case inr.inr.inr.inr.inr.inr.inr.inr.inr =>
    rw [formS_o ht] at h
    match i, h with
    | 0, h => cases h
    | i + 1, h => simp at h
  case inr.inr.inr.inr.inr.inl =>
    match i, h with
    | 0, _ => exact hn 0 (by decide) (by decide) (by decide)
    | 1, h => cases h
    | i + 2, h => simp [formS] at h
  case inr.inr.inr.inr.inr.inr.inr.inr.inl =>
    match i, h with
    | 0, _ => exact hn 0 (by decide) (by decide) (by decide)
    | 1, _ => exact hn 1 (by decide) (by decide) (by decide)
    | 2, _ => exact hn 2 (by decide) (by decide) (by decide)
    | 3, h => cases h
    | i + 4, h => simp [formS] at h
  all_goals
    exfalso
    have := List.mem_of_getElem? h
    revert this; decide
theorem Dt.setN_raw (d : Dt) (k : Nat) (x : Int) : (d.setN k x).raw = d.raw := by
  unfold Dt.setN
  split <;> rfl
def doW (rb : Nat) : List (AV × AV) := [(.int .i32 104, .func (.func 23) [.ptr rb 0] []), (.int .i32 112, .func (.func 23) [.ptr rb 0] []), (.int .i32 109, .func (.func 24) [.ptr rb 0] []), (.int .i32 115, .func (.func 25) [.ptr rb 0] []), (.int .i32 108, .func (.func 26) [.ptr rb 0] []), (.int .i32 97, .func (.func 27) [.ptr rb 0] []), (.int .i32 113, .func (.func 28) [.ptr rb 0] []), (.int .i32 120, .func (.func 29) [.ptr rb 0] [])]
set_option maxRecDepth 20000 in
set_option maxHeartbeats 8000000 in
theorem rdata_Read (H k) (v : AV) (ws : List Wd) (o : List UInt8) (t : Int) (d : Dt) (hk : Tk H) (hte : Te H) (hml : Ml H) (hv : Wv H v ws) (hd : d.wf) (hg : goodB t d = true) (hws : ws.map Wd.key = (showL d (formS t) 0).map wOf) (hwl : ∀ w ∈ ws, w.t.length ≤ 1048576) (hwn : ws.length ≤ 10000000) (ho : (nm o).isSome = true) (hol : o.length ≤ 1048576) :
    callK Tryz.prog 6 [.int .u16 t, v, .str o] H k = k (.tuple [.agg d.cells, .int .i64 0], H, z0) := by
  refine callK_eq (r := (.tuple [.agg d.cells, .int .i64 0], H, z0)) ?_ k
  have hck0 : chk t d = 0 := if_pos hg
  have hgood := got_good hg
  obtain ⟨gh, gm, ga, gq, gx, graw⟩ := good_by hg
  have hfl := form_len t
  have hfa := form_a t
  have hfm := fun l k => rdata_form t (H ++ l) k (hk.old l)
  have hchk := fun H' k => name_Check o H' k (by show _ ≤ 9223372036854775807; omega)
  simp only [ho, if_true] at hchk
  refine callK_startD (n := 93) (rs := [.cell 6 27, .cell 7 28]) Tryz.func6 rfl rfl rfl ?_
  intro σ hl ha
  have h0 := ha 0 (by simp)
  have h1 := ha 1 (by simp)
  have h2 := ha 2 (by simp)
  clear ha
  simp only [Option.getD_some, List.getElem?_cons_zero, List.getElem?_cons_succ] at h0 h1 h2
  refine goA_seq (by kernel_rfl) (by kernel_rfl) ?_
  simp only [go_sem, simprocAttr, hl]
  refine goA_seq (by kernel_rfl) (by kernel_rfl) ?_
  simp only [go_sem, simprocAttr, hl, h0, h1, h2, hchk]
  refine goA_def (fv := .func (.func 21) [] []) (az := [.ptr H.length 0, .ptr (H.length + 1) 0]) (by simp only [go_sem]) (by simp only [go_sem, simprocAttr, hl]) ?_
  have hbd : evBuild Tryz.prog 69 [(0, v), (1, .str o)] = some (.agg (WdC v o Dt.zero 0)) := by
    have hvc := hv.scl.2
    simp only [evBuild, tsh_69, tzero_69, tplaces_69, Option.bind_some, fillA, hvc, List.getElem?_cons_zero, List.getElem?_cons_succ]
    rfl
  have hvcR : ∀ v d j, vcells (.agg (WdC v o d j)) = WdC v o d j := fun _ _ _ => rfl
  have hlen := hv.len
  generalize hσ : put _ none undefA = σ1
  have s0 : fr σ1 0 = .int .u16 t := by rw [← hσ]; simp only [go_sem, simprocAttr, hl, h0]
  have s1 : fr σ1 1 = v := by rw [← hσ]; simp only [go_sem, simprocAttr, hl, h1]
  have s2 : fr σ1 2 = .str o := by rw [← hσ]; simp only [go_sem, simprocAttr, hl, h2]
  have s6 : fr σ1 6 = .ptr H.length 0 := by rw [← hσ]; simp only [go_sem, simprocAttr, hl]
  have s7 : fr σ1 7 = .ptr (H.length + 1) 0 := by rw [← hσ]; simp only [go_sem, simprocAttr, hl]
  have sl : σ1.length = 93 := by rw [← hσ]; simp only [go_sem, simprocAttr, hl]
  clear hσ hl h0 h1 h2
  have hzc : [AV.str [], AV.str [], AV.str [], AV.int .u32 0, AV.int .u32 0, AV.int .u32 0, AV.int .u32 0, AV.int .u32 0] = Dt.zero.cells := rfl
  rw [hzc]
  have hspz : splice Dt.zero.cells 0 d.cells = d.cells := rfl
  have hlz : Dt.zero.cells.length = 8 := rfl
  have q3 : d.cells.all scal = true := rfl
  have hsc := hv.scl.1
  obtain ⟨A, hA⟩ : ∃ A : ABlk, A = .cells Dt.zero.cells 27 .rw := ⟨_, rfl⟩
  obtain ⟨B, hB⟩ : ∃ A : ABlk, A = .cells [.int .i64 0] 28 .rw := ⟨_, rfl⟩
  by_cases h114 : formS t = [114]
  · -- any data
    have he : showL d (formS t) 0 = [[92, 35], decP d.raw.length] ++ (if d.raw = [] then [] else [hexP d.raw]) := by
      rw [h114]
      show elemS d 114 0 ++ [] = _
      rw [List.append_nil]
      rfl
    rw [he, List.map_append] at hws
    simp only [List.map_cons, List.map_nil, List.cons_append, List.nil_append] at hws
    obtain ⟨w0, r1, rfl, k0, hws⟩ := List.map_eq_cons_iff.1 hws
    obtain ⟨w1, ws2, rfl, k1, hws⟩ := List.map_eq_cons_iff.1 hws
    have e0 : wOf ([92, 35] : List UInt8) = ([92, 35], false) := rfl
    rw [e0] at k0
    rw [(dec_w _).1] at k1
    have k0t : w0.t = [92, 35] := congrArg Prod.fst k0
    have k0q : w0.q = false := congrArg Prod.snd k0
    have k1t : w1.t = decP d.raw.length := congrArg Prod.fst k1
    have k1q : w1.q = false := congrArg Prod.snd k1
    have hD : hexP d.raw = ws2.flatMap Wd.t ∧ ∀ x ∈ ws2, x.q = false ∧ 0 < x.t.length ∧ x.t.length ≤ 1048576 := by
      by_cases hr : d.raw = []
      · rw [if_pos hr] at hws
        have : ws2 = [] := by simpa using hws
        subst this
        rw [hr]; exact ⟨rfl, fun x hx => by cases hx⟩
      · rw [if_neg hr] at hws
        simp only [List.map_cons, List.map_nil] at hws
        obtain ⟨w2, r2, rfl, k2, hws⟩ := List.map_eq_cons_iff.1 hws
        have : r2 = [] := by simpa using hws
        subst this
        have hp : 0 < (hexP d.raw).length := by
          rw [hexP_len]; have : d.raw.length ≠ 0 := fun e => hr (List.length_eq_zero_iff.1 e); omega
        rw [(plain_w hp (fun c hc => by have := hexP_hx _ c hc; unfold hxC at this; omega)).1] at k2
        have k2t : w2.t = hexP d.raw := congrArg Prod.fst k2
        have k2q : w2.q = false := congrArg Prod.snd k2
        refine ⟨by simp [k2t], fun x hx => ?_⟩
        simp only [List.mem_singleton] at hx; subst hx
        exact ⟨k2q, by rw [k2t]; exact hp, hwl _ (by simp)⟩
    obtain ⟨b, q, row, e, kd, hi, hgw, hl1, hl2⟩ := hv.hd
    rw [k0t] at hl1
    rw [k0q] at hl2
    have hgw := fun l => get_app (l := l) hgw
    have hv1 := hv.old [A, B, .cells (WdC v o Dt.zero 0) 69 .rw]
    obtain ⟨v1, L1, hsl, hv1', _, hfl1⟩ := hv1.tl
    obtain ⟨hsc1, hvc1⟩ := hv1'.scl
    obtain ⟨rb, hrb⟩ : ∃ rb, rb = H.length + 2 := ⟨_, rfl⟩
    obtain ⟨HX, hHX⟩ : ∃ HX, HX = H ++ A :: B :: .cells (WdC v1 o Dt.zero 0) 69 .rw :: L1 := ⟨_, rfl⟩
    have hvX : Wv HX v1 (w1 :: ws2) := by
      have h := hv1'.set (rb := rb) (x := .cells (WdC v1 o Dt.zero 0) 69 .rw) (c := WdC v o Dt.zero 0) (e := 69) (by rw [hrb, List.append_assoc, hp_new]; rfl)
      rw [hrb, List.append_assoc, hp_set] at h
      rw [hHX]; exact h
    have hbX : HX[rb]? = some (.cells (WdC v1 o Dt.zero 0) 69 .rw) := by rw [hHX, hrb, hp_new]; rfl
    have hpl : pairsV (hexP d.raw) = d.raw := pairs_hexP _
    have hrds : Rds (pairsV (hexP d.raw)) (0 + d.raw.length) d (formS t) 0 0 := by
      rw [hpl, h114]
      simp only [Rds]
      have e114 : (114 : UInt8).toNat = 114 := rfl
      rw [e114, if_neg (by decide), if_neg (by decide), if_neg (by decide), if_neg (by decide)]
      exact ⟨Nat.zero_le _, by simp, trivial⟩
    obtain ⟨⟨v2, T2⟩, _, hraw⟩ := wd_raw HX rb v1 o Dt.zero 0 w1 ws2 k1q hbX hvX (hwl _ (by simp)) t d.raw.length d (hexP d.raw) (by rw [hHX]; exact hte.old _) (by rw [hHX]; exact hk.old _) (by rw [k1t]; exact numS_decP graw (by decide)) graw hD.2 (by simp at hwn; omega) hD.1 (hexP_len _) (fun c hc => by have := hexP_hx _ c hc; unfold hxC at this; unfold isHx; simp; omega) hd hck0 hrds hgood
    simp only [hHX, hrb] at hraw
    have hset : (H ++ A :: B :: .cells (WdC v1 o Dt.zero 0) 69 .rw :: L1).set (H.length + 2) (.cells (WdC v2 o Dt.zero 0) 69 .rw) = H ++ A :: B :: .cells (WdC v2 o Dt.zero 0) 69 .rw :: L1 := by rw [hp_set]; rfl
    have d1 : decide (((ws2.length + 2 : Nat) : Int) > 0) = true := by simp; omega
    subst hA hB
    simp only [go_sem, simprocAttr, sl, s0, s1, s2, s6, s7, hbd, hvcR, hlen, hi, hgw, hl1, hl2, ↓hsl, hsc1, hvc1, hfl1, WdC.len, WdC.s0, hraw, hset, d1, hspz, hlz, q3, Dt.vc, Dt.len, Dt.flat]
    refine caught0 ?_
    simp only [go_sem, simprocAttr, sl, s6, s7, Dt.l8]
    exact leave_flat (by simp only [flat, flats, Dt.flat, Bool.and_self]) (by simp only [clean_andI, clean_sn, clean_z, go_sem, true_and, and_true])
  · obtain ⟨x0, L0, hx0, hxq⟩ := first_ok hg h114
    rw [hx0] at hws
    obtain ⟨w0, ws0, rfl, k0, hws0⟩ := List.map_eq_cons_iff.1 hws
    have hws : (w0 :: ws0).map Wd.key = (showL d (formS t) 0).map wOf := by rw [hx0, List.map_cons, k0, hws0]
    obtain ⟨b, q, row, e, kd, hi, hgw, hl1, hl2⟩ := hv.hd
    have hgw := fun l => get_app (l := l) hgw
    have d1 : decide (((ws0.length + 1 : Nat) : Int) > 0) = true := by simp
    have hck : (w0.q = true) ∨ (w0.q = false ∧ (w0.t == [92, 35]) = false) := by
      cases hq0 : w0.q with
      | true => exact .inl rfl
      | false =>
        refine .inr ⟨rfl, ?_⟩
        rw [beq_eq_false_iff_ne]
        have e1 : x0.1 = w0.t := by rw [← k0]; rfl
        have e2 : x0.2 = w0.q := by rw [← k0]; rfl
        rw [e1, e2] at hxq
        rcases hxq with h | h
        · rw [hq0] at h; cases h
        · exact h
    have hsh : mapSh Tryz.prog 73 = some (.int .i32, 1) := by simp only [mapSh, tsh_73, tsh_21]
    have hms : ∀ (x y : ABlk) (z : ABlk) (es : List (AV × AV)) (c : Int) (g : FuncId), findK (.int .i32) (.int .i32 c) es 0 = some none → evMapSet Tryz.prog 73 (.map (H.length + 3)) (.int .i32 c) (.func (.func g) [.ptr (H.length + 2) 0] []) (H ++ [x, y, z, .map es]) = some (H ++ [x, y, z, .map (es ++ [(.int .i32 c, .func (.func g) [.ptr (H.length + 2) 0] [])])], ⟨some (H.length + 3), some (H.length + 3)⟩) := by
      intro x y z es c g hf
      have hg : (H ++ [x, y, z, .map es])[H.length + 3]? = some (.map es) := by rw [List.getElem?_append_right (by omega)]; simp
      simp only [evMapSet, hsh, Option.bind_some, hg, hf, Option.map_some]
      rw [List.set_append_right _ _ (by omega)]
      simp [flat, flats]
    have f1 : findK (.int .i32) (.int .i32 104) [] 0 = some none := rfl
    have f2 : ∀ x, findK (.int .i32) (.int .i32 112) [(.int .i32 104, x)] 0 = some none := fun _ => rfl
    have f3 : ∀ x y, findK (.int .i32) (.int .i32 109) [(.int .i32 104, x), (.int .i32 112, y)] 0 = some none := fun _ _ => rfl
    have f4 : ∀ x y z, findK (.int .i32) (.int .i32 115) [(.int .i32 104, x), (.int .i32 112, y), (.int .i32 109, z)] 0 = some none := fun _ _ _ => rfl
    have f5 : ∀ x y z w, findK (.int .i32) (.int .i32 108) [(.int .i32 104, x), (.int .i32 112, y), (.int .i32 109, z), (.int .i32 115, w)] 0 = some none := fun _ _ _ _ => rfl
    have f6 : ∀ x y z w u, findK (.int .i32) (.int .i32 97) [(.int .i32 104, x), (.int .i32 112, y), (.int .i32 109, z), (.int .i32 115, w), (.int .i32 108, u)] 0 = some none := fun _ _ _ _ _ => rfl
    have f7 : ∀ x y z w u p, findK (.int .i32) (.int .i32 113) [(.int .i32 104, x), (.int .i32 112, y), (.int .i32 109, z), (.int .i32 115, w), (.int .i32 108, u), (.int .i32 97, p)] 0 = some none := fun _ _ _ _ _ _ => rfl
    have f8 : ∀ x y z w u p r, findK (.int .i32) (.int .i32 120) [(.int .i32 104, x), (.int .i32 112, y), (.int .i32 109, z), (.int .i32 115, w), (.int .i32 108, u), (.int .i32 97, p), (.int .i32 113, r)] 0 = some none := fun _ _ _ _ _ _ _ => rfl
    obtain ⟨F, hF⟩ : ∃ F, F = formS t := ⟨_, rfl⟩
    have hFl : ∀ (i : Nat) (c : UInt8), (formS t)[i]? = some c → (c.toNat = 97 ∨ c.toNat = 113 ∨ c.toNat = 120 ∨ c.toNat = 114) → formS t = [c] ∧ i = 0 := fun i c h h' => form_last h h'
    have hcn : ∀ (i : Nat) (c : UInt8), (formS t)[i]? = some c → isN c = true → cntN ((formS t).take i) < 5 := fun i c h h' => cnt_le h h'
    have hin := form_in t
    rw [← hF] at hfm hws hgood hfl hfa hFl hcn hin gh gm ga gq gx
    have hsml : ∀ (i : Nat) (c : UInt8), F[i]? = some c → c.toNat = 115 → ∀ k', k' = cntN (F.take i) → (d.n k').toNat ≤ 65535 := by
      intro i c hc hc5 k' hk'
      rw [hk', hF]
      exact good_short hg (by rw [← hF]; exact hc) hc5
    rcases hck with hq0 | ⟨hq0, ht0⟩
    all_goals
      rw [hq0] at hl2
      first | simp only [go_sem, simprocAttr, sl, s0, s1, s2, s6, s7, hbd, hvcR, hlen, hi, hgw, hl1, hl2, d1, ht0, hms, f1, f2, f3, f4, f5, f6, f7, f8, hfm] | simp only [go_sem, simprocAttr, sl, s0, s1, s2, s6, s7, hbd, hvcR, hlen, hi, hgw, hl1, hl2, d1, hms, f1, f2, f3, f4, f5, f6, f7, f8, hfm]
      refine go_rounds (fun m st => ∃ σ i k' x v' ws' T e, m + i = F.length ∧ (Wv (H ++ (.cells Dt.zero.cells 27 .rw :: .cells [.int .i64 0] 28 .rw :: .cells (WdC v' o x k') 69 .rw :: .map (doW (H.length + 2)) :: .iter F i :: T)) v' ws' ∨ (ws' = [] ∧ ∀ H', evLen Tryz.prog 34 v' H' = some (.int .i64 0))) ∧ ws'.map Wd.key = (showL d (F.drop i) k').map wOf ∧ (∀ w ∈ ws', w.t.length ≤ 1048576) ∧ ws'.length ≤ 10000000 ∧ gotF d (F.drop i) k' x = d ∧ k' = cntN (F.take i) ∧ (∀ j, k' ≤ j → j < 5 → x.n j = 0) ∧ (i < F.length → x.raw = []) ∧ st = ⟨σ, H ++ (.cells Dt.zero.cells 27 .rw :: .cells [.int .i64 0] 28 .rw :: .cells (WdC v' o x k') 69 .rw :: .map (doW (H.length + 2)) :: .iter F i :: T), e⟩ ∧ clean H.length e ∧ σ.length = 93 ∧ fr σ 0 = .int .u16 t ∧ fr σ 6 = .ptr H.length 0 ∧ fr σ 7 = .ptr (H.length + 1) 0 ∧ fr σ 8 = .ptr (H.length + 2) 0 ∧ fr σ 9 = .map (H.length + 3) ∧ fr σ 67 = .ptr (H.length + 4) 0) F.length
        ⟨_, 0, 0, Dt.zero, v, w0 :: ws0, [], _, rfl, .inl ?_, hws, hwl, hwn, hgood, rfl, fun j _ _ => by unfold Dt.n; split <;> rfl, fun _ => rfl, rfl, by simp [clean_andI, clean_mk, low_sI], by simp only [go_sem, simprocAttr, sl], by simp only [go_sem, simprocAttr, sl, s0], by simp only [go_sem, simprocAttr, sl, s6], by simp only [go_sem, simprocAttr, sl, s7], by simp only [go_sem, simprocAttr, sl], by simp only [go_sem, simprocAttr, sl], by simp only [go_sem, simprocAttr, sl]⟩ ?_
      · exact hv.old _
      clear s0 s1 s2 s6 s7 sl hgood
      rintro m _ ⟨σ, i, k', x, v', ws', T, e, hmi, hv', hwk, hwl', hwn', hgot, hk', hxz, hxr, rfl, hce, hl, h0, h6, h7, h8, h9, h67⟩
      have hit : ∀ i c, F[i]? = some c → strIter F i = (.tuple [.bool true, .int .i64 (i : Nat), .int .i32 c.toNat], i + 1) := fun i c h => by rw [strIter_a hfa, itN_s h]
      have hie : strIter F F.length = (.tuple [.bool false], F.length) := by rw [strIter_a hfa]; unfold itN; rw [List.getElem?_eq_none (Nat.le_refl _)]
      by_cases hlt : i < F.length
      · obtain ⟨c, hc⟩ : ∃ c, F[i]? = some c := ⟨_, List.getElem?_eq_getElem hlt⟩
        have hs := hit i c hc
        have hcm : c ∈ F := List.mem_of_getElem? hc
        have hxr := hxr hlt
        have hkc := cntN_snoc hc
        rw [drop_at hc] at hgot hwk
        rw [showL, List.map_append] at hwk
        obtain ⟨Hx, hHx⟩ : ∃ Hx, Hx = H ++ (.cells Dt.zero.cells 27 .rw :: .cells [.int .i64 0] 28 .rw :: .cells (WdC v' o x k') 69 .rw :: .map (doW (H.length + 2)) :: .iter F (i + 1) :: T) := ⟨_, rfl⟩
        have hbx : Hx[H.length + 2]? = some (.cells (WdC v' o x k') 69 .rw) := by rw [hHx, hp_new]; rfl
        have hmx : Hx[H.length + 3]? = some (.map (doW (H.length + 2))) := by rw [hHx, hp_new]; rfl
        have hset : ∀ y, Hx.set (H.length + 2) y = H ++ (.cells Dt.zero.cells 27 .rw :: .cells [.int .i64 0] 28 .rw :: y :: .map (doW (H.length + 2)) :: .iter F (i + 1) :: T) := fun y => by rw [hHx, hp_set]; rfl
        have hvx : ws' ≠ [] → Wv Hx v' ws' := by
          intro hne
          rcases hv' with h | ⟨h, _⟩
          · have h := h.set2 (rb := H.length + 4) (x := .iter F (i + 1)) (y := .iter F i) (by rw [hp_new]; rfl) ⟨fun _ _ _ _ h => (by cases h), fun h => (by cases h)⟩
            rw [hp_set] at h
            rw [hHx]; exact h
          · exact absurd h hne
        have htx : Te Hx := by rw [hHx]; exact hte.old _
        have hmlx : Ml Hx := by rw [hHx]; exact hml.old _
        have hlk : ∀ r, findK (.int .i32) (.int .i32 c.toNat) (doW (H.length + 2)) 0 = some (some r) → evLookup Tryz.prog 73 (.map (H.length + 3)) (.int .i32 c.toNat) true Hx = some (.tuple [r.2, .bool true]) := fun r hr => by
          simp only [evLookup, hsh, hmx, Option.bind_some, hr, if_true]
        have hvn : ∀ {T2 : Hp} {v2 : AV} {ws2 : List Wd} {y : ABlk}, Wv (Hx ++ T2) v2 ws2 → Wv (Hx.set (H.length + 2) y ++ T2) v2 ws2 := fun {T2 v2 ws2 y} h => by
          have h2 := h.set (rb := H.length + 2) (x := y) (get_app hbx)
          rw [List.set_append_left _ _ (lt_of_get hbx)] at h2; exact h2
        have fin : ∀ (σ' : List AV) (k2 : Nat) (x2 : Dt) (v2 : AV) (ws2 : List Wd) (T2 : Hp) (e' : Ef), (Wv (Hx.set (H.length + 2) (.cells (WdC v2 o x2 k2) 69 .rw) ++ T2) v2 ws2 ∨ (ws2 = [] ∧ ∀ H', evLen Tryz.prog 34 v2 H' = some (.int .i64 0))) → ws2.map Wd.key = (showL d (F.drop (i + 1)) k2).map wOf → (∀ w ∈ ws2, w ∈ ws') → ws2.length ≤ ws'.length → gotF d (F.drop (i + 1)) k2 x2 = d → k2 = cntN (F.take (i + 1)) → (∀ j, k2 ≤ j → j < 5 → x2.n j = 0) → (i + 1 < F.length → x2.raw = []) → clean H.length e' → σ'.length = 93 → fr σ' 0 = .int .u16 t → fr σ' 6 = .ptr H.length 0 → fr σ' 7 = .ptr (H.length + 1) 0 → fr σ' 8 = .ptr (H.length + 2) 0 → fr σ' 9 = .map (H.length + 3) → fr σ' 67 = .ptr (H.length + 4) 0 →
            ∃ m', m' < m ∧ (fun (m : Nat) (st : St) => ∃ σ i k' x v' ws' T e, m + i = F.length ∧ (Wv (H ++ (.cells Dt.zero.cells 27 .rw :: .cells [.int .i64 0] 28 .rw :: .cells (WdC v' o x k') 69 .rw :: .map (doW (H.length + 2)) :: .iter F i :: T)) v' ws' ∨ (ws' = [] ∧ ∀ H', evLen Tryz.prog 34 v' H' = some (.int .i64 0))) ∧ ws'.map Wd.key = (showL d (F.drop i) k').map wOf ∧ (∀ w ∈ ws', w.t.length ≤ 1048576) ∧ ws'.length ≤ 10000000 ∧ gotF d (F.drop i) k' x = d ∧ k' = cntN (F.take i) ∧ (∀ j, k' ≤ j → j < 5 → x.n j = 0) ∧ (i < F.length → x.raw = []) ∧ st = ⟨σ, H ++ (.cells Dt.zero.cells 27 .rw :: .cells [.int .i64 0] 28 .rw :: .cells (WdC v' o x k') 69 .rw :: .map (doW (H.length + 2)) :: .iter F i :: T), e⟩ ∧ clean H.length e ∧ σ.length = 93 ∧ fr σ 0 = .int .u16 t ∧ fr σ 6 = .ptr H.length 0 ∧ fr σ 7 = .ptr (H.length + 1) 0 ∧ fr σ 8 = .ptr (H.length + 2) 0 ∧ fr σ 9 = .map (H.length + 3) ∧ fr σ 67 = .ptr (H.length + 4) 0) m' ⟨σ', Hx.set (H.length + 2) (.cells (WdC v2 o x2 k2) 69 .rw) ++ T2, e'⟩ := by
          intro σ' k2 x2 v2 ws2 T2 e' q1 q2 q3 q3' q4 q5 q6 q7 q8 q9 q10 q11 q12 q13 q14 q15
          rw [hset] at q1 ⊢
          rw [List.append_assoc] at q1 ⊢
          exact ⟨m - 1, by omega, σ', i + 1, k2, x2, v2, ws2, T ++ T2, e', by omega, q1, q2, fun w hw => hwl' w (q3 w hw), by omega, q4, q5, q6, q7, rfl, q8, q9, q10, q11, q12, q13, q14, q15⟩
        have hcl2 : clean H.length ⟨some (H.length + 2), some (H.length + 2)⟩ := clean_ew (by omega) (by omega)
        have nset : ∀ (y : Int) (k2 : Nat), k2 < 5 → (∀ j, k2 ≤ j → j < 5 → x.n j = 0) → ∀ j, k2 + 1 ≤ j → j < 5 → (x.setN k2 y).n j = 0 := by
          intro y k2 hk2 hz j hj hj5
          have h0 := hz j (by omega) hj5
          have : k2 = 0 ∨ k2 = 1 ∨ k2 = 2 ∨ k2 = 3 ∨ k2 = 4 := by omega
          rcases this with rfl | rfl | rfl | rfl | rfl <;> (match j, hj, h0 with
            | 0, hj, h0 => first | exact h0 | omega
            | 1, hj, h0 => first | exact h0 | omega
            | 2, hj, h0 => first | exact h0 | omega
            | 3, hj, h0 => first | exact h0 | omega
            | 4, hj, h0 => first | exact h0 | omega
            | j + 5, _, h0 => omega)
        by_cases c1 : c = 104 ∨ c = 112
        · have he : elemS d c k' = [txtN d.host] := by unfold elemS; rw [if_pos c1]
          rw [he] at hwk
          simp only [List.map_cons, List.map_nil, List.cons_append, List.nil_append] at hwk
          obtain ⟨w, ws2, rfl, kw, hwk⟩ := List.map_eq_cons_iff.1 hwk
          rw [(txt_w (gh c hcm c1)).1] at kw
          have kwt : w.t = txtN d.host := congrArg Prod.fst kw
          have kwq : w.q = false := congrArg Prod.snd kw
          have hisn : isN c = false := by rcases c1 with rfl | rfl <;> rfl
          have hc' : c.toNat = 104 ∨ c.toNat = 112 := by rcases c1 with rfl | rfl <;> decide
          simp only [gotF] at hgot
          rw [if_pos hc'] at hgot
          rw [hisn] at hwk hkc
          simp only [Bool.false_eq_true, if_false, Nat.add_zero] at hwk hkc
          have hf : evLookup Tryz.prog 73 (.map (H.length + 3)) (.int .i32 c.toNat) true Hx = some (.tuple [.func (.func 23) [.ptr (H.length + 2) 0] [], .bool true]) := by
            rcases c1 with rfl | rfl
            · exact hlk (0, _) rfl
            · exact hlk (1, _) rfl
          obtain ⟨v2, T2, hv2, hh⟩ := wd_host Hx (H.length + 2) v' o x k' w ws2 kwq hbx (hvx (by simp)) (hwl' w (by simp)) d.host hol (by rw [kwt]; exact nameS_txt (gh c hcm c1) ho) (by rw [kwt]; exact (txt_w (gh c hcm c1)).2.2)
          simp only [go_sem, simprocAttr, hl, h0, h6, h7, h8, h9, h67, hs, hHx.symm, hf, hh]
          exact fin _ k' { x with host := d.host } v2 ws2 T2 _ (.inl (hvn hv2)) hwk (fun w hw => by simp [hw]) (by simp) hgot (by omega) (fun j hj hj5 => hxz j hj hj5) (fun _ => hxr) (by simp only [go_sem, simprocAttr, hce, hcl2]) (by simp only [go_sem, simprocAttr, hl]) (by simp only [go_sem, simprocAttr, hl, h0]) (by simp only [go_sem, simprocAttr, hl, h6]) (by simp only [go_sem, simprocAttr, hl, h7]) (by simp only [go_sem, simprocAttr, hl, h8]) (by simp only [go_sem, simprocAttr, hl, h9]) (by simp only [go_sem, simprocAttr, hl, h67])
        by_cases c2 : c = 109
        · have he : elemS d c k' = [txtN d.mail] := by unfold elemS; rw [if_neg c1, if_pos c2]
          rw [he] at hwk
          simp only [List.map_cons, List.map_nil, List.cons_append, List.nil_append] at hwk
          obtain ⟨w, ws2, rfl, kw, hwk⟩ := List.map_eq_cons_iff.1 hwk
          rw [(txt_w (gm c hcm c2)).1] at kw
          have kwt : w.t = txtN d.mail := congrArg Prod.fst kw
          have kwq : w.q = false := congrArg Prod.snd kw
          have hisn : isN c = false := by rw [c2]; rfl
          have hc' : c.toNat = 109 := by rw [c2]; rfl
          simp only [gotF] at hgot
          rw [if_neg (by omega), if_pos hc'] at hgot
          rw [hisn] at hwk hkc
          simp only [Bool.false_eq_true, if_false, Nat.add_zero] at hwk hkc
          have hf := hlk (2, _) (by rw [c2]; rfl)
          obtain ⟨v2, T2, hv2, hh⟩ := wd_mail Hx (H.length + 2) v' o x k' w ws2 kwq hbx (hvx (by simp)) (hwl' w (by simp)) d.mail hol (by rw [kwt]; exact nameS_txt (gm c hcm c2) ho) (by rw [kwt]; exact (txt_w (gm c hcm c2)).2.2)
          simp only [go_sem, simprocAttr, hl, h0, h6, h7, h8, h9, h67, hs, hHx.symm, hf, hh]
          exact fin _ k' { x with mail := d.mail } v2 ws2 T2 _ (.inl (hvn hv2)) hwk (fun w hw => by simp [hw]) (by simp) hgot (by omega) (fun j hj hj5 => hxz j hj hj5) (fun _ => hxr) (by simp only [go_sem, simprocAttr, hce, hcl2]) (by simp only [go_sem, simprocAttr, hl]) (by simp only [go_sem, simprocAttr, hl, h0]) (by simp only [go_sem, simprocAttr, hl, h6]) (by simp only [go_sem, simprocAttr, hl, h7]) (by simp only [go_sem, simprocAttr, hl, h8]) (by simp only [go_sem, simprocAttr, hl, h9]) (by simp only [go_sem, simprocAttr, hl, h67])
        by_cases c3 : isN c = true
        · have he : elemS d c k' = [decP (d.n k').toNat] := by unfold elemS; rw [if_neg c1, if_neg c2, if_pos c3]
          rw [he] at hwk
          simp only [List.map_cons, List.map_nil, List.cons_append, List.nil_append] at hwk
          obtain ⟨w, ws2, rfl, kw, hwk⟩ := List.map_eq_cons_iff.1 hwk
          rw [(dec_w _).1] at kw
          have kwt : w.t = decP (d.n k').toNat := congrArg Prod.fst kw
          have kwq : w.q = false := congrArg Prod.snd kw
          have hk5 : k' < 5 := by rw [hk']; exact hcn i c hc c3
          rw [c3] at hwk hkc
          simp only [if_true] at hwk hkc
          have hnn : ((d.n k').toNat : Int) = d.n k' ∧ (d.n k').toNat ≤ 4294967295 := by
            have q0 := hd.n0; have q1 := hd.n1; have q2 := hd.n2; have q3 := hd.n3; have q4 := hd.n4
            unfold is32 at q0 q1 q2 q3 q4
            unfold Dt.n
            split <;> omega
          have hc' : c.toNat = 115 ∨ c.toNat = 108 := by
            simp only [isN, Bool.or_eq_true, beq_iff_eq] at c3
            rcases c3 with rfl | rfl <;> decide
          simp only [gotF] at hgot
          rw [if_neg (by omega), if_neg (by omega), if_pos hc'] at hgot
          rcases hc' with hc' | hc'
          · have hf := hlk (3, _) (by rw [hc']; rfl)
            obtain ⟨v2, T2, hv2, hh⟩ := wd_short Hx (H.length + 2) v' o x k' w ws2 kwq hbx (hvx (by simp)) (hwl' w (by simp)) (d.n k').toNat htx (by rw [kwt]; exact numS_decP (hsml i c hc hc' k' hk') (by decide)) hk5
            rw [hnn.1] at hh
            simp only [go_sem, simprocAttr, hl, h0, h6, h7, h8, h9, h67, hs, hHx.symm, hf, hh]
            exact fin _ (k' + 1) (x.setN k' (d.n k')) v2 ws2 T2 _ (.inl (hvn hv2)) hwk (fun w hw => by simp [hw]) (by simp) hgot (by omega) (nset _ _ hk5 hxz) (fun _ => by rw [Dt.setN_raw]; exact hxr) (by simp only [go_sem, simprocAttr, hce, hcl2]) (by simp only [go_sem, simprocAttr, hl]) (by simp only [go_sem, simprocAttr, hl, h0]) (by simp only [go_sem, simprocAttr, hl, h6]) (by simp only [go_sem, simprocAttr, hl, h7]) (by simp only [go_sem, simprocAttr, hl, h8]) (by simp only [go_sem, simprocAttr, hl, h9]) (by simp only [go_sem, simprocAttr, hl, h67])
          · have hf := hlk (4, _) (by rw [hc']; rfl)
            obtain ⟨v2, T2, hv2, hh⟩ := wd_long Hx (H.length + 2) v' o x k' w ws2 kwq hbx (hvx (by simp)) (hwl' w (by simp)) (d.n k').toNat htx (by rw [kwt]; exact numS_decP hnn.2 (by decide)) hk5
            rw [hnn.1] at hh
            simp only [go_sem, simprocAttr, hl, h0, h6, h7, h8, h9, h67, hs, hHx.symm, hf, hh]
            exact fin _ (k' + 1) (x.setN k' (d.n k')) v2 ws2 T2 _ (.inl (hvn hv2)) hwk (fun w hw => by simp [hw]) (by simp) hgot (by omega) (nset _ _ hk5 hxz) (fun _ => by rw [Dt.setN_raw]; exact hxr) (by simp only [go_sem, simprocAttr, hce, hcl2]) (by simp only [go_sem, simprocAttr, hl]) (by simp only [go_sem, simprocAttr, hl, h0]) (by simp only [go_sem, simprocAttr, hl, h6]) (by simp only [go_sem, simprocAttr, hl, h7]) (by simp only [go_sem, simprocAttr, hl, h8]) (by simp only [go_sem, simprocAttr, hl, h9]) (by simp only [go_sem, simprocAttr, hl, h67])
        by_cases c4 : c = 97
        · have he : elemS d c k' = [joinS [46] (decA d.raw)] := by unfold elemS; rw [if_neg c1, if_neg c2, if_neg c3, if_pos c4]
          rw [he] at hwk
          simp only [List.map_cons, List.map_nil, List.cons_append, List.nil_append] at hwk
          obtain ⟨w, ws2, rfl, kw, hwk⟩ := List.map_eq_cons_iff.1 hwk
          rw [(decA_w (ga c hcm c4)).1] at kw
          have kwt : w.t = joinS [46] (decA d.raw) := congrArg Prod.fst kw
          have kwq : w.q = false := congrArg Prod.snd kw
          have hlast := hFl i c hc (by rw [c4]; decide)
          have hd0 : F.drop (i + 1) = [] := by rw [hlast.1, hlast.2]; rfl
          have hi1 : i + 1 = F.length := by rw [hlast.1, hlast.2]; rfl
          have hisn : isN c = false := by rw [c4]; rfl
          have hcN : c.toNat = 97 := by rw [c4]; rfl
          simp only [gotF] at hgot
          rw [if_neg (by omega), if_neg (by omega), if_neg (by omega)] at hgot
          rw [hisn] at hwk hkc
          simp only [Bool.false_eq_true, if_false, Nat.add_zero] at hwk hkc
          have hf := hlk (5, _) (by rw [c4]; rfl)
          obtain ⟨⟨v2, T2⟩, hv2, hh⟩ := wd_four Hx (H.length + 2) v' o x k' w ws2 kwq hbx (hvx (by simp)) (hwl' w (by simp)) d.raw (ga c hcm c4) kwt htx (by rw [hxr]; simp)
          rw [hxr, List.nil_append] at hh
          simp only [go_sem, simprocAttr, hl, h0, h6, h7, h8, h9, h67, hs, hHx.symm, hf, hh]
          exact fin _ k' { x with raw := d.raw } v2 ws2 T2 _ (.inl (hvn hv2)) hwk (fun w hw => by simp [hw]) (by simp) hgot (by omega) (fun j hj hj5 => hxz j hj hj5) (fun h => by omega) (by simp only [go_sem, simprocAttr, hce, hcl2]) (by simp only [go_sem, simprocAttr, hl]) (by simp only [go_sem, simprocAttr, hl, h0]) (by simp only [go_sem, simprocAttr, hl, h6]) (by simp only [go_sem, simprocAttr, hl, h7]) (by simp only [go_sem, simprocAttr, hl, h8]) (by simp only [go_sem, simprocAttr, hl, h9]) (by simp only [go_sem, simprocAttr, hl, h67])
        by_cases c5 : c = 113
        · have he : elemS d c k' = [joinS [58] (hexA d.raw)] := by unfold elemS; rw [if_neg c1, if_neg c2, if_neg c3, if_neg c4, if_pos c5]
          rw [he] at hwk
          simp only [List.map_cons, List.map_nil, List.cons_append, List.nil_append] at hwk
          obtain ⟨w, ws2, rfl, kw, hwk⟩ := List.map_eq_cons_iff.1 hwk
          rw [(hexA_w _).1] at kw
          have kwt : w.t = joinS [58] (hexA d.raw) := congrArg Prod.fst kw
          have kwq : w.q = false := congrArg Prod.snd kw
          have hlast := hFl i c hc (by rw [c5]; decide)
          have hd0 : F.drop (i + 1) = [] := by rw [hlast.1, hlast.2]; rfl
          have hi1 : i + 1 = F.length := by rw [hlast.1, hlast.2]; rfl
          have hisn : isN c = false := by rw [c5]; rfl
          have hcN : c.toNat = 113 := by rw [c5]; rfl
          simp only [gotF] at hgot
          rw [if_neg (by omega), if_neg (by omega), if_neg (by omega)] at hgot
          rw [hisn] at hwk hkc
          simp only [Bool.false_eq_true, if_false, Nat.add_zero] at hwk hkc
          have hf := hlk (6, _) (by rw [c5]; rfl)
          obtain ⟨v2, T2, hv2, hh⟩ := wd_eight Hx (H.length + 2) v' o x k' w ws2 kwq hbx (hvx (by simp)) d.raw (gq c hcm c5) kwt hmlx
          simp only [go_sem, simprocAttr, hl, h0, h6, h7, h8, h9, h67, hs, hHx.symm, hf, hh]
          exact fin _ k' { x with raw := d.raw } v2 ws2 T2 _ (.inl (hvn hv2)) hwk (fun w hw => by simp [hw]) (by simp) hgot (by omega) (fun j hj hj5 => hxz j hj hj5) (fun h => by omega) (by simp only [go_sem, simprocAttr, hce, hcl2]) (by simp only [go_sem, simprocAttr, hl]) (by simp only [go_sem, simprocAttr, hl, h0]) (by simp only [go_sem, simprocAttr, hl, h6]) (by simp only [go_sem, simprocAttr, hl, h7]) (by simp only [go_sem, simprocAttr, hl, h8]) (by simp only [go_sem, simprocAttr, hl, h9]) (by simp only [go_sem, simprocAttr, hl, h67])
        by_cases c6 : c = 120
        · have he : elemS d c k' = ((txts d.raw).getD []).map quoP := by unfold elemS; rw [if_neg c1, if_neg c2, if_neg c3, if_neg c4, if_neg c5, if_pos c6]
          rw [he] at hwk
          have hlast := hFl i c hc (by rw [c6]; decide)
          have hd0 : F.drop (i + 1) = [] := by rw [hlast.1, hlast.2]; rfl
          have hi1 : i + 1 = F.length := by rw [hlast.1, hlast.2]; rfl
          have hisn : isN c = false := by rw [c6]; rfl
          have hcN : c.toNat = 120 := by rw [c6]; rfl
          simp only [gotF] at hgot
          rw [if_neg (by omega), if_neg (by omega), if_neg (by omega)] at hgot
          rw [hisn] at hwk hkc
          simp only [Bool.false_eq_true, if_false, Nat.add_zero] at hwk hkc
          have hf := hlk (7, _) (by rw [c6]; rfl)
          have hok := gx c hcm c6
          cases htx2 : txts d.raw with
          | none => rw [txOk_none htx2] at hok; cases hok
          | some X =>
            have hXn : X ≠ [] := by rintro rfl; rw [txOk_nil htx2] at hok; cases hok
            obtain ⟨p1, p2⟩ := txF_pack _ _ _ htx2
            rw [htx2, hd0] at hwk
            have hwk' : ws'.map Wd.key = X.map fun y => (escS true y, true) := by
              rw [hwk]
              simp only [Option.getD_some, showL, List.map_nil, List.append_nil, List.map_map]
              refine List.map_congr_left (fun y _ => ?_)
              exact wOf_q (escS true y)
            have hun : ws'.map (fun w => unB w.t) = X.map some := by
              have := congrArg (List.map fun z : List UInt8 × Bool => unB z.1) hwk'
              simp only [List.map_map] at this
              rw [show (fun w : Wd => unB w.t) = (fun z : List UInt8 × Bool => unB z.1) ∘ Wd.key from rfl, this]
              refine List.map_congr_left (fun y _ => ?_)
              exact unB_esc true y
            have hrw : d.raw ≠ [] := by
              intro h0
              rw [h0, txts_nil] at htx2; cases htx2; exact hXn rfl
            have hne : ws' ≠ [] := by
              rintro rfl
              have := congrArg List.length hwk'
              simp at this
              exact hXn (List.length_eq_zero_iff.1 this.symm)
            obtain ⟨⟨v2, T2⟩, hv2, hh⟩ := wd_texts Hx (H.length + 2) v' o x k' ws' hbx (hvx hne) hwl' X hun p2 (by rw [p1]; exact hrw) (by rw [p1]; exact graw) hwn'
            rw [p1] at hh
            simp only [go_sem, simprocAttr, hl, h0, h6, h7, h8, h9, h67, hs, hHx.symm, hf, hh]
            exact fin _ k' { x with raw := d.raw } v2 [] T2 _ (.inr ⟨rfl, hv2⟩) (by rw [hd0]; rfl) (fun w hw => by cases hw) (by simp) hgot (by omega) (fun j hj hj5 => hxz j hj hj5) (fun h => by omega) (by simp only [go_sem, simprocAttr, hce, hcl2]) (by simp only [go_sem, simprocAttr, hl]) (by simp only [go_sem, simprocAttr, hl, h0]) (by simp only [go_sem, simprocAttr, hl, h6]) (by simp only [go_sem, simprocAttr, hl, h7]) (by simp only [go_sem, simprocAttr, hl, h8]) (by simp only [go_sem, simprocAttr, hl, h9]) (by simp only [go_sem, simprocAttr, hl, h67])
        · exfalso
          rcases hin c hcm with h | h | h | h | h | h | h | h
          · exact c1 (.inl h)
          · exact c1 (.inr h)
          · exact c2 h
          · exact c3 h
          · exact c4 h
          · exact c5 h
          · exact c6 h
          · have := (hFl i c hc (.inr (.inr (.inr (by rw [h]; rfl))))).1
            rw [h] at this
            exact h114 (hF ▸ this)
      · have hi : i = F.length := by omega
        subst hi
        rw [List.drop_length] at hwk hgot
        have hws0 : ws' = [] := by simpa [showL] using hwk
        subst hws0
        have hgot : x = d := hgot
        subst hgot
        have hl0 : ∀ H', evLen Tryz.prog 34 v' H' = some (.int .i64 0) := by
          rcases hv' with h | ⟨_, h⟩
          · exact h.len
          · exact h
        simp only [go_sem, simprocAttr, hl, h0, h6, h7, h8, h9, h67, hie, WdC.l0, WdC.ld, hl0, hspz, hlz, q3, Dt.vc, Dt.len, Dt.flat]
        refine caught0 ?_
        simp only [go_sem, simprocAttr, hl, h6, h7, Dt.l8]
        exact leave_flat (by simp only [flat, flats, Dt.flat, Bool.and_self]) (by simp only [clean_andI, clean_sn, clean_z, go_sem, true_and, and_true, hce])
end Go.Proofs.YtgkpgpdkolpfkaaGreatDoor.V
namespace Go.Proofs.YtgkpgpdkolpfkaaGreatDoor.V
open Go
attribute [local irreducible] go goOps goD opK callK callT stepK leaveTo nextK

def wdOf (x : List UInt8 × Bool) : Wd := ⟨x.1, x.2, 0, 0⟩
theorem min_n (a b : Nat) : evMin2 (.int .i64 (a : Nat)) (.int .i64 (b : Nat)) = some (.int .i64 (min a b : Nat)) := by
  by_cases h : b < a
  · have h1 : (b : Int) < (a : Int) := by omega
    simp only [evMin2, h1, if_true]
    rw [Nat.min_eq_right (by omega)]
  · have h1 : ¬ ((b : Int) < (a : Int)) := by omega
    simp only [evMin2, h1, if_false]
    rw [Nat.min_eq_left (by omega)]
theorem bd_word (s : List UInt8) (q : Bool) : evBuild Tryz.prog 71 [(0, .str s), (1, .bool q)] = some (.agg (wdOf (s, q)).cells) := by
  simp only [evBuild, tsh_71, tzero_71, tplaces_71, Option.bind_some]
  rfl
theorem bslice_wd (w : Wd) (H : Hp) : evBuildSlice Tryz.prog 34 1 [(0, .agg w.cells)] H = some (.slice H.length 0 1 (.ex 1), H ++ [.cells w.cells 71 .rw]) := by
  simp only [evBuildSlice, tsh_34, tzero_71, Option.bind_some]
  rfl
theorem wcells_snoc (L : List Wd) (w : Wd) : wcells (L ++ [w]) = wcells L ++ w.cells := by simp [wcells]
theorem GBuf.wv {H T : Hp} {v : AV} {L : List Wd} (h : GBuf H.length T v 71 4 L.length (wcells L)) : Wv (H ++ T) v L := by
  obtain ⟨rfl, h2, h3⟩ | ⟨h1, h2, m, rfl, h3⟩ := h
  · exact .inl ⟨rfl, List.length_eq_zero_iff.1 h3⟩
  · exact .inr (.inl ⟨H.length + m, 0, [], 0, false, rfl, rfl, by rw [hp_new]; exact h3⟩)
theorem wrap_two {n : Nat} (h : n < 1000000000) : IntKind.i64.wrap (((n + 1 : Nat) : Int) + 1) = ((n + 2 : Nat) : Int) := by rw [wrap_i64 (by omega)]; omega
set_option maxRecDepth 20000 in
set_option maxHeartbeats 4000000 in
theorem law_cut (s : List UInt8) (H) (hs : s.length ≤ 100000000) : ∃ b : AV × Hp, Wv (H ++ b.2) b.1 ((cwS s).map wdOf) ∧ ∀ k, callK Tryz.prog 7 [.str s] H k = k (b.1, H ++ b.2, z0) := by
  refine callK_exP (fun b : AV × Hp => Wv (H ++ b.2) b.1 ((cwS s).map wdOf)) (fun b => (b.1, H ++ b.2, z0)) ?_
  refine callK_start (n := 70) (rs := [.tmp 2]) Tryz.func7 rfl rfl rfl ?_
  intro σ hl ha
  have h0 := ha 0 (by simp)
  clear ha
  simp only [Option.getD_some, List.getElem?_cons_zero, List.getElem?_cons_succ] at h0
  simp only [go_sem, simprocAttr, hl, h0]
  refine go_rounds (fun n st => ∃ σ i W v T e, n + i = s.length + 3 ∧ cwS s = W ++ cwS (s.drop i) ∧ W.length ≤ i ∧ GBuf H.length T v 71 4 (W.map wdOf).length (wcells (W.map wdOf)) ∧ st = ⟨σ, H ++ T, e⟩ ∧ clean H.length e ∧ σ.length = 70 ∧ fr σ 0 = .str s ∧ fr σ 3 = v ∧ fr σ 4 = .int .i64 (i : Nat)) (s.length + 3)
    ⟨_, 0, [], .nils, [], _, rfl, rfl, Nat.le_refl _, .inl ⟨rfl, rfl, rfl⟩, by rw [List.append_nil], ⟨rfl, rfl⟩, by simp only [go_sem, simprocAttr, hl], by simp only [go_sem, simprocAttr, hl, h0], by simp only [go_sem, simprocAttr, hl], by simp only [go_sem, simprocAttr, hl]⟩ ?_
  rintro n _ ⟨σ, i, W, v, T, e, hn, hW, hWl, hB, rfl, he, hl, h0, h3, h4⟩
  by_cases hlt : i < s.length
  · obtain ⟨c, hc⟩ : ∃ c, s[i]? = some c := ⟨_, List.getElem?_eq_getElem hlt⟩
    have hcl := c.toNat_lt
    have hw := wrap_succ (show i < 9223372036854775807 by omega)
    rw [drop_at hc, cwS_cons] at hW
    by_cases c32 : c.toNat = 32
    · have e1 : c = 32 := UInt8.toNat.inj c32
      have g32 : ((c.toNat : Int) == 32) = true := by simp; omega
      rw [if_pos e1] at hW
      simp only [go_sem, simprocAttr, hl, h0, h3, h4, hlt, hc, g32, hw]
      exact ⟨n - 1, by omega, _, i + 1, W, v, T, e, by omega, hW, by omega, hB, rfl, he, by simp only [go_sem, simprocAttr, hl], by simp only [go_sem, simprocAttr, hl, h0], by simp only [go_sem, simprocAttr, hl, h3], by simp only [go_sem, simprocAttr, hl]⟩
    · have e32 : c ≠ 32 := u8_ne (n := 32) (by omega) c32
      have g32 : ((c.toNat : Int) == 32) = false := by simp; omega
      rw [if_neg e32] at hW
      -- a word: from where, up to which mark
      obtain ⟨fr0, p, q, hq34, hWq, hfi, hpq⟩ : ∃ (fr0 : Nat) (p : UInt8) (q : Bool), ((c.toNat : Int) == 34) = q ∧ cwS s = W ++ ((s.drop fr0).take (scan p (s.drop fr0)), q) :: cwS (s.drop (fr0 + (scan p (s.drop fr0) + 1))) ∧ fr0 = (if q = true then i + 1 else i) ∧ p = (if q = true then 34 else 32) := by
        by_cases c34 : c = 34
        · rw [if_pos c34, List.drop_drop] at hW
          exact ⟨i + 1, 34, true, by rw [c34]; rfl, hW, rfl, rfl⟩
        · have : ((c.toNat : Int) == 34) = false := by
            rw [beq_eq_false_iff_ne]
            intro h
            exact c34 (UInt8.toNat.inj (by show c.toNat = 34; omega))
          rw [if_neg c34, ← drop_at hc, List.drop_drop] at hW
          exact ⟨i, 32, false, this, hW, rfl, rfl⟩
      have hfr : fr0 ≤ s.length ∧ i ≤ fr0 := by rw [hfi]; split <;> omega
      obtain ⟨w, hwd⟩ : ∃ w, w = wdOf ((s.drop fr0).take (scan p (s.drop fr0)), q) := ⟨_, rfl⟩
      obtain ⟨v', T2, e2, happ, hlen2, hcl2, hkp, hv3, hflv, hvc, _⟩ := (hB.more [.cells w.cells 71 .rw]).app2 (P := Tryz.prog) (b := 40) (by decide) zok_34 w.cells 1 (by decide) rfl rfl (by simp only [fits, decide_eq_true_eq, List.length_map]; omega)
      have hv4 : GBuf H.length T2 v' 71 4 ((W ++ [((s.drop fr0).take (scan p (s.drop fr0)), q)]).map wdOf).length (wcells ((W ++ [((s.drop fr0).take (scan p (s.drop fr0)), q)]).map wdOf)) := by
        rw [List.map_append, List.map_cons, List.map_nil, wcells_snoc, ← hwd, List.length_append, List.length_singleton]; exact hv3
      have hbd := bd_word ((s.drop fr0).take (scan p (s.drop fr0))) q
      have hbs := bslice_wd w
      have hrd : rdC 0 4 (.cells w.cells 71 .rw) = some w.cells := rfl
      rw [← hwd] at hbd
      cases q
      · simp only [if_true, Bool.false_eq_true, if_false] at hfi hpq
        subst hpq
        simp only [go_sem, simprocAttr, hl, h0, h3, h4, hlt, hc, g32, hq34, hw]
        refine go_rounds (fun m st => ∃ σ a, m + a = s.length + 2 ∧ fr0 ≤ a ∧ a ≤ s.length + 1 ∧ fr0 + scan 32 (s.drop fr0) = a + scan 32 (s.drop a) ∧ st = ⟨σ, H ++ T, e⟩ ∧ σ.length = 70 ∧ fr σ 0 = .str s ∧ fr σ 3 = v ∧ fr σ 5 = .int .i64 (fr0 : Nat) ∧ fr σ 6 = .bool false ∧ fr σ 4 = .int .i64 (a : Nat)) (s.length + 2 - fr0)
          ⟨_, fr0, by omega, Nat.le_refl _, by omega, rfl, rfl, by simp only [go_sem, simprocAttr, hl], by simp only [go_sem, simprocAttr, hl, h0], by simp only [go_sem, simprocAttr, hl, h3], by simp only [go_sem, simprocAttr, hl, hw, hfi], by simp only [go_sem, simprocAttr, hl], by simp only [go_sem, simprocAttr, hl, hw, hfi, h4]⟩ ?_
        clear h0 h3 h4 hl
        rintro m _ ⟨σ, a, hma, hfa, hal, hsc, rfl, hl, h0, h3, h5, h6, h4⟩
        have hwa := wrap_succ (show a < 9223372036854775807 by omega)
        have hwb := wrap_two (n := a) (by omega)
        by_cases hstay : ∃ x, s[a]? = some x ∧ x ≠ 32
        · obtain ⟨x, hx, hxp⟩ := hstay
          have hla : a < s.length := (List.getElem?_eq_some_iff.1 hx).1
          have hxl := x.toNat_lt
          have gx : ((x.toNat : Int) != 32) = true := by
            have : x.toNat ≠ 32 := fun h => hxp (UInt8.toNat.inj h)
            simp; omega
          rw [scan_drop 32 hx, if_neg hxp] at hsc
          by_cases x92 : x.toNat = 92
          · have e92 : x = 92 := UInt8.toNat.inj x92
            have g92 : ((x.toNat : Int) == 92) = true := by simp; omega
            rw [if_pos e92] at hsc
            simp only [go_sem, simprocAttr, hl, h0, h3, h4, h5, h6, hla, hx, gx, g92, hwa, hwb]
            exact ⟨m - 2, by omega, _, a + 2, by omega, by omega, by omega, by omega, rfl, by simp only [go_sem, simprocAttr, hl], by simp only [go_sem, simprocAttr, hl, h0], by simp only [go_sem, simprocAttr, hl, h3], by simp only [go_sem, simprocAttr, hl, h5], by simp only [go_sem, simprocAttr, hl, h6], by simp only [go_sem, simprocAttr, hl]⟩
          · have e92 : x ≠ 92 := u8_ne (n := 92) (by omega) x92
            have g92 : ((x.toNat : Int) == 92) = false := by simp; omega
            rw [if_neg e92] at hsc
            simp only [go_sem, simprocAttr, hl, h0, h3, h4, h5, h6, hla, hx, gx, g92, hwa, hwb]
            exact ⟨m - 1, by omega, _, a + 1, by omega, by omega, by omega, by omega, rfl, by simp only [go_sem, simprocAttr, hl], by simp only [go_sem, simprocAttr, hl, h0], by simp only [go_sem, simprocAttr, hl, h3], by simp only [go_sem, simprocAttr, hl, h5], by simp only [go_sem, simprocAttr, hl, h6], by simp only [go_sem, simprocAttr, hl]⟩
        · have hz : scan 32 (s.drop a) = 0 ∧ ((∃ x, s[a]? = some x ∧ ((x.toNat : Int) != 32) = false ∧ a < s.length) ∨ ¬ a < s.length) := by
            by_cases hla : a < s.length
            · obtain ⟨x, hx⟩ : ∃ c, s[a]? = some c := ⟨_, List.getElem?_eq_getElem hla⟩
              have hxp : x = 32 := by
                by_cases h : x = 32
                · exact h
                · exact absurd ⟨x, hx, h⟩ hstay
              refine ⟨by rw [scan_drop 32 hx, if_pos hxp], .inl ⟨x, hx, by rw [hxp]; rfl, hla⟩⟩
            · exact ⟨by rw [List.drop_of_length_le (by omega)]; rfl, .inr hla⟩
          obtain ⟨hz0, hz⟩ := hz
          rw [hz0, Nat.add_zero] at hsc
          have hmn := min_n a s.length
          have b1 : fr0 ≤ min a s.length := by omega
          have b2 : min a s.length ≤ s.length := Nat.min_le_right _ _
          have e5 : (s.drop fr0).take (min a s.length - fr0) = (s.drop fr0).take (scan 32 (s.drop fr0)) := by
            by_cases h : a ≤ s.length
            · congr 1; omega
            · rw [List.take_of_length_le (by rw [List.length_drop]; omega), List.take_of_length_le (by rw [List.length_drop]; omega)]
          rcases hz with ⟨x, hx, gx, hla⟩ | hla
          all_goals
            first | simp only [go_sem, simprocAttr, hl, h0, h3, h4, h5, h6, hla, hx, gx, hmn, b1, b2, e5, hbd, hbs, hrd, ↓happ, hwa] | simp only [go_sem, simprocAttr, hl, h0, h3, h4, h5, h6, hla, hmn, b1, b2, e5, hbd, hbs, hrd, ↓happ, hwa]
            exact ⟨n - (a + 1 - i), by omega, _, a + 1, W ++ [((s.drop fr0).take (scan 32 (s.drop fr0)), false)], v', T2, _, by omega, by rw [hWq, List.append_assoc, show fr0 + (scan 32 (s.drop fr0) + 1) = a + 1 by omega]; rfl, by simp; omega, hv4, rfl, by simp only [go_sem, simprocAttr, he, hcl2], by simp only [go_sem, simprocAttr, hl], by simp only [go_sem, simprocAttr, hl, h0], by simp only [go_sem, simprocAttr, hl], by simp only [go_sem, simprocAttr, hl]⟩
      · simp only [if_true, Bool.false_eq_true, if_false] at hfi hpq
        subst hpq
        simp only [go_sem, simprocAttr, hl, h0, h3, h4, hlt, hc, g32, hq34, hw]
        refine go_rounds (fun m st => ∃ σ a, m + a = s.length + 2 ∧ fr0 ≤ a ∧ a ≤ s.length + 1 ∧ fr0 + scan 34 (s.drop fr0) = a + scan 34 (s.drop a) ∧ st = ⟨σ, H ++ T, e⟩ ∧ σ.length = 70 ∧ fr σ 0 = .str s ∧ fr σ 3 = v ∧ fr σ 5 = .int .i64 (fr0 : Nat) ∧ fr σ 6 = .bool true ∧ fr σ 4 = .int .i64 (a : Nat)) (s.length + 2 - fr0)
          ⟨_, fr0, by omega, Nat.le_refl _, by omega, rfl, rfl, by simp only [go_sem, simprocAttr, hl], by simp only [go_sem, simprocAttr, hl, h0], by simp only [go_sem, simprocAttr, hl, h3], by simp only [go_sem, simprocAttr, hl, hw, hfi], by simp only [go_sem, simprocAttr, hl], by simp only [go_sem, simprocAttr, hl, hw, hfi, h4]⟩ ?_
        clear h0 h3 h4 hl
        rintro m _ ⟨σ, a, hma, hfa, hal, hsc, rfl, hl, h0, h3, h5, h6, h4⟩
        have hwa := wrap_succ (show a < 9223372036854775807 by omega)
        have hwb := wrap_two (n := a) (by omega)
        by_cases hstay : ∃ x, s[a]? = some x ∧ x ≠ 34
        · obtain ⟨x, hx, hxp⟩ := hstay
          have hla : a < s.length := (List.getElem?_eq_some_iff.1 hx).1
          have hxl := x.toNat_lt
          have gx : ((x.toNat : Int) != 34) = true := by
            have : x.toNat ≠ 34 := fun h => hxp (UInt8.toNat.inj h)
            simp; omega
          rw [scan_drop 34 hx, if_neg hxp] at hsc
          by_cases x92 : x.toNat = 92
          · have e92 : x = 92 := UInt8.toNat.inj x92
            have g92 : ((x.toNat : Int) == 92) = true := by simp; omega
            rw [if_pos e92] at hsc
            simp only [go_sem, simprocAttr, hl, h0, h3, h4, h5, h6, hla, hx, gx, g92, hwa, hwb]
            exact ⟨m - 2, by omega, _, a + 2, by omega, by omega, by omega, by omega, rfl, by simp only [go_sem, simprocAttr, hl], by simp only [go_sem, simprocAttr, hl, h0], by simp only [go_sem, simprocAttr, hl, h3], by simp only [go_sem, simprocAttr, hl, h5], by simp only [go_sem, simprocAttr, hl, h6], by simp only [go_sem, simprocAttr, hl]⟩
          · have e92 : x ≠ 92 := u8_ne (n := 92) (by omega) x92
            have g92 : ((x.toNat : Int) == 92) = false := by simp; omega
            rw [if_neg e92] at hsc
            simp only [go_sem, simprocAttr, hl, h0, h3, h4, h5, h6, hla, hx, gx, g92, hwa, hwb]
            exact ⟨m - 1, by omega, _, a + 1, by omega, by omega, by omega, by omega, rfl, by simp only [go_sem, simprocAttr, hl], by simp only [go_sem, simprocAttr, hl, h0], by simp only [go_sem, simprocAttr, hl, h3], by simp only [go_sem, simprocAttr, hl, h5], by simp only [go_sem, simprocAttr, hl, h6], by simp only [go_sem, simprocAttr, hl]⟩
        · have hz : scan 34 (s.drop a) = 0 ∧ ((∃ x, s[a]? = some x ∧ ((x.toNat : Int) != 34) = false ∧ a < s.length) ∨ ¬ a < s.length) := by
            by_cases hla : a < s.length
            · obtain ⟨x, hx⟩ : ∃ c, s[a]? = some c := ⟨_, List.getElem?_eq_getElem hla⟩
              have hxp : x = 34 := by
                by_cases h : x = 34
                · exact h
                · exact absurd ⟨x, hx, h⟩ hstay
              refine ⟨by rw [scan_drop 34 hx, if_pos hxp], .inl ⟨x, hx, by rw [hxp]; rfl, hla⟩⟩
            · exact ⟨by rw [List.drop_of_length_le (by omega)]; rfl, .inr hla⟩
          obtain ⟨hz0, hz⟩ := hz
          rw [hz0, Nat.add_zero] at hsc
          have hmn := min_n a s.length
          have b1 : fr0 ≤ min a s.length := by omega
          have b2 : min a s.length ≤ s.length := Nat.min_le_right _ _
          have e5 : (s.drop fr0).take (min a s.length - fr0) = (s.drop fr0).take (scan 34 (s.drop fr0)) := by
            by_cases h : a ≤ s.length
            · congr 1; omega
            · rw [List.take_of_length_le (by rw [List.length_drop]; omega), List.take_of_length_le (by rw [List.length_drop]; omega)]
          rcases hz with ⟨x, hx, gx, hla⟩ | hla
          all_goals
            first | simp only [go_sem, simprocAttr, hl, h0, h3, h4, h5, h6, hla, hx, gx, hmn, b1, b2, e5, hbd, hbs, hrd, ↓happ, hwa] | simp only [go_sem, simprocAttr, hl, h0, h3, h4, h5, h6, hla, hmn, b1, b2, e5, hbd, hbs, hrd, ↓happ, hwa]
            exact ⟨n - (a + 1 - i), by omega, _, a + 1, W ++ [((s.drop fr0).take (scan 34 (s.drop fr0)), true)], v', T2, _, by omega, by rw [hWq, List.append_assoc, show fr0 + (scan 34 (s.drop fr0) + 1) = a + 1 by omega]; rfl, by simp; omega, hv4, rfl, by simp only [go_sem, simprocAttr, he, hcl2], by simp only [go_sem, simprocAttr, hl], by simp only [go_sem, simprocAttr, hl, h0], by simp only [go_sem, simprocAttr, hl], by simp only [go_sem, simprocAttr, hl]⟩
  · have hd0 : s.drop i = [] := List.drop_of_length_le (by omega)
    rw [hd0, cwS_nil, List.append_nil] at hW
    rw [hW]
    simp only [go_sem, simprocAttr, hl, h0, h3, h4, hlt]
    have hwv := hB.wv
    obtain ⟨rfl, _, h9⟩ | ⟨_, _, m, rfl, _⟩ := hB
    · have : W = [] := by simpa using h9
      subst this
      exact ⟨(.nils, []), .inl ⟨rfl, rfl⟩, by rw [leave_flat rfl he, List.append_nil]⟩
    · exact ⟨(_, T), hwv, leave_keep rfl he⟩
end Go.Proofs.YtgkpgpdkolpfkaaGreatDoor.V
namespace Go.Proofs.YtgkpgpdkolpfkaaGreatDoor.V
open Go
attribute [local irreducible] go goOps goD opK callK callT stepK leaveTo nextK

theorem len_totS : ∀ (L : List (List UInt8)), (∀ x ∈ L, 0 < x.length) → L.length ≤ totS L
  | [], _ => Nat.zero_le _
  | x :: L, h => by
    have h1 := len_totS L (fun y hy => h y (by simp [hy]))
    have h2 := h x (by simp)
    have e : totS (x :: L) = x.length + totS L := by simp [totS]
    rw [e, List.length_cons]; omega
theorem show_each {t : Int} {d : Dt} (hd : d.wf) (hg : goodB t d = true) : ∀ (f : List UInt8) (k : Nat), (∀ c ∈ f, c ∈ formS t) → ∀ x ∈ showL d f k, x.length ≤ 1000000
  | [], k, _, x, hx => by cases hx
  | c :: f, k, h, x, hx => by
    rw [showL] at hx
    rcases List.mem_append.1 hx with hx | hx
    · have h1 := (elem_fine hd hg (h c (by simp)) k).2
      have h2 := mem_totS hx
      omega
    · exact show_each hd hg f _ (fun y hy => h y (by simp [hy])) x hx
theorem wOf_len (x : List UInt8) : (wOf x).1.length ≤ x.length := by
  unfold wOf
  split
  · simp; omega
  · exact Nat.le_refl _
theorem eqDD (x : Dt) : evEq Tryz.prog 20 27 (.agg x.cells) (.agg x.cells) = some true := by
  obtain ⟨r, h, m, a, b, e, f, g⟩ := x
  rw [show Dt.cells ⟨r, h, m, a, b, e, f, g⟩ = [.str r, .str h, .str m, .int .u32 a, .int .u32 b, .int .u32 e, .int .u32 f, .int .u32 g] from rfl]
  rw [eq_data]
  simp [eqD]
theorem bd_zero : evBuild Tryz.prog 27 [] = some (.agg Dt.zero.cells) := by
  simp only [evBuild, tsh_27, tzero_27, tplaces_27, Option.bind_some]
  rfl
theorem sp_d (d : Dt) : splice [AV.str [], AV.str [], AV.str [], AV.int .u32 0, AV.int .u32 0, AV.int .u32 0, AV.int .u32 0, AV.int .u32 0] 0 d.cells = d.cells := rfl
theorem all_d (d : Dt) : d.cells.all scal = true := rfl
set_option maxRecDepth 20000 in
theorem rdata_Read0 (H k) (v : AV) (o : List UInt8) (t : Int) (ho : (nm o).isSome = false) (hol : o.length ≤ 1048576) :
    callK Tryz.prog 6 [.int .u16 t, v, .str o] H k = k (.tuple [.agg Dt.zero.cells, .int .i64 11], H, z0) := by
  refine callK_eq (r := (.tuple [.agg Dt.zero.cells, .int .i64 11], H, z0)) ?_ k
  have hchk := fun H' k => name_Check o H' k (by show _ ≤ 9223372036854775807; omega)
  simp only [ho, Bool.false_eq_true, if_false] at hchk
  refine callK_startD (n := 93) (rs := [.cell 6 27, .cell 7 28]) Tryz.func6 rfl rfl rfl ?_
  intro σ hl ha
  have h0 := ha 0 (by simp)
  have h1 := ha 1 (by simp)
  have h2 := ha 2 (by simp)
  clear ha
  simp only [Option.getD_some, List.getElem?_cons_zero, List.getElem?_cons_succ] at h0 h1 h2
  refine goA_seq (by kernel_rfl) (by kernel_rfl) ?_
  simp only [go_sem, simprocAttr, hl]
  refine goA_seq (by kernel_rfl) (by kernel_rfl) ?_
  simp only [go_sem, simprocAttr, hl, h0, h1, h2, hchk]
  rfl
set_option maxRecDepth 20000 in
theorem lawWords (t : Int) (d : Dt) (o : List UInt8) (H) (hk : Tk H) (ht : Tb H) (hdb : Db H) (hte : Te H) (hml : Ml H) (hd : d.wf) (hol : o.length ≤ 1048576) : callK Tryz.prog 3 [.int .u16 t, .agg d.cells, .str o] H (fun q => q = (.bool true, H, z0)) := by
  refine callK_start (n := 54) (rs := [.tmp 6]) Tryz.func3 rfl rfl rfl ?_
  intro σ hl ha
  have h0 := ha 0 (by simp)
  have h1 := ha 1 (by simp)
  have h2 := ha 2 (by simp)
  clear ha
  simp only [Option.getD_some, List.getElem?_cons_zero, List.getElem?_cons_succ] at h0 h1 h2
  have hsh := fun l k => rdata_ShowK t d (H ++ l) k (hk.old l) (ht.old l) (hdb.old l) hd
  have hwk := fun l k => wk (H ++ l) k (hk.old l) (ht.old l) (hdb.old l)
  cases hg : goodB t d with
  | false =>
    rw [show tellS t d = [] from if_neg (by rw [hg]; simp), show chk t d = 40 from if_neg (by rw [hg]; simp)] at hsh
    simp only [go_sem, simprocAttr, hl, h0, h1, Dt.l8, Dt.vc, Dt.len, hsh, hwk]
  | true =>
    rw [show tellS t d = showS t d from if_pos hg, show chk t d = 0 from if_pos hg] at hsh
    obtain ⟨g1, g2⟩ := show_fine hd hg (formS t) 0 (fun _ h => h)
    have g3 := form_len t
    have g4 := len_totS _ g1
    have g5 := joinS_le [32] (showL d (formS t) 0)
    have hsl : (showS t d).length ≤ 100000000 := by
      unfold showS
      have : (formS t).length * 1000000 ≤ 7 * 1000000 := Nat.mul_le_mul_right _ g3
      simp only [List.length_singleton, Nat.mul_one] at g5
      omega
    obtain ⟨⟨v, T⟩, hwv, hcut⟩ := law_cut (showS t d) (H ++ [.cells d.cells 27 .rw]) hsl
    simp only [List.append_assoc, List.cons_append, List.nil_append] at hwv hcut
    have hcs := cut_show hd hg
    cases ho : (nm o).isSome with
    | false =>
      have hrd := fun H' k => rdata_Read0 H' k v o t ho hol
      simp only [go_sem, simprocAttr, hl, h0, h1, h2, Dt.l8, Dt.vc, Dt.len, hsh, hwk, hcut, hrd, sp_d, all_d, Dt.flat, bd_zero, eqDD]
    | true =>
      have hrd := fun k => rdata_Read (H ++ (.cells d.cells 27 .rw :: T)) k v ((cwS (showS t d)).map wdOf) o t d (hk.old _) (hte.old _) (hml.old _) hwv hd hg (by
          rw [hcs, List.map_map]
          exact List.map_id' _ ) (by
          intro w hw
          rw [hcs, List.map_map, List.mem_map] at hw
          obtain ⟨x, hx, rfl⟩ := hw
          have h1 := show_each hd hg (formS t) 0 (fun _ h => h) x hx
          have h2 := wOf_len x
          show (wOf x).1.length ≤ 1048576
          omega) (by
          rw [List.length_map, hcs, List.length_map]
          have : (formS t).length * 1000000 ≤ 7 * 1000000 := Nat.mul_le_mul_right _ g3
          omega) ho hol
      simp only [go_sem, simprocAttr, hl, h0, h1, h2, Dt.l8, Dt.vc, Dt.len, hsh, hwk, hcut, hrd, sp_d, all_d, Dt.flat, bd_zero, eqDD]
end Go.Proofs.YtgkpgpdkolpfkaaGreatDoor.V
namespace Go.Proofs.YtgkpgpdkolpfkaaGreatDoor.V
open Go Go.RowKit

mutual
def flatC {H : Type} : DataW H → List AV
  | .lit (.int k n) => [.int k n]
  | .lit (.string s) => [.str s]
  | .lit (.bool b) => [.bool b]
  | .agg ps => flatCs ps
  | _ => [.nili]
def flatCs {H : Type} : List (DataW H) → List AV
  | [] => []
  | d :: r => flatC d ++ flatCs r
end
def fieldsT (P : Program) (f : TypeId → Bool) : List Field → Nat → Nat → Bool
  | [], o, z => o == z
  | x :: r, o, z => x.offset == o && (f x.type && fieldsT P f r (o + P.cellsOf x.type) z)
def plainT (P : Program) : Nat → TypeId → Bool
  | 0, _ => false
  | d + 1, t => match P.underlying t with
    | some (.int _) => true
    | some .string => true
    | some .bool => true
    | some (.array n e) => plainT P d e && P.cellsOf t == n * P.cellsOf e
    | some (.struct fs) => fieldsT P (plainT P d) fs.toList 0 (P.cellsOf t)
    | _ => false

section
variable {H : Type} {enc : TypeId × Value → H} {P : Program} {W : World} {base : Nat} {sp : Nat → Bool} {held : Bool}

theorem concs_app {μ : Mu} : ∀ {a b : List AV} {x y : List Value}, concs μ a = some x → concs μ b = some y → concs μ (a ++ b) = some (x ++ y)
  | [], b, x, y, h, h' => by cases h; simpa using h'
  | v :: a, b, x, y, h, h' => by
    simp only [concs, Option.bind_eq_some_iff, Option.map_eq_some_iff] at h
    obtain ⟨c, hc, xs, hx, rfl⟩ := h
    have := concs_app hx h'
    simp only [List.cons_append, concs, hc, this, Option.bind_some, Option.map_some]
theorem pieces {μ : Mu} {c : Nat} : ∀ (xs : List (DataW H × List MemPlace)) (cs : List Value), cs.length = xs.length * c →
    (∀ i x, xs[i]? = some x → concs μ (flatC x.1) = some ((cs.drop (i * c)).take c)) → concs μ (flatCs (xs.map (·.1))) = some cs
  | [], cs, hl, _ => by
    have : cs = [] := List.length_eq_zero_iff.1 (by simpa using hl)
    subst this; rfl
  | x :: xs, cs, hl, h => by
    have h0 := h 0 x rfl
    simp only [Nat.zero_mul, List.drop_zero] at h0
    have ih := pieces (μ := μ) (c := c) xs (cs.drop c) (by rw [List.length_drop, hl, List.length_cons, Nat.add_mul]; omega) (fun i y hy => by
      have := h (i + 1) y (by simpa using hy)
      rw [List.drop_drop, show c + i * c = (i + 1) * c by rw [Nat.add_mul]; omega]
      exact this)
    have := concs_app h0 ih
    rw [List.take_append_drop] at this
    simpa [flatCs] using this
theorem fields {μ : Mu} {z : Nat} {f : TypeId → Bool} {cs : List Value} {g : TypeId → List Value → Option (DataW H × List MemPlace)}
    (hf : ∀ t l x, f t = true → g t l = some x → concs μ (flatC x.1) = some l) : ∀ (fs : List Field) (xs : List (DataW H × List MemPlace)) (o : Nat), fieldsT P f fs o z = true → o ≤ z → xs.length = fs.length → cs.length = z →
    (∀ (i : Nat) (x : Field), fs[i]? = some x → g x.type ((cs.drop x.offset).take (P.cellsOf x.type)) = xs[i]?) → concs μ (flatCs (xs.map (·.1))) = some (cs.drop o)
  | [], [], o, h, hoz, _, hz, _ => by
    simp only [fieldsT, beq_iff_eq] at h
    rw [List.drop_eq_nil_of_le (by omega)]; rfl
  | [], _ :: _, _, _, _, hl, _, _ => by simp at hl
  | _ :: _, [], _, _, _, hl, _, _ => by simp at hl
  | x :: fs, y :: xs, o, h, hoz, hl, hz, hx => by
    simp only [fieldsT, Bool.and_eq_true, beq_iff_eq] at h
    obtain ⟨rfl, h1, h2⟩ := h
    have h0 := hf _ _ _ h1 (hx 0 x rfl)
    have hle : x.offset + P.cellsOf x.type ≤ z := by
      have : ∀ (fs : List Field) (o : Nat), fieldsT P f fs o z = true → o ≤ z := by
        intro fs
        induction fs with
        | nil => intro o h; simp only [fieldsT, beq_iff_eq] at h; omega
        | cons a r ih =>
          intro o h
          simp only [fieldsT, Bool.and_eq_true, beq_iff_eq] at h
          have := ih _ h.2.2
          omega
      exact this _ _ h2
    have ih := fields hf fs xs (x.offset + P.cellsOf x.type) h2 hle (by simpa using hl) hz (fun i w hw => by simpa using hx (i + 1) w (by simpa using hw))
    have := concs_app h0 ih
    have e : (cs.drop x.offset).take (P.cellsOf x.type) ++ cs.drop (x.offset + P.cellsOf x.type) = cs.drop x.offset := by
      rw [← List.drop_drop, List.take_append_drop]
    rw [e] at this
    simpa [flatCs] using this
theorem trod_flat {μ : Mu} : ∀ (m fuel : Nat) (t : TypeId) (cs : List Value) (x : DataW H × List MemPlace), plainT P m t = true → DataW.trod enc P W base sp held fuel t cs = some x → concs μ (flatC x.1) = some cs
  | 0, _, _, _, _, h, _ => by cases h
  | m + 1, fuel, t, cs, x, h, hx => by
    unfold plainT at h
    split at h
    · rename_i k ht
      obtain ⟨n, rfl, rfl, _⟩ := DataW.trod_int ht hx
      simp [flatC, concs, conc]
    · rename_i ht
      obtain ⟨s, rfl, rfl, _⟩ := DataW.trod_string ht hx
      simp [flatC, concs, conc]
    · rename_i ht
      obtain ⟨b, rfl, rfl⟩ := DataW.trod_bool ht hx
      simp [flatC, concs, conc]
    · rename_i n e ht
      simp only [Bool.and_eq_true, beq_iff_eq] at h
      obtain ⟨xs, q, rfl, rfl, hcl, hxl, hel⟩ := DataW.trod_array ht hx
      refine pieces (c := P.cellsOf e) xs cs (by rw [hcl, hxl, h.2]) (fun i y hy => ?_)
      have hi : i < n := by rw [← hxl]; exact (List.getElem?_eq_some_iff.1 hy).1
      have := hel i hi
      rw [hy] at this
      exact trod_flat m q e _ y h.1 this
    · rename_i fs ht
      obtain ⟨xs, q, rfl, rfl, hcl, hxl, hel⟩ := DataW.trod_struct ht hx
      have := fields (P := P) (μ := μ) (g := fun t l => DataW.trod enc P W base sp held q t l) (cs := cs) (fun t l x h1 h2 => trod_flat m q t l x h1 h2) fs.toList xs 0 h (Nat.zero_le _) (by simpa using hxl) hcl (fun i f hf => hel i f (by simpa using hf))
      simpa [flatC] using this
    · cases h
end
end Go.Proofs.YtgkpgpdkolpfkaaGreatDoor.V
