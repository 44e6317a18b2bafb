/- Operations of 'V': append, copy, make, literals. No conditions. -/
import Derived.Test.YtgkpgpdkolpfkaaDoorVOpc
namespace Go.Proofs.YtgkpgpdkolpfkaaDoor.V
open Go
set_option linter.unusedSimpArgs false
set_option linter.unusedVariables false

/-- A block that no live block names is changed. -/
theorem HRel.touch {P : Program} {g : Gh} {μ : Mu} {H : Hp} {w w' : World} (h : HRel P g μ H w) {B : Nat} (hno : ∀ b m y, μ b = some m → H[b]? = some y → live y = true → m.blk ≠ B) (hz : ¬ g.Z B)
    (hh : ∀ k, k ≠ B → w'.heap[k]? = w.heap[k]?) (hs : w'.heap.size = w.heap.size) (ho : w'.os = w.os) (ht : w'.tape = w.tape) (hp : w'.output = w.output) : HRel P g μ H w' where
  dom := h.dom
  glob := h.glob
  lt := fun b l e => by rw [hs]; exact h.lt b l e
  blk := fun b l x e f => (h.blk b l x e f).mono (Le.refl μ) (fun hl => hh _ (hno b l x e f hl))
  sep := h.sep
  own := h.own
  old := fun k hk => by
    have := h.old k hk
    have hne : k ≠ B := fun e => hz (e ▸ hk)
    exact ⟨by rw [hs]; exact this.1, (hh k hne).trans this.2⟩
  os := ho.trans h.os
  tape := ht.trans h.tape
  output := hp.trans h.output
  size := by rw [hs]; exact h.size

section
variable {P : Program} {g : Gh} {μ : Mu} {H : Hp} {w : World}

/-- What is appended, here and there. -/
theorem appended_ok (h : HRel P g μ H w) {z : Nat} {x : AV} {x' : Value} {a : List AV × Nat} (ha : appended H z x = some a) (hx : conc μ x = some x') :
    ∃ vs, concs μ a.1 = some vs ∧ vs.length = a.2 * z ∧ (∀ W : World, (Builtin.lenOf x').run P W = .ok a.2 W) ∧
      ∀ m, m ≤ a.2 → ∀ W : World, (W.heap = w.heap) → (Builtin.firstCells z m x').run P W = .ok (vs.take (m * z)).toArray W := by
  unfold appended at ha
  split at ha
  · cases ha; cases hx
    refine ⟨[], rfl, by simp, fun _ => rfl, fun m hm W _ => ?_⟩
    have : m = 0 := by simpa using hm
    subst this
    simp [Builtin.firstCells]
  · rename_i b o n c
    simp only [Option.map_eq_some_iff] at ha
    obtain ⟨c', hc, rfl⟩ := ha
    simp only [conc, Option.map_eq_some_iff] at hx
    obtain ⟨l, hl, rfl⟩ := hx
    obtain ⟨vs, h1, h2, h3⟩ := h.rd hl hc
    refine ⟨vs, h1, h2, fun _ => rfl, fun m hm W hW => ?_⟩
    have hlen : (vs.take (m * z)).length = m * z := by
      rw [List.length_take, h2]
      exact Nat.min_eq_left (Nat.mul_le_mul_right _ hm)
    exact run_firstCells_some (P := P) W z m ⟨l.blk, l.base + o, none⟩ n (match c with | .ex c => c | .op k => l.cap - k) (vs.take (m * z)) hlen (fun j v hv => by
      rw [Addr.add_mid]
      have : w.cell? ⟨l.blk, l.base + o + j, none⟩ = some v := h3 j v (by
        rw [List.getElem?_take] at hv
        split at hv
        · exact hv
        · cases hv)
      simpa [World.cell?, hW] using this)
  · rename_i s
    split at ha
    · rename_i hz
      subst hz
      cases ha; cases hx
      refine ⟨(s.map fun b => Value.int .u8 b.toNat), ?_, by simp, fun _ => ?_, fun m hm W _ => ?_⟩
      · clear h
        induction s with
        | nil => rfl
        | cons b r ih => simp [concs, conc, ih]
      · simp [Builtin.lenOf, ByteArray.size]
      · simp only [Builtin.firstCells]
        simp only [Sem.run_pure]
        congr 1
        apply Array.ext'
        simp [List.extract_eq_take_drop, List.map_take]
    · cases ha
  · cases ha

/-- The argument's type is a slice's or a string's. -/
def okSrc (P : Program) (t : TypeId) : Prop := ∃ d, P.underlying t = some d ∧ ∀ k, d ≠ .int k

theorem isInt_no {d : TypeDesc} (h : ∀ k, d ≠ .int k) : (match d with | .int _ => true | _ => false) = false := by
  cases d <;> first | rfl | (exact absurd rfl (h _))

/-- append, where there is room: the cells behind are stored. -/
theorem append_room {t u ty e : TypeId} {i : TypeInfo} (ht : P.underlying t = some (.slice e)) (hu : okSrc P u) (hi : P.info? e = some i) {B o n cap : Nat} {x : Value} {m : Nat} {vs : List Value}
    (hl : (Builtin.lenOf x).run P w = .ok m w) (hf : (Builtin.firstCells i.size m x).run P w = .ok vs.toArray w) (hroom : n + m ≤ cap) {w' : World}
    (hst : (storeCells ⟨B, o + n * i.size, none⟩ vs).run P w = .ok () w') :
    (Builtin.append_ #[t, u] ty #[.slice (some ⟨B, o, none⟩) n cap, x]).run P w = .ok (.slice (some ⟨B, o, none⟩) (n + m) cap) w' := by
  obtain ⟨d, hd, hdi⟩ := hu
  have hm := isInt_no hdi
  simp only [Builtin.append_, List.getElem?_toArray, List.getElem?_cons_zero, List.getElem?_cons_succ, Sem.run_bind, run_underlying ht, Result.andThen_ok, sizeOf, typeInfo, run_program, hi, Sem.run_pure, run_underlying hd, hm, Bool.false_eq_true, if_false, hl, Sem.run_ite, hroom, if_true,
    Bool.not_false, hf, Addr.add_mid, hst]

/-- append, where there is none: a new row. -/
theorem append_grow {t u ty e : TypeId} {i : TypeInfo} {zv : Value} (ht : P.underlying t = some (.slice e)) (hu : okSrc P u) (hi : P.info? e = some i) (hz : i.zero = some zv) {base : Option Addr} {n cap : Nat} {x : Value} {m : Nat} {vs olds : List Value}
    (hl : (Builtin.lenOf x).run P w = .ok m w) (hf : (Builtin.firstCells i.size m x).run P w.drew = .ok vs.toArray w.drew) (ho : (Builtin.firstCells i.size n (.slice base n cap)).run P w.drew = .ok olds.toArray w.drew)
    (hg : cap < n + m) (hfit : (n + m) * (i.bytes + 1) ≤ 70368744177664) :
    (Builtin.append_ #[t, u] ty #[.slice base n cap, x]).run P w = .ok (.slice (some ⟨w.heap.size, 0, none⟩) (n + m) (grownCap w (n + m) cap e))
      (w.drew.alloc (.cells ((olds ++ vs).toArray ++ Builtin.zeroCells zv.cells (grownCap w (n + m) cap e - (n + m))) e)) := by
  obtain ⟨d, hd, hdi⟩ := hu
  have hm := isInt_no hdi
  have e1 : (n + m) * (i.bytes + 1) = (n + m) * i.bytes + (n + m) := by rw [Nat.mul_add, Nat.mul_one]
  have hn : ¬ (n + m ≤ cap) := by omega
  have h63' : ¬ (9223372036854775807 < ((n : Int) + (m : Int))) := by omega
  have h48' : ¬ (281474976710656 < Builtin.nextslicecap (n + m) cap * i.bytes) := by
    have := growslice_fits (bytes := i.bytes) hg (by omega)
    omega
  simp [Builtin.append_, run_underlying ht, run_underlying hd, hm, sizeOf, typeInfo, zeroValue, hi, hz, hl, hn, h63', h48', Question.forced, hf, ho, newRow, grownCap]
  congr 2
  apply Array.ext'
  simp [List.append_assoc]

/-- A row that append has made. -/
theorem grown_ok (h : HRel P g μ H w) (e : TypeId) {i : TypeInfo} {zv : Value} (hi : P.info? e = some i) (hi0 : 0 < i.size) (hz : zv.cells.size = i.size) {c : List AV} {xs : List Value} (hc : concs μ c = some xs) {n cap : Nat}
    (hn : xs.length = n * i.size) (hcap : n ≤ cap) (fz : Nat) (st : Bool) :
    HRel P g (upd μ H.length ⟨w.heap.size, 0, cap⟩) (H ++ [.cells c e (.op fz st)]) (w.alloc (.cells (xs.toArray ++ Builtin.zeroCells zv.cells (cap - n)) e)) := by
  have hsz : (xs.toArray ++ Builtin.zeroCells zv.cells (cap - n)).size = cap * i.size := by
    rw [Array.size_append, size_zeroCells, hz, List.size_toArray, hn, ← Nat.add_mul]
    congr 1
    omega
  refine h.new _ _ cap ⟨_, (0, 0), xs, heap_alloc_new w _, hc, ?_, ?_, ?_⟩
  · rw [hsz, ← concs_length hc, hn]
    simp only [Nat.zero_add]
    exact Nat.mul_le_mul_right _ hcap
  · intro j v hv
    simp only [Nat.zero_add]
    rw [Array.getElem?_append]
    have : j < xs.length := (List.getElem?_eq_some_iff.1 hv).1
    simpa [this] using hv
  · exact ⟨⟨i, hi, hi0, by simp [hsz]⟩, .inl (by simp)⟩

theorem zok_ok {e z : Nat} (h : zok P e z = true) : ∃ i zv, P.info? e = some i ∧ i.zero = some zv ∧ zv.cells.size = z := by
  unfold zok at h
  split at h
  · rename_i l hl
    unfold tzero at hl
    simp only [Option.bind_eq_some_iff] at hl
    obtain ⟨v, ⟨i, hi, hz⟩, hv⟩ := hl
    refine ⟨i, v, hi, hz, ?_⟩
    have := concs_length (concs_abs (fun _ => none) _ hv)
    simp only [beq_iff_eq] at h
    rw [← Array.length_toList, this, h]
  · cases h

theorem setRow_take {cc : Array Value} {base o : Nat} {vs us : List Value} {i : Nat} {v : Value} {xs : List Value} (hx : ∀ j v, us[j]? = some v → cc[base + j]? = some v) (hus : us.length = o) (hle : base + o ≤ cc.size) (hv : (us ++ vs)[i]? = some v) :
    ((cc.toList.take (base + o) ++ vs ++ xs).toArray)[base + i]? = some v := by
  rw [List.getElem?_toArray, List.append_assoc, List.getElem?_append]
  simp only [List.length_take, Array.length_toList]
  rw [Nat.min_eq_left hle]
  rw [List.getElem?_append, hus] at hv
  by_cases h1 : i < o
  · rw [if_pos h1] at hv
    rw [if_pos (by omega), List.getElem?_take, if_pos (by omega)]
    simpa using hx i v hv
  · rw [if_neg h1] at hv
    rw [if_neg (by omega), List.getElem?_append]
    have h2 : i - o < vs.length := (List.getElem?_eq_some_iff.1 hv).1
    rw [show base + i - (base + o) = i - o by omega, if_pos h2]
    exact hv

set_option maxHeartbeats 1000000 in
theorem append_ok (h : HRel P g μ H w) {t u ty : TypeId} {s x : AV} {s' x' : Value} {r : AV × Hp × Ef} (hr : evAppend P t s x H = some r) (hs : conc μ s = some s') (hx : conc μ x = some x') (hu : okSrc P u) :
    Yields P g μ H w (Builtin.append_ #[t, u] ty #[s', x']) r := by
  unfold evAppend at hr
  split at hr
  · rename_i e z by_ ht
    obtain ⟨un, inf, hinf, hsz, hby⟩ := tsh_slice ht
    subst hsz; subst hby
    split at hr
    · rename_i hz
      obtain ⟨i, zv, hi, hzv, hzs⟩ := zok_ok hz.2
      rw [hinf] at hi; cases hi
      simp only [Option.bind_eq_some_iff] at hr
      obtain ⟨a, ha, hr⟩ := hr
      obtain ⟨vs, hvs, hvl, hlen, hfirst⟩ := appended_ok h ha hx
      have hall : ∀ W : World, W.heap = w.heap → (Builtin.firstCells inf.size a.2 x').run P W = .ok vs.toArray W := by
        intro W hW
        have := hfirst a.2 (Nat.le_refl _) W hW
        rwa [← hvl, List.take_length] at this
      split at hr
      · -- nil
        cases hs
        split at hr
        · rename_i hm
          cases hr
          refine Yields.pure h ⟨.slice none 0 0, ?_, rfl⟩
          obtain ⟨d, hd, hdi⟩ := hu
          have hi' := isInt_no hdi
          have hw := hall w rfl
          rw [hm] at hw
          simp [Builtin.append_, run_underlying un, run_underlying hd, hi', sizeOf, typeInfo, hinf, hlen, hm, hw]
        · rename_i hm
          split at hr
          · rename_i hf
            cases hr
            simp only [fits, decide_eq_true_eq] at hf
            have hg := append_grow (w := w) (ty := ty) un hu hinf hzv (base := none) (n := 0) (cap := 0) (x := x') (m := a.2) (vs := vs) (olds := []) (hlen w) (hall _ rfl) (by simp [Builtin.firstCells]) (by omega) (by simpa using hf)
            simp only [List.nil_append, Nat.zero_add] at hg
            refine ⟨_, _, _, hg, h.le_upd _, grown_ok h.drew e hinf hz.1 hzs hvs hvl (grownCap_ge _ _ _ _) 0 false, ?_, by simp, Inv.snoc, upd_dom⟩
            simp [conc, upd_same]
          · cases hr
      · -- a known capacity
        rename_i bl o n c
        simp only [conc, Option.map_eq_some_iff] at hs
        obtain ⟨l, hl, rfl⟩ := hs
        split at hr
        · rename_i hroom
          simp only [Option.map_eq_some_iff] at hr
          obtain ⟨q, hq, rfl⟩ := hr
          obtain ⟨w', hst, hrel⟩ := h.wr hl hvs hq
          refine ⟨μ, _, w', append_room un hu hinf (hlen w) (hall w rfl) hroom (by rw [Nat.add_assoc]; exact hst), Le.refl μ, hrel, by simp [conc, hl], by rw [wr_len hq]; exact Nat.le_refl _, Inv.wr hq, fun _ _ => rfl⟩
        · rename_i hroom
          split at hr
          · rename_i hf
            simp only [Option.map_eq_some_iff] at hr
            obtain ⟨old, hold, rfl⟩ := hr
            simp only [fits, decide_eq_true_eq] at hf
            obtain ⟨us, hus, husl, husr⟩ := h.rd hl hold
            have hfo : (Builtin.firstCells inf.size n (.slice (some ⟨l.blk, l.base + o, none⟩) n c)).run P w.drew = .ok us.toArray w.drew := by
              refine run_firstCells_some (P := P) w.drew inf.size n _ n c us husl (fun j v hv => ?_)
              rw [Addr.add_mid]
              exact husr j v hv
            have hg := append_grow (w := w) (ty := ty) un hu hinf hzv (x := x') (m := a.2) (vs := vs) (hlen w) (hall _ rfl) hfo (by omega) hf
            refine ⟨_, _, _, hg, h.le_upd _, grown_ok h.drew e hinf hz.1 hzs (concs_append_some hus hvs) (by rw [List.length_append, husl, hvl, Nat.add_mul]) (grownCap_ge _ _ _ _) 0 false, ?_, by simp, Inv.snoc, upd_dom⟩
            simp [conc, upd_same]
          · cases hr
      · -- an unknown one
        rename_i bl o n k
        simp only [conc, Option.map_eq_some_iff] at hs
        obtain ⟨l, hl, rfl⟩ := hs
        split at hr
        · rename_i c e' fz st hblk
          split at hr
          · rename_i hc
            obtain ⟨rfl, rfl, hc3⟩ := hc
            obtain ⟨cc, fr, us, h1, h2, h3, h4, ⟨⟨i', hi', hi0, hcs⟩, hfr⟩⟩ := h.blk bl l _ hl hblk
            rw [hinf] at hi'; cases hi'
            have hulen := concs_length h2
            have hk : k ≤ l.cap := by
              have h5 : k * inf.size ≤ l.cap * inf.size := by omega
              exact Nat.le_of_mul_le_mul_right h5 hi0
            split at hr
            · rename_i hin
              simp only [Option.map_eq_some_iff] at hr
              obtain ⟨q, hq, rfl⟩ := hr
              obtain ⟨w', hst, hrel⟩ := h.wr hl hvs hq
              have hcap : n + a.2 ≤ l.cap - k := by
                have h5 : (k + (n + a.2)) * inf.size ≤ l.cap * inf.size := by rw [Nat.add_mul]; omega
                have := Nat.le_of_mul_le_mul_right h5 hi0
                omega
              refine ⟨μ, _, w', append_room un hu hinf (hlen w) (hall w rfl) hcap (by rw [Nat.add_assoc]; exact hst), Le.refl μ, hrel, by simp [conc, hl], by rw [wr_len hq]; exact Nat.le_refl _, Inv.wr hq, fun _ _ => rfl⟩
            · rename_i hin
              split at hr
              · rename_i hf
                obtain ⟨hf, hfz, hscal⟩ := hf
                cases hr
                simp only [fits, decide_eq_true_eq] at hf
                have holds : concs μ ((c.drop (k * inf.size)).take (n * inf.size)) = some ((us.drop (k * inf.size)).take (n * inf.size)) := concs_take (concs_drop h2 _) _
                have holdl : ((us.drop (k * inf.size)).take (n * inf.size)).length = n * inf.size := by
                  rw [List.length_take, List.length_drop]; omega
                have hcells : ∀ (j : Nat) (v : Value), ((us.drop (k * inf.size)).take (n * inf.size))[j]? = some v → cc[l.base + k * inf.size + j]? = some v := by
                  intro j v hv
                  rw [List.getElem?_take] at hv
                  split at hv
                  · rw [List.getElem?_drop] at hv
                    rw [Nat.add_assoc]
                    exact h4 _ v hv
                  · cases hv
                have hkill : HRel P g μ (H.set bl .dead) w := h.kill bl rfl rfl (fun _ => trivial)
                have hlenset : (H.set bl ABlk.dead).length = H.length := by simp
                by_cases hcap : n + a.2 ≤ l.cap - k
                · -- in place
                  have hst := run_storeRow P l.blk (l.base + (k * inf.size + n * inf.size)) e' fr vs 0 cc w h1 (fun j hj1 hj2 => by
                    rcases hfr with hfr | ⟨_, hfr⟩
                    · omega
                    · have h6 : (k + (n + a.2)) * inf.size ≤ l.cap * inf.size := Nat.mul_le_mul_right _ (by omega)
                      rw [Nat.add_mul, Nat.add_mul] at h6
                      rw [hfr]; simp only; omega) (by
                    have h6 : (k + (n + a.2)) * inf.size ≤ l.cap * inf.size := Nat.mul_le_mul_right _ (by omega)
                    rw [Nat.add_mul, Nat.add_mul] at h6
                    omega) (scals_one hvs hscal)
                  have hno : ∀ b m y, μ b = some m → (H.set bl ABlk.dead)[b]? = some y → live y = true → m.blk ≠ l.blk := by
                    intro b m y hb hy hly heq
                    rw [List.getElem?_set] at hy
                    split at hy
                    · split at hy
                      · cases hy; cases hly
                      · cases hy
                    · rename_i hne
                      exact h.sep bl b l m _ y hne hl hb hblk hy rfl hly heq.symm
                  have hZ := h.own bl l _ hl hblk rfl
                  have htouch : HRel P g μ (H.set bl .dead) _ := hkill.touch (w' := w.setRow l.blk (List.take (l.base + (k * inf.size + n * inf.size) + 0) cc.toList ++ vs ++ List.drop (l.base + (k * inf.size + n * inf.size) + 0 + vs.length) cc.toList).toArray) hno hZ (fun j hj => setRow_other w _ j _ hj) (setRow_size _ _ _) rfl rfl rfl
                  have hnew := htouch.rename (l := ⟨l.blk, l.base + k * inf.size, l.cap - k⟩) (x := .cells ((c.drop (k * inf.size)).take (n * inf.size) ++ a.1) e' (.op (fz - k * inf.size) st)) (by rw [setRow_size]; exact h.lt bl l hl) hZ hno (by
                    refine ⟨_, fr, _, setRow_heap w l.blk cc _ e' fr h1, concs_append_some holds hvs, ?_, ?_, ?_⟩
                    · have h6 : (k + (n + a.2)) * inf.size ≤ l.cap * inf.size := Nat.mul_le_mul_right _ (by omega)
                      rw [Nat.add_mul, Nat.add_mul] at h6
                      have h7 : ((c.drop (k * inf.size)).take (n * inf.size) ++ a.1).length = n * inf.size + a.2 * inf.size := by
                        rw [← concs_length (concs_append_some holds hvs), List.length_append, holdl, hvl]
                      rw [h7]
                      simp only [List.size_toArray, List.length_append, List.length_take, List.length_drop, Array.length_toList]
                      omega
                    · intro j v hv
                      have := setRow_take (cc := cc) (base := l.base + k * inf.size) (o := n * inf.size) (vs := vs) (us := (us.drop (k * inf.size)).take (n * inf.size)) (i := j) (v := v) (xs := List.drop (l.base + (k * inf.size + n * inf.size) + 0 + vs.length) cc.toList) (fun j v hv => hcells j v hv) holdl (by omega) hv
                      rw [show l.base + (k * inf.size + n * inf.size) + 0 = l.base + k * inf.size + n * inf.size by omega] at *
                      exact this
                    · have h8 : (List.take (l.base + (k * inf.size + n * inf.size) + 0) cc.toList ++ vs ++ List.drop (l.base + (k * inf.size + n * inf.size) + 0 + vs.length) cc.toList).toArray.size = cc.size := by
                        have h6 : (k + (n + a.2)) * inf.size ≤ l.cap * inf.size := Nat.mul_le_mul_right _ (by omega)
                        rw [Nat.add_mul, Nat.add_mul] at h6
                        simp only [List.size_toArray, List.length_append, List.length_take, List.length_drop, Array.length_toList]
                        omega
                      rw [h8]
                      refine ⟨⟨inf, hinf, hi0, ?_⟩, ?_⟩
                      · have : l.cap * inf.size = k * inf.size + (l.cap - k) * inf.size := by rw [← Nat.add_mul]; congr 1; omega
                        simp only; omega
                      · rcases hfr with hfr | hfr
                        · left; simp only; omega
                        · exact .inr hfr)
                  rw [hlenset] at hnew
                  refine ⟨_, _, _, append_room un hu hinf (hlen w) (hall w rfl) hcap (by rw [Nat.add_assoc]; exact hst), h.le_upd _, hnew, ?_, by simp, ?_, upd_dom⟩
                  · simp [conc, upd_same]
                  · have := (Inv.set (n := H.length) (e := ⟨none, some bl⟩) hblk (y := .dead) (.inr (by simp [cont])) rfl).trans (Inv.snoc (H := H.set bl .dead) (x := .cells ((c.drop (k * inf.size)).take (n * inf.size) ++ a.1) e' (.op (fz - k * inf.size) st)) (e := z0)) (by simp)
                    exact this
                · -- a new row
                  have hfo : (Builtin.firstCells inf.size n (.slice (some ⟨l.blk, l.base + k * inf.size, none⟩) n (l.cap - k))).run P w.drew = .ok ((us.drop (k * inf.size)).take (n * inf.size)).toArray w.drew := by
                    refine run_firstCells_some (P := P) w.drew inf.size n _ n _ _ holdl (fun j v hv => ?_)
                    rw [Addr.add_mid]
                    have := hcells j v hv
                    have h1' : w.drew.heap[l.blk]? = some (.cells cc e' fr) := h1
                    simp only [World.cell?, h1', Option.isSome_none, Bool.false_eq_true, if_false]
                    exact this
                  have hg := append_grow (w := w) (ty := ty) un hu hinf hzv (x := x') (m := a.2) (vs := vs) (hlen w) (hall _ rfl) hfo (by omega) hf
                  have hgr := grown_ok hkill.drew e' hinf hz.1 hzs (concs_append_some holds hvs) (n := n + a.2) (by rw [List.length_append, holdl, hvl, Nat.add_mul]) (grownCap_ge w (n + a.2) (l.cap - k) e') (fz - k * inf.size) st
                  rw [hlenset] at hgr
                  refine ⟨_, _, _, hg, h.le_upd _, hgr, ?_, by simp, ?_, upd_dom⟩
                  · simp [conc, upd_same]
                  · have := (Inv.set (n := H.length) (e := ⟨none, some bl⟩) hblk (y := .dead) (.inr (by simp [cont])) rfl).trans (Inv.snoc (H := H.set bl .dead) (x := .cells ((c.drop (k * inf.size)).take (n * inf.size) ++ a.1) e' (.op (fz - k * inf.size) st)) (e := z0)) (by simp)
                    exact this
              · cases hr
          · cases hr
        · cases hr
      · cases hr
    · cases hr
  · cases hr
end

end Go.Proofs.YtgkpgpdkolpfkaaDoor.V
