/- The abstract heap of 'V' against a world: reading, storing, new blocks. No conditions. -/
import Derived.Test.YtgkpgpdkolpfkaaDoorVRel
namespace Go.Proofs.YtgkpgpdkolpfkaaDoor.V
open Go
set_option linter.unusedSimpArgs false
set_option linter.unusedVariables false

def KRel (P : Program) (l : Loc) (n sz : Nat) (e : TypeId) (fr : Nat × Nat) : Kd → Prop
  | .ro => True
  | .rw => l.base = 0 ∧ sz = n ∧ fr = (0, 0)
  | .op fz st => (∃ i, P.info? e = some i ∧ 0 < i.size ∧ sz = l.base + l.cap * i.size) ∧ (fr.2 ≤ l.base + fz ∨ (st = true ∧ fr = (sz, sz + 1)))

def Ex.code : Ex → Option Code
  | .normal => none
  | .exit id => some (.exit id)
  | .goto l => some (.goto l)
  | .ret => some .ret
def Md.st : Md → LoopState
  | .ready => .ready
  | .busy => .busy
  | .done _ => .done
def Md.pe : Md → Option Code
  | .done e => e.code
  | _ => none
def BRel (P : Program) (μ : Mu) (w : World) (l : Loc) : ABlk → Prop
  | .cells c e k => ∃ cc fr vs, w.heap[l.blk]? = some (.cells cc e fr) ∧ concs μ c = some vs ∧ l.base + c.length ≤ cc.size ∧
      (∀ (i : Nat) (v : Value), vs[i]? = some v → cc[l.base + i]? = some v) ∧ KRel P l c.length cc.size e fr k
  | .map es => ∃ ms ck, w.heap[l.blk]? = some (.map ms ck) ∧ concs μ (es.map (·.1)) = some (ms.toList.map (·.key)) ∧ concs μ (es.map (·.2)) = some (ms.toList.map (·.val))
  | .iter s p => w.heap[l.blk]? = some (.stringIter ⟨s.toArray⟩ p) ∧ l.base = 0
  | .ghost => True
  | .dead => True
  | .void => True
  | .loop σ ps as bd md => ∃ r : Loop, w.heap[l.blk]? = some (.loop r) ∧ concs μ σ = some r.tmps.toList ∧ r.params = ps.toArray ∧ r.assign = as ∧ r.body = bd ∧ r.state = md.st ∧ r.pending = md.pe

def wrt : ABlk → Bool
  | .cells _ _ .ro => false
  | .cells _ _ _ => true
  | .map _ => true
  | .iter _ _ => true
  | .loop _ _ _ _ .busy => false
  | .loop _ _ _ _ _ => true
  | _ => false
def isLoop : ABlk → Bool
  | .loop _ _ _ _ _ => true
  | _ => false
/-- It shares its place with no other. -/
def apart (x : ABlk) : Bool := wrt x || isLoop x
theorem apart_w {x : ABlk} (h : wrt x = true) : apart x = true := by unfold apart; rw [h]; rfl
def live : ABlk → Bool
  | .cells _ _ _ => true
  | .map _ => true
  | .iter _ _ => true
  | .loop _ _ _ _ _ => true
  | _ => false

/-- What stays: the blocks Z, as they were in W; B: those that stayed when the function was entered. -/
structure Gh where
  Z : Nat → Prop
  W : World
  B : Nat → Prop
/-- A function is entered. -/
def Gh.base (g : Gh) : Gh := { g with B := g.Z }

structure HRel (P : Program) (g : Gh) (μ : Mu) (H : Hp) (w : World) : Prop where
  dom : ∀ b l, μ b = some l → b < H.length
  glob : ∀ i, i < P.globals.size → ∃ c, μ i = some ⟨i, 0, c⟩
  lt : ∀ b l, μ b = some l → l.blk < w.heap.size
  blk : ∀ b l x, μ b = some l → H[b]? = some x → BRel P μ w l x
  sep : ∀ b b' l l' x x', b ≠ b' → μ b = some l → μ b' = some l' → H[b]? = some x → H[b']? = some x' → apart x = true → live x' = true → l.blk ≠ l'.blk
  own : ∀ b l x, μ b = some l → H[b]? = some x → wrt x = true → ¬ g.Z l.blk
  old : ∀ k, g.Z k → k < w.heap.size ∧ w.heap[k]? = g.W.heap[k]?
  os : w.os = g.W.os
  tape : w.tape = g.W.tape
  output : w.output = g.W.output
  size : g.W.heap.size ≤ w.heap.size

theorem BRel.mono {P : Program} {μ μ' : Mu} {w w' : World} {l : Loc} {x : ABlk} (h : BRel P μ w l x) (hl : Le μ μ') (hw : live x = true → w'.heap[l.blk]? = w.heap[l.blk]?) : BRel P μ' w' l x := by
  cases x with
  | cells c e k =>
    obtain ⟨cc, fr, vs, h1, h2, h3, h4, h5⟩ := h
    exact ⟨cc, fr, vs, (hw rfl).trans h1, concs_le hl _ h2, h3, h4, h5⟩
  | map es =>
    obtain ⟨ms, ck, h1, h2, h3⟩ := h
    exact ⟨ms, ck, (hw rfl).trans h1, concs_le hl _ h2, concs_le hl _ h3⟩
  | iter s p => exact ⟨(hw rfl).trans h.1, h.2⟩
  | ghost => trivial
  | dead => trivial
  | void => trivial
  | loop σ ps as bd md =>
    obtain ⟨r, h1, h2, h3⟩ := h
    exact ⟨r, (hw rfl).trans h1, concs_le hl _ h2, h3⟩

/-- The heap is what counts. -/
theorem HRel.congr {P : Program} {g : Gh} {μ : Mu} {H : Hp} {w w' : World} (h : HRel P g μ H w) (hh : w'.heap = w.heap) (ho : w'.os = w.os) (ht : w'.tape = w.tape) (hp : w'.output = w.output) : HRel P g μ H w' where
  dom := h.dom
  glob := h.glob
  lt := fun b l e => by rw [hh]; exact h.lt b l e
  blk := fun b l x e e' => (h.blk b l x e e').mono (Le.refl μ) (fun _ => by rw [hh])
  sep := h.sep
  own := h.own
  old := fun k hk => by rw [hh]; exact h.old k hk
  os := ho.trans h.os
  tape := ht.trans h.tape
  output := hp.trans h.output
  size := by rw [hh]; exact h.size

theorem HRel.drew {P : Program} {g : Gh} {μ : Mu} {H : Hp} {w : World} (h : HRel P g μ H w) : HRel P g μ H w.drew := h.congr rfl rfl rfl rfl

/-- The mapping with one more. -/
def upd (μ : Mu) (b : Nat) (l : Loc) : Mu := fun x => if x = b then some l else μ x
theorem upd_same (μ : Mu) (b : Nat) (l : Loc) : upd μ b l b = some l := by simp [upd]
theorem upd_other (μ : Mu) {b x : Nat} (l : Loc) (h : x ≠ b) : upd μ b l x = μ x := by simp [upd, h]

theorem upd_dom {μ : Mu} {n : Nat} {l : Loc} : ∀ b, b < n → upd μ n l b = μ b := fun b hb => upd_other μ l (by omega)

theorem HRel.fresh {P : Program} {g : Gh} {μ : Mu} {H : Hp} {w : World} (h : HRel P g μ H w) : μ H.length = none := by
  cases e : μ H.length with
  | none => rfl
  | some l => exact absurd (h.dom _ _ e) (by omega)

theorem HRel.le_upd {P : Program} {g : Gh} {μ : Mu} {H : Hp} {w : World} (h : HRel P g μ H w) (l : Loc) : Le μ (upd μ H.length l) := by
  intro b l' e
  rw [upd_other]
  · exact e
  · rintro rfl
    rw [h.fresh] at e
    cases e

theorem get_snoc (H : Hp) (x : ABlk) (b : Nat) : (H ++ [x])[b]? = if b = H.length then some x else H[b]? := by
  by_cases h : b = H.length
  · subst h; simp
  · simp only [h, if_false]
    rcases Nat.lt_or_ge b H.length with hb | hb
    · rw [List.getElem?_append_left hb]
    · rw [List.getElem?_eq_none (by simp; omega), List.getElem?_eq_none hb]

/-- A new block. -/
theorem HRel.new {P : Program} {g : Gh} {μ : Mu} {H : Hp} {w : World} (h : HRel P g μ H w) (o : Obj) (x : ABlk) (cap : Nat)
    (hx : BRel P μ (w.alloc o) ⟨w.heap.size, 0, cap⟩ x) : HRel P g (upd μ H.length ⟨w.heap.size, 0, cap⟩) (H ++ [x]) (w.alloc o) where
  dom := fun b l e => by
    by_cases hb : b = H.length
    · subst hb; simp
    · rw [upd_other _ _ hb] at e
      have := h.dom b l e
      simp; omega
  glob := fun i hi => by
    obtain ⟨c, hc⟩ := h.glob i hi
    exact ⟨c, h.le_upd _ _ _ hc⟩
  lt := fun b l e => by
    by_cases hb : b = H.length
    · subst hb; rw [upd_same] at e; cases e; simp
    · rw [upd_other _ _ hb] at e
      have := h.lt b l e
      simp; omega
  blk := fun b l y e e' => by
    rw [get_snoc] at e'
    by_cases hb : b = H.length
    · subst hb
      rw [upd_same] at e
      rw [if_pos rfl] at e'
      cases e; cases e'
      exact hx.mono (h.le_upd _) (fun _ => rfl)
    · rw [upd_other _ _ hb] at e
      rw [if_neg hb] at e'
      exact (h.blk b l y e e').mono (h.le_upd _) (fun _ => by
        have := h.lt b l e
        exact Go.RowKit.Below.heap_alloc w o _ this)
  sep := fun b b' l l' y y' hne e e' f f' hw hl => by
    rw [get_snoc] at f f'
    by_cases hb : b = H.length <;> by_cases hb' : b' = H.length
    · omega
    · subst hb
      rw [upd_same] at e; cases e
      rw [upd_other _ _ hb'] at e'
      have := h.lt _ _ e'
      simp only; omega
    · subst hb'
      rw [upd_same] at e'; cases e'
      rw [upd_other _ _ hb] at e
      have := h.lt _ _ e
      simp only; omega
    · rw [upd_other _ _ hb] at e
      rw [upd_other _ _ hb'] at e'
      rw [if_neg hb] at f
      rw [if_neg hb'] at f'
      exact h.sep b b' l l' y y' hne e e' f f' hw hl
  own := fun b l y e f hw => by
    rw [get_snoc] at f
    by_cases hb : b = H.length
    · subst hb
      rw [upd_same] at e; cases e
      intro hz
      have := (h.old _ hz).1
      simp only at this
      omega
    · rw [upd_other _ _ hb] at e
      rw [if_neg hb] at f
      exact h.own b l y e f hw
  old := fun k hk => by
    have := h.old k hk
    exact ⟨by simp; omega, (Go.RowKit.Below.heap_alloc w o k this.1).trans this.2⟩
  os := h.os
  tape := h.tape
  output := h.output
  size := by have := h.size; simp; omega

/-- A block is changed in place, here and there. -/
theorem HRel.change' {P : Program} {g : Gh} {μ : Mu} {H : Hp} {w w' : World} (h : HRel P g μ H w) {b : Nat} {l : Loc} {x x' : ABlk} (hb : μ b = some l) (hx : H[b]? = some x) (hw : apart x = true) (hlx : live x = true) (hnz : ¬ g.Z l.blk)
    (hh : ∀ k, k ≠ l.blk → w'.heap[k]? = w.heap[k]?) (hs : w'.heap.size = w.heap.size) (ho : w'.os = w.os) (ht : w'.tape = w.tape) (hp : w'.output = w.output)
    (hx' : BRel P μ w' l x') : HRel P g μ (H.set b x') w' := by
  have hget : ∀ c, (H.set b x')[c]? = if c = b then some x' else H[c]? := by
    intro c
    have hlt : b < H.length := (List.getElem?_eq_some_iff.1 hx).1
    rw [List.getElem?_set]
    by_cases hc : b = c
    · subst hc; simp [hlt]
    · rw [if_neg hc, if_neg (fun e => hc e.symm)]
  exact {
    dom := fun c m e => by simpa using h.dom c m e
    glob := h.glob
    lt := fun c m e => by rw [hs]; exact h.lt c m e
    blk := fun c m y e f => by
      rw [hget] at f
      by_cases hc : c = b
      · subst hc
        rw [if_pos rfl] at f
        cases f
        rw [hb] at e; cases e
        exact hx'
      · rw [if_neg hc] at f
        exact (h.blk c m y e f).mono (Le.refl μ) (fun hl => hh _ (fun eq => h.sep b c l m x y (fun z => hc z.symm) hb e hx f hw hl eq.symm))
    sep := fun c c' m m' y y' hne e e' f f' hwy hly => by
      rw [hget] at f f'
      by_cases hc : c = b <;> by_cases hc' : c' = b
      · omega
      · subst hc
        rw [if_neg hc'] at f'
        rw [hb] at e; cases e
        exact h.sep c c' l m' x y' hne hb e' hx f' hw hly
      · subst hc'
        rw [if_neg hc] at f
        rw [hb] at e'; cases e'
        exact h.sep c c' m l y x hne e hb f hx hwy hlx
      · rw [if_neg hc] at f
        rw [if_neg hc'] at f'
        exact h.sep c c' m m' y y' hne e e' f f' hwy hly
    own := fun c m y e f hwy => by
      rw [hget] at f
      by_cases hc : c = b
      · subst hc
        rw [hb] at e; cases e
        exact hnz
      · rw [if_neg hc] at f
        exact h.own c m y e f hwy
    old := fun k hk => by
      have := h.old k hk
      have hne : k ≠ l.blk := fun e => hnz (e ▸ hk)
      exact ⟨by rw [hs]; exact this.1, (hh k hne).trans this.2⟩
    os := ho.trans h.os
    tape := ht.trans h.tape
    output := hp.trans h.output
    size := by rw [hs]; exact h.size }

theorem HRel.change {P : Program} {g : Gh} {μ : Mu} {H : Hp} {w w' : World} (h : HRel P g μ H w) {b : Nat} {l : Loc} {x x' : ABlk} (hb : μ b = some l) (hx : H[b]? = some x) (hw : wrt x = true)
    (hh : ∀ k, k ≠ l.blk → w'.heap[k]? = w.heap[k]?) (hs : w'.heap.size = w.heap.size) (ho : w'.os = w.os) (ht : w'.tape = w.tape) (hp : w'.output = w.output)
    (hx' : BRel P μ w' l x') : HRel P g μ (H.set b x') w' :=
  h.change' hb hx (apart_w hw) (by cases x <;> simp [wrt] at hw <;> rfl) (h.own b l x hb hx hw) hh hs ho ht hp hx'

theorem isLoop_of_dead {x : ABlk} (h : live x = false) : isLoop x = false := by cases x <;> first | rfl | cases h
/-- A block is given up. -/
theorem HRel.kill {P : Program} {g : Gh} {μ : Mu} {H : Hp} {w : World} (h : HRel P g μ H w) (b : Nat) {x : ABlk} (hx : live x = false) (hx2 : wrt x = false) (hx3 : ∀ l, BRel P μ w l x) : HRel P g μ (H.set b x) w where
  dom := fun c m e => by simpa using h.dom c m e
  glob := h.glob
  lt := h.lt
  blk := fun c m y e f => by
    rw [List.getElem?_set] at f
    split at f
    · split at f
      · cases f; exact hx3 m
      · cases f
    · exact h.blk c m y e f
  sep := fun c c' m m' y y' hne e e' f f' hwy hly => by
    rw [List.getElem?_set] at f f'
    split at f
    · split at f
      · cases f; simp [apart, hx2, isLoop_of_dead hx] at hwy
      · cases f
    · split at f'
      · split at f'
        · cases f'; rw [hx] at hly; cases hly
        · cases f'
      · exact h.sep c c' m m' y y' hne e e' f f' hwy hly
  own := fun c m y e f hwy => by
    rw [List.getElem?_set] at f
    split at f
    · split at f
      · cases f; rw [hx2] at hwy; cases hwy
      · cases f
    · exact h.own c m y e f hwy
  old := h.old
  os := h.os
  tape := h.tape
  output := h.output
  size := h.size

/-- A second name for (a part of) a block that nobody live names any more. -/
theorem HRel.rename {P : Program} {g : Gh} {μ : Mu} {H : Hp} {w : World} (h : HRel P g μ H w) {l : Loc} {x : ABlk} (hlt : l.blk < w.heap.size) (hz : ¬ g.Z l.blk)
    (hno : ∀ b m y, μ b = some m → H[b]? = some y → live y = true → m.blk ≠ l.blk) (hx : BRel P μ w l x) : HRel P g (upd μ H.length l) (H ++ [x]) w where
  dom := fun b m e => by
    by_cases hb : b = H.length
    · subst hb; simp
    · rw [upd_other _ _ hb] at e
      have := h.dom b m e
      simp; omega
  glob := fun i hi => by
    obtain ⟨c, hc⟩ := h.glob i hi
    exact ⟨c, h.le_upd _ _ _ hc⟩
  lt := fun b m e => by
    by_cases hb : b = H.length
    · subst hb; rw [upd_same] at e; cases e; exact hlt
    · rw [upd_other _ _ hb] at e
      exact h.lt b m e
  blk := fun b m y e e' => by
    rw [get_snoc] at e'
    by_cases hb : b = H.length
    · subst hb
      rw [upd_same] at e
      rw [if_pos rfl] at e'
      cases e; cases e'
      exact hx.mono (h.le_upd _) (fun _ => rfl)
    · rw [upd_other _ _ hb] at e
      rw [if_neg hb] at e'
      exact (h.blk b m y e e').mono (h.le_upd _) (fun _ => rfl)
  sep := fun b b' m m' y y' hne e e' f f' hw hl => by
    rw [get_snoc] at f f'
    by_cases hb : b = H.length <;> by_cases hb' : b' = H.length
    · omega
    · subst hb
      rw [upd_same] at e; cases e
      rw [upd_other _ _ hb'] at e'
      rw [if_neg hb'] at f'
      exact (hno b' m' y' e' f' hl).symm
    · subst hb'
      rw [upd_same] at e'; cases e'
      rw [upd_other _ _ hb] at e
      rw [if_neg hb] at f
      exact hno b m y e f (by cases y <;> simp [apart, wrt, isLoop] at hw <;> rfl)
    · rw [upd_other _ _ hb] at e
      rw [upd_other _ _ hb'] at e'
      rw [if_neg hb] at f
      rw [if_neg hb'] at f'
      exact h.sep b b' m m' y y' hne e e' f f' hw hl
  own := fun b m y e f hw => by
    rw [get_snoc] at f
    by_cases hb : b = H.length
    · subst hb
      rw [upd_same] at e; cases e
      exact hz
    · rw [upd_other _ _ hb] at e
      rw [if_neg hb] at f
      exact h.own b m y e f hw
  old := h.old
  os := h.os
  tape := h.tape
  output := h.output
  size := h.size

/-! ### reading -/
theorem HRel.rd {P : Program} {g : Gh} {μ : Mu} {H : Hp} {w : World} (h : HRel P g μ H w) {b o n : Nat} {l : Loc} {c : List AV} (hb : μ b = some l) (hr : rd H b o n = some c) :
    ∃ vs, concs μ c = some vs ∧ vs.length = n ∧ w.rangeAt l.blk (l.base + o) vs := by
  unfold V.rd at hr
  split at hr
  · rename_i cs e k hx
    split at hr
    · rename_i hle
      cases hr
      obtain ⟨cc, fr, vs, h1, h2, h3, h4, h5⟩ := h.blk b l _ hb hx
      have hlen := concs_length h2
      refine ⟨(vs.drop o).take n, concs_take (concs_drop h2 o) n, by simp; omega, ?_⟩
      intro j v hv
      rw [List.getElem?_take] at hv
      split at hv
      · rw [List.getElem?_drop] at hv
        have := h4 (o + j) v hv
        simp only [World.cell?, h1, Option.isSome_none, Bool.false_eq_true, if_false]
        rw [Nat.add_assoc]; exact this
      · cases hv
    · cases hr
  · split at hr
    · rename_i hn
      cases hr
      exact ⟨[], rfl, hn.symm, fun j v hv => by cases hv⟩
    · cases hr
  · cases hr

theorem rd_len {H : Hp} {b o n : Nat} {c : List AV} (hr : rd H b o n = some c) : c.length = n := by
  unfold V.rd at hr
  split at hr
  · split at hr
    · cases hr; simp; omega
    · cases hr
  · split at hr
    · rename_i hn; cases hr; exact hn.symm
    · cases hr
  · cases hr

/-- A name for what holds nothing. -/
theorem HRel.void {P : Program} {g : Gh} {μ : Mu} {H : Hp} {w : World} (h : HRel P g μ H w) {l : Loc} (hl : l.blk < w.heap.size) : HRel P g (upd μ H.length l) (H ++ [.void]) w where
  dom := fun b m e => by
    by_cases hb : b = H.length
    · subst hb; simp
    · rw [upd_other _ _ hb] at e
      have := h.dom b m e
      simp; omega
  glob := fun i hi => by
    obtain ⟨c, hc⟩ := h.glob i hi
    exact ⟨c, h.le_upd _ _ _ hc⟩
  lt := fun b m e => by
    by_cases hb : b = H.length
    · subst hb; rw [upd_same] at e; cases e; exact hl
    · rw [upd_other _ _ hb] at e; exact h.lt b m e
  blk := fun b m x e e' => by
    rw [get_snoc] at e'
    by_cases hb : b = H.length
    · rw [if_pos hb] at e'; cases e'; trivial
    · rw [upd_other _ _ hb] at e
      rw [if_neg hb] at e'
      exact (h.blk b m x e e').mono (h.le_upd _) (fun _ => rfl)
  sep := fun b b' l1 l2 x x' hne e1 e2 hx1 hx2 hw hv => by
    rw [get_snoc] at hx1 hx2
    by_cases hb : b = H.length
    · rw [if_pos hb] at hx1; cases hx1; cases hw
    · by_cases hb' : b' = H.length
      · rw [if_pos hb'] at hx2; cases hx2; cases hv
      · rw [if_neg hb] at hx1; rw [if_neg hb'] at hx2
        rw [upd_other _ _ hb] at e1; rw [upd_other _ _ hb'] at e2
        exact h.sep b b' l1 l2 x x' hne e1 e2 hx1 hx2 hw hv
  own := fun b l1 x e1 hx1 hw => by
    rw [get_snoc] at hx1
    by_cases hb : b = H.length
    · rw [if_pos hb] at hx1; cases hx1; cases hw
    · rw [if_neg hb] at hx1; rw [upd_other _ _ hb] at e1
      exact h.own b l1 x e1 hx1 hw
  old := h.old
  os := h.os
  tape := h.tape
  output := h.output
  size := h.size

/-! ### storing -/
/-- A row of cells is stored into a row none of whose written cells is frozen. -/
theorem run_storeRow (P : Program) (B o : Nat) (t : TypeId) (fz : Nat × Nat) : ∀ (vs : List Value) (i : Nat) (cur : Array Value) (w : World), w.heap[B]? = some (.cells cur t fz) → (∀ j, o + i ≤ j → j < o + i + vs.length → ¬ (fz.1 ≤ j ∧ j < fz.2)) → o + i + vs.length ≤ cur.size → (∀ v ∈ vs, v.oneCell' = true) →
    (storeCells ⟨B, o, none⟩ vs i).run P w = .ok () (w.setRow B (cur.toList.take (o + i) ++ vs ++ cur.toList.drop (o + i + vs.length)).toArray)
  | [], i, cur, w, hg, _, _, _ => by
    simp only [storeCells, List.append_nil, List.length_nil, Nat.add_zero, List.take_append_drop, Array.toArray_toList]
    rw [setRow_self w B cur t fz hg]
    rfl
  | v :: rest, i, cur, w, hg, hfz, hl, h1 => by
    have hi : o + i < cur.size := by simp at hl; omega
    have hadd : (⟨B, o, none⟩ : Addr).add i = ⟨B, o + i, none⟩ := by unfold Addr.add; split <;> simp_all
    have hcell : w.cell? ⟨B, o + i, none⟩ = some cur[o + i] := by simp [World.cell?, hg, hi]
    have hfro : w.frozen? ⟨B, o + i, none⟩ = false := by
      have := hfz (o + i) (by omega) (by simp)
      obtain ⟨lo, hi'⟩ := fz
      simp only [World.frozen?, hg]
      simp only at this
      rw [← Bool.not_eq_true]
      intro hc
      simp at hc
      exact this hc
    have hst : (store ((⟨B, o, none⟩ : Addr).add i) v).run P w = .ok () (w.setRow B (cur.setIfInBounds (o + i) v)) := by
      rw [hadd, run_store P w _ v _ (h1 v (by simp)), hcell]
      simp [hfro, setCell_eq_setRow w B (o + i) cur t fz v hg]
    have ih := run_storeRow P B o t fz rest (i + 1) (cur.setIfInBounds (o + i) v) (w.setRow B (cur.setIfInBounds (o + i) v)) (setRow_heap w B cur _ t _ hg) (fun j h1 h2 => hfz j (by omega) (by simp; omega)) (by simp at hl ⊢; omega) (fun x hx => h1 x (by simp [hx]))
    simp only [storeCells, Sem.run_bind, hst, Result.andThen_ok, ih, setRow_setRow]
    congr 3
    have e := list_seg_step cur.toList (o + i) v rest (by simp at hl ⊢; omega)
    simpa [Array.toList_setIfInBounds, Nat.add_assoc] using e

theorem HRel.wr {P : Program} {g : Gh} {μ : Mu} {H H' : Hp} {w : World} {es : Ef} (h : HRel P g μ H w) {b o : Nat} {l : Loc} {xs : List AV} {vs : List Value} (hb : μ b = some l) (hx : concs μ xs = some vs) (hr : wr H b o xs = some (H', es)) :
    ∃ w', (storeCells ⟨l.blk, l.base + o, none⟩ vs).run P w = .ok () w' ∧ HRel P g μ H' w' := by
  unfold V.wr at hr
  split at hr
  · rename_i c e k hbk
    split at hr
    · rename_i hc
      obtain ⟨hc1, hc2, hc3⟩ := hc
      simp only [Option.some.injEq, Prod.mk.injEq] at hr
      obtain ⟨rfl, rfl⟩ := hr
      obtain ⟨cc, fr, us, h1, h2, h3, h4, h5⟩ := h.blk b l _ hb hbk
      have hlen := concs_length h2
      have hlx := concs_length hx
      have hst := run_storeRow P l.blk (l.base + o) e fr vs 0 cc w h1 (fun j hj1 hj2 => by
          cases k with
          | ro => simp [canWr] at hc2
          | rw =>
            obtain ⟨_, _, hfr⟩ := h5
            rw [hfr]; simp
          | op fz st =>
            simp only [canWr, decide_eq_true_eq] at hc2
            rcases h5.2 with hf | ⟨_, hf⟩
            · omega
            · rw [hf]; simp only; omega) (by omega) (scals_one hx hc3)
      refine ⟨_, hst, h.change hb hbk ?_ (fun k hk => setRow_other w _ k _ hk) (setRow_size _ _ _) rfl rfl rfl ?_⟩
      · cases k with
        | ro => simp [canWr] at hc2
        | rw => rfl
        | op fz st => rfl
      · refine ⟨_, fr, _, setRow_heap w l.blk cc _ e fr h1, concs_splice h2 hx o, ?_, ?_, ?_⟩
        · simp only [splice, List.size_toArray, List.length_append, List.length_take, List.length_drop, Array.length_toList]
          omega
        · intro i v hv
          simp only [Nat.add_zero]
          rw [List.getElem?_toArray]
          rw [List.append_assoc, List.getElem?_append] at hv
          rw [List.append_assoc, List.getElem?_append]
          simp only [List.length_take, Array.length_toList] at hv ⊢
          have e1 : min (l.base + o) cc.size = l.base + o := by omega
          have e2 : min o us.length = o := by omega
          rw [e1]; rw [e2] at hv
          by_cases hio : i < o
          · rw [if_pos hio, List.getElem?_take, if_pos hio] at hv
            rw [if_pos (by omega), List.getElem?_take, if_pos (by omega)]
            simpa using h4 i v hv
          · rw [if_neg hio, List.getElem?_append] at hv
            rw [if_neg (by omega), List.getElem?_append]
            have e3 : l.base + i - (l.base + o) = i - o := by omega
            rw [e3]
            by_cases hiv : i - o < vs.length
            · rw [if_pos hiv] at hv
              rw [if_pos hiv]
              exact hv
            · rw [if_neg hiv, List.getElem?_drop] at hv
              rw [if_neg hiv, List.getElem?_drop]
              have e4 : l.base + o + vs.length + (i - o - vs.length) = l.base + i := by omega
              have e5 : o + vs.length + (i - o - vs.length) = i := by omega
              rw [e4]; rw [e5] at hv
              simpa using h4 i v hv
        · have hsl : (splice c o xs).length = c.length := by
            simp only [splice, List.length_append, List.length_take, List.length_drop]
            omega
          rw [hsl]
          have hsz : (List.take (l.base + o + 0) cc.toList ++ vs ++ List.drop (l.base + o + 0 + vs.length) cc.toList).toArray.size = cc.size := by
            simp only [List.size_toArray, List.length_append, List.length_take, List.length_drop, Array.length_toList]
            omega
          rw [hsz]
          exact h5
    · cases hr
  · cases hr

end Go.Proofs.YtgkpgpdkolpfkaaDoor.V
