/- An operation of 'V' in whatever frame: a function's, a round's. No conditions. -/
import Derived.Test.YtgkpgpdkolpfkaaDoorVOp
namespace Go.Proofs.YtgkpgpdkolpfkaaDoor.V
open Go
set_option linter.unusedSimpArgs false
set_option linter.unusedVariables false

/-- The wide fence, in a round or in none. -/
def Fr (ro : Option Nat) : Fence := { Fence.wide with round := ro }
theorem Fr_none : Fr none = Fence.wide := rfl
theorem Fr_fn (ro : Option Nat) (f : FuncId) : (Fr ro).fn f := trivial
theorem callsIn_fr {ro : Option Nat} {n : Nat} {P : Program} {f : FuncId} {args : Array Value} {w : World} {R : Ending → World → Prop} (h : Calls P f args w R) : CallsIn (Fr ro) n P f args w R :=
  (callsIn_wide (n := n)).2 h
theorem rowsIn_fr {ro : Option Nat} {n : Nat} {P : Program} {row : String} {args : Array Value} {w : World} {R : Value → World → Prop} (h : Rows P row args w R) : RowsIn (Fr ro) n P row args w R := by
  intro c cs _
  obtain ⟨v, w', r, s⟩ := h c cs
  exact ⟨v, w', r, stepsIn_wide.2 s⟩

theorem evOp_nodefer {P : Program} {C : CallO} {σ : List AV} {H : Hp} {op : Op} {q : AV × Hp × Ef} (h : evOp P C σ H op = some q) : ∀ c, op ≠ .defer c := by
  rintro c rfl
  simp [evOp] at h

theorem wpIn_of_wp {ro : Option Nat} {n : Nat} {P : Program} {o : Oper} {a : Act} {w : World} {K : Act → World → Prop} {Q : Exit → Act → World → Prop} (hd : ∀ c, o.op ≠ .defer c) (h : o.wp P a w K Q) : o.wpIn (Fr ro) n P a w K Q := by
  refine ⟨fun f _ => trivial, ?_⟩
  rw [Oper.semAt_eq _ _ _ hd]
  unfold Oper.wp at h
  generalize (execOp a.eval o).run P w = r at h
  cases r with
  | ok x w' =>
    cases x <;> simp only [Oper.upon] at h <;> simp only [Oper.uponIn] <;>
      first
        | exact h
        | exact ⟨fun h => by simp [Fr, Fence.wide] at h, callsIn_fr h⟩
        | exact ⟨fun h => by simp [Fr, Fence.wide] at h, rowsIn_fr h⟩
        | exact h.elim
  | halt x w' => cases x <;> simp only [Oper.upon] at h <;> simp only [Oper.uponIn] <;> first | exact h | exact h.elim

section
variable {P : Program} {g : Gh} {μ : Mu} {H : Hp} {w : World} {a : Act} {σ : List AV} {C : CallO}

/-- What an operation owes, in whatever frame. -/
def OwesIn (P : Program) (g : Gh) (μ : Mu) (H : Hp) (w : World) (a : Act) (o : Oper) (r : AV × Hp × Ef) : Prop :=
  ∀ ro n K Q, (∀ μ' v' w', Ok P g μ H r μ' v' w' → K (a.put o.dst v') w') → o.wpIn (Fr ro) n P a w K Q

theorem op_in (hC : CallsOk P C) (h : HRel P g μ H w) (hσ : concs μ σ = some a.tmps.toList) {o : Oper} {r : AV × Hp × Ef} (hr : evOp P C σ H o.op = some r) : OwesIn P g μ H w a o r := by
  intro ro n K Q hK
  have hd := evOp_nodefer hr
  cases hy : isYl P σ o.op with
  | false => exact wpIn_of_wp hd (op_ok hC h hσ hy hr K Q hK)
  | true =>
    unfold isYl at hy
    split at hy
    · rename_i c ho
      split at hy
      · rename_i f hcal
        split at hy
        · rename_i b hf
          rw [ho] at hr
          simp only [evOp, evCall, hcal, hf, Option.bind_some, Option.bind_eq_some_iff] at hr
          obtain ⟨as, has, hr⟩ := hr
          have hfc := arg_ok h hσ hf
          have hac := args_ok h hσ has
          simp only [conc, Option.map_eq_some_iff] at hfc
          obtain ⟨l, hl, hev⟩ := hfc
          obtain ⟨rec, hrec, hlen, hround⟩ := hC.yl b as H r hr g μ w _ l h hac hl
          refine ⟨fun f _ => trivial, ?_⟩
          rw [Oper.semAt_eq _ _ _ hd]
          have hrun : (execOp a.eval o).run P w = .ok (.round l.blk rec.fn ((rec.params.zip (c.args.toList.map a.eval).toArray).foldl (fun t (p, v) => t.setIfInBounds p v) rec.tmps) rec.assign rec.body) w := by
            unfold execOp
            simp only [ho, resolve, hcal, Deferred.ofValue, ← hev, Sem.run_bind, Sem.run_pure, Result.andThen_ok, invoke]
            have hy := run_yield (P := P) (args := (c.args.toList.map a.eval).toArray) hrec (by simpa using hlen)
            rw [← hy]
            congr 2
            apply Array.ext'
            simp
          rw [hrun]
          simp only [Oper.uponIn]
          refine ⟨fun h => by simp [Fr, Fence.wide] at h, ?_⟩
          have := hround (n - 1)
          refine RoundIn.mono (F := Fr ro) this ?_
          rintro e w' ⟨μ', v', rfl, hok⟩
          exact hK _ _ _ hok
        · cases hy
      · cases hy
    · cases hy
end

theorem OwesIn.ex {P : Program} {g : Gh} {μ : Mu} {H : Hp} {w : World} {a : Act} {o : Oper} {r : AV × Hp × Ef} (h : OwesIn P g μ H w a o r) : ∃ μ' v' w', Ok P g μ H r μ' v' w' := by
  have hw := h none 0 (fun _ _ => ∃ μ' v' w', Ok P g μ H r μ' v' w') (fun _ _ _ => False) (fun μ' v' w' hok => ⟨μ', v', w', hok⟩)
  have hw := hw.2
  generalize (o.semAt (Fr none).round a.eval).run P w = q at hw
  cases q with
  | ok x w1 =>
    cases x <;> simp only [Oper.uponIn] at hw
    all_goals first
      | exact hw
      | exact hw.elim
      | (obtain ⟨_, hw⟩ := hw
         obtain ⟨e, w', fr, hR, _⟩ := hw.2 [] (room_wide _)
         cases e with
         | returned v => exact hR
         | panicked ch => exact hR.elim
         | outgrown => obtain ⟨_, _, hf⟩ := hR; exact hf.elim)
      | (obtain ⟨_, hw⟩ := hw
         obtain ⟨v, w', hR, _⟩ := hw default [] (room_wide _)
         exact hR)
      | (obtain ⟨_, hw⟩ := hw
         obtain ⟨e, w', hR, _⟩ := hw.2 default [] (room_wide _)
         cases e with
         | returned v => exact hR
         | panicked ch => exact hR.elim
         | outgrown => obtain ⟨_, _, hf⟩ := hR; exact hf.elim)
  | halt x w1 => cases x <;> simp only [Oper.uponIn] at hw

/-! ### what stays may grow -/
structure GLe (g g' : Gh) : Prop where
  z : ∀ k, g.Z k → g'.Z k ∧ g'.W.heap[k]? = g.W.heap[k]?
  os : g'.W.os = g.W.os
  tape : g'.W.tape = g.W.tape
  output : g'.W.output = g.W.output
  size : g.W.heap.size ≤ g'.W.heap.size
  b : g'.B = g.B
theorem GLe.refl (g : Gh) : GLe g g := ⟨fun _ h => ⟨h, rfl⟩, rfl, rfl, rfl, Nat.le_refl _, rfl⟩
theorem GLe.trans {a b c : Gh} (h : GLe a b) (k : GLe b c) : GLe a c :=
  ⟨fun i hi => ⟨(k.z i (h.z i hi).1).1, (k.z i (h.z i hi).1).2.trans (h.z i hi).2⟩, k.os.trans h.os, k.tape.trans h.tape, k.output.trans h.output, Nat.le_trans h.size k.size, k.b.trans h.b⟩
theorem HRel.weaken {P : Program} {g g' : Gh} {μ : Mu} {H : Hp} {w : World} (h : HRel P g' μ H w) (hg : GLe g g') : HRel P g μ H w where
  dom := h.dom
  glob := h.glob
  lt := h.lt
  blk := h.blk
  sep := h.sep
  own := fun b l x e f hw hz => h.own b l x e f hw (hg.z _ hz).1
  old := fun k hk => ⟨(h.old k (hg.z k hk).1).1, (h.old k (hg.z k hk).1).2.trans (hg.z k hk).2⟩
  os := h.os.trans hg.os
  tape := h.tape.trans hg.tape
  output := h.output.trans hg.output
  size := Nat.le_trans hg.size h.size
theorem HRel.onBase {P : Program} {g : Gh} {μ : Mu} {H : Hp} {w : World} (h : HRel P g μ H w) : HRel P g.base μ H w := ⟨h.dom, h.glob, h.lt, h.blk, h.sep, h.own, h.old, h.os, h.tape, h.output, h.size⟩
theorem HRel.offBase {P : Program} {g : Gh} {μ : Mu} {H : Hp} {w : World} (h : HRel P g.base μ H w) : HRel P g μ H w := ⟨h.dom, h.glob, h.lt, h.blk, h.sep, h.own, h.old, h.os, h.tape, h.output, h.size⟩

/-- The marks that ranges over functions leave among an activation's deferred calls: their blocks stay as they were laid. -/
def Marks (g : Gh) (ds : List Deferred) : Prop :=
  (∀ k, g.B k → g.Z k) ∧ ∃ Ds : List Nat, ds = Ds.map (fun D => { target := .collected D, args := #[] }) ∧ Ds.Nodup ∧ ∀ D ∈ Ds, ¬ g.B D ∧ g.Z D ∧ g.W.heap[D]? = some (.deferred (some []))
theorem Marks.nil (g : Gh) : Marks g.base [] := ⟨fun _ h => h, [], rfl, List.nodup_nil, fun _ h => by cases h⟩
theorem Marks.grow {g g' : Gh} {ds : List Deferred} (h : Marks g ds) (hg : GLe g g') : Marks g' ds := by
  obtain ⟨h0, Ds, h1, h2, h3⟩ := h
  refine ⟨fun k hk => (hg.z k (h0 k (hg.b ▸ hk))).1, Ds, h1, h2, fun D hD => ?_⟩
  obtain ⟨a, b, c⟩ := h3 D hD
  exact ⟨fun e => a (hg.b ▸ e), (hg.z D b).1, (hg.z D b).2.trans c⟩

/-! ### blocks that the heap of 'V' does not name -/
theorem BRel.alive {P : Program} {μ : Mu} {w : World} {l : Loc} {x : ABlk} (h : BRel P μ w l x) (hx : live x = true) (ds : Option (List Deferred)) : w.heap[l.blk]? ≠ some (.deferred ds) := by
  intro hd
  cases x with
  | cells c e k => obtain ⟨cc, fr, vs, h1, _⟩ := h; rw [h1] at hd; cases hd
  | map es => obtain ⟨ms, ck, h1, _⟩ := h; rw [h1] at hd; cases hd
  | iter s p => rw [h.1] at hd; cases hd
  | loop σ ps as bd md => obtain ⟨r, h1, _⟩ := h; rw [h1] at hd; cases hd
  | ghost => cases hx
  | dead => cases hx
  | void => cases hx
/-- A mark's block is laid. -/
theorem HRel.mark {P : Program} {g : Gh} {μ : Mu} {H : Hp} {w : World} (h : HRel P g μ H w) (o : Obj) : HRel P ⟨fun k => g.Z k ∨ k = w.heap.size, w.alloc o, g.B⟩ μ H (w.alloc o) where
  dom := h.dom
  glob := h.glob
  lt := fun b l e => by have := h.lt b l e; simp; omega
  blk := fun b l x e f => (h.blk b l x e f).mono (Le.refl μ) (fun _ => Go.RowKit.Below.heap_alloc w o _ (h.lt b l e))
  sep := h.sep
  own := fun b l x e f hw hz => by
    rcases hz with hz | hz
    · exact h.own b l x e f hw hz
    · have := h.lt b l e; omega
  old := fun k hk => by
    refine ⟨?_, rfl⟩
    rcases hk with hk | hk
    · have := (h.old k hk).1; simp; omega
    · simp; omega
  os := rfl
  tape := rfl
  output := rfl
  size := Nat.le_refl _
theorem GLe.mark {P : Program} {g : Gh} {μ : Mu} {H : Hp} {w : World} (h : HRel P g μ H w) (o : Obj) : GLe g ⟨fun k => g.Z k ∨ k = w.heap.size, w.alloc o, g.B⟩ :=
  ⟨fun k hk => ⟨.inl hk, (Go.RowKit.Below.heap_alloc w o k (h.old k hk).1).trans (h.old k hk).2⟩, h.os, h.tape, h.output, by have := h.size; simp; omega, rfl⟩
/-- A mark is taken. -/
theorem HRel.take {P : Program} {g : Gh} {μ : Mu} {H : Hp} {w : World} (h : HRel P g μ H w) {D : Nat} {ds : Option (List Deferred)} (hD : w.heap[D]? = some (.deferred ds)) (hz : ¬ g.Z D) (o : Obj) : HRel P g μ H (w.putObj D o) where
  dom := h.dom
  glob := h.glob
  lt := fun b l e => by simpa using h.lt b l e
  blk := fun b l x e f => (h.blk b l x e f).mono (Le.refl μ) (fun hl => World.putObj_heap_other (fun eq => (h.blk b l x e f).alive hl ds (eq ▸ hD)))
  sep := h.sep
  own := h.own
  old := fun k hk => ⟨by simpa using (h.old k hk).1, (World.putObj_heap_other (fun eq : k = D => hz (eq ▸ hk))).trans (h.old k hk).2⟩
  os := h.os
  tape := h.tape
  output := h.output
  size := by simpa using h.size
/-- A block that no one may change is held fast. -/
theorem HRel.hold {P : Program} {g : Gh} {μ : Mu} {H : Hp} {w : World} (h : HRel P g μ H w) {k : Nat} (hk : k < w.heap.size) (hn : ∀ b l x, μ b = some l → H[b]? = some x → wrt x = true → l.blk ≠ k) : HRel P ⟨fun j => g.Z j ∨ j = k, w, g.B⟩ μ H w where
  dom := h.dom
  glob := h.glob
  lt := h.lt
  blk := h.blk
  sep := h.sep
  own := fun b l x e f hw hz => by
    rcases hz with hz | hz
    · exact h.own b l x e f hw hz
    · exact hn b l x e f hw hz
  old := fun j hj => by
    refine ⟨?_, rfl⟩
    rcases hj with hj | hj
    · exact (h.old j hj).1
    · omega
  os := rfl
  tape := rfl
  output := rfl
  size := Nat.le_refl _
theorem GLe.hold {P : Program} {g : Gh} {μ : Mu} {H : Hp} {w : World} (h : HRel P g μ H w) (k : Nat) : GLe g ⟨fun j => g.Z j ∨ j = k, w, g.B⟩ :=
  ⟨fun j hj => ⟨.inl hj, (h.old j hj).2⟩, h.os, h.tape, h.output, h.size, rfl⟩

/-- A round's frame: its loop's record lies still. -/
def RoOk (g : Gh) (ro : Option Nat) : Prop := ∀ l, ro = some l → g.Z l ∧ ∃ r, g.W.heap[l]? = some (.loop r)
theorem RoOk.none (g : Gh) : RoOk g none := fun _ h => by cases h
theorem RoOk.grow {g g' : Gh} {ro : Option Nat} (h : RoOk g ro) (hg : GLe g g') : RoOk g' ro := fun l e => by
  obtain ⟨a, r, b⟩ := h l e
  exact ⟨(hg.z l a).1, r, (hg.z l a).2.trans b⟩
end Go.Proofs.YtgkpgpdkolpfkaaDoor.V
