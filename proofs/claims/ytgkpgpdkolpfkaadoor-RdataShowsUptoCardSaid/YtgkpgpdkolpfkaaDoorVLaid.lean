/- From a row that lists package variables to abstract values: the heap that a call starts with holds them, read alone. No conditions. -/
import Derived.Test.YtgkpgpdkolpfkaaDoorVOpen
import Derived.OpenShut
import Derived.LaidMore
import Derived.Handed
namespace Go.Proofs.YtgkpgpdkolpfkaaDoor.V
open Go Go.RowKit
set_option linter.unusedSimpArgs false
set_option linter.unusedVariables false

/-- A list of number literals as cells. -/
def intsC {H : Type} : List (DataW H) → List AV
  | [] => []
  | .lit (.int k n) :: r => .int k n :: intsC r
  | _ :: r => .nili :: intsC r
theorem ints_conc {H : Type} {μ : Mu} : ∀ (ds : List (DataW H)) (cs : List Value), cs.length = ds.length → (∀ i, i < ds.length → ∃ k m, cs[i]? = some (.int k m) ∧ ds[i]? = some (.lit (.int k m))) → concs μ (intsC ds) = some cs
  | [], [], _, _ => rfl
  | [], _ :: _, h, _ => by simp at h
  | _ :: _, [], h, _ => by simp at h
  | d :: ds, c :: cs, hl, h => by
    obtain ⟨k, m, h1, h2⟩ := h 0 (by simp)
    simp only [List.getElem?_cons_zero, Option.some.injEq] at h1 h2
    subst h1; subst h2
    have ih := ints_conc (μ := μ) ds cs (by simpa using hl) (fun i hi => by simpa using h (i + 1) (by simpa using hi))
    simp only [intsC, concs, conc, ih, Option.bind_some, Option.map_some]

section
variable {H : Type} {enc : TypeId × Value → H} {P : Program} {W : World} {base : Nat} {sp : Nat → Bool} {held : Bool}

/-- An array of numbers, read: its cells are the datum's. -/
theorem arr_ints {t e : TypeId} {n fuel : Nat} {k : IntKind} {cs : List Value} {ds : List (DataW H)} {p : List MemPlace} (ht : P.underlying t = some (.array n e)) (he : P.underlying e = some (.int k)) (hc : P.cellsOf e = 1) (hl : P.cellsOf t = n)
    (h : DataW.trod enc P W base sp held fuel t cs = some (.agg ds, p)) (μ : Mu) : concs μ (intsC ds) = some cs := by
  obtain ⟨xs, m, rfl, hx, hcl, hxl, hel⟩ := DataW.trod_array ht h
  simp only [Prod.mk.injEq, DataW.agg.injEq] at hx
  obtain ⟨rfl, _⟩ := hx
  refine ints_conc _ _ (by rw [hcl, hl, List.length_map, hxl]) (fun i hi => ?_)
  rw [List.length_map, hxl] at hi
  have h1 := hel i hi
  rw [hc, Nat.mul_one, List.getElem?_eq_getElem (by omega)] at h1
  obtain ⟨q, e1, e2, _⟩ := DataW.trod_int he h1
  refine ⟨k, q, ?_, ?_⟩
  · have : ((cs.drop i).take 1)[0]? = some (.int k q) := by rw [e1]; rfl
    simpa using this
  · rw [List.getElem?_map, List.getElem?_eq_getElem (by omega), e2]; rfl

/-- Where a variable lies. -/
theorem var_block {n : String} {g : Nat} {cs : Array Value} (hg : P.globalNamed n = some g) (h : W.var? P n = some cs) : ∃ e fr, W.heap[g]? = some (.cells cs e fr) := by
  unfold World.var? at h
  rw [hg] at h
  simp only [Option.bind_some] at h
  split at h
  · rename_i c e fr hb
    cases h
    exact ⟨e, fr, hb⟩
  · cases h
theorem laid_block {μ : Mu} {g : Nat} {cs : Array Value} {e : TypeId} {fr : Nat × Nat} {vs : List AV} (hb : W.heap[g]? = some (.cells cs e fr)) (hv : concs μ vs = some cs.toList) : BRel P μ W ⟨g, 0, 0⟩ (.cells vs e .ro) := by
  refine ⟨cs, fr, cs.toList, hb, hv, ?_, fun i v hi => ?_, trivial⟩
  · have := concs_length hv; simp only [Array.length_toList] at this; show 0 + vs.length ≤ _; omega
  · simpa using hi

/-- The variables' own blocks. -/
def mu0 (n : Nat) : Mu := fun i => if i < n then some ⟨i, 0, 0⟩ else none
/-- The heap at a call's start: the variables, read alone or not at all. -/
theorem start_glob {n : Nat} {Bs : List ABlk} (hn : P.globals.size = n) (hsz : n ≤ W.heap.size) (hl : Bs.length = n) (hw : ∀ x ∈ Bs, apart x = false) (hB : ∀ (i : Nat) x, Bs[i]? = some x → BRel P (mu0 n) W ⟨i, 0, 0⟩ x) : HRel P (start W) (mu0 n) Bs W where
  dom := fun b l h => by
    unfold mu0 at h
    split at h
    · rw [hl]; assumption
    · cases h
  glob := fun i hi => ⟨0, by unfold mu0; rw [if_pos (by omega)]⟩
  lt := fun b l h => by
    unfold mu0 at h
    split at h
    · cases h; show b < _; omega
    · cases h
  blk := fun b l x h hx => by
    unfold mu0 at h
    split at h
    · cases h; exact hB b x hx
    · cases h
  sep := fun b b' l l' x x' _ _ _ hx _ hwx => by rw [hw x (List.mem_of_getElem? hx)] at hwx; cases hwx
  own := fun b l x _ hx hwx => by have := apart_w hwx; rw [hw x (List.mem_of_getElem? hx)] at this; cases this
  old := fun k hk => ⟨hk, rfl⟩
  os := rfl
  tape := rfl
  output := rfl
  size := Nat.le_refl _
/-- All variables are there. -/
theorem shaped_size {n : Nat} (hn : P.globals.size = n) (h : W.ShapedOpen P) (hz : ((((begin P (fun _ _ => 0) default).world.heap)[n - 1]?).bind Obj.row?).isSome = true) : n ≤ W.heap.size := by
  by_cases h0 : n = 0
  · omega
  · obtain ⟨⟨z, t⟩, hx⟩ := Option.isSome_iff_exists.1 hz
    obtain ⟨cs, hcs, _⟩ := h.1 (n - 1) z t (by omega) hx
    have := (Array.getElem?_eq_some_iff.1 hcs).1
    omega

/-- A row's proof from what its code does in any memory that is laid out as the program's. -/
theorem returns_laid {C : Checked} {os : Os} {f : FuncId} {fn : Func} {s : ChangeSpec} {fresh : Bool} {X : World → Array Value → Prop}
    (hX : ∀ (w w' : World) (args : Array Value), w.heap = w'.heap → X w args → X w' args)
    (own : ownKnob C.prog.godebug = none) (started : os.Started) (noInit : C.prog.inits.idxOf? f = none) (hfn : C.prog.funcs[f]? = some fn)
    (witness : ∃ (w : World) (tape : Tape) (i : Input), w.os = os ∧ (w.forCall tape i).Shaped C.prog ∧ i.vars = [] ∧ Input.okWide C.prog (w.forCall tape i) .any w.heap.size f i ∧
      ((s.pre enc C.prog fn [] false (w.forCall tape i).memory i.args ∧ X (w.forCall tape i).memory i.args) ∧ sizedMet enc C.prog fn (OpenSpec.ofChange s) false (w.forCall tape i).memory i.args) ∧ ({} : Assume).holds C.prog (lone (Frame.enter C.prog f i.args .normal) [] (w.forCall tape i)))
    (contract : ∀ (W : World) (base : Nat) (args : Array Value) (ds gs : List (DataW H)) (before : List MemPlace), W.ShapedOpen C.prog →
      (∀ (j : Nat) t v, fn.params[j]? = some t → args[j]? = some v → Value.okWide C.prog W .any base t v) →
      DataW.Whole enc C.prog fn.params.toList s.vars false W args.toList ds gs before → X W args →
      Calls C.prog f args W fun e W' => ∃ v, e = .returned v ∧ s.post enc C.prog fn false fresh false false W args v W') :
    ReturnsInHanded {} C os f .any (fun w args => (s.pre enc C.prog fn [] false w args ∧ X w args) ∧ sizedMet enc C.prog fn (OpenSpec.ofChange s) false w args) (s.post enc C.prog fn false fresh false false) := by
  refine returnsInHanded_of_calls own started noInit witness fun w tape i _ hsh _ hok hpre _ => ?_
  obtain ⟨_, _, _, fn', hfn', _, _, _, _, hval⟩ := hok
  obtain rfl := Option.some.inj (hfn'.symm.trans hfn)
  obtain ⟨⟨⟨ds, gs, before, hw, _⟩, hx⟩, _⟩ := hpre
  refine (contract (w.forCall tape i) w.heap.size i.args ds gs before hsh hval (DataW.Whole.of_heap (w' := w.forCall tape i) (by rfl) hw) (hX _ _ _ (by rfl) hx)).mono fun e W' ⟨v, he, hp⟩ => ?_
  subst he
  exact ChangeSpec.post_blind hp
end
end Go.Proofs.YtgkpgpdkolpfkaaDoor.V
