/- From a row's arguments to abstract values: what reads as flat cells, slices of such; the heap that a call starts with. No conditions. -/
import Derived.Test.YtgkpgpdkolpfkaaDoorVGo
import Derived.ProofKit
namespace Go.Proofs.YtgkpgpdkolpfkaaDoor.V
open Go Go.RowKit
set_option linter.unusedSimpArgs false
set_option linter.unusedVariables false

/-- A flat cell's kind. -/
inductive Ck where
  | b | i (k : IntKind) | s
def ckA : Ck → AV → Prop
  | .b, v => ∃ x, v = .bool x
  | .i k, v => ∃ n, v = .int k n ∧ (Lit.int k n).wf = true
  | .s, v => ∃ s, v = .str s ∧ s.length ≤ maxLen
def ckAll : List Ck → List AV → Prop
  | [], [] => True
  | k :: ks, v :: vs => ckA k v ∧ ckAll ks vs
  | _, _ => False
theorem ckAll_len : ∀ {ks : List Ck} {vs : List AV}, ckAll ks vs → vs.length = ks.length
  | [], [], _ => rfl
  | _ :: _, _ :: _, h => by simp [ckAll_len h.2]
  | [], _ :: _, h => h.elim
  | _ :: _, [], h => h.elim
theorem ckAll_append : ∀ {ks ls : List Ck} {vs ws : List AV}, ckAll ks vs → ckAll ls ws → ckAll (ks ++ ls) (vs ++ ws)
  | [], _, [], _, _, h => h
  | _ :: _, _, _ :: _, _, h, h' => ⟨h.1, ckAll_append h.2 h'⟩
  | [], _, _ :: _, _, h, _ => h.elim
  | _ :: _, _, [], _, h, _ => h.elim

def fieldsK (P : Program) (f : TypeId → Option (List Ck)) : List Field → Nat → Option (List Ck)
  | [], _ => some []
  | x :: r, o => if x.offset = o then (f x.type).bind fun k => if P.cellsOf x.type = k.length then (fieldsK P f r (o + k.length)).map (k ++ ·) else none else none
/-- A type of flat cells. -/
def plainK (P : Program) : Nat → TypeId → Option (List Ck)
  | 0, _ => none
  | d + 1, t => match P.underlying t with
    | some .bool => some [.b]
    | some (.int k) => some [.i k]
    | some .string => some [.s]
    | some (.struct fs) => (fieldsK P (plainK P d) fs.toList 0).bind fun k => if P.cellsOf t = k.length then some k else none
    | _ => none

section
variable {H : Type} {enc : TypeId × Value → H} {P : Program} {W : World} {base : Nat} {sp : Nat → Bool} {held : Bool}

theorem fieldsK_ok {f : TypeId → Option (List Ck)} {n : Nat} {cs : List Value} (hf : ∀ t ks cs x, f t = some ks → DataW.trod enc P W base sp held n t cs = some x → ∃ as, ckAll ks as ∧ ∀ μ, concs μ as = some cs) :
    ∀ (r : List Field) (o : Nat) {ks : List Ck}, fieldsK P f r o = some ks → (∀ x ∈ r, ∃ y, DataW.trod enc P W base sp held n x.type ((cs.drop x.offset).take (P.cellsOf x.type)) = some y) → ∃ as, ckAll ks as ∧ ∀ μ, concs μ as = some ((cs.drop o).take ks.length)
  | [], o, ks, h, _ => by cases h; exact ⟨[], trivial, fun μ => by simp [concs]⟩
  | x :: r, o, ks, h, hr => by
    simp only [fieldsK] at h
    split at h
    · rename_i ho
      simp only [Option.bind_eq_some_iff] at h
      obtain ⟨k, hk, h⟩ := h
      split at h
      · rename_i hc
        simp only [Option.map_eq_some_iff] at h
        obtain ⟨ks', hk', rfl⟩ := h
        obtain ⟨y, hy⟩ := hr x (by simp)
        obtain ⟨as, ha, ha'⟩ := hf _ _ _ _ hk hy
        obtain ⟨bs, hb, hb'⟩ := fieldsK_ok hf r _ hk' (fun x hx => hr x (by simp [hx]))
        refine ⟨as ++ bs, ckAll_append ha hb, fun μ => ?_⟩
        rw [concs_append_some (ha' μ) (hb' μ), hc, ho, List.length_append]
        congr 1
        rw [List.take_add, List.drop_drop]
      · cases h
    · cases h

theorem plainK_ok : ∀ (d : Nat) {t : TypeId} {ks : List Ck} (n : Nat) {cs : List Value} {x : DataW H × List MemPlace}, plainK P d t = some ks → DataW.trod enc P W base sp held n t cs = some x → ∃ as, ckAll ks as ∧ ∀ μ, concs μ as = some cs
  | 0, _, _, _, _, _, h, _ => by cases h
  | d + 1, t, ks, n, cs, x, h, hx => by
    simp only [plainK] at h
    split at h
    · rename_i ht
      cases h
      obtain ⟨b, rfl, _⟩ := DataW.trod_bool ht hx
      exact ⟨[.bool b], ⟨⟨b, rfl⟩, trivial⟩, fun μ => rfl⟩
    · rename_i k ht
      cases h
      obtain ⟨m, rfl, _, hw⟩ := DataW.trod_int ht hx
      exact ⟨[.int k m], ⟨⟨m, rfl, hw⟩, trivial⟩, fun μ => rfl⟩
    · rename_i ht
      cases h
      obtain ⟨s, rfl, _, hs⟩ := DataW.trod_string ht hx
      refine ⟨[.str s.data.toList], ⟨⟨_, rfl, ?_⟩, trivial⟩, fun μ => ?_⟩
      · rw [Array.length_toList]; exact hs
      · simp [concs, conc]
    · rename_i fs ht
      simp only [Option.bind_eq_some_iff] at h
      obtain ⟨k, hk, h⟩ := h
      split at h
      · rename_i hc
        cases h
        obtain ⟨xs, m, rfl, _, hl, hxl, he⟩ := DataW.trod_struct ht hx
        obtain ⟨as, ha, ha'⟩ := fieldsK_ok (n := m) (cs := cs) (fun t ks cs x h1 h2 => plainK_ok d m h1 h2) fs.toList 0 hk (by
          intro f hf
          obtain ⟨i, hi⟩ := List.getElem?_of_mem hf
          have h1 := he i f (by simpa using hi)
          have hlt : i < xs.length := by rw [hxl]; have := (List.getElem?_eq_some_iff.1 hi).1; simpa using this
          exact ⟨_, h1.trans (List.getElem?_eq_getElem hlt)⟩)
        refine ⟨as, ha, fun μ => ?_⟩
        rw [ha' μ, List.drop_zero, ← hc, ← hl, List.take_length]
      · cases h
    · cases h

/-! ### a slice of flat rows -/
theorem rowAt_le {P : Program} {fits : TypeId → Bool} {d : Nat} {e : TypeId} {cells off n : Nat} (h : rowAt P fits d e (cells / P.cellsOf e) off n = true) : off ≤ cells := by
  cases d with
  | zero => cases h
  | succ d =>
    simp only [rowAt] at h
    by_cases hs : P.cellsOf e = 0
    · rw [if_pos hs] at h; cases h
    · rw [if_neg hs] at h
      have hm := Nat.div_add_mod off (P.cellsOf e)
      have hlt := Nat.mod_lt off (Nat.pos_of_ne_zero hs)
      have hc := Nat.mul_div_le cells (P.cellsOf e)
      rw [Bool.or_eq_true, Bool.and_eq_true, Bool.and_eq_true, Bool.and_eq_true] at h
      obtain ⟨⟨h1, h2⟩, _⟩ | ⟨h1, _⟩ := h
      · simp only [beq_iff_eq, decide_eq_true_eq] at h1 h2
        have : P.cellsOf e * (off / P.cellsOf e) ≤ P.cellsOf e * (cells / P.cellsOf e) := Nat.mul_le_mul_left _ (by omega)
        omega
      · simp only [decide_eq_true_eq] at h1
        have : P.cellsOf e * (off / P.cellsOf e + 1) ≤ P.cellsOf e * (cells / P.cellsOf e) := Nat.mul_le_mul_left _ (by omega)
        rw [Nat.mul_add, Nat.mul_one] at this
        omega
theorem liesAt_le {P : Program} : ∀ {d : Nat} {e : TypeId} {cells off : Nat} {u : TypeId} {n : Nat}, liesAt P d e (cells / P.cellsOf e) off u n = true → off ≤ cells
  | 0, _, _, _, _, _, h => by cases h
  | d + 1, e, cells, off, u, n, h => by
    simp only [liesAt, Bool.or_eq_true] at h
    obtain h | h := h
    · exact rowAt_le h
    · split at h
      · exact liesAt_le h
      · cases h

/-- A row's cells, one chunk an element. -/
def rows : List (List AV) → List AV := List.flatten

theorem rows_ok {z : Nat} {a : Addr} {len : Nat} {ks : List Ck} (hz : ks.length = z) (hpos : 0 < z)
    (h : ∀ i, i < len → ∃ cs, W.cells? base (a.add (i * z)) z = some cs ∧ ∃ as, ckAll ks as ∧ ∀ μ, concs μ as = some cs) :
    ∃ rs : List (List AV), rs.length = len ∧ (∀ r ∈ rs, ckAll ks r) ∧ ∃ vs, (∀ μ, concs μ rs.flatten = some vs) ∧ vs.length = len * z ∧ ∀ (j : Nat) (v : Value), vs[j]? = some v → W.cell? (a.add j) = some v := by
  induction len with
  | zero => exact ⟨[], rfl, by simp, [], fun μ => rfl, by simp, by simp⟩
  | succ len ih =>
    obtain ⟨rs, hl, hr, vs, hv, hvl, hc⟩ := ih (fun i hi => h i (by omega))
    obtain ⟨cs, hcs, as, ha, ha'⟩ := h len (by omega)
    obtain ⟨_, hcl, hcc⟩ := World.cells?_some hcs
    refine ⟨rs ++ [as], by simp [hl], ?_, vs ++ cs, fun μ => ?_, ?_, ?_⟩
    · intro r hm
      rcases List.mem_append.1 hm with hm | hm
      · exact hr r hm
      · rw [List.mem_singleton] at hm; subst hm; exact ha
    · rw [List.flatten_append]
      exact concs_append_some (hv μ) (by simpa using ha' μ)
    · rw [List.length_append, hvl, hcl, Nat.add_mul, Nat.one_mul]
    · intro j v hj
      by_cases hlt : j < vs.length
      · rw [List.getElem?_append_left hlt] at hj
        exact hc j v hj
      · rw [List.getElem?_append_right (by omega)] at hj
        have hjl := (List.getElem?_eq_some_iff.1 hj).1
        have := hcc (j - vs.length) (by omega)
        rw [hj] at this
        rw [← this]
        congr 1
        unfold Addr.add
        by_cases hl0 : len * z = 0
        · have : vs.length = 0 := by omega
          simp [hl0, this]
        · by_cases hj0 : j - vs.length = 0
          · have : j = len * z := by omega
            rw [if_pos hj0, if_neg hl0, if_neg (by omega), this]
          · have h3 : ¬ j = 0 := by omega
            simp only [hl0, hj0, h3, if_false]
            congr 1; omega

/-- A slice of flat rows, opened: nil, or its address and its rows. -/
theorem open_rows {t e : TypeId} {ks : List Ck} {d fuel : Nat} {cs : List Value} {x : DataW H × List MemPlace} (ht : P.underlying t = some (.slice e)) (hk : plainK P d e = some ks) (hz : P.cellsOf e = ks.length) (hpos : 0 < ks.length)
    (h : DataW.trod enc P W base sp held fuel t cs = some x) :
    (cs = [.slice none 0 0] ∧ x = (.nil, [])) ∨ ∃ (a : Addr) (len cap : Nat) (es ss : List (DataW H)) (ps : List MemPlace), cs = [.slice (some a) len cap] ∧ x = (.slice es ss, ps) ∧ es.length = len ∧ len ≤ cap ∧ cap ≤ maxLen ∧
      ∃ rs : List (List AV), rs.length = len ∧ (∀ r ∈ rs, ckAll ks r) ∧ ∃ vs, (∀ μ, concs μ rs.flatten = some vs) ∧ vs.length = len * ks.length ∧ ∀ (j : Nat) (v : Value), vs[j]? = some v → W.cell? (a.add j) = some v := by
  rcases DataW.trod_slice ht h with h0 | ⟨a, len, cap, elems, rest, n, _, rfl, rfl, hb, hl, hm, hlen, hel, _, _⟩
  · exact .inl h0
  right
  refine ⟨a, len, cap, _, _, _, rfl, rfl, by simpa using hlen, hl, hm, ?_⟩
  refine rows_ok (base := base) rfl hpos (fun i hi => ?_)
  have h1 := hel i hi
  rw [List.getElem?_eq_getElem (by omega), Option.bind_eq_some_iff, hz] at h1
  obtain ⟨c, hc, hy⟩ := h1
  exact ⟨c, hc, plainK_ok d n hk hy⟩

/-- The block for what an argument's slice shows: read alone. -/
theorem ro_block {μ : Mu} {a : Addr} {cap : Nat} {rs : List AV} {vs : List Value} {row : TypeId} {cells : Nat} (hs : a.spot = none) (hv : concs μ rs = some vs) (hc : ∀ (j : Nat) (v : Value), vs[j]? = some v → W.cell? (a.add j) = some v)
    (hsh : W.shape? a.block = some (row, cells)) (hle : a.off ≤ cells) : BRel P μ W ⟨a.block, a.off, cap⟩ (.cells rs row .ro) := by
  unfold World.shape? at hsh
  split at hsh
  · rename_i cc el fz hb
    simp only [Option.some.injEq, Prod.mk.injEq] at hsh
    obtain ⟨rfl, rfl⟩ := hsh
    have hcell : ∀ (j : Nat) (v : Value), vs[j]? = some v → cc[a.off + j]? = some v := by
      intro j v hj
      have h1 := hc j v hj
      have hblk : (a.add j).block = a.block := by unfold Addr.add; split <;> rfl
      have hsp : (a.add j).spot = none := by unfold Addr.add; split; exact hs; rfl
      have hoff : (a.add j).off = a.off + j := by unfold Addr.add; split; omega; rfl
      unfold World.cell? at h1
      rw [hblk, hb, hoff, hsp] at h1
      simpa using h1
    refine ⟨cc, fz, vs, hb, hv, ?_, hcell, trivial⟩
    rw [← concs_length hv]
    show a.off + vs.length ≤ cc.size
    by_cases hz : vs.length = 0
    · omega
    · have := hcell (vs.length - 1) vs[vs.length - 1] (List.getElem?_eq_getElem (by omega))
      have := (Array.getElem?_eq_some_iff.1 this).1
      omega
  · cases hsh

/-- The heap at a call's start, with no package variable: every block that is there stays. -/
def start (W : World) : Gh := ⟨(· < W.heap.size), W, fun _ => False⟩
theorem start_ok (hg : P.globals.size = 0) : HRel P (start W) (fun _ => none) [] W where
  dom := fun b l h => by cases h
  glob := fun i hi => by omega
  lt := fun b l h => by cases h
  blk := fun b l x h => by cases h
  sep := fun b b' l l' x x' _ h => by cases h
  own := fun b l x h => by cases h
  old := fun k hk => ⟨hk, rfl⟩
  os := rfl
  tape := rfl
  output := rfl
  size := Nat.le_refl _
/-- One block more, read alone. -/
theorem HRel.ro {g : Gh} {μ : Mu} {Hh : Hp} (h : HRel P g μ Hh W) (hno : ∀ x ∈ Hh, apart x = false) {l : Loc} {c : List AV} {e : TypeId} (hl : l.blk < W.heap.size) (hx : BRel P μ W l (.cells c e .ro)) :
    HRel P g (upd μ Hh.length l) (Hh ++ [.cells c e .ro]) W where
  dom := fun b l' e => by
    by_cases hb : b = Hh.length
    · subst hb; simp
    · rw [upd_other _ _ hb] at e
      have := h.dom b l' e
      simp; omega
  glob := fun i hi => by
    obtain ⟨c, hc⟩ := h.glob i hi
    exact ⟨c, h.le_upd _ _ _ hc⟩
  lt := fun b l' e => by
    by_cases hb : b = Hh.length
    · subst hb; rw [upd_same] at e; cases e; exact hl
    · rw [upd_other _ _ hb] at e; exact h.lt b l' e
  blk := fun b l' x e e' => by
    rw [get_snoc] at e'
    by_cases hb : b = Hh.length
    · subst hb
      rw [upd_same] at e
      rw [if_pos rfl] at e'
      cases e; cases e'
      exact hx.mono (h.le_upd _) (fun _ => rfl)
    · rw [upd_other _ _ hb] at e
      rw [if_neg hb] at e'
      exact (h.blk b l' x e e').mono (h.le_upd _) (fun _ => rfl)
  sep := fun b b' l1 l2 x x' hne e1 e2 hx1 hx2 hw hv => by
    exfalso
    rw [get_snoc] at hx1
    split at hx1
    · cases hx1; cases hw
    · rw [hno x (List.mem_of_getElem? hx1)] at hw; cases hw
  own := fun b l1 x e1 hx1 hw => by
    exfalso
    rw [get_snoc] at hx1
    split at hx1
    · cases hx1; cases hw
    · have := apart_w hw; rw [hno x (List.mem_of_getElem? hx1)] at this; cases this
  old := h.old
  os := h.os
  tape := h.tape
  output := h.output
  size := h.size
/-- At the end nothing has turned below. -/
theorem start_below {μ : Mu} {Hh : Hp} {w' : World} (h : HRel P (start W) μ Hh w') : Below W.heap.size W w' :=
  ⟨h.os, h.tape, h.output, h.size, fun k hk => (h.old k hk).2⟩
/-- A call that the evaluator answers, told of the machine. -/
theorem calls_of {f : FuncId} {args : List AV} {Hh : Hp} {q : AV × Hp × Ef} {g : Gh} {μ : Mu} {vs : List Value} (hf : hasBody P f = true) (h : callK P f args Hh (fun r => r = q)) (hr : HRel P g μ Hh W) (hv : concs μ args = some vs) :
    Calls P f vs.toArray W (fun e w' => ∃ μ' v', e = .returned v' ∧ Ok P g μ Hh q μ' v' w') := by
  obtain ⟨n, r, hn, rfl⟩ := h
  have hlt : f < P.funcs.size := by
    unfold hasBody at hf
    split at hf
    · rename_i fn hfn; exact (Array.getElem?_eq_some_iff.1 hfn).1
    · cases hf
  exact (evN_ok P n).fn f args Hh r hlt hn g μ W vs hr hv
end
end Go.Proofs.YtgkpgpdkolpfkaaDoor.V
