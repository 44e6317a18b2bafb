/- Operations of 'V' on memory. No conditions. -/
import Derived.Test.YtgkpgpdkolpfkaaDoorVOpa
import Derived.Laws.NewBlocks
namespace Go.Proofs.YtgkpgpdkolpfkaaDoor.V
open Go
set_option linter.unusedSimpArgs false
set_option linter.unusedVariables false

def cont : ABlk → List AV
  | .cells c _ _ => c
  | .map es => es.map (·.1) ++ es.map (·.2)
  | .loop σ _ _ _ _ => σ
  | _ => []

/-- Below n, and below es, a block holds what it held, or something without an address. -/
def EInv (n : Nat) (H H' : Hp) (es : Option Nat) : Prop :=
  ∀ b, b < n → (∀ e, es = some e → b < e) → ∀ x', H'[b]? = some x' → ∃ x, H[b]? = some x ∧ ∀ v ∈ cont x', v ∈ cont x ∨ flat v = true

theorem EInv.refl (n : Nat) (H : Hp) (es : Option Nat) : EInv n H H es := fun _ _ _ x' h => ⟨x', h, fun _ hv => .inl hv⟩
theorem EInv.trans {n m : Nat} {H H1 H2 : Hp} {e1 e2 : Option Nat} (h : EInv n H H1 e1) (k : EInv m H1 H2 e2) (hn : n ≤ m) : EInv n H H2 (omin e1 e2) := by
  intro b hb he x' hx'
  have h1 : ∀ e, e1 = some e → b < e := by
    intro e h; subst h
    cases e2 with
    | none => exact he e rfl
    | some e2 => have := he (min e e2) rfl; omega
  have h2 : ∀ e, e2 = some e → b < e := by
    intro e h; subst h
    cases e1 with
    | none => exact he e rfl
    | some e1 => have := he (min e1 e) rfl; omega
  obtain ⟨x1, hx1, k1⟩ := k b (by omega) h2 x' hx'
  obtain ⟨x, hx, k0⟩ := h b hb h1 x1 hx1
  refine ⟨x, hx, fun v hv => ?_⟩
  rcases k1 v hv with hv | hv
  · exact k0 v hv
  · exact .inr hv
theorem EInv.mono {n m : Nat} {H H' : Hp} {e : Option Nat} (h : EInv n H H' e) (hm : m ≤ n) : EInv m H H' e := fun b hb he x' hx' => h b (by omega) he x' hx'
theorem EInv.snoc {H : Hp} {x : ABlk} {es : Option Nat} : EInv H.length H (H ++ [x]) es := fun b hb _ x' hx' => by
  rw [List.getElem?_append_left hb] at hx'
  exact ⟨x', hx', fun _ hv => .inl hv⟩
theorem EInv.set {n b : Nat} {H : Hp} {x y : ABlk} {es : Option Nat} (hx : H[b]? = some x) (hy : es = some b ∨ ∀ v ∈ cont y, v ∈ cont x ∨ flat v = true) : EInv n H (H.set b y) es := fun c _ he x' hx' => by
  rw [List.getElem?_set] at hx'
  split at hx'
  · rename_i hbc
    subst hbc
    split at hx'
    · cases hx'
      rcases hy with rfl | hy
      · exact absurd (he b rfl) (by omega)
      · exact ⟨x, hx, hy⟩
    · cases hx'
  · exact ⟨x', hx', fun _ hv => .inl hv⟩

theorem flats_mem : ∀ {l : List AV}, flats l = true → ∀ v ∈ l, flat v = true
  | [], _, v, hv => by cases hv
  | u :: us, h, v, hv => by
    simp only [flats, Bool.and_eq_true] at h
    cases hv with
    | head => exact h.1
    | tail _ hv => exact flats_mem h.2 v hv

/-- Below n, and below ws, a block is as it was. -/
def WInv (n : Nat) (H H' : Hp) (ws : Option Nat) : Prop := ∀ b, b < n → (∀ e, ws = some e → b < e) → H'[b]? = H[b]?

structure Inv (n : Nat) (H H' : Hp) (e : Ef) : Prop where
  ei : EInv n H H' e.es
  wi : WInv n H H' e.ws

theorem Inv.refl (n : Nat) (H : Hp) (e : Ef) : Inv n H H e := ⟨EInv.refl _ _ _, fun _ _ _ => rfl⟩
theorem Inv.trans {n m : Nat} {H H1 H2 : Hp} {e1 e2 : Ef} (h : Inv n H H1 e1) (k : Inv m H1 H2 e2) (hn : n ≤ m) : Inv n H H2 (e1.and e2) := by
  refine ⟨h.ei.trans k.ei hn, fun b hb he => ?_⟩
  have he' : ∀ e, omin e1.ws e2.ws = some e → b < e := he
  have h1 : ∀ e, e1.ws = some e → b < e := by
    intro e h
    rw [h] at he'
    cases h2 : e2.ws with
    | none => rw [h2] at he'; exact he' e rfl
    | some e2 => rw [h2] at he'; have := he' (min e e2) rfl; omega
  have h2 : ∀ e, e2.ws = some e → b < e := by
    intro e h
    rw [h] at he'
    cases h1 : e1.ws with
    | none => rw [h1] at he'; exact he' e rfl
    | some e1 => rw [h1] at he'; have := he' (min e1 e) rfl; omega
  exact (k.wi b (by omega) h2).trans (h.wi b hb h1)
theorem Inv.mono {n m : Nat} {H H' : Hp} {e : Ef} (h : Inv n H H' e) (hm : m ≤ n) : Inv m H H' e := ⟨h.ei.mono hm, fun b hb he => h.wi b (by omega) he⟩
theorem Inv.snoc {H : Hp} {x : ABlk} {e : Ef} : Inv H.length H (H ++ [x]) e := ⟨EInv.snoc, fun b hb _ => List.getElem?_append_left hb⟩
theorem Inv.set {n b : Nat} {H : Hp} {x y : ABlk} {e : Ef} (hx : H[b]? = some x) (hy : e.es = some b ∨ ∀ v ∈ cont y, v ∈ cont x ∨ flat v = true) (hw : e.ws = some b) : Inv n H (H.set b y) e :=
  ⟨EInv.set hx hy, fun c _ he => by
    have := he b hw
    rw [List.getElem?_set, if_neg (by omega)]⟩

theorem Inv.wr {n b o : Nat} {H H' : Hp} {xs : List AV} {es : Ef} (h : wr H b o xs = some (H', es)) : Inv n H H' es := by
  unfold V.wr at h
  split at h
  · rename_i c e k hb
    split at h
    · simp only [Option.some.injEq, Prod.mk.injEq] at h
      obtain ⟨rfl, rfl⟩ := h
      refine Inv.set hb ?_ rfl
      by_cases hf : flats xs = true
      · refine .inr fun v hv => ?_
        simp only [cont, splice, List.mem_append] at hv ⊢
        rcases hv with (hv | hv) | hv
        · exact .inl (List.mem_of_mem_take hv)
        · exact .inr (flats_mem hf v hv)
        · exact .inl (List.mem_of_mem_drop hv)
      · exact .inl (by simp [hf])
    · cases h
  · cases h

theorem wr_len {b o : Nat} {H H' : Hp} {xs : List AV} {es : Ef} (h : wr H b o xs = some (H', es)) : H'.length = H.length := by
  unfold V.wr at h
  split at h
  · split at h
    · simp only [Option.some.injEq, Prod.mk.injEq] at h
      obtain ⟨rfl, rfl⟩ := h
      simp
    · cases h
  · cases h

structure Ok (P : Program) (g : Gh) (μ : Mu) (H : Hp) (r : AV × Hp × Ef) (μ' : Mu) (v' : Value) (w' : World) : Prop where
  le : Le μ μ'
  rel : HRel P g μ' r.2.1 w'
  val : conc μ' r.1 = some v'
  len : H.length ≤ r.2.1.length
  inv : Inv H.length H r.2.1 r.2.2
  dom : ∀ b, b < H.length → μ' b = μ b

/-- An operation's value. -/
def Yields (P : Program) (g : Gh) (μ : Mu) (H : Hp) (w : World) (s : Sem Value) (r : AV × Hp × Ef) : Prop :=
  ∃ μ' v' w', s.run P w = .ok v' w' ∧ Ok P g μ H r μ' v' w'
/-- An operation without a value. -/
def Does (P : Program) (g : Gh) (μ : Mu) (H : Hp) (w : World) (s : Sem Unit) (r : AV × Hp × Ef) : Prop :=
  ∃ μ' w', s.run P w = .ok () w' ∧ Ok P g μ H r μ' undef w'

section
variable {P : Program} {g : Gh} {μ : Mu} {H : Hp} {w : World}

theorem Yields.pure (h : HRel P g μ H w) {s : Sem Value} {v : AV} (hv : ∃ v', s.run P w = .ok v' w ∧ conc μ v = some v') : Yields P g μ H w s (v, H, z0) :=
  let ⟨v', h1, h2⟩ := hv
  ⟨μ, v', w, h1, Le.refl μ, h, h2, Nat.le_refl _, Inv.refl _ _ _, fun _ _ => rfl⟩

theorem load_ok (h : HRel P g μ H w) {t : TypeId} {b o : Nat} {l : Loc} {v : AV} (hb : μ b = some l) (hv : evLoad P H t b o = some v) :
    ∃ v', (loadVar t ⟨l.blk, l.base + o, none⟩).run P w = .ok v' w ∧ conc μ v = some v' := by
  unfold evLoad at hv
  split at hv
  · rename_i ht
    simp only [Option.bind_eq_some_iff, Option.map_eq_some_iff] at hv
    obtain ⟨n, hn, c, hc, rfl⟩ := hv
    obtain ⟨vs, h1, h2, h3⟩ := h.rd hb hc
    obtain ⟨d, hd, hr⟩ := tagg_desc ht
    exact ⟨_, run_loadVar_mid w _ _ t vs d h3 hd hr (by rw [h2]; exact hn), by simp [conc, h1]⟩
  · rename_i ht
    simp only [Option.bind_eq_some_iff] at hv
    obtain ⟨c, hc, hv⟩ := hv
    obtain ⟨vs, h1, h2, h3⟩ := h.rd hb hc
    unfold one at hv
    split at hv
    · rename_i v0
      cases hv
      simp only [concs, Option.bind_eq_some_iff, Option.map_eq_some_iff] at h1
      obtain ⟨x, hx, ys, hys, rfl⟩ := h1
      refine ⟨x, ?_, hx⟩
      have := h3 0 x rfl
      simp only [Nat.add_zero] at this
      simp only [loadVar, Sem.run_bind, isAgg_ok (w := w) ht, Result.andThen_ok, Bool.false_eq_true, if_false, run_load, this]
    · cases hv
  · cases hv

theorem store_ok (h : HRel P g μ H w) {t : TypeId} {b o : Nat} {l : Loc} {v : AV} {x : Value} {H' : Hp} {es : Ef} (hb : μ b = some l) (hx : conc μ v = some x) (hv : evStore P H t b o v = some (H', es)) :
    ∃ w', (storeVar t ⟨l.blk, l.base + o, none⟩ x).run P w = .ok () w' ∧ HRel P g μ H' w' ∧ H'.length = H.length ∧ Inv H.length H H' es := by
  unfold evStore at hv
  split at hv
  · rename_i n hn
    split at hv
    · rename_i hl
      have hc := vcells_conc hx
      obtain ⟨w', h1, h2⟩ := h.wr hb hc hv
      have hlen := concs_length hc
      refine ⟨w', ?_, h2, wr_len hv, Inv.wr hv⟩
      have hs : x.cells.size = n := by rw [← Array.length_toList]; omega
      simp only [storeVar, Sem.run_bind, sizeOf_ok (w := w) hn, Result.andThen_ok, hs, ne_eq, not_true_eq_false, if_false, h1]
    · cases hv
  · cases hv

theorem zero_ok {t : TypeId} {z : List AV} (h : tzero P t = some z) : ∃ v, (zeroValue t).run P w = .ok v w ∧ concs μ z = some v.cells.toList := by
  unfold tzero at h
  simp only [Option.bind_eq_some_iff] at h
  obtain ⟨v, ⟨i, hi, hz⟩, hv⟩ := h
  exact ⟨v, by simp [zeroValue, typeInfo, hi, hz], concs_abs μ _ hv⟩

theorem zeroV_ok {t : TypeId} {z : AV} (h : tzeroV P t = some z) : ∃ v, (zeroValue t).run P w = .ok v w ∧ conc μ z = some v := by
  unfold tzeroV at h
  simp only [Option.bind_eq_some_iff] at h
  obtain ⟨v, ⟨i, hi, hz⟩, hv⟩ := h
  exact ⟨v, by simp [zeroValue, typeInfo, hi, hz], conc_abs μ _ hv⟩

/-- A new row of known size. -/
theorem newRow_ok (h : HRel P g μ H w) (e : TypeId) {c : List AV} {xs : List Value} (hc : concs μ c = some xs) (cap : Nat) :
    HRel P g (upd μ H.length ⟨w.heap.size, 0, cap⟩) (H ++ [.cells c e .rw]) (w.alloc (.cells xs.toArray e)) := by
  refine h.new _ _ cap ⟨xs.toArray, (0, 0), xs, heap_alloc_new w _, hc, ?_, ?_, ?_⟩
  · simp [concs_length hc]
  · intro i v hv; simpa using hv
  · exact ⟨rfl, by simp [concs_length hc], rfl⟩

theorem alloc_ok (h : HRel P g μ H w) {e : TypeId} {z : List AV} (hz : tzero P e = some z) : Yields P g μ H w (Instr.alloc e true (.tuple #[])) (.ptr H.length 0, H ++ [.cells z e .rw], z0) := by
  obtain ⟨v, h1, h2⟩ := zero_ok (w := w) (μ := μ) hz
  refine ⟨_, .pointer (some ⟨w.heap.size, 0, none⟩), _, ?_, h.le_upd _, newRow_ok h e h2 0, ?_, by simp, Inv.snoc, upd_dom⟩
  · simp [Instr.alloc, h1, newVar, newRow]
  · simp [conc, upd_same]

theorem box_ok (h : HRel P g μ H w) {e : TypeId} {v : AV} {x : Value} (hx : conc μ v = some x) : Yields P g μ H w (Instr.box e x) (.ptr H.length 0, H ++ [.cells (vcells v) e .rw], z0) := by
  refine ⟨_, .pointer (some ⟨w.heap.size, 0, none⟩), _, ?_, h.le_upd _, newRow_ok h e (vcells_conc hx) 0, ?_, by simp, Inv.snoc, upd_dom⟩
  · simp [Instr.box, newVar, newRow]
  · simp [conc, upd_same]

theorem un_ok {op : UnOp} {x v : AV} {x' : Value} (h : evUn op x = some v) (hx : conc μ x = some x') : ∃ v', (Op.unary op x').run P w = .ok v' w ∧ conc μ v = some v' := by
  unfold evUn at h
  split at h
  · cases hx; cases h; exact ⟨_, by simp [Op.unary, Op.intArith], rfl⟩
  · cases hx
    unfold evInt at h
    cases h; exact ⟨_, by simp [Op.unary, Op.intBits], rfl⟩
  · cases hx; cases h; exact ⟨_, by simp [Op.unary], rfl⟩
  · cases h

theorem tsh_slice {t : TypeId} {e n b : Nat} (h : tsh P t = some (.slice e n b)) : P.underlying t = some (.slice e) ∧ ∃ i, P.info? e = some i ∧ i.size = n ∧ i.bytes = b := by
  unfold tsh at h
  split at h <;> simp only [Option.map_eq_some_iff, Option.some.injEq, reduceCtorEq, Sh.slice.injEq, and_false, exists_false] at h
  rename_i u
  obtain ⟨i, hi, rfl, rfl, rfl⟩ := h
  exact ⟨u, i, hi, rfl, rfl⟩
theorem tsh_array {t : TypeId} {l e n : Nat} (h : tsh P t = some (.array l e n)) : P.underlying t = some (.array l e) ∧ ∃ i, P.info? e = some i ∧ i.size = n := by
  unfold tsh at h
  split at h <;> simp only [Option.map_eq_some_iff, Option.some.injEq, reduceCtorEq, Sh.array.injEq, and_false, exists_false] at h
  rename_i u
  obtain ⟨i, hi, rfl, rfl, rfl⟩ := h
  exact ⟨u, i, hi, rfl⟩
theorem tsh_str {t : TypeId} (h : tsh P t = some .str) : P.underlying t = some .string := by
  unfold tsh at h
  split at h <;> simp only [Option.map_eq_some_iff, Option.some.injEq, reduceCtorEq, and_false, exists_false] at h
  assumption
theorem tsh_map {t k e : TypeId} (h : tsh P t = some (.map k e)) : P.underlying t = some (.map k e) := by
  unfold tsh at h
  split at h <;> simp only [Option.map_eq_some_iff, Option.some.injEq, reduceCtorEq, Sh.map.injEq, and_false, exists_false] at h
  obtain ⟨rfl, rfl⟩ := h
  assumption
theorem tsh_int {t : TypeId} {k : IntKind} (h : tsh P t = some (.int k)) : P.underlying t = some (.int k) := by
  unfold tsh at h
  split at h <;> simp only [Option.map_eq_some_iff, Option.some.injEq, reduceCtorEq, Sh.int.injEq, and_false, exists_false] at h
  subst h
  assumption
theorem tsh_bool {t : TypeId} (h : tsh P t = some .bool) : P.underlying t = some .bool := by
  unfold tsh at h
  split at h <;> simp only [Option.map_eq_some_iff, Option.some.injEq, reduceCtorEq, and_false, exists_false] at h
  assumption
theorem tsh_ptr {t e : TypeId} (h : tsh P t = some (.ptr e)) : P.underlying t = some (.pointer e) := by
  unfold tsh at h
  split at h <;> simp only [Option.map_eq_some_iff, Option.some.injEq, reduceCtorEq, Sh.ptr.injEq, and_false, exists_false] at h
  subst h
  assumption
theorem tsh_upt {t : TypeId} (h : tsh P t = some .upt) : P.underlying t = some .unsafePointer := by
  unfold tsh at h
  split at h <;> simp only [Option.map_eq_some_iff, Option.some.injEq, reduceCtorEq, and_false, exists_false] at h
  assumption
theorem tsh_struct {t : TypeId} (h : tsh P t = some .struct) : ∃ fs, P.underlying t = some (.struct fs) := by
  unfold tsh at h
  split at h <;> simp only [Option.map_eq_some_iff, Option.some.injEq, reduceCtorEq, and_false, exists_false] at h
  exact ⟨_, by assumption⟩
theorem tsh_iface {t : TypeId} (h : tsh P t = some .iface) : ∃ fs, P.underlying t = some (.interface fs) := by
  unfold tsh at h
  split at h <;> simp only [Option.map_eq_some_iff, Option.some.injEq, reduceCtorEq, and_false, exists_false] at h
  exact ⟨_, by assumption⟩
theorem tsh_some {t : TypeId} {s : Sh} (h : tsh P t = some s) : ∃ d, P.underlying t = some d ∧ (s = .iface ∨ ∀ ms, d ≠ .interface ms) := by
  unfold tsh at h
  split at h <;> simp only [Option.map_eq_some_iff, Option.some.injEq, reduceCtorEq] at h
  all_goals first
    | (rename_i u; exact ⟨_, u, .inl h.symm⟩)
    | (rename_i d h1 h2 h3 h4 h5 h6 h7 h8 h9 h10 h11 h12 u; exact ⟨_, u, .inr (fun ms e => h10 ms e)⟩)
    | (rename_i u; exact ⟨_, u, .inr (fun ms e => by cases e)⟩)

theorem size_info {e n : Nat} {i : TypeInfo} (hi : P.info? e = some i) (hn : i.size = n) : (sizeOf e).run P w = .ok n w := sizeOf_ok (by simp [tsize, hi, hn])

theorem field_ok {t f : Nat} {x : Nat × Nat × Bool} (h : tfield P t f = some x) : ∃ fs fl, P.underlying t = some (.struct fs) ∧ fs[f]? = some fl ∧ fl.offset = x.1 ∧ tsize P fl.type = some x.2.1 ∧ tagg P fl.type = some x.2.2 := by
  unfold tfield at h
  split at h
  · rename_i fs u
    simp only [Option.bind_eq_some_iff, Option.map_eq_some_iff] at h
    obtain ⟨fl, h1, n, h2, a, h3, rfl⟩ := h
    exact ⟨fs, fl, u, h1, rfl, h2, h3⟩
  · cases h

theorem fieldAddr_ok {t f b o : Nat} {x : Nat × Nat × Bool} {l : Loc} (h : tfield P t f = some x) (hz : x.2.1 ≠ 0) (hb : μ b = some l) :
    ∃ v', (Instr.fieldAt t (.pointer (some ⟨l.blk, l.base + o, none⟩)) f).run P w = .ok v' w ∧ conc μ (.ptr b (o + x.1)) = some v' := by
  obtain ⟨fs, fl, h1, h2, h3, h4, h5⟩ := field_ok h
  refine ⟨.pointer (some ⟨l.blk, l.base + (o + x.1), none⟩), ?_, by simp [conc, hb]⟩
  simp only [Instr.fieldAt, Sem.run_bind, run_underlying h1, Result.andThen_ok, h2, Instr.sureAddr, Sem.run_pure, fieldPlace, sizeOf_ok (w := w) h4, Sem.run_ite]
  rw [if_neg hz, h3]
  simp [Addr.add_mid, Nat.add_assoc]

theorem fieldVal_ok {t f : Nat} {x : Nat × Nat × Bool} {cs : List AV} {xs : List Value} {v : AV} (h : tfield P t f = some x) (hc : concs μ cs = some xs)
    (hv : (if x.2.2 then (if x.1 + x.2.1 ≤ cs.length then some (.agg ((cs.drop x.1).take x.2.1)) else none) else cs[x.1]?) = some v) :
    ∃ v', (Instr.field t (.agg xs.toArray) f).run P w = .ok v' w ∧ conc μ v = some v' := by
  obtain ⟨fs, fl, h1, h2, h3, h4, h5⟩ := field_ok h
  have hp : partA P fl.type cs x.1 = some v := by
    unfold partA
    rw [h5, h4]
    cases hx : x.2.2
    · simpa [hx] using hv
    · simpa [hx] using hv
  obtain ⟨v', e1, e2⟩ := part_ok (w := w) hc hp
  refine ⟨v', ?_, e2⟩
  simp only [Instr.field, Sem.run_bind, run_underlying h1, Result.andThen_ok, h2, asAgg, Sem.run_pure, h3, e1]

theorem index_ok {t : TypeId} {x i v : AV} {x' i' : Value} (h : evIndex P t x i = some v) (hx : conc μ x = some x') (hi : conc μ i = some i') :
    ∃ v', (Instr.index t x' i').run P w = .ok v' w ∧ conc μ v = some v' := by
  unfold evIndex at h
  split at h
  · rename_i s k i ht
    cases hx; cases hi
    split at h
    · rename_i h0
      simp only [Option.map_eq_some_iff] at h
      obtain ⟨b, hb, rfl⟩ := h
      refine ⟨.int .u8 b.toNat, ?_, rfl⟩
      have hb' : (⟨s.toArray⟩ : ByteArray)[i.toNat]? = some b := by
        have hlt : i.toNat < s.length := (List.getElem?_eq_some_iff.1 hb).1
        have hlt' : i.toNat < (⟨s.toArray⟩ : ByteArray).size := by simpa [ByteArray.size] using hlt
        rw [getElem?_pos (⟨s.toArray⟩ : ByteArray) i.toNat hlt']
        have : s[i.toNat] = b := (List.getElem?_eq_some_iff.1 hb).2
        rw [← this]
        rfl
      simp only [Instr.index, asIntOf, Sem.run_bind, Sem.run_pure, Result.andThen_ok, run_underlying (tsh_str ht), h0, if_true, hb']
    · cases h
  · rename_i l e n cs k i ht
    obtain ⟨u, inf, hinf, hn⟩ := tsh_array ht
    cases hi
    simp only [conc, Option.map_eq_some_iff] at hx
    obtain ⟨xs, hxs, rfl⟩ := hx
    split at h
    · rename_i hb
      obtain ⟨v', e1, e2⟩ := part_ok (w := w) hxs h
      refine ⟨v', ?_, e2⟩
      simp only [Instr.index, asIntOf, Sem.run_bind, Sem.run_pure, Result.andThen_ok, run_underlying u, Sem.run_ite, if_pos hb, size_info (w := w) hinf hn, e1]
    · cases h
  · cases h

theorem indexAddr_ok {t : TypeId} {x i v : AV} {x' i' : Value} (h : evIndexAddr P t x i = some v) (hx : conc μ x = some x') (hi : conc μ i = some i') :
    ∃ v', (Instr.indexAt t x' i').run P w = .ok v' w ∧ conc μ v = some v' := by
  unfold evIndexAddr at h
  split at h
  · rename_i e z by_ b o n c k i ht
    obtain ⟨u, inf, hinf, hn, _⟩ := tsh_slice ht
    cases hi
    simp only [conc, Option.map_eq_some_iff] at hx
    obtain ⟨l, hl, rfl⟩ := hx
    split at h
    · rename_i hb
      cases h
      refine ⟨.pointer (some ⟨l.blk, l.base + (o + i.toNat * z), none⟩), ?_, by simp [conc, hl]⟩
      simp only [Instr.indexAt, asIntOf, Sem.run_bind, Sem.run_pure, Result.andThen_ok, run_underlying u, Sem.run_ite, if_pos hb, size_info (w := w) hinf hn]
      simp [Addr.add_mid, Nat.add_assoc]
    · cases h
  · rename_i n e z b o k i ht
    obtain ⟨u, inf, hinf, hn⟩ := tsh_array ht
    cases hi
    simp only [conc, Option.map_eq_some_iff] at hx
    obtain ⟨l, hl, rfl⟩ := hx
    split at h
    · rename_i hb
      cases h
      refine ⟨.pointer (some ⟨l.blk, l.base + (o + i.toNat * z), none⟩), ?_, by simp [conc, hl]⟩
      simp only [Instr.indexAt, Instr.sureAddr, asIntOf, Sem.run_bind, Sem.run_pure, Result.andThen_ok, run_underlying u, Sem.run_ite, if_pos hb, size_info (w := w) hinf hn]
      simp [Addr.add_mid, Nat.add_assoc]
    · cases h
  · cases h
end
end Go.Proofs.YtgkpgpdkolpfkaaDoor.V
