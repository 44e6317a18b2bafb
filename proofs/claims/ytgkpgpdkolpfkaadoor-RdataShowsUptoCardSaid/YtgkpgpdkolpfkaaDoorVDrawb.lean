/- A region of 'V' whose order is open, second part: operations at other frames and heaps. No conditions. -/
import Derived.Test.YtgkpgpdkolpfkaaDoorVDraw
namespace Go.Proofs.YtgkpgpdkolpfkaaDoor.V
open Go
set_option linter.unusedSimpArgs false
set_option linter.unusedVariables false

section
variable {P : Program} {C : CallO} {σ σ' : List AV} {H : Hp}

theorem evArgs_congr : ∀ {xs : List Operand}, (∀ x ∈ xs, evArg P σ x = evArg P σ' x) → evArgs P σ xs = evArgs P σ' xs
  | [], _ => rfl
  | x :: xs, h => by
    have ih := evArgs_congr (xs := xs) (fun y hy => h y (List.mem_cons_of_mem _ hy))
    simp only [evArgs, h x (by simp), ih]
theorem evParts_congr : ∀ {xs : List (Nat × Operand)}, (∀ x ∈ xs, evArg P σ x.2 = evArg P σ' x.2) → evParts P σ xs = evParts P σ' xs
  | [], _ => rfl
  | (i, x) :: xs, h => by
    have ih := evParts_congr (xs := xs) (fun y hy => h y (List.mem_cons_of_mem _ hy))
    simp only [evParts, h (i, x) (by simp), ih]
theorem evOpt_congr {x : Option Operand} (h : ∀ y, x = some y → evArg P σ y = evArg P σ' y) : evOpt P σ x = evOpt P σ' x := by
  cases x with
  | none => rfl
  | some y => simp only [evOpt, h y rfl]

theorem evCall_congr {c : Call} (h : ∀ x ∈ c.operands, evArg P σ x = evArg P σ' x) : evCall P C σ H c = evCall P C σ' H c := by
  have ha : evArgs P σ c.args.toList = evArgs P σ' c.args.toList := evArgs_congr (fun x hx => h x (by simp only [Call.operands, Array.mem_append]; right; simpa using hx))
  unfold evCall
  split
  · rename_i f hf
    rw [h f (by simp [Call.operands, hf]), ha]
  · rw [ha]
  · rfl

theorem evOp_congr {op : Op} (h : ∀ x ∈ op.operands, evArg P σ x = evArg P σ' x) : evOp P C σ H op = evOp P C σ' H op := by
  cases op with
  | move x => simp only [evOp, h x (by simp [Op.operands])]
  | assign x => simp only [evOp, h x (by simp [Op.operands])]
  | pick c a b => simp only [evOp, h c (by simp [Op.operands]), h a (by simp [Op.operands]), h b (by simp [Op.operands])]
  | alloc e => simp only [evOp]
  | box e x => simp only [evOp, h x (by simp [Op.operands])]
  | build t ps => simp only [evOp]; rw [evParts_congr (fun x hx => h x.2 (by simp only [Op.operands, List.mem_toArray, List.mem_map]; exact ⟨x, hx, rfl⟩))]
  | buildSlice t n ps => simp only [evOp]; rw [evParts_congr (fun x hx => h x.2 (by simp only [Op.operands, List.mem_toArray, List.mem_map]; exact ⟨x, hx, rfl⟩))]
  | load t x => simp only [evOp, h x (by simp [Op.operands])]
  | store t x y => simp only [evOp, h x (by simp [Op.operands]), h y (by simp [Op.operands])]
  | nilCheck x => simp only [evOp, h x (by simp [Op.operands])]
  | binOp o t x y u => simp only [evOp, h x (by simp [Op.operands]), h y (by simp [Op.operands])]
  | unOp o t x => simp only [evOp, h x (by simp [Op.operands])]
  | convert s d x => simp only [evOp, h x (by simp [Op.operands])]
  | makeInterface t x => simp only [evOp, h x (by simp [Op.operands])]
  | makeFunc fn f c =>
    simp only [evOp]
    rw [evArgs_congr (xs := f.toList) (fun x hx => h x (by simp only [Op.operands, Array.mem_append]; left; simpa using hx)), evArgs_congr (xs := c.toList) (fun x hx => h x (by simp only [Op.operands, Array.mem_append]; right; simpa using hx))]
  | makeMap t r =>
    cases r with
    | none => simp only [evOp]
    | some x => simp only [evOp, h x (by simp [Op.operands])]
  | makeSlice t l c => simp only [evOp, h l (by simp [Op.operands]), h c (by simp [Op.operands])]
  | slice t x lo hi mx =>
    simp only [evOp]
    rw [h x (by simp [Op.operands]), evOpt_congr (x := lo) (fun y hy => h y (by simp [Op.operands, hy])), evOpt_congr (x := hi) (fun y hy => h y (by simp [Op.operands, hy])), evOpt_congr (x := mx) (fun y hy => h y (by simp [Op.operands, hy]))]
  | fieldAddr t x f => simp only [evOp, h x (by simp [Op.operands])]
  | field t x f => simp only [evOp, h x (by simp [Op.operands])]
  | indexAddr t x i => simp only [evOp, h x (by simp [Op.operands]), h i (by simp [Op.operands])]
  | index t x i => simp only [evOp, h x (by simp [Op.operands]), h i (by simp [Op.operands])]
  | lookup t x i ok => simp only [evOp, h x (by simp [Op.operands]), h i (by simp [Op.operands])]
  | mapUpdate t m k v => simp only [evOp, h m (by simp [Op.operands]), h k (by simp [Op.operands]), h v (by simp [Op.operands])]
  | insert t m k v => simp only [evOp, h m (by simp [Op.operands]), h k (by simp [Op.operands]), h v (by simp [Op.operands])]
  | range t x => simp only [evOp, h x (by simp [Op.operands])]
  | next it b => cases b <;> simp only [evOp, h it (by simp [Op.operands])]
  | extract x i => simp only [evOp, h x (by simp [Op.operands])]
  | call c => simp only [evOp]; exact evCall_congr (fun x hx => h x hx)
  | _ => rfl

theorem evArg_congr {x : Operand} (h : ∀ t, x = .tmp t → σ[t]? = σ'[t]?) : evArg P σ x = evArg P σ' x := by
  cases x with
  | tmp t => simp only [evArg, h t rfl]
  | _ => rfl

/-- An operation that does not look at memory answers the same over any. -/
theorem evOp_pure {op : Op} (hp : pureOp op = true) {q : AV × Hp × Ef} (h : evOp P C σ H op = some q) : q = (q.1, H, z0) ∧ ∀ H' : Hp, evOp P C σ H' op = some (q.1, H', z0) := by
  have hret : ∀ {v : Option AV} {q : AV × Hp × Ef}, ret H v = some q → q = (q.1, H, z0) ∧ ∀ H' : Hp, ret H' v = some (q.1, H', z0) := by
    intro v q hv
    obtain ⟨u, rfl, rfl⟩ := ret_some hv
    exact ⟨rfl, fun _ => rfl⟩
  cases op <;> simp only [pureOp] at hp <;> first | (cases hp; done) | skip
  case move x => exact hret h
  case assign x => exact hret h
  case pick c a b =>
    simp only [evOp, Option.bind_eq_some_iff] at h ⊢
    obtain ⟨cv, hc, h⟩ := h
    split at h
    · obtain ⟨h1, h2⟩ := hret h
      exact ⟨h1, fun H' => ⟨_, hc, h2 H'⟩⟩
    · cases h
  case build t ps =>
    simp only [evOp, Option.bind_eq_some_iff] at h ⊢
    obtain ⟨cv, hc, h⟩ := h
    obtain ⟨h1, h2⟩ := hret h
    exact ⟨h1, fun H' => ⟨_, hc, h2 H'⟩⟩
  case nilCheck x =>
    simp only [evOp, Option.bind_eq_some_iff] at h ⊢
    obtain ⟨cv, hc, h⟩ := h
    split at h
    · cases h; exact ⟨rfl, fun H' => ⟨_, hc, rfl⟩⟩
    · cases h; exact ⟨rfl, fun H' => ⟨_, hc, rfl⟩⟩
    · cases h
  case binOp o t x y u =>
    simp only [evOp, Option.bind_eq_some_iff] at h ⊢
    obtain ⟨xv, hx, yv, hy, h⟩ := h
    split at h
    · split at h
      · rename_i hcst
        split at h
        · obtain ⟨h1, h2⟩ := hret h
          exact ⟨h1, fun H' => ⟨_, hx, _, hy, by simp only [hcst, if_true]; exact h2 H'⟩⟩
        · obtain ⟨h1, h2⟩ := hret h
          exact ⟨h1, fun H' => ⟨_, hx, _, hy, by simp only [hcst, if_true]; exact h2 H'⟩⟩
        · cases h
      · cases h
    · rename_i hne
      obtain ⟨h1, h2⟩ := hret h
      refine ⟨h1, fun H' => ⟨_, hx, _, hy, ?_⟩⟩
      have := h2 H'
      split
      · exact (hne rfl rfl).elim
      · exact this
  case unOp o t x =>
    simp only [evOp, Option.bind_eq_some_iff] at h ⊢
    obtain ⟨cv, hc, h⟩ := h
    obtain ⟨h1, h2⟩ := hret h
    exact ⟨h1, fun H' => ⟨_, hc, h2 H'⟩⟩
  case makeInterface t x =>
    simp only [evOp, Option.bind_eq_some_iff] at h ⊢
    obtain ⟨cv, hc, h⟩ := h
    split at h
    · cases h
    · rename_i s hs hne
      obtain ⟨h1, h2⟩ := hret h
      refine ⟨h1, fun H' => ⟨_, hc, ?_⟩⟩
      exact h2 H'
    · cases h
  case makeFunc fn f c =>
    simp only [evOp, Option.bind_eq_some_iff] at h ⊢
    obtain ⟨xv, hx, yv, hy, h⟩ := h
    obtain ⟨h1, h2⟩ := hret h
    exact ⟨h1, fun H' => ⟨_, hx, _, hy, h2 H'⟩⟩
  case fieldAddr t x f =>
    simp only [evOp, Option.bind_eq_some_iff] at h ⊢
    obtain ⟨cv, hc, h⟩ := h
    split at h
    · simp only [Option.bind_eq_some_iff] at h
      obtain ⟨y, hy, h⟩ := h
      split at h
      · cases h
      · rename_i hz
        cases h
        exact ⟨rfl, fun H' => ⟨_, hc, by simp only [hy, Option.bind_some, hz, if_false]⟩⟩
    · cases h
  case field t x f =>
    simp only [evOp, Option.bind_eq_some_iff] at h ⊢
    obtain ⟨cv, hc, h⟩ := h
    split at h
    · simp only [Option.bind_eq_some_iff] at h
      obtain ⟨y, hy, h⟩ := h
      obtain ⟨h1, h2⟩ := hret h
      exact ⟨h1, fun H' => ⟨_, hc, by simp only [hy, Option.bind_some]; exact h2 H'⟩⟩
    · cases h
  case indexAddr t x i =>
    simp only [evOp, Option.bind_eq_some_iff] at h ⊢
    obtain ⟨xv, hx, yv, hy, h⟩ := h
    obtain ⟨h1, h2⟩ := hret h
    exact ⟨h1, fun H' => ⟨_, hx, _, hy, h2 H'⟩⟩
  case index t x i =>
    simp only [evOp, Option.bind_eq_some_iff] at h ⊢
    obtain ⟨xv, hx, yv, hy, h⟩ := h
    obtain ⟨h1, h2⟩ := hret h
    exact ⟨h1, fun H' => ⟨_, hx, _, hy, h2 H'⟩⟩
  case extract x i =>
    simp only [evOp, Option.bind_eq_some_iff] at h ⊢
    obtain ⟨cv, hc, h⟩ := h
    split at h
    · obtain ⟨h1, h2⟩ := hret h
      exact ⟨h1, fun H' => ⟨_, hc, h2 H'⟩⟩
    · cases h
end

theorem evLen_more {P : Program} {t : TypeId} {x : AV} {H : Hp} {u : AV} (X : Hp) (h : evLen P t x H = some u) : evLen P t x (H ++ X) = some u := by
  unfold evLen at h ⊢
  split at h <;> try (first | exact h | cases h)
  rename_i r ht
  try rw [ht]
  cases hb : H[r]? with
  | none => rw [hb] at h; cases h
  | some y => rw [hb] at h; rw [List.getElem?_append_left (List.getElem?_eq_some_iff.1 hb).1, hb]; exact h
theorem evLen_less {P : Program} {t : TypeId} {x : AV} {H : Hp} {u : AV} (X : Hp) (h : evLen P t x (H ++ X) = some u) (hx : ∀ r, x = .map r → r < H.length) : evLen P t x H = some u := by
  unfold evLen at h ⊢
  split at h <;> try (first | exact h | cases h)
  rename_i r ht
  try rw [ht]
  rw [List.getElem?_append_left (hx r rfl)] at h
  exact h
theorem evLoad_more {P : Program} {t : TypeId} {b o : Nat} {H : Hp} {u : AV} (X : Hp) (hu : evLoad P H t b o = some u) : evLoad P (H ++ X) t b o = some u := by
  have hrd : ∀ n x, rd H b o n = some x → rd (H ++ X) b o n = some x := by
    intro n x hx
    unfold rd at hx ⊢
    cases hb : H[b]? with
    | none => rw [hb] at hx; cases hx
    | some y => rw [hb] at hx; rw [List.getElem?_append_left (List.getElem?_eq_some_iff.1 hb).1, hb]; exact hx
  unfold evLoad at hu ⊢
  split at hu
  · rename_i ht
    try rw [ht]
    simp only [Option.bind_eq_some_iff, Option.map_eq_some_iff] at hu ⊢
    obtain ⟨n, hn, x, hx, he⟩ := hu
    exact ⟨n, hn, x, hrd _ _ hx, he⟩
  · rename_i ht
    try rw [ht]
    simp only [Option.bind_eq_some_iff] at hu ⊢
    obtain ⟨x, hx, he⟩ := hu
    exact ⟨x, hrd _ _ hx, he⟩
  · cases hu
theorem evLoad_less {P : Program} {t : TypeId} {b o : Nat} {H : Hp} {u : AV} (X : Hp) (hu : evLoad P (H ++ X) t b o = some u) (hlt : b < H.length) : evLoad P H t b o = some u := by
  have hrd : ∀ n, rd (H ++ X) b o n = rd H b o n := by
    intro n
    unfold rd
    rw [List.getElem?_append_left hlt]
  unfold evLoad at hu ⊢
  simpa only [hrd] using hu

/-- A load reads the same where more has been laid behind. -/
theorem evOp_load {P : Program} {C : CallO} {σ : List AV} {H : Hp} {op : Op} (hp : monoOp op = true) {q : AV × Hp × Ef} (h : evOp P C σ H op = some q) : q = (q.1, H, z0) ∧ ∀ X : Hp, evOp P C σ (H ++ X) op = some (q.1, H ++ X, z0) := by
  cases op <;> simp only [monoOp] at hp <;> first | (cases hp; done) | skip
  case load t a =>
    simp only [evOp, Option.bind_eq_some_iff] at h ⊢
    obtain ⟨av, ha, h⟩ := h
    split at h
    · rename_i b o
      obtain ⟨u, hu, rfl⟩ := ret_some h
      refine ⟨rfl, fun X => ⟨_, ha, ?_⟩⟩
      simp only [evLoad_more X hu]; rfl
    · cases h
  case call c =>
    split at hp
    · rename_i hc
      simp only [evOp, evCall, hc, Option.bind_eq_some_iff] at h ⊢
      obtain ⟨as, has, h⟩ := h
      split at h <;> first | contradiction | skip
      rename_i x t ts ht hts
      obtain ⟨u, hu, rfl⟩ := ret_some h
      refine ⟨rfl, fun X => ⟨_, has, ?_⟩⟩
      simp only [hts, evLen_more X hu]; rfl
    · cases hp
/-- A load reads the same where less has been laid behind, at what there is. -/
theorem evOp_back {P : Program} {C : CallO} {μ : Mu} {σ : List AV} {H : Hp} {op : Op} (hp : monoOp op = true) {q : AV × Hp × Ef} {X : Hp} (h : evOp P C σ (H ++ X) op = some q)
    (hv : ∀ x ∈ op.operands, ∀ v, evArg P σ x = some v → ∃ u, conc μ v = some u) (hd : ∀ b l, μ b = some l → b < H.length) : evOp P C σ H op = some (q.1, H, z0) := by
  cases op <;> simp only [monoOp] at hp <;> first | (cases hp; done) | skip
  case load t a =>
    simp only [evOp, Option.bind_eq_some_iff] at h ⊢
    obtain ⟨av, ha, h⟩ := h
    obtain ⟨u', hu'⟩ := hv a (by simp [Op.operands]) av ha
    split at h
    · rename_i b o
      simp only [conc, Option.map_eq_some_iff] at hu'
      obtain ⟨l, hl, _⟩ := hu'
      obtain ⟨u, hu, rfl⟩ := ret_some h
      refine ⟨_, ha, ?_⟩
      simp only [evLoad_less X hu (hd b l hl)]; rfl
    · cases h
  case call c =>
    split at hp
    · rename_i hc
      simp only [evOp, evCall, hc, Option.bind_eq_some_iff] at h ⊢
      obtain ⟨as, has, h⟩ := h
      split at h <;> first | contradiction | skip
      rename_i x t ts ht hts
      obtain ⟨u, hu, rfl⟩ := ret_some h
      refine ⟨_, has, ?_⟩
      have hx : ∀ r, x = .map r → r < H.length := by
        rintro r rfl
        cases hcl : c.args.toList with
        | nil => rw [hcl] at has; simp [evArgs] at has
        | cons y ys =>
          rw [hcl] at has
          simp only [evArgs, Option.bind_eq_some_iff, Option.map_eq_some_iff] at has
          obtain ⟨v, hvv, l, hl, he⟩ := has
          injection he with he1 he2
          subst he1
          obtain ⟨u', hu'⟩ := hv y (by
            simp only [Op.operands, Call.operands, Array.mem_append]
            have : y ∈ c.args := by rw [← Array.mem_toList_iff, hcl]; simp
            simp [hc, this]) _ hvv
          simp only [conc, Option.map_eq_some_iff] at hu'
          obtain ⟨l', hl', _⟩ := hu'
          exact hd r l' hl'
      simp only [hts, evLen_less X hu hx]; rfl
    · cases hp

theorem Inv.grown {n : Nat} {H : Hp} {H' : Hp} (h : Inv n H H' z0) (hn : n = H.length) (hl : H.length ≤ H'.length) : ∃ X, H' = H ++ X := by
  refine ⟨H'.drop H.length, ?_⟩
  subst hn
  apply List.ext_getElem?
  intro b
  by_cases hb : b < H.length
  · rw [List.getElem?_append_left hb]
    exact h.wi b hb (fun e he => by cases he)
  · rw [List.getElem?_append_right (by omega), List.getElem?_drop]
    congr 1; omega

theorem conc_isBool {μ : Mu} {x : AV} {b : Bool} (h : conc μ x = some (.bool b)) : x = .bool b := by
  cases x <;> simp [conc, Option.bind_eq_some_iff] at h
  subst h; rfl

/-- Is an operation's guard met? Here as there. -/
theorem wanted_ok {ops : Array Oper} {μ : Mu} {σ : List AV} {a : Act} (hσ : concs μ σ = some a.tmps.toList) (o : Oper) : Region.wanted o (yielded ops a.tmps) = wantedA ops.toList σ o := by
  unfold Region.wanted wantedA
  cases hg : o.guard with
  | none => rfl
  | some jw =>
    obtain ⟨j, want⟩ := jw
    simp only [yielded, Array.getElem?_toList]
    cases hd : (ops[j]?).bind (·.dst) with
    | none => simp
    | some d =>
      simp only [Option.bind_some]
      have hc := concs_get hσ d
      rw [Array.getElem?_toList] at hc
      rw [hc]
      cases hs : σ[d]? with
      | none => simp
      | some v =>
        simp only [Option.bind_some]
        by_cases hb : ∃ b, v = .bool b
        · obtain ⟨b, rfl⟩ := hb
          simp [conc]
        · have : ∀ b, conc μ v ≠ some (.bool b) := fun b hcb => hb ⟨b, conc_isBool hcb⟩
          have hr : (match (some v : Option AV) with | some (.bool b) => b == want | _ => false) = false := by
            cases v <;> first | (exact absurd ⟨_, rfl⟩ hb) | rfl
          cases hcv : conc μ v with
          | none => simp only [reduceCtorEq, beq_iff_eq]; cases v <;> first | (exact absurd ⟨_, rfl⟩ hb) | rfl
          | some x =>
            have hx : ∀ b, x ≠ .bool b := fun b e => this b (by rw [hcv, e])
            cases x <;> first | (exact absurd rfl (hx _)) | (cases v <;> first | (exact absurd ⟨_, rfl⟩ hb) | rfl)

theorem wantedA_congr {ops : List Oper} {σ σ' : List AV} {o : Oper} (h : ∀ t ∈ readsT ops o, σ[t]? = σ'[t]?) : wantedA ops σ o = wantedA ops σ' o := by
  unfold wantedA
  cases hg : o.guard with
  | none => rfl
  | some jw =>
    obtain ⟨j, want⟩ := jw
    simp only
    cases hd : (ops[j]?).bind (·.dst) with
    | none => rfl
    | some d =>
      simp only
      rw [h d (by simp [readsT, hg, hd])]

/-- A block that has no place yet gets one. -/
theorem HRel.newAt {P : Program} {g : Gh} {μ : Mu} {H : Hp} {w : World} (h : HRel P g μ H w) (o : Obj) {b : Nat} {x : ABlk} (hb : H[b]? = some x) (hm : μ b = none)
    (hx : BRel P μ (w.alloc o) ⟨w.heap.size, 0, 0⟩ x) : HRel P g (upd μ b ⟨w.heap.size, 0, 0⟩) H (w.alloc o) := by
  have hle : Le μ (upd μ b ⟨w.heap.size, 0, 0⟩) := by
    intro c l e
    rw [upd_other]
    · exact e
    · rintro rfl; rw [hm] at e; cases e
  exact {
    dom := fun c l e => by
      by_cases hc : c = b
      · subst hc; exact (List.getElem?_eq_some_iff.1 hb).1
      · rw [upd_other _ _ hc] at e; exact h.dom c l e
    glob := fun i hi => by
      obtain ⟨c, hc⟩ := h.glob i hi
      exact ⟨c, hle _ _ hc⟩
    lt := fun c l e => by
      by_cases hc : c = b
      · subst hc; rw [upd_same] at e; cases e; simp
      · rw [upd_other _ _ hc] at e
        have := h.lt c l e
        simp; omega
    blk := fun c l y e f => by
      by_cases hc : c = b
      · subst hc
        rw [upd_same] at e; rw [hb] at f
        cases e; cases f
        exact hx.mono hle (fun _ => rfl)
      · rw [upd_other _ _ hc] at e
        exact (h.blk c l y e f).mono hle (fun _ => Go.RowKit.Below.heap_alloc w o _ (h.lt c l e))
    sep := fun c c' l l' y y' hne e e' f f' hw hl => by
      by_cases hc : c = b <;> by_cases hc' : c' = b
      · omega
      · subst hc
        rw [upd_same] at e; cases e
        rw [upd_other _ _ hc'] at e'
        have := h.lt _ _ e'
        simp only; omega
      · subst hc'
        rw [upd_same] at e'; cases e'
        rw [upd_other _ _ hc] at e
        have := h.lt _ _ e
        simp only; omega
      · rw [upd_other _ _ hc] at e
        rw [upd_other _ _ hc'] at e'
        exact h.sep c c' l l' y y' hne e e' f f' hw hl
    own := fun c l y e f hw => by
      by_cases hc : c = b
      · subst hc
        rw [upd_same] at e; cases e
        intro hz
        have := (h.old _ hz).1
        simp only at this
        omega
      · rw [upd_other _ _ hc] at e
        exact h.own c l y e f hw
    old := fun k hk => by
      have := h.old k hk
      exact ⟨by simp; omega, (Go.RowKit.Below.heap_alloc w o k this.1).trans this.2⟩
    os := h.os
    tape := h.tape
    output := h.output
    size := by have := h.size; simp; omega }

/-- Blocks without a place may stand behind. -/
theorem HRel.extend {P : Program} {g : Gh} {μ : Mu} {H : Hp} {w : World} (h : HRel P g μ H w) (X : Hp) : HRel P g μ (H ++ X) w := by
  have hget : ∀ {b l x}, μ b = some l → (H ++ X)[b]? = some x → H[b]? = some x := by
    intro b l x e f
    rwa [List.getElem?_append_left (h.dom b l e)] at f
  exact {
    dom := fun b l e => by have := h.dom b l e; simp; omega
    glob := h.glob
    lt := h.lt
    blk := fun b l x e f => h.blk b l x e (hget e f)
    sep := fun b b' l l' x x' hne e e' f f' => h.sep b b' l l' x x' hne e e' (hget e f) (hget e' f')
    own := fun b l x e f => h.own b l x e (hget e f)
    old := h.old
    os := h.os
    tape := h.tape
    output := h.output
    size := h.size }

theorem Inv.extend {n : Nat} {H : Hp} (hn : n ≤ H.length) (X : Hp) (e : Ef) : Inv n H (H ++ X) e :=
  ⟨fun b hb _ x' hx' => by
    rw [List.getElem?_append_left (by omega)] at hx'
    exact ⟨x', hx', fun _ hv => .inl hv⟩, fun b hb _ => List.getElem?_append_left (by omega)⟩
end Go.Proofs.YtgkpgpdkolpfkaaDoor.V
