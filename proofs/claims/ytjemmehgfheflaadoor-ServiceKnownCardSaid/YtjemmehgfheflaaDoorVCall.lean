/- What the evaluator 'V' answers the machine answers: code and calls. No conditions. -/
import Derived.Test.YtjemmehgfheflaaDoorVCode
namespace Go.Proofs.YtjemmehgfheflaaDoor.V
open Go
set_option linter.unusedSimpArgs false
set_option linter.unusedVariables false

section
variable {P : Program} {C : CallO} {g : Gh}

theorem SInv.refl (s : St) : SInv s s := ⟨Nat.le_refl _, z0, (Ef.and_z0 _).symm, Inv.refl _ _ _⟩
theorem SInv.trans {a b c : St} (h : SInv a b) (k : SInv b c) : SInv a c := by
  obtain ⟨h1, e, h2, h3⟩ := h
  obtain ⟨k1, f, k2, k3⟩ := k
  exact ⟨Nat.le_trans h1 k1, e.and f, by rw [k2, h2, Ef.and_assoc], h3.trans k3 h1⟩

theorem After.trans {μ : Mu} {s s1 s2 : St} {Q : Act → World → Prop} (h : After P g μ s s2 Q) {μ1 : Mu} (hle : Le μ μ1) (hd : ∀ b, b < s.H.length → μ1 b = μ b) (hi : SInv s s1) : After P g μ1 s1 s2 Q := by
  intro μ' a' w' l1 l2 l3 l4
  refine h μ' a' w' (hle.trans l1) (fun b hb => ?_) l3 (hi.trans l4)
  rw [l2 b (Nat.lt_of_lt_of_le hb hi.1), hd b hb]

theorem After.refl {μ : Mu} {s : St} {Q : Act → World → Prop} {a : Act} {w : World} (h : After P g μ s s Q) (hr : SRel P g μ s w a) : Q a w := h μ a w (Le.refl μ) (fun _ _ => rfl) hr (SInv.refl s)

theorem SInv.of_ok {μ μ' : Mu} {s : St} {r : AV × Hp × Ef} {v' : Value} {w' : World} (h : Ok P g μ s.H r μ' v' w') (σ : List AV) : SInv s ⟨σ, r.2.1, s.ef.and r.2.2⟩ := ⟨h.len, r.2.2, rfl, h.inv⟩

theorem ops_ok (hC : CallsOk P C) {ops : Array Oper} : ∀ (l : List Oper) {s s' : St}, evOps P C ops.toList l s = some s' → ∀ {μ : Mu} {w : World} {a : Act} {Q : Exit → Act → World → Prop}, SRel P g μ s w a → After P g μ s s' (Q .normal) → wpList P ops Q l a w
  | [], s, s', h, μ, w, a, Q, hr, hQ => by
    simp only [evOps] at h
    cases h
    exact hQ.refl hr
  | o :: l, s, s', h, μ, w, a, Q, hr, hQ => by
    simp only [evOps] at h
    have hw := wanted_ok hr.tm o (ops := ops)
    unfold wpList
    split at h
    · rename_i hwa
      simp only [Option.bind_eq_some_iff] at h
      obtain ⟨r, hr1, h⟩ := h
      rw [if_pos (by rw [hw]; exact hwa)]
      refine .inl (op_ok hC hr.rel hr.tm hr1 _ _ (fun μ' v' w' hok => ?_))
      exact ops_ok hC l h (hr.step o.dst hok _) (hQ.trans hok.le hok.dom (SInv.of_ok hok _))
    · rename_i hwa
      rw [if_neg (by rw [hw]; exact hwa)]
      refine ops_ok hC l h (hr.undef o.dst s.ef) (hQ.trans (Le.refl μ) (fun _ _ => rfl) ⟨Nat.le_refl _, z0, (Ef.and_z0 _).symm, Inv.refl _ _ _⟩)

theorem region_ok (hC : CallsOk P C) {ops : Array Oper} {id : Nat} {d : Bool} {s s' : St} (h : evRegion P C ops.toList d s = some s') {μ : Mu} {w : World} {a : Act} {Q : Exit → Act → World → Prop} (hr : SRel P g μ s w a) (hQ : After P g μ s s' (Q .normal)) :
    (Code.region id ops d).wp P Q a w := by
  unfold evRegion at h
  cases d with
  | false => exact wp_region_list (ops_ok hC ops.toList h hr hQ)
  | true =>
    simp only [if_true] at h
    split at h
    · rename_i hm
      have hr' : SRel P g μ s { w with drawn := w.drawn + 1 } a := ⟨hr.rel.congr rfl rfl rfl rfl, hr.tm, hr.df⟩
      obtain ⟨sm, fr, ot, pl⟩ := plan_ok hC h hr'
      have hdn : ∀ i, dn (Array.replicate ops.size false) i = false := by
        intro i
        unfold dn
        simp only [Array.getD_eq_getD_getElem?, Array.getElem?_replicate]
        split <;> rfl
      refine wp_region_any hm (any_ok hC rfl pl hQ ops.size (μ := μ) ⟨by simp, ?_, ?_, hr.df, ?_, Le.refl μ, fun _ _ => rfl, ?_, ?_, ?_⟩ ?_)
      · intro i o _ hd
        rw [hdn] at hd; cases hd
      · have : fD (dn (Array.replicate ops.size false)) s.σ (fr ++ ot) = s.σ := by
          apply List.ext_getElem?
          intro t
          exact fD_none _ _ (fun r _ hd => by rw [hdn] at hd; cases hd)
        rw [this]; exact hr.tm
      · rw [hp_none ot _ (fun r _ _ => hdn _)]
        obtain ⟨zs, z1, _⟩ := pl.tr1.frees pl.free
        rw [z1]
        exact hr'.rel.extend _
      · intro k r hk _
        cases he : μ (s.H.length + k) with
        | none => rfl
        | some l => have := hr.rel.dom _ _ he; omega
      · rw [hp_none ot _ (fun r _ _ => hdn _), efs_none ot _ (fun r _ _ => hdn _)]
        obtain ⟨zs, z1, _⟩ := pl.tr1.frees pl.free
        rw [z1]
        exact Inv.extend (Nat.le_refl _) _ _
      · rw [hp_none ot _ (fun r _ _ => hdn _)]; exact Nat.le_refl _
      · have := List.countP_le_length (p := fun i => !dn (Array.replicate ops.size false) i) (l := List.range ops.size)
        simpa using this
    · cases h

def Ex.to : Ex → Exit
  | .normal => .normal
  | .exit id => .exit id
  | .goto l => .goto l
  | .ret => .ret

theorem iter_ok {step : St → Rc} {c : Code} (hstep : ∀ {s s' : St} {ex : Ex}, step s = some (ex, s') → ∀ {μ : Mu} {w : World} {a : Act} {Q : Exit → Act → World → Prop}, SRel P g μ s w a → After P g μ s s' (Q ex.to) → c.wp P Q a w) :
    ∀ (n : Nat) {s s' : St} {ex : Ex}, iter step n s = some (ex, s') → ∀ {μ : Mu} {w : World} {a : Act} {Q : Exit → Act → World → Prop}, SRel P g μ s w a → After P g μ s s' (Q ex.to) → Code.rounds P c Q n a w
  | 0, s, s', ex, h, μ, w, a, Q, hr, hQ => by simp [iter] at h
  | n + 1, s, s', ex, h, μ, w, a, Q, hr, hQ => by
    simp only [iter] at h
    rw [rounds_succ]
    split at h
    · rename_i s1 h1
      refine hstep h1 (Q := Exit.then (Code.rounds P c Q n) Q) hr ?_
      intro μ' a' w' l1 l2 l3 l4
      exact iter_ok hstep n h l3 (hQ.trans l1 l2 l4)
    · rename_i hne
      have hn : ex ≠ .normal := by
        rintro rfl
        exact hne _ h
      refine hstep h hr ?_
      intro μ' a' w' l1 l2 l3 l4
      have := hQ μ' a' w' l1 l2 l3 l4
      cases ex <;> first | (exact absurd rfl hn) | exact this

theorem code_ok (hC : CallsOk P C) (n : Nat) : ∀ (c : Code) {s s' : St} {ex : Ex}, evCode P C n c s = some (ex, s') → ∀ {μ : Mu} {w : World} {a : Act} {Q : Exit → Act → World → Prop}, SRel P g μ s w a → After P g μ s s' (Q ex.to) → c.wp P Q a w := by
  intro c
  induction c with
  | skip => intro s s' ex h μ w a Q hr hQ; simp only [evCode] at h; cases h; exact wp_skip (hQ.refl hr)
  | region id ops d =>
    intro s s' ex h μ w a Q hr hQ
    simp only [evCode, Option.map_eq_some_iff, Prod.mk.injEq] at h
    obtain ⟨s1, h1, rfl, rfl⟩ := h
    exact region_ok hC h1 hr hQ
  | seq x y ihx ihy =>
    intro s s' ex h μ w a Q hr hQ
    simp only [evCode] at h
    apply wp_seq
    split at h
    · rename_i s1 h1
      refine ihx h1 hr ?_
      intro μ' a' w' l1 l2 l3 l4
      exact ihy h l3 (hQ.trans l1 l2 l4)
    · rename_i hne
      have hn : ex ≠ .normal := by
        rintro rfl
        exact hne _ h
      refine ihx h hr ?_
      intro μ' a' w' l1 l2 l3 l4
      have := hQ μ' a' w' l1 l2 l3 l4
      cases ex <;> first | (exact absurd rfl hn) | exact this
  | cond c x y ihx ihy =>
    intro s s' ex h μ w a Q hr hQ
    simp only [evCode] at h
    split at h
    · rename_i hc
      have := arg_ok hr.rel hr.tm hc
      exact wp_cond_true (Option.some.inj this).symm (ihx h hr hQ)
    · rename_i hc
      have := arg_ok hr.rel hr.tm hc
      exact wp_cond_false (Option.some.inj this).symm (ihy h hr hQ)
    · cases h
  | block id c ih =>
    intro s s' ex h μ w a Q hr hQ
    simp only [evCode] at h
    apply wp_block
    split at h
    · rename_i i s1 h1
      split at h
      · rename_i hi
        cases h
        refine ih h1 hr ?_
        intro μ' a' w' l1 l2 l3 l4
        simp only [Ex.to, Exit.inBlock, hi, if_true]
        exact hQ μ' a' w' l1 l2 l3 l4
      · rename_i hi
        cases h
        refine ih h1 hr ?_
        intro μ' a' w' l1 l2 l3 l4
        simp only [Ex.to, Exit.inBlock, hi, if_false]
        exact hQ μ' a' w' l1 l2 l3 l4
    · rename_i hne
      refine ih h hr ?_
      intro μ' a' w' l1 l2 l3 l4
      have := hQ μ' a' w' l1 l2 l3 l4
      cases ex <;> first | (exact (hne _ _ h).elim) | exact this
  | loop c ih =>
    intro s s' ex h μ w a Q hr hQ
    simp only [evCode] at h
    exact wp_loop_rounds n (iter_ok (fun h1 => ih h1) n h hr hQ)
  | exit id => intro s s' ex h μ w a Q hr hQ; simp only [evCode] at h; cases h; exact wp_exit (hQ.refl hr)
  | goto l => intro s s' ex h μ w a Q hr hQ; simp only [evCode] at h; cases h; exact wp_goto (hQ.refl hr)
  | label l => intro s s' ex h μ w a Q hr hQ; simp only [evCode] at h; cases h; exact wp_label (hQ.refl hr)
  | ret => intro s s' ex h μ w a Q hr hQ; simp only [evCode] at h; cases h; exact wp_ret (hQ.refl hr)
  | rangeFunc f ps as bd ih1 ih2 => intro s s' ex h; simp [evCode] at h
  | scope c ih => intro s s' ex h; simp [evCode] at h
  | refuse why => intro s s' ex h; simp [evCode] at h

/-- One result. -/
def resOne (a : Act) : ResultVar → Sem Value
  | .tmp t => pure (a.tmps.getD t undef)
  | .cell x t => do loadVar t (← asAddr (a.tmps.getD x undef))

/-- The results, here as there. -/
theorem res_ok {μ : Mu} {s : St} {w : World} {a : Act} (hr : SRel P g μ s w a) : ∀ {rs : List ResultVar} {vs : List AV}, evRes P s rs = some vs →
    ∃ vs', concs μ vs = some vs' ∧ (rs.mapM (resOne a)).run P w = .ok vs' w
  | [], vs, h => by simp only [evRes] at h; cases h; exact ⟨[], rfl, rfl⟩
  | .tmp t :: rs, vs, h => by
    simp only [evRes, Option.map_eq_some_iff] at h
    obtain ⟨us, hus, rfl⟩ := h
    obtain ⟨vs', h1, h2⟩ := res_ok hr hus
    have := arg_ok (P := P) (x := .tmp t) hr.rel hr.tm rfl
    refine ⟨a.tmps.getD t undef :: vs', ?_, ?_⟩
    · simp only [concs, this, h1, Option.bind_some, Option.map_some]; rfl
    · rw [List.mapM_cons]
      simp only [Sem.run_bind, resOne, Sem.run_pure, Result.andThen_ok, h2]
  | .cell x t :: rs, vs, h => by
    simp only [evRes] at h
    split at h
    · rename_i b o hx
      simp only [Option.bind_eq_some_iff, Option.map_eq_some_iff] at h
      obtain ⟨v, hv, us, hus, rfl⟩ := h
      obtain ⟨vs', h1, h2⟩ := res_ok hr hus
      have := arg_ok (P := P) (x := .tmp x) hr.rel hr.tm rfl
      rw [hx] at this
      obtain ⟨l, hl, hxl⟩ := conc_ptr this
      obtain ⟨v', e1, e2⟩ := load_ok hr.rel hl hv
      have hxl' : a.tmps.getD x undef = .pointer (some ⟨l.blk, l.base + o, none⟩) := hxl
      refine ⟨v' :: vs', ?_, ?_⟩
      · simp only [concs, e2, h1, Option.bind_some, Option.map_some]
      · have e0 : (resOne a (.cell x t)).run P w = .ok v' w := by
          simp only [resOne, Sem.run_bind, hxl', asAddr, Sem.run_pure, Result.andThen_ok, e1]
        rw [List.mapM_cons]
        simp only [Sem.run_bind, e0, Sem.run_pure, Result.andThen_ok, h2]
    · cases h

theorem pack_ok {μ : Mu} {vs : List AV} {vs' : List Value} (h : concs μ vs = some vs') : conc μ (pack vs) = some (if h : vs'.toArray.size = 1 then vs'.toArray[0] else .tuple vs'.toArray) := by
  have hl := concs_length h
  match vs, h with
  | [], h => cases h; rfl
  | [v], h =>
    simp only [concs, Option.bind_eq_some_iff, Option.map_eq_some_iff, Option.some.injEq] at h
    obtain ⟨x, hx, _, rfl, rfl⟩ := h
    simpa [pack] using hx
  | v :: u :: vs, h =>
    have hs : ¬ vs'.toArray.size = 1 := by simp only [List.size_toArray]; simp only [List.length_cons] at hl; omega
    rw [dif_neg hs]
    simp [pack, conc, h]

theorem low_none {n : Nat} {e : Option Nat} (h : low n e = none) : ∀ k, e = some k → n ≤ k := by
  intro k hk
  subst hk
  simp only [low] at h
  split at h
  · assumption
  · cases h

theorem Inv.low {H H' : Hp} {e : Ef} (h : Inv H.length H H' e) : Inv H.length H H' ⟨V.low H.length e.es, V.low H.length e.ws⟩ := by
  constructor
  · intro b hb he
    refine h.ei b hb (fun k hk => ?_)
    by_cases hn : H.length ≤ k
    · omega
    · exact he k (by simp [V.low, hk, hn])
  · intro b hb he
    refine h.wi b hb (fun k hk => ?_)
    by_cases hn : H.length ≤ k
    · omega
    · exact he k (by simp [V.low, hk, hn])

/-- Behind a call. -/
theorem leave_ok {μ μ' : Mu} {H H' : Hp} {v : AV} {e : Ef} {v' : Value} {w w' : World} (h0 : HRel P g μ H w) (h : Ok P g μ H (v, H', e) μ' v' w') : ∃ μ'', Ok P g μ H (leave H.length v H' e) μ'' v' w' := by
  unfold leave
  by_cases hc : flat v = true ∧ V.low H.length e.es = none
  · rw [if_pos hc]
    obtain ⟨hf, hlow⟩ := hc
    have hlen : H.length ≤ H'.length := h.len
    have htake : ∀ b x, (H'.take H.length)[b]? = some x → b < H.length ∧ H'[b]? = some x := by
      intro b x hx
      rw [List.getElem?_take] at hx
      split at hx
      · exact ⟨by assumption, hx⟩
      · cases hx
    -- what a block holds has its meaning without the new ones
    have hcont : ∀ b l x, μ b = some l → H'[b]? = some x → ∀ u ∈ cont x, ∃ y, conc μ u = some y := by
      intro b l x hb hx u hu
      have hbl := h0.dom b l hb
      obtain ⟨x0, hx0, hk⟩ := h.inv.ei b hbl (fun k hk => Nat.lt_of_lt_of_le hbl (low_none hlow k hk)) x hx
      rcases hk u hu with hm | hm
      · have := h0.blk b l x0 hb hx0
        cases x0 with
        | cells c e k =>
          obtain ⟨cc, fr, vs, _, h2, _⟩ := this
          exact concs_mem h2 u hm
        | map es =>
          obtain ⟨ms, ck, _, h2, h3⟩ := this
          simp only [cont, List.mem_append] at hm
          rcases hm with hm | hm
          · exact concs_mem h2 u hm
          · exact concs_mem h3 u hm
        | _ => simp [cont] at hm
      · exact conc_flat_some μ u hm
    have hsame : ∀ {cs : List AV} {ys : List Value}, (∀ u ∈ cs, ∃ y, conc μ u = some y) → concs μ' cs = some ys → concs μ cs = some ys := by
      intro cs ys hm hy
      obtain ⟨zs, hz⟩ := concs_mk cs hm
      rw [concs_le h.le cs hz] at hy
      rw [hz]; exact hy
    refine ⟨μ, Le.refl μ, ?_, ?_, ?_, ?_, fun _ _ => rfl⟩
    · exact {
        dom := fun b l hb => by have := h0.dom b l hb; simp only [List.length_take]; omega
        glob := h0.glob
        lt := fun b l hb => h.rel.lt b l (h.le b l hb)
        blk := fun b l x hb hx => by
          obtain ⟨hbl, hx'⟩ := htake b x hx
          have hc := hcont b l x hb hx'
          have := h.rel.blk b l x (h.le b l hb) hx'
          cases x with
          | cells c e k =>
            obtain ⟨cc, fr, vs, h1, h2, h3⟩ := this
            exact ⟨cc, fr, vs, h1, hsame hc h2, h3⟩
          | map es =>
            obtain ⟨ms, ck, h1, h2, h3⟩ := this
            exact ⟨ms, ck, h1, hsame (fun u hu => hc u (List.mem_append_left _ hu)) h2, hsame (fun u hu => hc u (List.mem_append_right _ hu)) h3⟩
          | iter s p => exact this
          | ghost => trivial
          | dead => trivial
        sep := fun b b' l l' x x' hne hb hb' hx hx' => h.rel.sep b b' l l' x x' hne (h.le b l hb) (h.le b' l' hb') (htake b x hx).2 (htake b' x' hx').2
        own := fun b l x hb hx => h.rel.own b l x (h.le b l hb) (htake b x hx).2
        old := h.rel.old
        os := h.rel.os
        tape := h.rel.tape
        output := h.rel.output
        size := h.rel.size }
    · rw [conc_flat μ μ' v hf]; exact h.val
    · simp only [List.length_take]; omega
    · have hl := h.inv.low
      constructor
      · intro b hb he x hx
        exact hl.ei b hb he x (htake b x hx).2
      · intro b hb he
        rw [List.getElem?_take, if_pos hb]
        exact hl.wi b hb he
  · rw [if_neg hc]
    exact ⟨μ', h.le, h.rel, h.val, h.len, h.inv.low, h.dom⟩

theorem fun_ok (hC : CallsOk P C) (n : Nat) : CallsOk P (evFun P C n) := by
  intro f args H r h g μ w vs hrel hargs
  unfold evFun at h
  split at h
  · rename_i fn hfn
    split at h
    · rename_i c hb
      split at h
      · rename_i e s hcode
        split at h
        · rename_i hex
          simp only [Option.map_eq_some_iff] at h
          obtain ⟨rs, hrs, rfl⟩ := h
          have hal := concs_length hargs
          refine calls_of_wp hfn hb ?_
          have h0 : SRel P g μ ⟨args ++ List.replicate (fn.ntmps - args.length) undefA, H, z0⟩ w { tmps := vs.toArray ++ Array.replicate (fn.ntmps - vs.toArray.size) undef, defers := [] } := by
            refine ⟨hrel, ?_, rfl⟩
            have hrep : ∀ k, concs μ (List.replicate k undefA) = some (List.replicate k undef) := by
              intro k
              induction k with
              | zero => rfl
              | succ k ih => rw [List.replicate_succ, List.replicate_succ, concs, ih]; rfl
            have := concs_append_some hargs (hrep (fn.ntmps - args.length))
            simpa [hal] using this
          refine code_ok hC n c hcode h0 ?_
          intro μ' a' w' l1 l2 l3 l4
          obtain ⟨vs', v1, v2⟩ := res_ok l3 hrs
          have hres : (results fn a'.tmps).run P w' = .ok (if h : vs'.toArray.size = 1 then vs'.toArray[0] else .tuple vs'.toArray) w' := by
            have e0 : results fn a'.tmps = (do let vs ← fn.results.mapM (resOne a'); pure (if h : vs.size = 1 then vs[0] else .tuple vs)) := by
              unfold results
              congr 2
            rw [e0, Array.mapM_eq_mapM_toList]
            simp only [Sem.run_bind, Sem.run_map, v2, Result.andThen_ok, Sem.run_pure]
          have hok : Ok P g μ H (pack rs, s.H, s.ef) μ' _ w' := ⟨l1, l3.rel, pack_ok v1, l4.1, by
            obtain ⟨_, e', he', hi⟩ := l4
            rw [he']
            have : z0.and e' = e' := Ef.z0_and e'
            rw [this]
            exact hi, l2⟩
          obtain ⟨μ'', hok'⟩ := leave_ok hrel hok
          have hend : bodyPost P fn (fun e w' => ∃ μ' v', e = .returned v' ∧ Ok P g μ H (leave H.length (pack rs) s.H s.ef) μ' v' w') .normal a' w' := ⟨l3.df, _, hres, μ'', _, rfl, hok'⟩
          rcases hex with rfl | rfl
          · exact hend
          · exact hend
        · cases h
      · cases h
    · cases h
  · cases h

theorem evN_ok (P : Program) : ∀ n, CallsOk P (evN P n)
  | 0 => fun f args H r h => by simp [evN] at h
  | n + 1 => fun_ok (evN_ok P n) (n + 1)
end
end Go.Proofs.YtjemmehgfheflaaDoor.V
