/- What the evaluator 'V' answers the machine answers: code and calls. No conditions. -/
import Derived.Test.YtgkpgpdkolpfkaaDoorVCode
namespace Go.Proofs.YtgkpgpdkolpfkaaDoor.V
open Go
set_option linter.unusedSimpArgs false
set_option linter.unusedVariables false

section
variable {P : Program} {C : CallO} {g : Gh}

theorem SInv.refl (s : St) : SInv s s := ⟨Nat.le_refl _, z0, (Ef.and_z0 _).symm, Inv.refl _ _ _⟩
theorem SInv.trans {a b c : St} (h : SInv a b) (k : SInv b c) : SInv a c := by
  obtain ⟨h1, e, h2, h3⟩ := h
  obtain ⟨k1, f, k2, k3⟩ := k
  exact ⟨Nat.le_trans h1 k1, e.and f, by rw [k2, h2, Ef.and_assoc], h3.trans k3 h1⟩

theorem After.trans {μ : Mu} {s s1 s2 : St} {Q : Act → World → Prop} (h : After P g μ s s2 Q) {g1 : Gh} {μ1 : Mu} (hg : GLe g g1) (hle : Le μ μ1) (hd : ∀ b, b < s.H.length → μ1 b = μ b) (hi : SInv s s1) : After P g1 μ1 s1 s2 Q := by
  intro g' μ' a' w' l0 l1 l2 l3 l4
  refine h g' μ' a' w' (hg.trans l0) (hle.trans l1) (fun b hb => ?_) l3 (hi.trans l4)
  rw [l2 b (Nat.lt_of_lt_of_le hb hi.1), hd b hb]

theorem After.refl {μ : Mu} {s : St} {Q : Act → World → Prop} {a : Act} {w : World} (h : After P g μ s s Q) (hr : SRel P g μ s w a) : Q a w := h g μ a w (GLe.refl g) (Le.refl μ) (fun _ _ => rfl) hr (SInv.refl s)

theorem SInv.of_ok {μ μ' : Mu} {s : St} {r : AV × Hp × Ef} {v' : Value} {w' : World} (h : Ok P g μ s.H r μ' v' w') (σ : List AV) : SInv s ⟨σ, r.2.1, s.ef.and r.2.2⟩ := ⟨h.len, r.2.2, rfl, h.inv⟩

theorem ops_ok {ro : Option Nat} {m : Nat} (hC : CallsOk P C) {ops : Array Oper} : ∀ (l : List Oper) {s s' : St}, evOps P C ops.toList l s = some s' → ∀ {μ : Mu} {w : World} {a : Act} {Q : Exit → Act → World → Prop}, SRel P g μ s w a → After P g μ s s' (Q .normal) → wpListIn (Fr ro) m P ops Q l a w
  | [], s, s', h, μ, w, a, Q, hr, hQ => by
    simp only [evOps] at h
    cases h
    exact hQ.refl hr
  | o :: l, s, s', h, μ, w, a, Q, hr, hQ => by
    simp only [evOps] at h
    have hw := wanted_ok hr.tm o (ops := ops)
    unfold wpListIn
    split at h
    · rename_i hwa
      simp only [Option.bind_eq_some_iff] at h
      obtain ⟨r, hr1, h⟩ := h
      rw [if_pos (by rw [hw]; exact hwa)]
      refine op_in hC hr.rel hr.tm hr1 ro m _ _ (fun μ' v' w' hok => ?_)
      exact ops_ok hC l h (hr.step o.dst hok _) (hQ.trans (GLe.refl g) hok.le hok.dom (SInv.of_ok hok _))
    · rename_i hwa
      rw [if_neg (by rw [hw]; exact hwa)]
      refine ⟨fun _ _ => trivial, ?_⟩
      refine ops_ok hC l h (hr.undef o.dst s.ef) (hQ.trans (GLe.refl g) (Le.refl μ) (fun _ _ => rfl) ⟨Nat.le_refl _, z0, (Ef.and_z0 _).symm, Inv.refl _ _ _⟩)

theorem region_ok {ro : Option Nat} {m : Nat} (hC : CallsOk P C) {ops : Array Oper} {id : Nat} {d : Bool} {s s' : St} (h : evRegion P C ops.toList d s = some s') {μ : Mu} {w : World} {a : Act} {Q : Exit → Act → World → Prop} (hr : SRel P g μ s w a) (hQ : After P g μ s s' (Q .normal)) :
    (Code.region id ops d).wpIn (Fr ro) m P Q a w := by
  unfold evRegion at h
  cases d with
  | false => exact wpIn_region_list (ops_ok hC ops.toList h hr hQ)
  | true =>
    simp only [if_true] at h
    split at h
    · rename_i hm
      have hr' : SRel P g μ s { w with drawn := w.drawn + 1 } a := ⟨hr.rel.congr rfl rfl rfl rfl, hr.tm, hr.df⟩
      obtain ⟨sm, fr, ot, pl⟩ := plan_ok hC h hr'
      have hdn : ∀ i, dn (Array.replicate ops.size false) i = false := by
        intro i
        unfold dn
        simp only [Array.getD_eq_getD_getElem?, Array.getElem?_replicate]
        split <;> rfl
      refine wpIn_region_any hm (any_ok hC rfl pl hQ ops.size (μ := μ) ⟨by simp, ?_, ?_, hr.df, ?_, Le.refl μ, fun _ _ => rfl, ?_, ?_, ?_⟩ ?_)
      · intro i o _ hd
        rw [hdn] at hd; cases hd
      · have : fD (dn (Array.replicate ops.size false)) s.σ (fr ++ ot) = s.σ := by
          apply List.ext_getElem?
          intro t
          exact fD_none _ _ (fun r _ hd => by rw [hdn] at hd; cases hd)
        rw [this]; exact hr.tm
      · rw [hp_none ot _ (fun r _ _ => hdn _)]
        obtain ⟨zs, z1, _⟩ := pl.tr1.frees pl.free
        rw [z1]
        exact hr'.rel.extend _
      · intro k r hk _
        cases he : μ (s.H.length + k) with
        | none => rfl
        | some l => have := hr.rel.dom _ _ he; omega
      · rw [hp_none ot _ (fun r _ _ => hdn _), efs_none ot _ (fun r _ _ => hdn _)]
        obtain ⟨zs, z1, _⟩ := pl.tr1.frees pl.free
        rw [z1]
        exact Inv.extend (Nat.le_refl _) _ _
      · rw [hp_none ot _ (fun r _ _ => hdn _)]; exact Nat.le_refl _
      · have := List.countP_le_length (p := fun i => !dn (Array.replicate ops.size false) i) (l := List.range ops.size)
        simpa using this
    · cases h

def Ex.to : Ex → Exit
  | .normal => .normal
  | .exit id => .exit id
  | .goto l => .goto l
  | .ret => .ret

theorem iter_ok {ro : Option Nat} {m : Nat} {step : St → Rc} {c : Code} {ok : Gh → Prop} (hgrow : ∀ {g g' : Gh}, ok g → GLe g g' → ok g') (hstep : ∀ {s s' : St} {ex : Ex}, step s = some (ex, s') → ∀ {g : Gh}, ok g → ∀ {μ : Mu} {w : World} {a : Act} {Q : Exit → Act → World → Prop}, SRel P g μ s w a → After P g μ s s' (Q ex.to) → c.wpIn (Fr ro) m P Q a w) :
    ∀ (n : Nat) {s s' : St} {ex : Ex}, iter step n s = some (ex, s') → ∀ {g : Gh}, ok g → ∀ {μ : Mu} {w : World} {a : Act} {Q : Exit → Act → World → Prop}, SRel P g μ s w a → After P g μ s s' (Q ex.to) → Code.roundsIn (Fr ro) m P c Q n a w
  | 0, s, s', ex, h, g, hg, μ, w, a, Q, hr, hQ => by simp [iter] at h
  | n + 1, s, s', ex, h, g, hg, μ, w, a, Q, hr, hQ => by
    simp only [iter] at h
    rw [roundsIn_succ]
    split at h
    · rename_i s1 h1
      refine hstep h1 hg (Q := Exit.then (Code.roundsIn (Fr ro) m P c Q n) Q) hr ?_
      intro g' μ' a' w' l0 l1 l2 l3 l4
      exact iter_ok hgrow hstep n h (hgrow hg l0) l3 (hQ.trans l0 l1 l2 l4)
    · rename_i hne
      have hn : ex ≠ .normal := by
        rintro rfl
        exact hne _ h
      refine hstep h hg hr ?_
      intro g' μ' a' w' l0 l1 l2 l3 l4
      have := hQ g' μ' a' w' l0 l1 l2 l3 l4
      cases ex <;> first | (exact absurd rfl hn) | exact this

/-- The statement 'for .. := range f'. -/
theorem ranged_ok {ro : Option Nat} {m : Nat} (hC : CallsOk P C) {f : Operand} {ps : Array Tmp} {as bd : Code} {s s' : St} {ex : Ex} (h : evRange P C f ps.toList as bd s = some (ex, s')) (hro : RoOk g ro) {μ : Mu} {w : World} {a : Act} {Q : Exit → Act → World → Prop} (hr : SRel P g μ s w a) (hQ : After P g μ s s' (Q ex.to)) :
    (Code.rangeFunc f ps as bd).wpIn (Fr ro) m P Q a w := by
  refine wpIn_rangeFunc ?_
  intro fn _
  unfold evRange at h
  split at h
  · rename_i gg first captured hf
    have hfc := arg_ok hr.rel hr.tm hf
    simp only [conc, Option.bind_eq_some_iff, Option.map_eq_some_iff] at hfc
    obtain ⟨fs, hfs, cs, hcs, hev⟩ := hfc
    split at h
    · rename_i hb
      simp only [Option.bind_eq_some_iff] at h
      obtain ⟨r, hcall, h⟩ := h
      -- the record is laid
      have lay : ∃ (W0 : World) (mark : List Deferred) (g1 : Gh) (D : Nat), (Instr.enterLoop fn a.tmps ps as bd (Fr ro).round).run P w = .ok (W0.heap.size, mark) (W0.alloc (.loop { state := .ready, pending := none, fn, tmps := a.tmps, params := ps, assign := as, body := bd, defers := D })) ∧
          HRel P g1 μ s.H W0 ∧ GLe g g1 ∧ Marks g1 (mark ++ a.defers) := by
        cases ro with
        | none =>
          refine ⟨w.alloc (.deferred (some [])), [{ target := .collected w.heap.size, args := #[] }], _, w.heap.size, ?_, hr.rel.mark _, GLe.mark hr.rel _, ?_⟩
          · have := run_enterLoop_outer (P := P) (w := w) fn a.tmps ps as bd
            rw [World.size_alloc]
            exact this
          · obtain ⟨h0, Ds, h1, h2, h3⟩ := hr.df
            refine ⟨fun k hk => .inl (h0 k hk), w.heap.size :: Ds, by rw [h1]; rfl, ?_, ?_⟩
            · refine List.nodup_cons.2 ⟨fun hm => ?_, h2⟩
              have := (hr.rel.old _ (h3 _ hm).2.1).1
              omega
            · intro D hD
              rcases List.mem_cons.1 hD with rfl | hD
              · refine ⟨fun hB => ?_, .inr rfl, World.alloc_heap_new w _⟩
                have := (hr.rel.old _ (h0 _ hB)).1
                omega
              · obtain ⟨x, y, z⟩ := h3 D hD
                exact ⟨x, .inl y, (Go.RowKit.Below.heap_alloc w _ D (hr.rel.old D y).1).trans ((hr.rel.old D y).2.trans z)⟩
        | some l0 =>
          obtain ⟨hz, r0, hr0⟩ := hro l0 rfl
          exact ⟨w, [], g, r0.defers, run_enterLoop_inner ((hr.rel.old l0 hz).2.trans hr0) _ _ _ _ _, hr.rel, GLe.refl g, hr.df⟩
      obtain ⟨W0, mark, g1, D, he, hrel0, hg1, hmk⟩ := lay
      obtain ⟨rec, hrec⟩ : ∃ rec : Loop, rec = { state := .ready, pending := none, fn, tmps := a.tmps, params := ps, assign := as, body := bd, defers := D } := ⟨_, rfl⟩
      rw [← hrec] at he
      have hrel1 : HRel P g1 (upd μ s.H.length ⟨W0.heap.size, 0, 0⟩) (s.H ++ [.loop s.σ ps.toList as bd .ready]) (W0.alloc (.loop rec)) :=
        hrel0.new (.loop rec) _ 0 ⟨rec, World.alloc_heap_new W0 _, by rw [hrec]; exact hr.tm, by rw [hrec], by rw [hrec], by rw [hrec], by rw [hrec]; rfl, by rw [hrec]; rfl⟩
      have hle1 := hrel0.le_upd ⟨W0.heap.size, 0, 0⟩
      have hargs : concs (upd μ s.H.length ⟨W0.heap.size, 0, 0⟩) (first ++ [.yld s.H.length] ++ captured) = some (fs ++ [.func (.yield W0.heap.size) #[] #[]] ++ cs) :=
        concs_append_some (concs_append_some (concs_le hle1 _ hfs) (by simp only [concs, conc, upd_same]; rfl)) (concs_le hle1 _ hcs)
      have hlt : gg < P.funcs.size := by
        unfold hasBody at hb
        split at hb
        · rename_i fn hfn; exact (Array.getElem?_eq_some_iff.1 hfn).1
        · cases hb
      have hcalls := hC.fn _ _ _ _ hlt hcall g1 _ _ _ hrel1 hargs
      refine ⟨W0.heap.size, mark, _, { target := .fn (.func gg) cs.toArray, args := fs.toArray ++ #[.func (.yield W0.heap.size) #[] #[]] }, W0.alloc (.loop rec), gg, (fs ++ [Value.func (.yield W0.heap.size) #[] #[]] ++ cs).toArray, W0.alloc (.loop rec), he, ?_, fun _ _ => trivial, ?_, fun h => by simp [Fr, Fence.wide] at h, ?_⟩
      · simp only [resolve, ← hev, Deferred.ofValue]
        simp [go_sem, Act.eval]
      · unfold hasBody at hb
        split at hb
        · rename_i fn hfn
          simp only [Bool.and_eq_true, Bool.not_eq_true', beq_eq_false_iff_ne] at hb
          simp only [invoke, callFunc, Sem.run_bind, run_program, Result.andThen_ok, hfn]
          rw [if_neg (by simpa using hb.2), if_neg (by cases hbb : fn.body <;> simp [hbb] at hb ⊢)]
          simp only [Sem.run_pure]
          congr 2
          apply Array.ext'
          simp
        · cases hb
      · refine callsIn_fr (hcalls.mono ?_)
        rintro e w' ⟨μ', v', rfl, hok⟩
        have hμ : μ' s.H.length = some ⟨W0.heap.size, 0, 0⟩ := hok.le _ _ (upd_same _ _ _)
        -- the pending jump
        have fin : ∀ σ' ps' as' bd' md (e : Ex), r.2.1[s.H.length]? = some (.loop σ' ps' as' bd' md) → md.st ≠ .busy → (e = .normal → md.pe = none) → ex = e → s' = ⟨s.σ, r.2.1.set s.H.length .dead, s.ef.and (r.2.2.and ⟨none, some s.H.length⟩)⟩ →
            ∃ w4, (Instr.endLoop W0.heap.size).run P w' = .ok md.pe w4 ∧ Q e.to { a with defers := mark ++ a.defers } w4 := by
          intro σ' ps' as' bd' md e hblk hst hpe hex hs'
          subst hex hs'
          obtain ⟨rc, k1, k2, k3, k4, k5, k6, k7⟩ := hok.rel.blk _ _ _ hμ hblk
          have hend : (Instr.endLoop W0.heap.size).run P w' = .ok md.pe (w'.putObj W0.heap.size (.loop { rc with state := .exhausted })) := by
            rw [← k7]
            exact run_endLoop (P := P) k1 (by rw [k6]; exact hst)
          refine ⟨_, hend, ?_⟩
          have hw : wrt (.loop σ' ps' as' bd' md) = true := by cases md <;> first | rfl | exact absurd rfl hst
          have hrel4 := hok.rel.change hμ hblk hw (x' := .dead) (w' := w'.putObj W0.heap.size (.loop { rc with state := .exhausted })) (fun k hk => World.putObj_heap_other hk) (by simp) rfl rfl rfl trivial
          refine hQ g1 μ' _ _ hg1 (hle1.trans hok.le) (fun b hb => ?_) ⟨hrel4, concs_le (hle1.trans hok.le) _ hr.tm, hmk⟩ ?_
          · rw [hok.dom b (by simp; omega), upd_dom b hb]
          · have hi := hok.inv
            have hl := hok.len
            simp only [List.length_append, List.length_singleton] at hl hi
            refine ⟨by simp; omega, _, rfl, ?_⟩
            have i1 : Inv s.H.length s.H (s.H ++ [.loop s.σ ps.toList as bd .ready]) z0 := Inv.snoc
            have i2 := i1.trans hi (by omega)
            rw [Ef.z0_and] at i2
            exact i2.trans (Inv.set (n := s.H.length) (e := ⟨none, some s.H.length⟩) hblk (y := .dead) (.inr (by simp [cont])) rfl) (Nat.le_refl _)
        split at h
        · rename_i σ' ps' as' bd' hblk
          simp only [Option.some.injEq, Prod.mk.injEq] at h
          obtain ⟨w4, e1, e2⟩ := fin _ _ _ _ _ .normal hblk (by simp [Md.st]) (fun _ => rfl) h.1.symm h.2.symm
          exact ⟨none, w4, e1, e2⟩
        · rename_i σ' ps' as' bd' e hblk
          simp only [Option.some.injEq, Prod.mk.injEq] at h
          obtain ⟨w4, e1, e2⟩ := fin _ _ _ _ _ e hblk (by simp [Md.st]) (fun he => by subst he; rfl) h.1.symm h.2.symm
          refine ⟨_, w4, e1, ?_⟩
          cases e with
          | normal => exact e2
          | exit id => exact wpIn_exit e2
          | goto l => exact wpIn_goto e2
          | ret => exact wpIn_ret e2
        · cases h
    · cases h
  · cases h

theorem code_ok {ro : Option Nat} {m : Nat} (hC : CallsOk P C) (n : Nat) : ∀ (c : Code) {s s' : St} {ex : Ex}, evCode P C n c s = some (ex, s') → ∀ {g : Gh}, (noRange c = true ∨ RoOk g ro) → ∀ {μ : Mu} {w : World} {a : Act} {Q : Exit → Act → World → Prop}, SRel P g μ s w a → After P g μ s s' (Q ex.to) → c.wpIn (Fr ro) m P Q a w := by
  intro c
  induction c with
  | skip => intro s s' ex h g hg μ w a Q hr hQ; simp only [evCode] at h; cases h; exact wpIn_skip (hQ.refl hr)
  | region id ops d =>
    intro s s' ex h g hg μ w a Q hr hQ
    simp only [evCode, Option.map_eq_some_iff, Prod.mk.injEq] at h
    obtain ⟨s1, h1, rfl, rfl⟩ := h
    exact region_ok hC h1 hr hQ
  | seq x y ihx ihy =>
    intro s s' ex h g hg μ w a Q hr hQ
    simp only [evCode] at h
    simp only [noRange, Bool.and_eq_true] at hg
    apply wpIn_seq
    split at h
    · rename_i s1 h1
      refine ihx h1 (hg.imp_left And.left) hr ?_
      intro g' μ' a' w' l0 l1 l2 l3 l4
      exact ihy h (hg.imp And.right (fun k => k.grow l0)) l3 (hQ.trans l0 l1 l2 l4)
    · rename_i hne
      have hn : ex ≠ .normal := by
        rintro rfl
        exact hne _ h
      refine ihx h (hg.imp_left And.left) hr ?_
      intro g' μ' a' w' l0 l1 l2 l3 l4
      have := hQ g' μ' a' w' l0 l1 l2 l3 l4
      cases ex <;> first | (exact absurd rfl hn) | exact this
  | cond c x y ihx ihy =>
    intro s s' ex h g hg μ w a Q hr hQ
    simp only [evCode] at h
    simp only [noRange, Bool.and_eq_true] at hg
    split at h
    · rename_i hc
      have := arg_ok hr.rel hr.tm hc
      exact wpIn_cond_true (Option.some.inj this).symm (ihx h (hg.imp_left And.left) hr hQ)
    · rename_i hc
      have := arg_ok hr.rel hr.tm hc
      exact wpIn_cond_false (Option.some.inj this).symm (ihy h (hg.imp_left And.right) hr hQ)
    · cases h
  | block id c ih =>
    intro s s' ex h g hg μ w a Q hr hQ
    simp only [evCode] at h
    simp only [noRange] at hg
    apply wpIn_block
    split at h
    · rename_i i s1 h1
      split at h
      · rename_i hi
        cases h
        refine ih h1 hg hr ?_
        intro g' μ' a' w' l0 l1 l2 l3 l4
        simp only [Ex.to, Exit.inBlock, hi, if_true]
        exact hQ g' μ' a' w' l0 l1 l2 l3 l4
      · rename_i hi
        cases h
        refine ih h1 hg hr ?_
        intro g' μ' a' w' l0 l1 l2 l3 l4
        simp only [Ex.to, Exit.inBlock, hi, if_false]
        exact hQ g' μ' a' w' l0 l1 l2 l3 l4
    · rename_i hne
      refine ih h hg hr ?_
      intro g' μ' a' w' l0 l1 l2 l3 l4
      have := hQ g' μ' a' w' l0 l1 l2 l3 l4
      cases ex <;> first | (exact (hne _ _ h).elim) | exact this
  | loop c ih =>
    intro s s' ex h g hg μ w a Q hr hQ
    simp only [evCode] at h
    exact wpIn_loop_rounds n (iter_ok (ok := fun g => noRange c = true ∨ RoOk g ro) (fun k l => k.imp_right (fun k => k.grow l)) (fun h1 => ih h1) n h hg hr hQ)
  | exit id => intro s s' ex h g hg μ w a Q hr hQ; simp only [evCode] at h; cases h; exact wpIn_exit (hQ.refl hr)
  | goto l => intro s s' ex h g hg μ w a Q hr hQ; simp only [evCode] at h; cases h; exact wpIn_goto (hQ.refl hr)
  | label l => intro s s' ex h g hg μ w a Q hr hQ; simp only [evCode] at h; cases h; exact wpIn_label (hQ.refl hr)
  | ret => intro s s' ex h g hg μ w a Q hr hQ; simp only [evCode] at h; cases h; exact wpIn_ret (hQ.refl hr)
  | rangeFunc f ps as bd ih1 ih2 =>
    intro s s' ex h g hg μ w a Q hr hQ
    simp only [evCode] at h
    rcases hg with hg | hg
    · simp [noRange] at hg
    · exact ranged_ok hC h hg hr hQ
  | scope c ih => intro s s' ex h; simp [evCode] at h
  | refuse why => intro s s' ex h; simp [evCode] at h

/-- One result. -/
def resOne (a : Act) : ResultVar → Sem Value
  | .tmp t => pure (a.tmps.getD t undef)
  | .cell x t => do loadVar t (← asAddr (a.tmps.getD x undef))

/-- The results, here as there. -/
theorem res_ok {μ : Mu} {s : St} {w : World} {a : Act} (hr : HRel P g μ s.H w) (ht : concs μ s.σ = some a.tmps.toList) : ∀ {rs : List ResultVar} {vs : List AV}, evRes P s rs = some vs →
    ∃ vs', concs μ vs = some vs' ∧ (rs.mapM (resOne a)).run P w = .ok vs' w
  | [], vs, h => by simp only [evRes] at h; cases h; exact ⟨[], rfl, rfl⟩
  | .tmp t :: rs, vs, h => by
    simp only [evRes, Option.map_eq_some_iff] at h
    obtain ⟨us, hus, rfl⟩ := h
    obtain ⟨vs', h1, h2⟩ := res_ok hr ht hus
    have := arg_ok (P := P) (x := .tmp t) hr ht rfl
    refine ⟨a.tmps.getD t undef :: vs', ?_, ?_⟩
    · simp only [concs, this, h1, Option.bind_some, Option.map_some]; rfl
    · rw [List.mapM_cons]
      simp only [Sem.run_bind, resOne, Sem.run_pure, Result.andThen_ok, h2]
  | .cell x t :: rs, vs, h => by
    simp only [evRes] at h
    split at h
    · rename_i b o hx
      simp only [Option.bind_eq_some_iff, Option.map_eq_some_iff] at h
      obtain ⟨v, hv, us, hus, rfl⟩ := h
      obtain ⟨vs', h1, h2⟩ := res_ok hr ht hus
      have := arg_ok (P := P) (x := .tmp x) hr ht rfl
      rw [hx] at this
      obtain ⟨l, hl, hxl⟩ := conc_ptr this
      obtain ⟨v', e1, e2⟩ := load_ok hr hl hv
      have hxl' : a.tmps.getD x undef = .pointer (some ⟨l.blk, l.base + o, none⟩) := hxl
      refine ⟨v' :: vs', ?_, ?_⟩
      · simp only [concs, e2, h1, Option.bind_some, Option.map_some]
      · have e0 : (resOne a (.cell x t)).run P w = .ok v' w := by
          simp only [resOne, Sem.run_bind, hxl', asAddr, Sem.run_pure, Result.andThen_ok, e1]
        rw [List.mapM_cons]
        simp only [Sem.run_bind, e0, Sem.run_pure, Result.andThen_ok, h2]
    · cases h

theorem pack_ok {μ : Mu} {vs : List AV} {vs' : List Value} (h : concs μ vs = some vs') : conc μ (pack vs) = some (if h : vs'.toArray.size = 1 then vs'.toArray[0] else .tuple vs'.toArray) := by
  have hl := concs_length h
  match vs, h with
  | [], h => cases h; rfl
  | [v], h =>
    simp only [concs, Option.bind_eq_some_iff, Option.map_eq_some_iff, Option.some.injEq] at h
    obtain ⟨x, hx, _, rfl, rfl⟩ := h
    simpa [pack] using hx
  | v :: u :: vs, h =>
    have hs : ¬ vs'.toArray.size = 1 := by simp only [List.size_toArray]; simp only [List.length_cons] at hl; omega
    rw [dif_neg hs]
    simp [pack, conc, h]

theorem low_none {n : Nat} {e : Option Nat} (h : low n e = none) : ∀ k, e = some k → n ≤ k := by
  intro k hk
  subst hk
  simp only [low] at h
  split at h
  · assumption
  · cases h

theorem Inv.low {H H' : Hp} {e : Ef} (h : Inv H.length H H' e) : Inv H.length H H' ⟨V.low H.length e.es, V.low H.length e.ws⟩ := by
  constructor
  · intro b hb he
    refine h.ei b hb (fun k hk => ?_)
    by_cases hn : H.length ≤ k
    · omega
    · exact he k (by simp [V.low, hk, hn])
  · intro b hb he
    refine h.wi b hb (fun k hk => ?_)
    by_cases hn : H.length ≤ k
    · omega
    · exact he k (by simp [V.low, hk, hn])

/-- Behind a call. -/
theorem leave_ok {μ μ' : Mu} {H H' : Hp} {v : AV} {e : Ef} {v' : Value} {w w' : World} (h0 : HRel P g μ H w) (h : Ok P g μ H (v, H', e) μ' v' w') : ∃ μ'', Ok P g μ H (leave H.length v H' e) μ'' v' w' := by
  unfold leave
  by_cases hc : flat v = true ∧ V.low H.length e.es = none
  · rw [if_pos hc]
    obtain ⟨hf, hlow⟩ := hc
    have hlen : H.length ≤ H'.length := h.len
    have htake : ∀ b x, (H'.take H.length)[b]? = some x → b < H.length ∧ H'[b]? = some x := by
      intro b x hx
      rw [List.getElem?_take] at hx
      split at hx
      · exact ⟨by assumption, hx⟩
      · cases hx
    -- what a block holds has its meaning without the new ones
    have hcont : ∀ b l x, μ b = some l → H'[b]? = some x → ∀ u ∈ cont x, ∃ y, conc μ u = some y := by
      intro b l x hb hx u hu
      have hbl := h0.dom b l hb
      obtain ⟨x0, hx0, hk⟩ := h.inv.ei b hbl (fun k hk => Nat.lt_of_lt_of_le hbl (low_none hlow k hk)) x hx
      rcases hk u hu with hm | hm
      · have := h0.blk b l x0 hb hx0
        cases x0 with
        | cells c e k =>
          obtain ⟨cc, fr, vs, _, h2, _⟩ := this
          exact concs_mem h2 u hm
        | map es =>
          obtain ⟨ms, ck, _, h2, h3⟩ := this
          simp only [cont, List.mem_append] at hm
          rcases hm with hm | hm
          · exact concs_mem h2 u hm
          · exact concs_mem h3 u hm
        | loop σ ps as bd md =>
          obtain ⟨r, _, h2, _⟩ := this
          exact concs_mem h2 u hm
        | _ => simp [cont] at hm
      · exact conc_flat_some μ u hm
    have hsame : ∀ {cs : List AV} {ys : List Value}, (∀ u ∈ cs, ∃ y, conc μ u = some y) → concs μ' cs = some ys → concs μ cs = some ys := by
      intro cs ys hm hy
      obtain ⟨zs, hz⟩ := concs_mk cs hm
      rw [concs_le h.le cs hz] at hy
      rw [hz]; exact hy
    refine ⟨μ, Le.refl μ, ?_, ?_, ?_, ?_, fun _ _ => rfl⟩
    · exact {
        dom := fun b l hb => by have := h0.dom b l hb; simp only [List.length_take]; omega
        glob := h0.glob
        lt := fun b l hb => h.rel.lt b l (h.le b l hb)
        blk := fun b l x hb hx => by
          obtain ⟨hbl, hx'⟩ := htake b x hx
          have hc := hcont b l x hb hx'
          have := h.rel.blk b l x (h.le b l hb) hx'
          cases x with
          | cells c e k =>
            obtain ⟨cc, fr, vs, h1, h2, h3⟩ := this
            exact ⟨cc, fr, vs, h1, hsame hc h2, h3⟩
          | map es =>
            obtain ⟨ms, ck, h1, h2, h3⟩ := this
            exact ⟨ms, ck, h1, hsame (fun u hu => hc u (List.mem_append_left _ hu)) h2, hsame (fun u hu => hc u (List.mem_append_right _ hu)) h3⟩
          | iter s p => exact this
          | loop σ ps as bd md =>
            obtain ⟨r, h1, h2, h3⟩ := this
            exact ⟨r, h1, hsame hc h2, h3⟩
          | ghost => trivial
          | dead => trivial
          | void => trivial
        sep := fun b b' l l' x x' hne hb hb' hx hx' => h.rel.sep b b' l l' x x' hne (h.le b l hb) (h.le b' l' hb') (htake b x hx).2 (htake b' x' hx').2
        own := fun b l x hb hx => h.rel.own b l x (h.le b l hb) (htake b x hx).2
        old := h.rel.old
        os := h.rel.os
        tape := h.rel.tape
        output := h.rel.output
        size := h.rel.size }
    · rw [conc_flat μ μ' v hf]; exact h.val
    · simp only [List.length_take]; omega
    · have hl := h.inv.low
      constructor
      · intro b hb he x hx
        exact hl.ei b hb he x (htake b x hx).2
      · intro b hb he
        rw [List.getElem?_take, if_pos hb]
        exact hl.wi b hb he
  · rw [if_neg hc]
    exact ⟨μ', h.le, h.rel, h.val, h.len, h.inv.low, h.dom⟩

theorem putAll_conc {μ : Mu} : ∀ (ps : List Tmp) {σ as : List AV} {ts : Array Value} {vs : List Value}, concs μ σ = some ts.toList → concs μ as = some vs →
    concs μ (putAll σ ps as) = some ((ps.zip vs).foldl (fun t (p, v) => t.setIfInBounds p v) ts).toList
  | [], σ, as, ts, vs, h, k => by cases as <;> exact h
  | p :: ps, σ, [], ts, vs, h, k => by cases k; exact h
  | p :: ps, σ, v :: as, ts, vs, h, k => by
    simp only [concs, Option.bind_eq_some_iff, Option.map_eq_some_iff] at k
    obtain ⟨x, hx, xs, hxs, rfl⟩ := k
    simp only [putAll, List.zip_cons_cons, List.foldl_cons]
    exact putAll_conc ps (by have := concs_set p h hx; simpa using this) hxs

theorem round_ok (hC : CallsOk P C) (n b : Nat) (args : List AV) (H : Hp) (r : AV × Hp × Ef) (h : evRound P C n b args H = some r) (g : Gh) (μ : Mu) (w : World) (vs : List Value) (l : Loc) (hrel : HRel P g μ H w) (hargs : concs μ args = some vs) (hl : μ b = some l) :
    ∃ rec : Loop, w.heap[l.blk]? = some (.loop rec) ∧ vs.length = rec.params.size ∧
      ∀ m, RoundIn Fence.wide m P l.blk rec.fn ((rec.params.zip vs.toArray).foldl (fun t (p, v) => t.setIfInBounds p v) rec.tmps) rec.assign rec.body w (fun e w' => ∃ μ' v', e = .returned v' ∧ Ok P g μ H r μ' v' w') := by
  unfold evRound at h
  split at h
  · rename_i σ ps as bd hb
    obtain ⟨rec, k1, k2, k3, k4, k5, k6, k7⟩ := hrel.blk _ _ _ hl hb
    split at h
    · rename_i hlen
      obtain ⟨hlen, hnr⟩ := hlen
      refine ⟨rec, k1, by rw [k3]; simp [← hlen, concs_length hargs], fun m => ?_⟩
      split at h
      · rename_i s1 hs1
        split at h
        · rename_i σ' ps' as' bd' hb1
          split at h
          · rename_i e s2 hs2
            split at h
            · rename_i σ'' ps'' as'' bd'' hb2
              simp only [Option.some.injEq] at h
              subst h
              refine roundIn_of_wpIn (F := Fence.wide) trivial ?_
              have h0 : SRel P g.base μ ⟨putAll σ ps args, H, z0⟩ w { tmps := (rec.params.zip vs.toArray).foldl (fun t (p, v) => t.setIfInBounds p v) rec.tmps, defers := [] } := by
                refine ⟨hrel.onBase, ?_, Marks.nil g⟩
                have := putAll_conc ps k2 hargs
                rw [this, k3]
                congr 2
                rw [← Array.foldl_toList]
                simp
              rw [k4, k5]
              refine code_ok (ro := some l.blk) hC n as hs1 (.inl hnr) h0 ?_
              intro g1 μ1 a1 w1 q0 q1 q2 q3 q4
              have hl1 : μ1 b = some l := q1 _ _ hl
              obtain ⟨rec1, m1, m2, m3, m4, m5, m6, m7⟩ := q3.rel.blk _ _ _ hl1 hb1
              refine ⟨_, run_beginRound m1 m6, ?_⟩
              have hlt1 : l.blk < w1.heap.size := q3.rel.lt _ _ hl1
              have hbl1 : b < s1.H.length := q3.rel.dom _ _ hl1
              have r1 : HRel P g1 μ1 (s1.H.set b (.loop σ' ps' as' bd' .busy)) (w1.putObj l.blk (.loop { rec1 with state := .busy })) :=
                q3.rel.change hl1 hb1 rfl (fun k hk => World.putObj_heap_other hk) (by simp) rfl rfl rfl ⟨_, World.putObj_heap_same hlt1, m2, m3, m4, m5, rfl, m7⟩
              have r2 := r1.hold (k := l.blk) (by simpa using hlt1) (fun b' l' x e f hw eq => by
                rw [List.getElem?_set] at f
                split at f
                · cases f; cases hw
                · rename_i hne
                  refine q3.rel.sep b b' l l' _ x hne hl1 e hb1 f rfl ?_ eq.symm
                  cases x <;> first | rfl | cases hw)
              have hgl := GLe.hold r1 l.blk
              have ro2 : RoOk ⟨fun j => g1.Z j ∨ j = l.blk, w1.putObj l.blk (.loop { rec1 with state := .busy }), g1.B⟩ (some l.blk) := by
                intro l' e
                cases e
                exact ⟨.inr rfl, _, World.putObj_heap_same hlt1⟩
              refine code_ok (ro := some l.blk) hC n bd hs2 (.inr ro2) (s := ⟨s1.σ, s1.H.set b (.loop σ' ps' as' bd' .busy), s1.ef.and ⟨none, some b⟩⟩) ⟨r2, q3.tm, q3.df.grow hgl⟩ ?_
              intro g3 μ3 a3 w3 p0 p1 p2 p3 p4
              have hl3 : μ3 b = some l := p1 _ _ hl1
              obtain ⟨rec3, n1, n2, n3, n4, n5, n6, n7⟩ := p3.rel.blk _ _ _ hl3 hb2
              have hlt3 : l.blk < w3.heap.size := p3.rel.lt _ _ hl3
              have hnz : ¬ g.Z l.blk := hrel.own _ _ _ hl hb rfl
              have w3rel : HRel P g μ3 s2.H w3 := (((p3.rel.weaken p0).weaken hgl).weaken q0).offBase
              have fin : ∀ (jump : Option Code), jump = Ex.code e →
                  (Instr.endRound l.blk jump).run P w3 = .ok (.bool jump.isNone) (w3.putObj l.blk (.loop { rec3 with state := if jump.isNone then .ready else .done, pending := jump })) ∧
                  ∃ μ' v', (Ending.returned (.bool jump.isNone)) = .returned v' ∧ Ok P g μ H (leave H.length (.bool (decide (e = .normal))) (s2.H.set b (.loop σ'' ps'' as'' bd'' (if e = .normal then .ready else .done e))) (s2.ef.and ⟨none, some b⟩)) μ' v' (w3.putObj l.blk (.loop { rec3 with state := if jump.isNone then .ready else .done, pending := jump })) := by
                intro jump hj
                refine ⟨run_endRound jump n1, ?_⟩
                have hjn : jump.isNone = decide (e = .normal) := by subst hj; cases e <;> rfl
                have r4 : HRel P g μ3 (s2.H.set b (.loop σ'' ps'' as'' bd'' (if e = .normal then .ready else .done e))) (w3.putObj l.blk (.loop { rec3 with state := if jump.isNone then .ready else .done, pending := jump })) := by
                  refine w3rel.change' hl3 hb2 rfl rfl hnz (fun k hk => World.putObj_heap_other hk) (by simp) rfl rfl rfl ⟨_, World.putObj_heap_same hlt3, n2, n3, n4, n5, ?_, ?_⟩
                  · subst hj; cases e <;> rfl
                  · subst hj; cases e <;> rfl
                have hok : Ok P g μ H (.bool (decide (e = .normal)), s2.H.set b (.loop σ'' ps'' as'' bd'' (if e = .normal then .ready else .done e)), s2.ef.and ⟨none, some b⟩) μ3 (.bool jump.isNone) (w3.putObj l.blk (.loop { rec3 with state := if jump.isNone then .ready else .done, pending := jump })) := by
                  refine ⟨q1.trans p1, r4, by rw [hjn]; rfl, ?_, ?_, fun c hc => ?_⟩
                  · have h1 := q4.1
                    have h2 := p4.1
                    simp only [List.length_set] at h1 h2 ⊢
                    exact Nat.le_trans h1 h2
                  · obtain ⟨h1, e1, he1, i1⟩ := q4
                    obtain ⟨h2, e2, he2, i2⟩ := p4
                    have i1 : Inv H.length H s1.H e1 := i1
                    have he1 : s1.ef = z0.and e1 := he1
                    rw [Ef.z0_and] at he1
                    subst he1
                    rw [he2]
                    have j1 := i1.trans (Inv.set (n := s1.H.length) (e := ⟨none, some b⟩) hb1 (y := .loop σ' ps' as' bd' .busy) (.inr (by
                      intro v hv
                      exact .inl hv)) rfl) h1
                    have j2 := j1.trans i2 (by simpa using h1)
                    refine j2.trans (Inv.set (n := s2.H.length) (e := ⟨none, some b⟩) hb2 (y := .loop σ'' ps'' as'' bd'' (if e = .normal then .ready else .done e)) (.inr (fun v hv => .inl hv)) rfl) ?_
                    have h2' := h2
                    simp only [List.length_set] at h2'
                    exact Nat.le_trans h1 h2'
                  · have h1 := q4.1
                    rw [p2 c (by simp only [List.length_set]; exact Nat.lt_of_lt_of_le hc h1), q2 c hc]
                obtain ⟨μ'', hok'⟩ := leave_ok hrel hok
                exact ⟨μ'', _, rfl, hok'⟩
              cases e with
              | normal => obtain ⟨h1, h2⟩ := fin none rfl; exact ⟨_, _, h1, h2⟩
              | exit id => obtain ⟨h1, h2⟩ := fin (some (.exit id)) rfl; exact ⟨_, _, h1, h2⟩
              | goto t => obtain ⟨h1, h2⟩ := fin (some (.goto t)) rfl; exact ⟨_, _, h1, h2⟩
              | ret => obtain ⟨h1, h2⟩ := fin (some .ret) rfl; exact ⟨_, _, h1, h2⟩
            · cases h
          · cases h
        · cases h
      · cases h
    · cases h
  · cases h

/-- A function leaves: its marks are taken. -/
theorem leaves_ok {fn : Func} {a : Act} {s : St} {μ : Mu} {rs : List AV} {R : Ending → World → Prop} (g : Gh) (ht : concs μ s.σ = some a.tmps.toList) (hrs : evRes P s fn.results.toList = some rs)
    (hR : ∀ w' v', HRel P g μ s.H w' → conc μ (pack rs) = some v' → R (.returned v') w') :
    ∀ (Ds : List Nat) (w : World), HRel P g μ s.H w → Ds.Nodup → (∀ D ∈ Ds, ¬ g.Z D ∧ w.heap[D]? = some (.deferred (some []))) →
      LeavesInM Fence.wide 0 P fn a.tmps R (Ds.map (fun D => { target := .collected D, args := #[] })) .returning w
  | [], w, h, _, _ => by
    obtain ⟨vs', v1, v2⟩ := res_ok h ht hrs
    have hres : (results fn a.tmps).run P w = .ok (if h : vs'.toArray.size = 1 then vs'.toArray[0] else .tuple vs'.toArray) w := by
      have e0 : results fn a.tmps = (do let vs ← fn.results.mapM (resOne a); pure (if h : vs.size = 1 then vs[0] else .tuple vs)) := by
        unfold results
        congr 2
      rw [e0, Array.mapM_eq_mapM_toList]
      simp only [Sem.run_bind, Sem.run_map, v2, Result.andThen_ok, Sem.run_pure]
    exact ⟨_, hres, hR _ _ h (pack_ok v1)⟩
  | D :: Ds, w, h, hn, hD => by
    obtain ⟨hz, hd⟩ := hD D (by simp)
    rw [List.nodup_cons] at hn
    refine ⟨by simp, .inl ⟨D, _, rfl, run_takeDeferred hd, ?_⟩⟩
    refine leaves_ok g ht hrs hR Ds _ (h.take hd hz _) hn.2 (fun D' hD' => ?_)
    obtain ⟨hz', hd'⟩ := hD D' (by simp [hD'])
    exact ⟨hz', (World.putObj_heap_other (fun e : D' = D => hn.1 (e ▸ hD'))).trans hd'⟩

theorem fun_ok (hC : CallsOk P C) (n : Nat) : CallsOk P (evFun P C n) := by
  constructor
  · intro f args H r hlt h g μ w vs hrel hargs
    unfold evFun at h
    split at h
    · rename_i fn hfn
      split at h
      · rename_i c hb
        split at h
        · rename_i e s hcode
          split at h
          · rename_i hex
            simp only [Option.map_eq_some_iff] at h
            obtain ⟨rs, hrs, rfl⟩ := h
            have hal := concs_length hargs
            refine (callsIn_wide (n := 0)).1 (callsIn_of_wp_marks hfn hb trivial ?_)
            have h0 : SRel P g.base μ ⟨args ++ List.replicate (fn.ntmps - args.length) undefA, H, z0⟩ w { tmps := vs.toArray ++ Array.replicate (fn.ntmps - vs.toArray.size) undef, defers := [] } := by
              refine ⟨hrel.onBase, ?_, Marks.nil g⟩
              have hrep : ∀ k, concs μ (List.replicate k undefA) = some (List.replicate k undef) := by
                intro k
                induction k with
                | zero => rfl
                | succ k ih => rw [List.replicate_succ, List.replicate_succ, concs, ih]; rfl
              have := concs_append_some hargs (hrep (fn.ntmps - args.length))
              simpa [hal] using this
            refine code_ok (ro := none) hC n c hcode (.inr (RoOk.none _)) h0 ?_
            intro g' μ' a' w' l0 l1 l2 l3 l4
            have hrel' : HRel P g μ' s.H w' := (l3.rel.weaken l0).offBase
            obtain ⟨_, Ds, d1, d2, d3⟩ := l3.df
            have hend : LeavesInM Fence.wide 0 P fn a'.tmps (fun e w' => ∃ μ' v', e = .returned v' ∧ Ok P g μ H (leave H.length (pack rs) s.H s.ef) μ' v' w') a'.defers .returning w' := by
              rw [d1]
              refine leaves_ok g l3.tm hrs ?_ Ds w' hrel' d2 (fun D hD => ?_)
              · intro w2 v2 hr2 hv2
                have hok : Ok P g μ H (pack rs, s.H, s.ef) μ' v2 w2 := ⟨l1, hr2, hv2, l4.1, by
                  obtain ⟨_, e', he', hi⟩ := l4
                  rw [he']
                  have : z0.and e' = e' := Ef.z0_and e'
                  rw [this]
                  exact hi, l2⟩
                obtain ⟨μ'', hok'⟩ := leave_ok hrel hok
                exact ⟨μ'', _, rfl, hok'⟩
              · obtain ⟨x, y, z⟩ := d3 D hD
                rw [l0.b] at x
                exact ⟨x, (l3.rel.old D y).2.trans z⟩
            rcases hex with rfl | rfl
            · exact hend
            · exact hend
          · cases h
        · cases h
      · cases h
    · rename_i hf
      have : P.funcs[f]? ≠ none := by simp [hlt]
      exact absurd hf this
  · intro b args H r h g μ w vs l hrel hargs hl
    have hf : P.funcs[P.funcs.size + b]? = none := by simp
    unfold evFun at h
    rw [hf] at h
    simp only [Nat.add_sub_cancel_left] at h
    exact round_ok hC n b args H r h g μ w vs l hrel hargs hl

theorem evN_ok (P : Program) : ∀ n, CallsOk P (evN P n)
  | 0 => ⟨fun f args H r _ h => by simp [evN] at h, fun b args H r h => by simp [evN] at h⟩
  | n + 1 => fun_ok (evN_ok P n) (n + 1)
end
end Go.Proofs.YtgkpgpdkolpfkaaDoor.V
