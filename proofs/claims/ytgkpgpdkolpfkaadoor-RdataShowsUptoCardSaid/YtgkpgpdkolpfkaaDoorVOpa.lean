/- Operations of 'V' that leave memory as it is. No conditions. -/
import Derived.Test.YtgkpgpdkolpfkaaDoorVVal
namespace Go.Proofs.YtgkpgpdkolpfkaaDoor.V
open Go
set_option linter.unusedSimpArgs false
set_option linter.unusedVariables false

section
variable {P : Program} {μ : Mu} {w : World}

theorem conc_isInt {x : AV} {k : IntKind} {n : Int} (h : conc μ x = some (.int k n)) : x = .int k n := by
  cases x <;> simp [conc, Option.bind_eq_some_iff] at h
  obtain ⟨rfl, rfl⟩ := h
  rfl
theorem conc_isFloat {x : AV} {k : FloatKind} {n : Nat} (h : conc μ x = some (.float k n)) : x = .float k n := by
  cases x <;> simp [conc, Option.bind_eq_some_iff] at h
  obtain ⟨rfl, rfl⟩ := h
  rfl
theorem conc_isStr {x : AV} {s : ByteArray} (h : conc μ x = some (.string s)) : x = .str s.data.toList := by
  cases x <;> simp [conc, Option.bind_eq_some_iff] at h
  subst h
  simp
theorem conc_isComplex {x : AV} {k : FloatKind} {a b : Nat} (h : conc μ x = some (.complex k a b)) : False := by
  cases x <;> simp [conc, Option.bind_eq_some_iff] at h
theorem conc_isNili {x : AV} (h : conc μ x = some .nilIface) : x = .nili := by
  cases x <;> simp [conc, Option.bind_eq_some_iff] at h
  rfl
theorem conc_isAgg {x : AV} {a : Array Value} (h : conc μ x = some (.agg a)) : ∃ cs, x = .agg cs ∧ concs μ cs = some a.toList := by
  cases x <;> simp [conc, Option.bind_eq_some_iff] at h
  obtain ⟨l, hl, rfl⟩ := h
  exact ⟨_, rfl, by simpa using hl⟩

theorem eqGuard_skip {op : BinOp} {t : TypeId} {X Y : Operand} {x y : Value} (h : ∀ a b, x = .agg a → y = .agg b → P.eqGuardType P.depth t = false) (h2 : ¬ (x = .nilIface ∧ y = .nilIface)) :
    (eqGuard op t X Y x y).run P w = .ok () w := by
  unfold eqGuard
  cases op <;> try rfl
  all_goals
    cases x <;> first
      | rfl
      | (cases y <;> first
          | rfl
          | exact absurd ⟨rfl, rfl⟩ h2
          | (have e := h _ _ rfl rfl; simp [e]))

theorem binOp_eql_gen {t : TypeId} {x y : Value} (h1 : ∀ k a k' b, x = .int k a → y = .int k' b → False) (h2 : ∀ k a k' b, x = .float k a → y = .float k' b → False)
    (h3 : ∀ k a b k' c d, x = .complex k a b → y = .complex k' c d → False) (h4 : ∀ a b, x = .string a → y = .string b → False) : Go.binOp .eql t x y = (do pure (.bool (← Op.equal t x y))) := by
  unfold Go.binOp
  split <;> first
    | rfl
    | contradiction
    | (exact (h1 _ _ _ _ rfl rfl).elim)
    | (exact (h2 _ _ _ _ rfl rfl).elim)
    | (exact (h3 _ _ _ _ _ _ rfl rfl).elim)
    | (exact (h4 _ _ rfl rfl).elim)
    | (rename_i hne _; exact absurd rfl hne)
    | (simp_all; done)

theorem binOp_neq_gen {t : TypeId} {x y : Value} (h1 : ∀ k a k' b, x = .int k a → y = .int k' b → False) (h2 : ∀ k a k' b, x = .float k a → y = .float k' b → False)
    (h3 : ∀ k a b k' c d, x = .complex k a b → y = .complex k' c d → False) (h4 : ∀ a b, x = .string a → y = .string b → False) : Go.binOp .neq t x y = (do pure (.bool (!(← Op.equal t x y)))) := by
  unfold Go.binOp
  split <;> first
    | rfl
    | contradiction
    | (exact (h1 _ _ _ _ rfl rfl).elim)
    | (exact (h2 _ _ _ _ rfl rfl).elim)
    | (exact (h3 _ _ _ _ _ _ rfl rfl).elim)
    | (exact (h4 _ _ rfl rfl).elim)
    | (simp_all; done)

theorem evEq_noFloat {d : Nat} {t : TypeId} {k k' : FloatKind} {a b : Nat} {r : Bool} (h : evEq P d t (.float k a) (.float k' b) = some r) : False := by
  cases d with
  | zero => simp [evEq] at h
  | succ d =>
    simp only [evEq] at h
    split at h <;> first | (cases h; done) | contradiction

theorem gen_ok {op : BinOp} {t : TypeId} {X Y : Operand} {x y : AV} {x' y' : Value} {r : Bool} (hr : evEq P 20 t x y = some r) (hx : conc μ x = some x') (hy : conc μ y = some y')
    (hg : ∀ a b, x = .agg a → y = .agg b → P.eqGuardType P.depth t = false) (h1 : ∀ k a k' b, x = .int k a → y = .int k' b → False) (h4 : ∀ a b, x = .str a → y = .str b → False)
    (hn : x = .nili → y = .nili → False) : (eqGuard op t X Y x' y').run P w = .ok () w ∧ Go.binOp .eql t x' y' = (do pure (.bool (← Op.equal t x' y'))) ∧ Go.binOp .neq t x' y' = (do pure (.bool (!(← Op.equal t x' y')))) := by
  have k1 : ∀ k a k' b, x' = .int k a → y' = .int k' b → False := by
    rintro k a k' b rfl rfl
    exact h1 _ _ _ _ (conc_isInt hx) (conc_isInt hy)
  have k2 : ∀ k a k' b, x' = .float k a → y' = .float k' b → False := by
    rintro k a k' b rfl rfl
    rw [conc_isFloat hx, conc_isFloat hy] at hr
    exact evEq_noFloat hr
  have k3 : ∀ k a b k' c d, x' = .complex k a b → y' = .complex k' c d → False := by
    rintro k a b k' c d rfl rfl
    exact conc_isComplex hx
  have k4 : ∀ a b, x' = .string a → y' = .string b → False := by
    rintro a b rfl rfl
    exact h4 _ _ (conc_isStr hx) (conc_isStr hy)
  refine ⟨eqGuard_skip ?_ ?_, binOp_eql_gen k1 k2 k3 k4, binOp_neq_gen k1 k2 k3 k4⟩
  · rintro a b rfl rfl
    obtain ⟨c, rfl, _⟩ := conc_isAgg hx
    obtain ⟨d, rfl, _⟩ := conc_isAgg hy
    exact hg _ _ rfl rfl
  · rintro ⟨rfl, rfl⟩
    exact hn (conc_isNili hx) (conc_isNili hy)

theorem evBin_ok {op : BinOp} {t : TypeId} {X Y : Operand} {x y v : AV} {x' y' : Value} (h : evBin P op t x y = some v) (hx : conc μ x = some x') (hy : conc μ y = some y') :
    ∃ v', (do eqGuard op t X Y x' y'; Go.binOp op t x' y' : Sem Value).run P w = .ok v' w ∧ conc μ v = some v' := by
  unfold evBin at h
  split at h
  · cases hx; cases hy
    rw [eqGuard_at_int]
    simpa using evShift_ok (w := w) (μ := μ) (t := t) h
  · cases hx; cases hy
    rw [eqGuard_at_int]
    simpa using evShift_ok (w := w) (μ := μ) (t := t) h
  · cases hx; cases hy
    rw [eqGuard_at_int]
    split at h
    · rename_i hk; subst hk
      simpa using evInt_ok (w := w) (μ := μ) (t := t) h
    · cases h
  · cases hx; cases hy
    rw [eqGuard_at_string]
    simpa using evStr_ok (w := w) (μ := μ) (t := t) h
  · split at h
    · cases h
    · rename_i hg
      simp only [Option.map_eq_some_iff] at h
      obtain ⟨r, hr, rfl⟩ := h
      have e1 := evEq_ok (w := w) 20 hr hx hy Op.maxDepth (by decide)
      obtain ⟨g1, g2, g3⟩ := gen_ok (op := .eql) (X := X) (Y := Y) (w := w) hr hx hy (fun _ _ _ _ => by simpa using hg) (fun _ _ _ _ e => by cases e) (fun _ _ e => by cases e) (fun e => by cases e)
      exact ⟨.bool r, by rw [Sem.run_bind, g1, Result.andThen_ok, g2]; simp only [Op.equal, Sem.run_bind, e1, Result.andThen_ok, Sem.run_pure], rfl⟩
  · split at h
    · cases h
    · rename_i hg
      simp only [Option.map_eq_some_iff] at h
      obtain ⟨r, hr, rfl⟩ := h
      have e1 := evEq_ok (w := w) 20 hr hx hy Op.maxDepth (by decide)
      obtain ⟨g1, g2, g3⟩ := gen_ok (op := .neq) (X := X) (Y := Y) (w := w) hr hx hy (fun _ _ _ _ => by simpa using hg) (fun _ _ _ _ e => by cases e) (fun _ _ e => by cases e) (fun e => by cases e)
      exact ⟨.bool !r, by rw [Sem.run_bind, g1, Result.andThen_ok, g3]; simp only [Op.equal, Sem.run_bind, e1, Result.andThen_ok, Sem.run_pure], rfl⟩
  · cases h
  · cases h
  · rename_i h1 h2 h3 h4
    simp only [Option.map_eq_some_iff] at h
    obtain ⟨r, hr, rfl⟩ := h
    have e1 := evEq_ok (w := w) 20 hr hx hy Op.maxDepth (by decide)
    obtain ⟨g1, g2, g3⟩ := gen_ok (op := .eql) (X := X) (Y := Y) (w := w) hr hx hy (fun a b ea eb => (h3 a b ea eb).elim) (fun k a k' b ea eb => h1 k a k' b ea eb) (fun a b ea eb => h2 a b ea eb) (fun ea eb => h4 ea eb)
    exact ⟨.bool r, by rw [Sem.run_bind, g1, Result.andThen_ok, g2]; simp only [Op.equal, Sem.run_bind, e1, Result.andThen_ok, Sem.run_pure], rfl⟩
  · rename_i h1 h2 h3 h4
    simp only [Option.map_eq_some_iff] at h
    obtain ⟨r, hr, rfl⟩ := h
    have e1 := evEq_ok (w := w) 20 hr hx hy Op.maxDepth (by decide)
    obtain ⟨g1, g2, g3⟩ := gen_ok (op := .neq) (X := X) (Y := Y) (w := w) hr hx hy (fun a b ea eb => (h3 a b ea eb).elim) (fun k a k' b ea eb => h1 k a k' b ea eb) (fun a b ea eb => h2 a b ea eb) (fun ea eb => h4 ea eb)
    exact ⟨.bool !r, by rw [Sem.run_bind, g1, Result.andThen_ok, g3]; simp only [Op.equal, Sem.run_bind, e1, Result.andThen_ok, Sem.run_pure], rfl⟩
  · cases h
end
end Go.Proofs.YtgkpgpdkolpfkaaDoor.V
