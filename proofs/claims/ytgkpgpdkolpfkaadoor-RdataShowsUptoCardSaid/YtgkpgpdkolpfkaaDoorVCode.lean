/- What the evaluator 'V' answers the machine answers: regions, code, calls. No conditions. -/
import Derived.Test.YtgkpgpdkolpfkaaDoorVDrawd
import Derived.LoopNIn
namespace Go.Proofs.YtgkpgpdkolpfkaaDoor.V
open Go
set_option linter.unusedSimpArgs false
set_option linter.unusedVariables false

theorem countP_lt {α : Type} {p q : α → Bool} : ∀ {l : List α}, (∀ x ∈ l, q x = true → p x = true) → (∃ x ∈ l, p x = true ∧ q x = false) → l.countP q < l.countP p
  | [], _, ⟨x, hx, _⟩ => by cases hx
  | a :: l, h, ⟨x, hx, h1, h2⟩ => by
    have hle : l.countP q ≤ l.countP p := List.countP_mono_left (fun y hy => h y (by simp [hy]))
    rcases List.mem_cons.1 hx with rfl | hx
    · rw [List.countP_cons, List.countP_cons, h1, h2]
      simp only [Bool.false_eq_true, if_false, if_true]; omega
    · have ih := countP_lt (fun y hy => h y (by simp [hy])) ⟨x, hx, h1, h2⟩
      rw [List.countP_cons, List.countP_cons]
      by_cases hq : q a = true
      · rw [hq, h a (by simp) hq]; simpa using ih
      · simp only [hq, Bool.false_eq_true, if_false, Nat.add_zero]; omega

theorem ready_iff {ops : Array Oper} {listed : Array Bool} (hs : listed.size = ops.size) {j : Nat} : j ∈ Region.ready .any ops listed ↔ dn listed j = false ∧ ∃ o, ops.toList[j]? = some o ∧ ∀ e ∈ o.after.toList, Region.binds .any e = true → dn listed e.on = true := by
  rw [mem_ready]
  have key : ∀ o, ops[j]? = some o → (listed.getD j true = false ↔ dn listed j = false) := by
    intro o ho
    have hlt : j < ops.size := (Array.getElem?_eq_some_iff.1 ho).1
    unfold dn
    simp only [Array.getD_eq_getD_getElem?]
    rw [Array.getElem?_eq_getElem (by omega)]
    simp
  constructor
  · rintro ⟨h1, o, ho, h2⟩
    exact ⟨(key o ho).1 h1, o, by rw [Array.getElem?_toList]; exact ho, fun e he hb => h2 e (by simpa using he) hb⟩
  · rintro ⟨h1, o, ho, h2⟩
    rw [Array.getElem?_toList] at ho
    exact ⟨(key o ho).2 h1, o, ho, fun e he hb => h2 e (by simpa using he) hb⟩

section
variable {P : Program} {C : CallO} {l : List Oper} {s sm s' : St} {fr ot : List Rec} {g : Gh} {μ0 : Mu}

def SInv (s s' : St) : Prop := s.H.length ≤ s'.H.length ∧ ∃ e, s'.ef = s.ef.and e ∧ Inv s.H.length s.H s'.H e

/-- What a run hands on. -/
def After (P : Program) (g : Gh) (μ : Mu) (s s' : St) (Q : Act → World → Prop) : Prop :=
  ∀ g' μ' a' w', GLe g g' → Le μ μ' → (∀ b, b < s.H.length → μ' b = μ b) → SRel P g' μ' s' w' a' → SInv s s' → Q a' w'

theorem any_ok {ro : Option Nat} {m : Nat} (hC : CallsOk P C) {ops : Array Oper} (hl : l = ops.toList) (pl : Plan P C l s sm s' fr ot) {Q : Exit → Act → World → Prop} (hQ : After P g μ0 s s' (Q .normal)) :
    ∀ (fuel : Nat) {listed : Array Bool} {μ : Mu} {a : Act} {w : World}, DI P g μ0 l s sm fr ot listed μ a w → (List.range ops.size).countP (fun i => !dn listed i) ≤ fuel → wpAnyIn (Fr ro) m P .any ops Q fuel listed a w := by
  have done : ∀ {listed : Array Bool} {μ : Mu} {a : Act} {w : World}, DI P g μ0 l s sm fr ot listed μ a w → (∀ i, i < ops.size → dn listed i = true) → Q .normal a w := by
    intro listed μ a w di hall
    have hlen : l.length = ops.size := by rw [hl]; simp
    have hD : ∀ r ∈ fr ++ ot, dn listed r.i = true := by
      intro r hr
      refine hall r.i ?_
      have := (List.getElem?_eq_some_iff.1 (pl.at_ r hr)).1
      omega
    have hf : fD (dn listed) s.σ (fr ++ ot) = s'.σ := by
      rw [pl.tr2.frame, pl.tr1.frame, ← fD_append]
      have : ∀ (rs : List Rec) (σ : List AV), (∀ r ∈ rs, dn listed r.i = true) → fD (dn listed) σ rs = fD (fun _ => true) σ rs := by
        intro rs
        induction rs with
        | nil => intro σ _; rfl
        | cons r rs ih =>
          intro σ h
          show fD (dn listed) (if dn listed r.i = true then put σ r.o.dst r.v else σ) rs = fD (fun _ => true) (if true = true then put σ r.o.dst r.v else σ) rs
          rw [h r (by simp)]
          exact ih _ (fun r' hr' => h r' (by simp [hr']))
      exact this _ _ hD
    have hh := pl.tr2.heap pl.nonf
    have hX : hp (dn listed) sm.H ot = s'.H := by
      rw [hh.1]
      exact hp_congr ot _ (fun r hr _ => hD r (List.mem_append_right _ hr))
    have hE : efs (dn listed) z0 ot = efs (fun _ => true) z0 ot := efs_congr ot _ (fun r hr _ => hD r (List.mem_append_right _ hr))
    obtain ⟨zs, z1, z2, _⟩ := pl.tr1.frees pl.free
    refine hQ g μ a w (GLe.refl g) di.le di.dom ⟨by rw [← hX]; exact di.rel, by rw [← hf]; exact di.tm, di.df⟩ ⟨?_, efs (fun _ => true) z0 ot, ?_, ?_⟩
    · rw [← hX]
      have h2 : s.H.length ≤ sm.H.length := by rw [z1]; simp
      exact Nat.le_trans h2 di.len
    · rw [hh.2, z2]
    · rw [← hX, ← hE]; exact di.inv
  intro fuel
  induction fuel with
  | zero =>
    intro listed μ a w di hc
    have hall : ∀ i, i < ops.size → dn listed i = true := by
      intro i hi
      have h0 : (List.range ops.size).countP (fun i => !dn listed i) = 0 := by omega
      rw [List.countP_eq_zero] at h0
      have := h0 i (by simpa using hi)
      simpa using this
    refine ⟨?_, done di hall⟩
    have hsz : listed.size = ops.size := by rw [di.sz, hl]; simp
    apply List.eq_nil_iff_forall_not_mem.2
    intro i hi
    rw [ready_iff hsz] at hi
    obtain ⟨h1, o, ho, _⟩ := hi
    have := hall i (by have := (List.getElem?_eq_some_iff.1 ho).1; simpa using this)
    rw [h1] at this; cases this
  | succ fuel ih =>
    intro listed μ a w di hc
    have hsz : listed.size = ops.size := by rw [di.sz, hl]; simp
    constructor
    · intro hready
      refine done di (fun i hi => ?_)
      -- the least that is left would be ready
      cases hd : dn listed i with
      | true => rfl
      | false =>
        exfalso
        have key : ∀ n, ∀ j, j ≤ n → j < ops.size → dn listed j = true := by
          intro n
          induction n using Nat.strongRecOn with
          | _ n ihn =>
            intro j hj hjs
            cases hd0 : dn listed j with
            | true => rfl
            | false =>
              exfalso
              have : j ∈ Region.ready .any ops listed := by
                rw [ready_iff hsz]
                refine ⟨hd0, ops[j], by rw [Array.getElem?_toList, Array.getElem?_eq_getElem hjs], fun e he hb => ?_⟩
                have hlt := pl.edges j ops[j] (by rw [hl, Array.getElem?_toList, Array.getElem?_eq_getElem hjs]) e he hb
                exact ihn e.on (by omega) e.on (Nat.le_refl _) (by omega)
              rw [hready] at this; cases this
        have := key i i (Nat.le_refl _) hi
        rw [hd] at this; cases this
    · intro i hi
      rw [ready_iff hsz] at hi
      obtain ⟨hd, o, ho, hi3⟩ := hi
      have hi1 : i < ops.size := by have := (List.getElem?_eq_some_iff.1 ho).1; simpa using this
      rw [← hl] at ho
      refine di.step hC hl pl ho hd (fun e he hb => hi3 e he hb) (fun μ' a' w' di' => ih di' ?_)
      · have hlt := countP_lt (p := fun j => !dn listed j) (q := fun j => !dn (listed.setIfInBounds i true) j) (l := List.range ops.size) (fun x _ hx => by
            rw [dn_set (by omega)] at hx
            split at hx
            · cases hx
            · exact hx) ⟨i, by simpa using hi1, by simp [hd], by rw [dn_set (by omega)]; simp⟩
        omega
end
end Go.Proofs.YtgkpgpdkolpfkaaDoor.V
