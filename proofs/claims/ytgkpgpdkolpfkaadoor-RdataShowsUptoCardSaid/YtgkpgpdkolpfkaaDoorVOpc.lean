/- Operations of 'V': slices, appends, copies. No conditions. -/
import Derived.Test.YtgkpgpdkolpfkaaDoorVOpb
import Derived.Laws.AppendOwn
namespace Go.Proofs.YtgkpgpdkolpfkaaDoor.V
open Go
set_option linter.unusedSimpArgs false
set_option linter.unusedVariables false

section
variable {P : Program} {g : Gh} {μ : Mu} {H : Hp} {w : World}

theorem sliceBound_ok {k : IntKind} {i : Int} {y : Nat} {code : BoundsCode} (h : 0 ≤ i ∧ i ≤ (y : Int)) : (Instr.sliceBound (.int k i) y code).run P w = .ok i.toNat w := by
  simp only [Instr.sliceBound, asIntOf, Sem.run_bind, Sem.run_pure, Result.andThen_ok, Sem.run_ite, if_pos h]

/-- The bounds as the machine has them: no max. -/
theorem bnd_ok {isS : Bool} {low high : Option AV} {low' high' : Option Value} {len cap : Nat} {r : Nat × Nat} (h : bnd low high len cap = some r)
    (hl : low'.map some = low.map (conc μ)) (hh : high'.map some = high.map (conc μ)) (cap' : Nat) (hc : cap ≤ cap') :
    (Instr.sliceBounds isS len cap' low' high' none).run P w = .ok (r.1, r.2, cap') w := by
  unfold bnd at h
  split at h
  · rename_i k hv
    cases high' <;> simp [conc] at hh
    subst hh
    split at h
    · rename_i h1
      have h1' : 0 ≤ hv ∧ hv ≤ (cap' : Int) := ⟨h1.1, by omega⟩
      split at h
      · rename_i k2 lv
        cases low' <;> simp [conc] at hl
        subst hl
        split at h
        · rename_i h2
          cases h
          have h2' : 0 ≤ lv ∧ lv ≤ ((hv.toNat : Nat) : Int) := ⟨h2.1, by omega⟩
          simp only [Instr.sliceBounds, Sem.run_bind, Sem.run_pure, Result.andThen_ok, sliceBound_ok h1', sliceBound_ok h2']
        · cases h
      · cases low' <;> simp at hl
        cases h
        simp only [Instr.sliceBounds, Sem.run_bind, Sem.run_pure, Result.andThen_ok, sliceBound_ok h1']
      · cases h
    · cases h
  · cases high' <;> simp at hh
    split at h
    · rename_i k2 lv
      cases low' <;> simp [conc] at hl
      subst hl
      split at h
      · rename_i h2
        cases h
        simp only [Instr.sliceBounds, Sem.run_bind, Sem.run_pure, Result.andThen_ok, sliceBound_ok h2]
      · cases h
    · cases low' <;> simp at hl
      cases h
      simp [Instr.sliceBounds]
    · cases h
  · cases h

/-- With a max. -/
theorem bnd3_ok {low high : Option AV} {low' high' : Option Value} {len cap : Nat} {m : Int} {k : IntKind} {r : Nat × Nat} (h0 : 0 ≤ m) (h1 : m ≤ cap) (hs : high.isSome = true) (h : bnd low high len m.toNat = some r)
    (hl : low'.map some = low.map (conc μ)) (hh : high'.map some = high.map (conc μ)) :
    (Instr.sliceBounds true len cap low' high' (some (.int k m))).run P w = .ok (r.1, r.2, m.toNat) w := by
  unfold bnd at h
  have hm : 0 ≤ m ∧ m ≤ (cap : Int) := ⟨h0, h1⟩
  split at h
  · rename_i k hv
    cases high' <;> simp [conc] at hh
    subst hh
    split at h
    · rename_i h1
      split at h
      · rename_i k2 lv
        cases low' <;> simp [conc] at hl
        subst hl
        split at h
        · rename_i h2
          cases h
          have h2' : 0 ≤ lv ∧ lv ≤ ((hv.toNat : Nat) : Int) := ⟨h2.1, by omega⟩
          simp only [Instr.sliceBounds, Sem.run_bind, Sem.run_pure, Result.andThen_ok, sliceBound_ok h1, sliceBound_ok h2', sliceBound_ok hm]
        · cases h
      · cases low' <;> simp at hl
        cases h
        simp only [Instr.sliceBounds, Sem.run_bind, Sem.run_pure, Result.andThen_ok, sliceBound_ok h1, sliceBound_ok hm]
      · cases h
    · cases h
  · cases hs
  · cases h

theorem bnd_le {low high : Option AV} {len cap : Nat} {r : Nat × Nat} (h : bnd low high len cap = some r) : r.1 ≤ r.2 ∧ (r.2 ≤ cap ∨ high = none ∧ r.2 = len) := by
  unfold bnd at h
  split at h
  · split at h
    · split at h
      · split at h
        · cases h; simp only; omega
        · cases h
      · cases h; simp only; omega
      · cases h
    · cases h
  · split at h
    · split at h
      · cases h; simp only; exact ⟨by omega, .inr (by simp)⟩
      · cases h
    · cases h; exact ⟨Nat.zero_le _, .inr (by simp)⟩
    · cases h
  · cases h

theorem known_ok (h : HRel P g μ H w) {b o k z q : Nat} {e : TypeId} {l : Loc} (hb : μ b = some l) (hz : tsize P e = some z) (hq : known H b o k z e = some q) : q ≤ l.cap - k ∧ 0 < z ∧ o = k * z := by
  unfold known at hq
  split at hq
  · rename_i c e' fz st hx
    split at hq
    · rename_i hc
      cases hq
      obtain ⟨rfl, hz0, rfl⟩ := hc
      obtain ⟨cc, fr, vs, h1, h2, h3, h4, ⟨⟨i, hi, hi0, hsz⟩, _⟩⟩ := h.blk b l _ hb hx
      have hiz : i.size = z := by simpa [tsize, hi] using hz
      rw [hiz] at hsz
      refine ⟨?_, hz0, rfl⟩
      have h5 : c.length ≤ l.cap * z := by omega
      have h6 : (c.length - k * z) ≤ (l.cap - k) * z := by rw [Nat.sub_mul]; omega
      calc (c.length - k * z) / z ≤ ((l.cap - k) * z) / z := Nat.div_le_div_right h6
        _ = l.cap - k := Nat.mul_div_cancel _ hz0
    · cases hq
  · cases hq

theorem slice_ok (h : HRel P g μ H w) {t : TypeId} {x v : AV} {x' : Value} {low high mx : Option AV} {low' high' mx' : Option Value} (hv : evSlice P t x low high mx H = some v) (hx : conc μ x = some x')
    (hl : low'.map some = low.map (conc μ)) (hh : high'.map some = high.map (conc μ)) (hm : mx'.map some = mx.map (conc μ)) :
    ∃ v', (Instr.sliceAt t x' low' high' mx').run P w = .ok v' w ∧ conc μ v = some v' := by
  unfold evSlice at hv
  split at hv
  · rename_i s ht
    cases mx' <;> simp at hm
    simp only [Option.map_eq_some_iff] at hv
    obtain ⟨r, hr, rfl⟩ := hv
    cases hx
    have hb := bnd_ok (P := P) (w := w) (isS := false) hr hl hh s.length (Nat.le_refl _)
    refine ⟨_, ?_, rfl⟩
    have hsz : (⟨s.toArray⟩ : ByteArray).size = s.length := by simp [ByteArray.size]
    simp only [Instr.sliceAt, Instr.slice, Sem.run_bind, run_underlying (tsh_str ht), Result.andThen_ok, Option.isSome_none, Bool.false_eq_true, if_false, hsz, hb, Sem.run_pure]
    congr 2
    apply ByteArray.ext
    apply Array.ext'
    simp [List.extract_eq_take_drop]
  · rename_i e z by_ ht
    cases mx' <;> simp at hm
    simp only [Option.map_eq_some_iff] at hv
    obtain ⟨r, hr, rfl⟩ := hv
    cases hx
    obtain ⟨u, inf, hinf, hn, _⟩ := tsh_slice ht
    have hb := bnd_ok (P := P) (w := w) (isS := true) hr hl hh 0 (Nat.le_refl _)
    have hle := bnd_le hr
    have h1 : r.1 = 0 := by omega
    have h2 : r.2 = 0 := by omega
    rw [h1, h2] at hb
    refine ⟨.slice none 0 0, ?_, rfl⟩
    simp only [Instr.sliceAt, Instr.slice, Sem.run_bind, run_underlying u, Result.andThen_ok, hb, size_info (w := w) hinf hn, Sem.run_pure, if_true]
  · rename_i e z by_ k m ht
    cases mx' <;> simp [conc] at hm
    subst hm
    split at hv
    · rename_i hcnd
      simp only [Option.map_eq_some_iff] at hv
      obtain ⟨r, hr, rfl⟩ := hv
      cases hx
      obtain ⟨rfl, hhs⟩ := hcnd
      obtain ⟨u, inf, hinf, hn, _⟩ := tsh_slice ht
      have hb := bnd3_ok (P := P) (w := w) (k := k) (m := 0) (cap := 0) (len := 0) (by omega) (by omega) hhs (by simpa using hr) hl hh
      have hle := bnd_le hr
      have h1 : r.1 = 0 := by omega
      have h2 : r.2 = 0 := by omega
      rw [h1, h2] at hb
      refine ⟨.slice none 0 0, ?_, rfl⟩
      simp only [Instr.sliceAt, Instr.slice, Sem.run_bind, run_underlying u, Result.andThen_ok, hb, size_info (w := w) hinf hn, Sem.run_pure]
      rfl
    · cases hv
  · rename_i e z by_ b o n c ht
    cases mx' <;> simp at hm
    simp only [Option.map_eq_some_iff] at hv
    obtain ⟨r, hr, rfl⟩ := hv
    simp only [conc, Option.map_eq_some_iff] at hx
    obtain ⟨l, hlb, rfl⟩ := hx
    obtain ⟨u, inf, hinf, hn, _⟩ := tsh_slice ht
    have hb := bnd_ok (P := P) (w := w) (isS := true) hr hl hh c (Nat.le_refl _)
    refine ⟨_, ?_, by simp only [conc, hlb, Option.map_some]; rfl⟩
    simp only [Instr.sliceAt, Instr.slice, Sem.run_bind, run_underlying u, Result.andThen_ok, hb, size_info (w := w) hinf hn, Sem.run_pure]
    by_cases hc : c = r.1 <;> simp [hc, Addr.add_mid, Nat.add_assoc]
  · rename_i e z by_ b o n c k m ht
    cases mx' <;> simp [conc] at hm
    subst hm
    split at hv
    · rename_i hcnd
      simp only [Option.map_eq_some_iff] at hv
      obtain ⟨r, hr, rfl⟩ := hv
      simp only [conc, Option.map_eq_some_iff] at hx
      obtain ⟨l, hlb, rfl⟩ := hx
      obtain ⟨u, inf, hinf, hn, _⟩ := tsh_slice ht
      have hb := bnd3_ok (P := P) (w := w) (k := k) hcnd.1 hcnd.2.1 hcnd.2.2 hr hl hh
      refine ⟨_, ?_, by simp only [conc, hlb, Option.map_some]; rfl⟩
      simp only [Instr.sliceAt, Instr.slice, Sem.run_bind, run_underlying u, Result.andThen_ok, hb, size_info (w := w) hinf hn, Sem.run_pure]
      by_cases hc : m.toNat = r.1 <;> simp [hc, Addr.add_mid, Nat.add_assoc]
    · cases hv
  · rename_i e z by_ b o n k ht
    cases mx' <;> simp at hm
    simp only [Option.bind_eq_some_iff] at hv
    obtain ⟨q, hq, r, hr, hv⟩ := hv
    split at hv
    · rename_i hcnd
      cases hv
      simp only [conc, Option.map_eq_some_iff] at hx
      obtain ⟨l, hlb, rfl⟩ := hx
      obtain ⟨u, inf, hinf, hn, _⟩ := tsh_slice ht
      obtain ⟨k1, k2, k3⟩ := known_ok h hlb (by simp [tsize, hinf, hn]) hq
      have hb := bnd_ok (P := P) (w := w) (isS := true) hr hl hh (l.cap - k) k1
      refine ⟨_, ?_, by simp only [conc, hlb, Option.map_some]; rfl⟩
      simp only [Instr.sliceAt, Instr.slice, Sem.run_bind, run_underlying u, Result.andThen_ok, hb, size_info (w := w) hinf hn, Sem.run_pure]
      by_cases h0 : r.1 = 0
      · simp [h0]
        intro _
        simp [Addr.add]
      · rw [if_neg (by omega)]
        simp [Addr.add_mid, Nat.add_assoc]
        omega
    · cases hv
  · rename_i e z by_ b o n k km m ht
    cases mx' <;> simp [conc] at hm
    subst hm
    simp only [Option.bind_eq_some_iff] at hv
    obtain ⟨q, hq, hv⟩ := hv
    split at hv
    · rename_i hcnd
      simp only [Option.map_eq_some_iff] at hv
      obtain ⟨r, hr, rfl⟩ := hv
      simp only [conc, Option.map_eq_some_iff] at hx
      obtain ⟨l, hlb, rfl⟩ := hx
      obtain ⟨u, inf, hinf, hn, _⟩ := tsh_slice ht
      obtain ⟨k1, k2, k3⟩ := known_ok h hlb (by simp [tsize, hinf, hn]) hq
      have hb := bnd3_ok (P := P) (w := w) (k := km) (cap := l.cap - k) hcnd.1 (by omega) hcnd.2.2 hr hl hh
      refine ⟨_, ?_, by simp only [conc, hlb, Option.map_some]; rfl⟩
      simp only [Instr.sliceAt, Instr.slice, Sem.run_bind, run_underlying u, Result.andThen_ok, hb, size_info (w := w) hinf hn, Sem.run_pure]
      by_cases hc : m.toNat = r.1 <;> simp [hc, Addr.add_mid, Nat.add_assoc]
    · cases hv
  · rename_i arr b o ht
    cases mx' <;> simp at hm
    split at hv
    · rename_i n e z hta
      simp only [Option.map_eq_some_iff] at hv
      obtain ⟨r, hr, rfl⟩ := hv
      simp only [conc, Option.map_eq_some_iff] at hx
      obtain ⟨l, hlb, rfl⟩ := hx
      obtain ⟨u, inf, hinf, hn⟩ := tsh_array hta
      have hb := bnd_ok (P := P) (w := w) (isS := false) hr hl hh n (Nat.le_refl _)
      refine ⟨_, ?_, by simp only [conc, hlb, Option.map_some]; rfl⟩
      simp only [Instr.sliceAt, Instr.slice, Sem.run_bind, run_underlying (tsh_ptr ht), run_underlying u, Result.andThen_ok, asAddr, hb, size_info (w := w) hinf hn, Sem.run_pure]
      by_cases hc : n = r.1 <;> simp [hc, Addr.add_mid, Nat.add_assoc]
    · cases hv
  · rename_i n e z b o ht
    cases mx' <;> simp at hm
    simp only [Option.map_eq_some_iff] at hv
    obtain ⟨r, hr, rfl⟩ := hv
    simp only [conc, Option.map_eq_some_iff] at hx
    obtain ⟨l, hlb, rfl⟩ := hx
    obtain ⟨u, inf, hinf, hn⟩ := tsh_array ht
    have hb := bnd_ok (P := P) (w := w) (isS := false) hr hl hh n (Nat.le_refl _)
    refine ⟨_, ?_, by simp only [conc, hlb, Option.map_some]; rfl⟩
    simp only [Instr.sliceAt, Sem.run_bind, run_underlying u, Result.andThen_ok, Instr.sureAddr, hb, size_info (w := w) hinf hn, Sem.run_pure]
    by_cases hc : n = r.1 <;> simp [hc, Addr.add_mid, Nat.add_assoc]
  · cases hv
theorem sliceX_ok (h : HRel P g μ H w) {t : TypeId} {x : AV} {r : AV × Hp} {x' : Value} {low high mx : Option AV} {low' high' mx' : Option Value} (hv : evSliceX P t x low high mx H = some r) (hx : conc μ x = some x')
    (hl : low'.map some = low.map (conc μ)) (hh : high'.map some = high.map (conc μ)) (hm : mx'.map some = mx.map (conc μ)) : Yields P g μ H w (Instr.sliceAt t x' low' high' mx') (r.1, r.2, z0) := by
  unfold evSliceX at hv
  split at hv
  · rename_i e z by_ b o n k ht
    cases mx' <;> simp at hm
    simp only [Option.bind_eq_some_iff] at hv
    obtain ⟨q, hq, r', hr, hv⟩ := hv
    split at hv
    · rename_i hcnd
      cases hv
      simp only [conc, Option.map_eq_some_iff] at hx
      obtain ⟨l, hlb, rfl⟩ := hx
      obtain ⟨u, inf, hinf, hn, _⟩ := tsh_slice ht
      obtain ⟨k1, k2, k3⟩ := known_ok h hlb (by simp [tsize, hinf, hn]) hq
      have hb := bnd_ok (P := P) (w := w) (isS := true) hr hl hh (l.cap - k) k1
      have hlt := h.lt b l hlb
      refine ⟨upd μ H.length ⟨l.blk, if l.cap - k = r'.1 then l.base + o else l.base + o + r'.1 * z, l.cap - k - r'.1⟩, .slice (some ⟨l.blk, if l.cap - k = r'.1 then l.base + o else l.base + o + r'.1 * z, none⟩) 0 (l.cap - k - r'.1), w, ?_, h.le_upd _, h.void hlt, ?_, by simp, Inv.snoc, upd_dom⟩
      · simp only [Instr.sliceAt, Instr.slice, Sem.run_bind, run_underlying u, Result.andThen_ok, hb, size_info (w := w) hinf hn, Sem.run_pure]
        rw [hcnd]
        by_cases hc : l.cap - k = r'.2
        · simp [hc]
        · simp [hc, Addr.add_mid]
      · simp [conc, upd_same]
    · cases hv
  · cases hv
end
end Go.Proofs.YtgkpgpdkolpfkaaDoor.V
