/- Operations of 'V': a string that shares a row's bytes. No conditions. -/
import Derived.Test.YtgkpgpdkolpfkaaDoorVOpg
import Derived.Lib.UnsafeStr
namespace Go.Proofs.YtgkpgpdkolpfkaaDoor.V
open Go
set_option linter.unusedSimpArgs false
set_option linter.unusedVariables false

section
variable {P : Program} {g : Gh} {μ : Mu} {H : Hp} {w : World}

theorem sliceData_ok (h : HRel P g μ H w) {ts : Array TypeId} {ty : TypeId} {x v : AV} {x' : Value} (hv : evSliceData P x H = some v) (hx : conc μ x = some x') : ∃ v', (Builtin.unsafeSliceData_ ts ty #[x']).run P w = .ok v' w ∧ conc μ v = some v' := by
  unfold evSliceData at hv
  split at hv
  · cases hv; cases hx
    exact ⟨_, Lib.run_unsafeSliceData_nil w ts ty 0 0, rfl⟩
  · rename_i b o n c
    split at hv
    · rename_i hc
      cases hv
      simp only [conc, Option.map_eq_some_iff] at hx
      obtain ⟨l, hl, rfl⟩ := hx
      exact ⟨_, Lib.run_unsafeSliceData_row w ts ty _ _ _ hc, by simp [conc, hl]⟩
    · cases hv
  · rename_i b o n k
    split at hv
    · rename_i c e fz st hb
      simp only [Option.bind_eq_some_iff] at hv
      obtain ⟨z, hz, hv⟩ := hv
      split at hv
      · rename_i hc
        cases hv
        simp only [conc, Option.map_eq_some_iff] at hx
        obtain ⟨l, hl, rfl⟩ := hx
        obtain ⟨cc, fr, vs, hw, hvv, hle, _, hk⟩ := h.blk b l _ hl hb
        obtain ⟨⟨i, hi, hi0, hsz⟩, _⟩ := hk
        have hzi : z = i.size := by simp [tsize, hi] at hz; exact hz.symm
        subst hzi
        obtain ⟨h0, ho, hn, hnc⟩ := hc
        have hcap : l.cap - k ≠ 0 := by
          have h1 : (k + n) * i.size ≤ l.cap * i.size := by rw [Nat.add_mul]; omega
          have h2 := Nat.le_of_mul_le_mul_right h1 h0
          omega
        exact ⟨_, Lib.run_unsafeSliceData_row w ts ty _ _ _ hcap, by simp [conc, hl]⟩
      · cases hv
    · cases hv
  · cases hv

theorem liesAt_bytesAt {e : TypeId} (hc : P.cellsOf e = 1) (count off n : Nat) (hn : off + n ≤ count) : liesAt P P.depth e count off e n = true := by
  have hd : P.depth = (2 * (P.types.size + Made.depth) + 1) + 1 := rfl
  rw [hd]
  simp only [liesAt, Bool.or_eq_true]
  left
  rw [hd]
  simp [rowAt, hc, hn, sameLayout, Nat.mod_one]

theorem run_unsafeString_at (pt it ty e : TypeId) (hp : P.underlying pt = some (.pointer e)) (hc : P.cellsOf e = 1) (b off cells : Nat) (hsh : w.shape? b = some (e, cells)) (l : List UInt8) (h0 : l ≠ []) (hn : off + l.length ≤ cells) (h63 : l.length ≤ 9223372036854775807)
    (hcell : ∀ (j : Nat) x, l[j]? = some x → w.cell? ((⟨b, off, none⟩ : Addr).add j) = some (.int .u8 x.toNat)) :
    (Builtin.unsafeString_ #[pt, it] ty #[.pointer (some ⟨b, off, none⟩), .int .i64 l.length]).run P w = .ok (.string ⟨l.toArray⟩) (w.freeze ⟨b, off, none⟩ l.length) := by
  have hl : l.length ≠ 0 := by simpa using h0
  have hlb := Lib.run_loadBytes (P := P) w l ⟨b, off, none⟩ .empty hcell
  have hlies := liesAt_bytesAt (P := P) hc (cells / P.cellsOf e) off l.length (by rw [hc]; simpa using hn)
  have h63' : ¬ (9223372036854775807 : Int) < (l.length : Int) := by omega
  have hmax : IntKind.i64.max = 9223372036854775807 := rfl
  have hneg : ¬ (l.length : Int) < 0 := by omega
  show Sem.run P (asInt (.int .i64 l.length) >>= _) w = _
  simp [asInt, asIntOf, hmax, h63', hneg, hl, variablesAt, hsh, elemOf, run_underlying hp, hlies, hlb]

theorem freeze_at {b off n : Nat} {cc : Array Value} {e : TypeId} {fr : Nat × Nat} (hw : w.heap[b]? = some (.cells cc e fr)) (hn : n ≠ 0) :
    ∃ fr' : Nat × Nat, (w.freeze ⟨b, off, none⟩ n).heap[b]? = some (.cells cc e fr') ∧ (fr'.2 ≤ fr.2 ∨ fr'.2 ≤ off + n) := by
  unfold World.freeze
  rw [if_neg hn]
  obtain ⟨lo, hi⟩ := fr
  refine ⟨_, by simp [Array.getElem?_modify, hw]; rfl, ?_⟩
  split
  · exact .inr (Nat.le_refl _)
  · simp only
    omega
theorem freeze_other {b off n k : Nat} (hk : k ≠ b) : (w.freeze ⟨b, off, none⟩ n).heap[k]? = w.heap[k]? := by
  unfold World.freeze
  split
  · rfl
  · simp [Array.getElem?_modify, Ne.symm hk]
theorem freeze_size {a : Addr} {n : Nat} : (w.freeze a n).heap.size = w.heap.size := by
  unfold World.freeze
  split
  · rfl
  · simp

theorem evBytes_ok : ∀ {c : List AV} {s : List UInt8}, evBytes c = some s → c = s.map fun b => AV.int .u8 b.toNat
  | [], s, h => by simp only [evBytes] at h; cases h; rfl
  | v :: c, s, h => by
    unfold evBytes at h
    split at h
    · rename_i he; cases he
    · rename_i n r he
      cases he
      split at h
      · rename_i hn
        simp only [Option.map_eq_some_iff] at h
        obtain ⟨s', hs', rfl⟩ := h
        rw [evBytes_ok hs', List.map_cons]
        congr 2
        have : n.toNat < 256 := by omega
        rw [UInt8.toNat_ofNat_of_lt' (by simpa using this)]
        omega
      · cases h
    · cases h

theorem string_ok (h : HRel P g μ H w) {pt it ty : TypeId} {x i : AV} {x' i' : Value} {r : AV × Hp × Ef} (hr : evString P pt x i H = some r) (hx : conc μ x = some x') (hi : conc μ i = some i') :
    Yields P g μ H w (Builtin.unsafeString_ #[pt, it] ty #[x', i']) r := by
  unfold evString at hr
  split at hr
  · rename_i n
    cases hi
    split at hr
    · rename_i hn
      subst hn
      split at hr
      · cases hr; cases hx
        exact Yields.pure h ⟨_, Lib.run_unsafeString_none w pt it ty none, rfl⟩
      · cases hr
        simp only [conc, Option.map_eq_some_iff] at hx
        obtain ⟨l, hl, rfl⟩ := hx
        exact Yields.pure h ⟨_, Lib.run_unsafeString_none w pt it ty _, rfl⟩
      · cases hr
    · split at hr
      · rename_i hn0 hn
        split at hr
        · rename_i b o e hpt
          split at hr
          · rename_i c e' fz hb
            split at hr
            · rename_i hc
              obtain ⟨rfl, hz, hcell, hoc⟩ := hc
              simp only [Option.map_eq_some_iff] at hr
              obtain ⟨s, hs, rfl⟩ := hr
              simp only [conc, Option.map_eq_some_iff] at hx
              obtain ⟨l, hl, rfl⟩ := hx
              obtain ⟨cc, fr, vs, hw, hvv, hle, hcc, hk⟩ := h.blk b l _ hl hb
              have hvs : concs μ ((c.drop o).take n.toNat) = some ((vs.drop o).take n.toNat) := concs_take (concs_drop hvv o) _
              rw [evBytes_ok hs, bytes_conc] at hvs
              have hvs := Option.some.inj hvs
              have hsl : s.length = n.toNat := by
                have h1 := congrArg List.length (evBytes_ok hs)
                rw [List.length_map, List.length_take, List.length_drop] at h1
                omega
              have hpos : 0 < n.toNat := by omega
              have hns : n = (s.length : Int) := by omega
              have hcs : ∀ (j : Nat) y, s[j]? = some y → w.cell? ((⟨l.blk, l.base + o, none⟩ : Addr).add j) = some (.int .u8 y.toNat) := by
                intro j y hy
                have h2 : ((vs.drop o).take n.toNat)[j]? = some (.int .u8 y.toNat) := by rw [← hvs, List.getElem?_map, hy]; rfl
                have hj : j < n.toNat := by rw [← hsl]; exact (List.getElem?_eq_some_iff.1 hy).1
                rw [List.getElem?_take_of_lt hj, List.getElem?_drop] at h2
                rw [Addr.add_mid]
                have h3 := hcc _ _ h2
                simp only [World.cell?, hw]
                rw [← h3]
                simp [Nat.add_assoc]
              have hrun := run_unsafeString_at (P := P) (w := w) pt it ty e' (tsh_ptr hpt) hcell l.blk (l.base + o) cc.size (by simp [World.shape?, hw]) s (by intro e; subst e; simp at hsl; omega) (by omega) (by omega) hcs
              obtain ⟨fr', hfr, hfr2⟩ := freeze_at (w := w) (off := l.base + o) (n := s.length) hw (by omega)
              rw [hns]
              obtain ⟨⟨inf, hinf, hi0, hsz⟩, hkf⟩ := hk
              refine ⟨μ, _, _, hrun, Le.refl μ, ?_, by simp [conc], by simp, Inv.set hb (.inr (fun v hv => .inl hv)) rfl, fun _ _ => rfl⟩
              refine h.change hl hb rfl (fun k hk' => freeze_other hk') freeze_size (by unfold World.freeze; split <;> rfl) (by unfold World.freeze; split <;> rfl) (by unfold World.freeze; split <;> rfl) ?_
              refine ⟨cc, fr', vs, hfr, hvv, hle, hcc, ⟨inf, hinf, hi0, hsz⟩, .inl ?_⟩
              rcases hkf with hkf | ⟨hkf, _⟩
              · simp only [Int.toNat_natCast]
                have hsc : s.length = n.toNat := hsl
                omega
              · cases hkf
            · cases hr
          · cases hr
        · cases hr
      · cases hr
  · cases hr
end
end Go.Proofs.YtgkpgpdkolpfkaaDoor.V
