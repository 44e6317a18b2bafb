/- Operations of 'V': conversions, maps, strings gone through. No conditions. -/
import Derived.Test.YtgkpgpdkolpfkaaDoorVOpe
import Derived.Lib.Builder
namespace Go.Proofs.YtgkpgpdkolpfkaaDoor.V
open Go
set_option linter.unusedSimpArgs false
set_option linter.unusedVariables false

section
variable {P : Program} {g : Gh} {μ : Mu} {H : Hp} {w : World}

theorem freeze_new (w : World) (c : Array Value) (e : TypeId) (n : Nat) : (w.alloc (.cells c e)).freeze ⟨w.heap.size, n, none⟩ 1 = w.alloc (.cells c e (n, n + 1)) := by
  unfold World.freeze World.alloc
  simp only [Nat.one_ne_zero, if_false]
  congr 1
  apply Array.ext
  · simp
  · intro i h1 h2
    simp only [Array.getElem_modify, Array.getElem_push]
    simp only [Array.size_modify, Array.size_push] at h1
    by_cases hi : i < w.heap.size
    · simp [hi, show w.heap.size ≠ i by omega]
    · have : i = w.heap.size := by omega
      subst this
      simp

theorem bytes_conc (s : List UInt8) : concs μ (s.map fun b => AV.int .u8 b.toNat) = some (s.map fun b => Value.int .u8 b.toNat) := by
  induction s with
  | nil => rfl
  | cons b r ih => simp [concs, conc, ih]

theorem bytesOf_ok : ∀ {c : List AV} {s : List UInt8} {vs : List Value}, evConv.bytesOf c = some s → concs μ c = some vs → ∃ ns : List Int, vs = ns.map (Value.int .u8) ∧ s = ns.map fun n => UInt8.ofNat n.toNat
  | [], s, vs, h, hc => by
    simp only [evConv.bytesOf] at h; cases h; cases hc
    exact ⟨[], rfl, rfl⟩
  | v :: c, s, vs, h, hc => by
    unfold evConv.bytesOf at h
    split at h
    · rename_i he; cases he
    · rename_i n r he
      cases he
      simp only [Option.map_eq_some_iff] at h
      obtain ⟨s', hs', rfl⟩ := h
      simp only [concs, conc, Option.bind_some, Option.map_eq_some_iff] at hc
      obtain ⟨vs', hvs', rfl⟩ := hc
      obtain ⟨ns, rfl, rfl⟩ := bytesOf_ok hs' hvs'
      exact ⟨n :: ns, rfl, rfl⟩
    · cases h

theorem foldl_push (ns : List Int) : ∀ (b : ByteArray), ns.foldl (fun r n => r.push (UInt8.ofNat n.toNat)) b = ⟨(b.data.toList ++ ns.map fun n => UInt8.ofNat n.toNat).toArray⟩ := by
  induction ns with
  | nil => intro b; simp
  | cons n ns ih =>
    intro b
    rw [List.foldl_cons, ih]
    congr 1
    simp [ByteArray.push]

theorem conv_ok (h : HRel P g μ H w) {src dst : TypeId} {x : AV} {x' : Value} {r : AV × Hp} (hr : evConv P src dst x H = some r) (hx : conc μ x = some x') :
    Yields P g μ H w (convert src dst x') (r.1, r.2, z0) := by
  unfold evConv at hr
  split at hr
  · rename_i sh k kk n hs hd
    cases hr; cases hx
    obtain ⟨d, hsd, _⟩ := tsh_some hs
    refine Yields.pure h ⟨_, ?_, rfl⟩
    simp [convert, run_underlying hsd, run_underlying (tsh_int hd), Conv.intToInt]
  · rename_i sh kk n hs hd
    cases hr; cases hx
    obtain ⟨d, hsd, _⟩ := tsh_some hs
    refine Yields.pure h ⟨.string (Utf8.encode n), ?_, by simp [conc]⟩
    simp [convert, run_underlying hsd, run_underlying (tsh_str hd), Conv.intToString]
  · rename_i sh s hs hd
    cases hr; cases hx
    obtain ⟨d, hsd, _⟩ := tsh_some hs
    refine Yields.pure h ⟨_, ?_, rfl⟩
    simp [convert, run_underlying hsd, run_underlying (tsh_str hd)]
  · rename_i sh e s hs hd
    obtain ⟨d, hsd, _⟩ := tsh_some hs
    obtain ⟨un, inf, hinf, hsz, hby⟩ := tsh_slice hd
    cases hx
    split at hr
    · rename_i he
      cases hr
      have hss : (⟨s.toArray⟩ : ByteArray).size = s.length := by simp [ByteArray.size]
      have hcap := grownCap_ge w s.length 0 e
      have hrel := h.drew.new (.cells ((s.map fun b => Value.int .u8 b.toNat).toArray ++ Array.replicate (grownCap w s.length 0 e - s.length) (.int .u8 0)) e (grownCap w s.length 0 e, grownCap w s.length 0 e + 1)) (.cells (s.map fun b => .int .u8 b.toNat) e (.op 0 true)) (grownCap w s.length 0 e) (by
        refine ⟨_, _, _, heap_alloc_new w.drew _, bytes_conc s, ?_, ?_, ?_⟩
        · simp
        · intro j v hv
          simp only [Nat.zero_add]
          have hj : j < (s.map fun b => Value.int .u8 (b.toNat : Int)).length := (List.getElem?_eq_some_iff.1 hv).1
          rw [Array.getElem?_append_left (by simpa using hj)]
          simpa using hv
        · have hz : ((s.map fun b => Value.int .u8 (b.toNat : Int)).toArray ++ Array.replicate (grownCap w s.length 0 e - s.length) (Value.int .u8 0)).size = grownCap w s.length 0 e := by
            simp; omega
          rw [hz]
          exact ⟨⟨inf, hinf, by omega, by simp [hsz]⟩, .inr ⟨rfl, rfl⟩⟩)
      refine ⟨_, .slice (some ⟨w.heap.size, 0, none⟩) s.length (grownCap w s.length 0 e), _, ?_, h.le_upd _, hrel, by simp [conc, upd_same], by simp, Inv.snoc, upd_dom⟩
      have hz : ((s.map fun b => Value.int .u8 (b.toNat : Int)).toArray ++ Array.replicate (grownCap w s.length 0 e - s.length) (Value.int .u8 0)).size = grownCap w s.length 0 e := by
        simp; omega
      have hfr := freeze_new w.drew ((s.map fun b => Value.int .u8 (b.toNat : Int)).toArray ++ Array.replicate (grownCap w s.length 0 e - s.length) (Value.int .u8 0)) e (grownCap w s.length 0 e)
      simp only [World.size_drew] at hfr
      have hsh : (w.drew.alloc (.cells ((s.map fun b => Value.int .u8 (b.toNat : Int)).toArray ++ Array.replicate (grownCap w s.length 0 e - s.length) (Value.int .u8 0)) e)).shape? w.heap.size = some (e, grownCap w s.length 0 e) := by
        have := heap_alloc_new w.drew (.cells ((s.map fun b => Value.int .u8 (b.toNat : Int)).toArray ++ Array.replicate (grownCap w s.length 0 e - s.length) (Value.int .u8 0)) e)
        simp only [World.size_drew] at this
        simp only [World.shape?, this, hz]
      simp only [convert, Sem.run_bind, run_underlying hsd, run_underlying un, Result.andThen_ok, run_underlying (tsh_int he), Conv.stringToBytes, hss, run_choose, Question.forced, Bool.false_eq_true, if_false, newRow, run_newObj, markStringish, run_shape, run_freeze, Sem.run_pure]
      have harr : Array.map (fun b : UInt8 => Value.int .u8 (b.toNat : Int)) s.toArray = (s.map fun b => Value.int .u8 (b.toNat : Int)).toArray := by simp
      rw [harr]
      have key : ∀ (A : Array Value) (q : Nat), (w.drew.alloc (.cells A e)).shape? w.heap.size = some (e, q) → (w.drew.alloc (.cells A e)).freeze ⟨w.heap.size, q, none⟩ 1 = w.drew.alloc (.cells A e (q, q + 1)) →
          ((Sem.run P (match (w.drew.alloc (.cells A e)).shape? w.heap.size with | some (_, n) => freeze ⟨w.heap.size, n, none⟩ 1 | _ => pure ()) (w.drew.alloc (.cells A e))).andThen fun _ w' => Result.ok (Value.slice (some ⟨w.heap.size, 0, none⟩) s.length (grownCap w s.length 0 e)) w') =
            Result.ok (Value.slice (some ⟨w.heap.size, 0, none⟩) s.length (grownCap w s.length 0 e)) (w.drew.alloc (.cells A e (q, q + 1))) := by
        intro A q h1 h2
        rw [h1]
        simp only [run_freeze, Result.andThen_ok, h2]
      exact key _ _ hsh hfr
    · cases hr
  · rename_i e hs hd
    obtain ⟨un, _⟩ := tsh_slice hs
    split at hr
    · rename_i he
      cases hr; cases hx
      refine Yields.pure h ⟨.string .empty, ?_, rfl⟩
      simp [convert, run_underlying un, run_underlying (tsh_str hd), run_underlying (tsh_int he), Conv.bytesToString]
    · cases hr
  · rename_i e b o n c hs hd
    obtain ⟨un, _⟩ := tsh_slice hs
    split at hr
    · rename_i he
      simp only [Option.bind_eq_some_iff, Option.map_eq_some_iff] at hr
      obtain ⟨cs, hcs, s, hsb, rfl⟩ := hr
      simp only [conc, Option.map_eq_some_iff] at hx
      obtain ⟨l, hl, rfl⟩ := hx
      obtain ⟨vs, h1, h2, h3⟩ := h.rd hl hcs
      obtain ⟨ns, rfl, rfl⟩ := bytesOf_ok hsb h1
      have hlc : (loadCells ⟨l.blk, l.base + o, none⟩ n).run P w = .ok (ns.map (Value.int .u8)).toArray w := by
        have := run_loadCells_list (P := P) w ⟨l.blk, l.base + o, none⟩ (ns.map (Value.int .u8)) (fun j v hv => by rw [Addr.add_mid]; exact h3 j v hv)
        rwa [h2] at this
      refine Yields.pure h ⟨_, ?_, rfl⟩
      rw [run_convert_bytes_string w src dst e _ _ _ un (tsh_int he) (tsh_str hd), run_bytesToString w _ _ _ ns hlc, foldl_push]
      simp
    · cases hr
  · rename_i t b o hs hd
    split at hr
    · rename_i c e kd j hb hj
      split at hr
      · rename_i hc
        cases hr
        have hx0 := hx
        simp only [conc, Option.map_eq_some_iff] at hx
        obtain ⟨l, hl, rfl⟩ := hx
        obtain ⟨cc, fz, vs, hw, hv, hle, _, _⟩ := h.blk b l _ hl hb
        refine Yields.pure h ⟨_, ?_, hx0⟩
        refine Lib.run_to_unsafe w _ (tsh_ptr hs) (tsh_upt hd) hj hc.1 (e := e) (cells := cc.size) ?_ ?_
        · simp [World.shape?, hw]
        · have := hc.2
          show l.base + o < cc.size
          omega
      · cases hr
    · cases hr
  · rename_i u b o hs hd
    split at hr
    · rename_i c e j hb hj
      split at hr
      · rename_i hc
        cases hr
        have hx0 := hx
        simp only [conc, Option.map_eq_some_iff] at hx
        obtain ⟨l, hl, rfl⟩ := hx
        obtain ⟨cc, fz, vs, hw, hv, hle, _, hk⟩ := h.blk b l _ hl hb
        obtain ⟨hb0, hsz, _⟩ := hk
        refine Yields.pure h ⟨_, ?_, hx0⟩
        refine Lib.run_from_unsafe w _ (tsh_upt hs) (tsh_ptr hd) hj (e := e) (cells := c.length) ?_ ?_
        · simp [World.shape?, hw, hsz]
        · simp only [hb0, Nat.zero_add]
          exact hc
      · cases hr
    · cases hr
  · cases hr
end
end Go.Proofs.YtgkpgpdkolpfkaaDoor.V
