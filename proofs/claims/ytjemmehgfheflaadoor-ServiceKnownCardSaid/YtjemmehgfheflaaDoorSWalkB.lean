/- The service chapter's metas: what reads as one; the functions that look at lists of services. No conditions. -/
import Derived.Test.YtjemmehgfheflaaDoorSWalkA
namespace Go.Proofs.YtjemmehgfheflaaDoor.V
open Go
set_option linter.unusedSimpArgs false
set_option linter.unusedVariables false
attribute [local irreducible] go goOps goD opK callK callT stepK leaveTo nextK

/-- A service. -/
structure Svc where
  label : List UInt8
  dg : Bool
  port : Int
  prio : Int
  weight : Int
  text : List UInt8
def Svc.cells (s : Svc) : List AV := [.str s.label, .bool s.dg, .int .u16 s.port, .int .u16 s.prio, .int .u16 s.weight, .str s.text]
def sflat (ss : List Svc) : List AV := ss.flatMap Svc.cells
theorem sflat_len (ss : List Svc) : (sflat ss).length = ss.length * 6 := by
  induction ss with
  | nil => rfl
  | cons s ss ih => show (s.cells ++ sflat ss).length = _; rw [List.length_append, ih, List.length_cons]; show 6 + _ = _; omega
theorem sflat_drop : ∀ (ss : List Svc) (i : Nat) {s : Svc} (t : List AV), ss[i]? = some s → ∃ r, (sflat ss ++ t).drop (i * 6) = s.cells ++ r
  | [], i, s, t, h => by simp at h
  | x :: ss, 0, s, t, h => by
    simp only [List.getElem?_cons_zero, Option.some.injEq] at h
    subst h
    exact ⟨sflat ss ++ t, by show (x.cells ++ sflat ss ++ t).drop (0 * 6) = _; rw [Nat.zero_mul, List.drop_zero, List.append_assoc]⟩
  | x :: ss, i + 1, s, t, h => by
    simp only [List.getElem?_cons_succ] at h
    obtain ⟨r, hr⟩ := sflat_drop ss i t h
    refine ⟨r, ?_⟩
    rw [← hr]
    show (x.cells ++ sflat ss ++ t).drop ((i + 1) * 6) = _
    rw [List.append_assoc, List.drop_append]
    have h6 : x.cells.length = 6 := rfl
    rw [h6, show (i + 1) * 6 - 6 = i * 6 by omega, List.drop_eq_nil_of_le (by rw [h6]; omega), List.nil_append]
theorem sflat_get (ss : List Svc) (i j : Nat) {s : Svc} (t : List AV) (h : ss[i]? = some s) (hj : j < 6) : (sflat ss ++ t)[i * 6 + j]? = s.cells[j]? := by
  obtain ⟨r, hr⟩ := sflat_drop ss i t h
  have : (sflat ss ++ t)[i * 6 + j]? = ((sflat ss ++ t).drop (i * 6))[j]? := by rw [List.getElem?_drop]
  rw [this, hr, List.getElem?_append_left hj]
theorem sflat_f (ss : List Svc) (i j : Nat) {s : Svc} (t : List AV) {e : TypeId} {k : Kd} (h : ss[i]? = some s) (hj : j < 6) : ldC (i * 6 + j) 1 false (.cells (sflat ss ++ t) e k) = s.cells[j]? := sflat_get ss i j t h hj
theorem sflat_ld (ss : List Svc) (i : Nat) {s : Svc} (t : List AV) {e : TypeId} {k : Kd} (h : ss[i]? = some s) : ldC (i * 6) 6 true (.cells (sflat ss ++ t) e k) = some (.agg s.cells) := by
  obtain ⟨r, hr⟩ := sflat_drop ss i t h
  have hi := (List.getElem?_eq_some_iff.1 h).1
  rw [ldC_t, if_pos (by rw [List.length_append, sflat_len]; omega), hr]
  rfl

/-- A value that reads as a row of services. -/
def Sv (H : Hp) (x : AV) (ss : List Svc) : Prop := (x = .nils ∧ ss = []) ∨ ∃ b c cs e k, x = .slice b 0 ss.length c ∧ H[b]? = some (.cells (sflat ss ++ cs) e k)
theorem Sv.len {H : Hp} {x : AV} {ss : List Svc} (h : Sv H x ss) (H' : Hp) : evLen Tryd.prog 22 x H' = some (.int .i64 ss.length) := by
  obtain ⟨rfl, rfl⟩ | ⟨b, c, cs, e, k, rfl, hb⟩ := h
  · simp only [evLen, tsh_22]; rfl
  · simp only [evLen, tsh_22]
theorem Sv.scal {H : Hp} {x : AV} {ss : List Svc} (h : Sv H x ss) : scal x = true := by
  obtain ⟨rfl, rfl⟩ | ⟨b, c, cs, e, k, rfl, hb⟩ := h <;> rfl
theorem Sv.at {H : Hp} {x : AV} {ss : List Svc} (h : Sv H x ss) {i : Nat} {s : Svc} (hs : ss[i]? = some s) : ∃ b cs e k, evIndexAddr Tryd.prog 22 x (.int .i64 i) = some (.ptr b (i * 6)) ∧ ∀ l : Hp, (H ++ l)[b]? = some (.cells (sflat ss ++ cs) e k) := by
  obtain ⟨rfl, rfl⟩ | ⟨b, c, cs, e, k, rfl, hb⟩ := h
  · simp at hs
  · have hi := (List.getElem?_eq_some_iff.1 hs).1
    refine ⟨b, cs, e, k, ?_, fun l => hp_old hb⟩
    simp only [evIndexAddr, tsh_22]
    rw [if_pos ⟨by omega, by omega⟩]
    simp
theorem eq_41 (s : Svc) : evEq Tryd.prog 20 41 (.agg s.cells) (.agg s.cells) = some true := by
  have : evEq Tryd.prog 20 41 (.agg s.cells) (.agg s.cells) = if (s.label == s.label) = true then (if (s.dg == s.dg) = true then (if (s.port == s.port) = true then (if (s.prio == s.prio) = true then (if (s.weight == s.weight) = true then (if (s.text == s.text) = true then some true else some false) else some false) else some false) else some false) else some false) else some false := by kernel_rfl
  rw [this]; simp
set_option maxRecDepth 20000 in
theorem same (a b c : List UInt8) (H k x y ss) (hx : Sv H x ss) (hy : Sv H y ss) (hn : ss.length ≤ 9223372036854775807) : callK Tryd.prog 16 [.agg [.str a, .str b, .str c, x], .agg [.str a, .str b, .str c, y]] H k = k (.bool true, H, z0) := by
  refine callK_eq (r := (.bool true, H, z0)) ?_ k
  refine callK_start (n := 52) (rs := [.tmp 4]) Tryd.func16 rfl rfl rfl ?_
  intro σ hl ha
  have h0 := ha 0 (by simp)
  have h1 := ha 1 (by simp)
  clear ha
  have xl := hx.len
  have yl := hy.len
  simp only [Option.getD_some, List.getElem?_cons_zero, List.getElem?_cons_succ] at h0 h1
  simp only [go_sem, simprocAttr, hl, h0, h1, xl, yl]
  refine go_rounds (fun n s => ∃ σ i, n + i = ss.length ∧ s = ⟨σ, H ++ [.cells [.str a, .str b, .str c, x] 24 .rw, .cells [.str a, .str b, .str c, y] 24 .rw], z0⟩ ∧ σ.length = 52 ∧ fr σ 2 = .ptr H.length 0 ∧ fr σ 3 = .ptr (H.length + 1) 0 ∧ fr σ 5 = .int .i64 (i : Nat)) ss.length
    ⟨_, 0, rfl, rfl, by simp only [go_sem, simprocAttr, hl], by simp only [go_sem, simprocAttr, hl], by simp only [go_sem, simprocAttr, hl], by simp only [go_sem, simprocAttr, hl]⟩ ?_
  rintro n _ ⟨σ, i, hi, rfl, hl, h2, h3, h5⟩
  by_cases hlt : i < ss.length
  · obtain ⟨s, hs⟩ : ∃ s, ss[i]? = some s := ⟨_, List.getElem?_eq_getElem hlt⟩
    obtain ⟨bx, csx, ex, kx, xa, xb⟩ := hx.at hs
    obtain ⟨by_, csy, ey, ky, ya, yb⟩ := hy.at hs
    have lx := sflat_ld ss i csx (e := ex) (k := kx) hs
    have ly := sflat_ld ss i csy (e := ey) (k := ky) hs
    have hw := wrap_succ (show i < 9223372036854775807 by omega)
    simp only [go_sem, simprocAttr, hl, h2, h3, h5, xl, yl, hlt]
    refine go_drawZ tFollows (by kernel_rfl) ?_
    simp only [go_sem, simprocAttr, hl, h2, h3, h5, xl, yl, hlt, xa, xb, ya, yb, lx, ly, eq_41, eqg_41, hw]
    exact ⟨n - 1, by omega, _, i + 1, by omega, rfl, by simp only [go_sem, simprocAttr, hl], by simp only [go_sem, simprocAttr, hl, h2], by simp only [go_sem, simprocAttr, hl, h3], by simp only [go_sem, simprocAttr, hl]⟩

  · simp only [go_sem, simprocAttr, hl, h2, h3, h5, xl, yl, hlt]


theorem Sv.old {H : Hp} {x : AV} {ss : List Svc} (h : Sv H x ss) (l : Hp) : Sv (H ++ l) x ss := by
  obtain ⟨rfl, rfl⟩ | ⟨b, c, cs, e, k, rfl, hb⟩ := h
  · exact .inl ⟨rfl, rfl⟩
  · exact .inr ⟨b, c, cs, e, k, rfl, hp_old hb⟩

/-- A bool, memory as it was; false tells that the services are few. -/
def retB (H : Hp) (ss : List Svc) (q : AV × Hp × Ef) : Prop := ∃ b : {b : Bool // b = false → ss.length ≤ 500}, q = (.bool b.1, H, z0)
theorem retB_t {H : Hp} {ss : List Svc} : retB H ss (.bool true, H, z0) = True := eq_true ⟨⟨true, fun h => by cases h⟩, rfl⟩
theorem retB_f {H : Hp} {ss : List Svc} (h : ss.length ≤ 500) : retB H ss (.bool false, H, z0) = True := eq_true ⟨⟨false, fun _ => h⟩, rfl⟩
attribute [go_sem] retB_t

set_option maxRecDepth 20000 in
theorem large_ex (a b c : List UInt8) (H x ss) (hx : Sv H x ss) (hn : ss.length ≤ 9223372036854775807) : ∃ r : {b : Bool // b = false → ss.length ≤ 500}, ∀ k, callK Tryd.prog 8 [.agg [.str a, .str b, .str c, x]] H k = k (.bool r.1, H, z0) := by
  refine callK_ex (fun r : {b : Bool // b = false → ss.length ≤ 500} => (.bool r.1, H, z0)) ?_
  show callK _ _ _ _ (retB H ss)
  refine callK_start (n := 51) (rs := [.tmp 2]) Tryd.func8 rfl rfl rfl ?_
  intro σ hl ha
  have h0 := ha 0 (by simp)
  clear ha
  have xl := hx.len
  simp only [Option.getD_some, List.getElem?_cons_zero, List.getElem?_cons_succ] at h0
  repeat' first
    | refine guardK_split (fun hb => ?_) (fun hb => ?_)
    | refine condK_split (fun hb => ?_) (fun hb => ?_)
    | simp only [go_sem, simprocAttr, hl, h0, xl, *]
  rename_i g1 g2 g3
  have h500 : ss.length ≤ 500 := by
    simp only [decide_eq_false_iff_not] at g1
    omega
  refine go_rounds (fun n s => ∃ σ i, n + i = ss.length ∧ s = ⟨σ, H ++ [.cells [.str a, .str b, .str c, x] 24 .rw], z0⟩ ∧ σ.length = 51 ∧ fr σ 1 = .ptr H.length 0 ∧ fr σ 3 = .int .i64 (i : Nat)) ss.length
    ⟨_, 0, rfl, rfl, by simp only [go_sem, simprocAttr, hl], by simp only [go_sem, simprocAttr, hl], by simp only [go_sem, simprocAttr, hl]⟩ ?_
  rintro n _ ⟨σ, i, hi, rfl, hl, h1, h3⟩
  by_cases hlt : i < ss.length
  · obtain ⟨s, hs⟩ : ∃ s, ss[i]? = some s := ⟨_, List.getElem?_eq_getElem hlt⟩
    obtain ⟨bx, csx, ex, kx, xa, xb⟩ := hx.at hs
    have l0 := sflat_f ss i 0 csx (e := ex) (k := kx) hs (by decide)
    have l5 := sflat_f ss i 5 csx (e := ex) (k := kx) hs (by decide)
    have hw := wrap_succ (show i < 9223372036854775807 by omega)
    simp only [Svc.cells, List.getElem?_cons_zero, List.getElem?_cons_succ, Nat.add_zero] at l0 l5
    repeat' first
      | refine guardK_split (fun hb => ?_) (fun hb => ?_)
      | refine condK_split (fun hb => ?_) (fun hb => ?_)
      | simp only [go_sem, simprocAttr, hl, h1, h3, xl, hlt, xa, xb, l0, l5, hw, *]
    all_goals exact ⟨n - 1, by omega, _, i + 1, by omega, rfl, by simp only [go_sem, simprocAttr, hl], by simp only [go_sem, simprocAttr, hl, h1], by simp only [go_sem, simprocAttr, hl]⟩
  · simp only [go_sem, simprocAttr, hl, h1, h3, xl, hlt, retB_f h500]

/-- The mark behind the services. -/
def mark : Svc := ⟨[109, 97, 114, 107], false, 0, 0, 0, []⟩
def Lent (H : Hp) (x : AV) (ss : List Svc) : Prop := ∃ b, x = .slice b 0 ss.length (.op 0) ∧ H[b]? = some (.cells (sflat ss ++ mark.cells) 41 (.op 0 false))
theorem Lent.sv {H : Hp} {x : AV} {ss : List Svc} (h : Lent H x ss) : Sv H x ss := by
  obtain ⟨b, rfl, hb⟩ := h
  exact .inr ⟨b, .op 0, _, _, _, rfl, hb⟩
theorem Lent.more {H : Hp} {x : AV} {ss : List Svc} (h : Lent H x ss) (l : Hp) : ∃ b, evSlice Tryd.prog 22 x none (some (.int .i64 ((ss.length + 1 : Nat) : Int))) none (H ++ l) = some (.slice b 0 (ss.length + 1) (.op 0)) ∧ ∀ l, (H ++ l)[b]? = some (.cells (sflat ss ++ mark.cells) 41 (.op 0 false)) := by
  obtain ⟨b, rfl, hb⟩ := h
  refine ⟨b, ?_, fun l => hp_old hb⟩
  have hk : known (H ++ l) b 0 0 6 41 = some (ss.length + 1) := by
    simp only [known, hp_old hb]
    rw [if_pos ⟨trivial, by decide, by decide⟩, List.length_append, sflat_len]
    show some ((ss.length * 6 + 6 - 0) / 6) = _
    congr 1; omega
  simp only [evSlice, tsh_22, hk, Option.bind_some, bnd]
  rw [if_pos ⟨by omega, by omega⟩]
  simp
theorem mark_ld (ss : List Svc) {e : TypeId} {k : Kd} : ldC (ss.length * 6) 6 true (.cells (sflat ss ++ mark.cells) e k) = some (.agg mark.cells) := by
  rw [ldC_t, if_pos (by rw [List.length_append, sflat_len]; show _ ≤ _ + 6; omega)]
  rw [← sflat_len, List.drop_left]; rfl

set_option maxRecDepth 20000 in
theorem kept_eq (a b c : List UInt8) (H k x y ss) (hx : Lent H x ss) (hy : Sv H y ss) (hn : ss.length < 9223372036854775806) : callK Tryd.prog 13 [.agg [.str a, .str b, .str c, x], .agg [.str a, .str b, .str c, y]] H k = k (.bool true, H, z0) := by
  refine callK_eq (r := (.bool true, H, z0)) ?_ k
  refine callK_start (n := 24) (rs := [.tmp 4]) Tryd.func13 rfl rfl rfl ?_
  intro σ hl ha
  have h0 := ha 0 (by simp)
  have h1 := ha 1 (by simp)
  clear ha
  have xl := hx.sv.len
  simp only [Option.getD_some, List.getElem?_cons_zero, List.getElem?_cons_succ] at h0 h1
  have sm := fun l k => same a b c (H ++ l) k x y ss (hx.sv.old l) (hy.old l) (by omega)
  have hw := wrap_succ (show ss.length < 9223372036854775807 by omega)
  obtain ⟨bx, m1, m2⟩ := hx.more [.cells [.str a, .str b, .str c, x] 24 .rw, .cells [.str a, .str b, .str c, y] 24 .rw]
  have m3 : evIndexAddr Tryd.prog 22 (.slice bx 0 (ss.length + 1) (.op 0)) (.int .i64 (ss.length : Nat)) = some (.ptr bx (ss.length * 6)) := by
    simp only [evIndexAddr, tsh_22]
    rw [if_pos ⟨by omega, by omega⟩]; simp
  have m4 : evBuild Tryd.prog 41 [(0, .str [109, 97, 114, 107])] = some (.agg mark.cells) := by kernel_rfl
  have m5 := @mark_ld ss
  simp only [go_sem, simprocAttr, hl, h0, h1, xl, sm, hw, m1, m2, m3, m4, m5, eq_41, eqg_41]

/-- The first service of a name and a kind. -/
def sfind (ss : List Svc) (l : List UInt8) (d : Bool) : Svc × Bool :=
  match ss with
  | [] => (⟨[], false, 0, 0, 0, []⟩, false)
  | s :: ss => if (s.label == l && s.dg == d) = true then (s, true) else sfind ss l d
theorem sfind_at {ss : List Svc} {l : List UInt8} {d : Bool} : ∀ {i : Nat} {s : Svc}, (∀ j, j < i → ∀ s, ss[j]? = some s → (s.label == l && s.dg == d) = false) → ss[i]? = some s → (s.label == l && s.dg == d) = true → sfind ss l d = (s, true) := by
  induction ss with
  | nil => intro i s _ h; simp at h
  | cons x ss ih =>
    intro i s hn hs ht
    cases i with
    | zero =>
      simp only [List.getElem?_cons_zero, Option.some.injEq] at hs
      subst hs
      simp only [sfind, ht, if_true]
    | succ i =>
      simp only [List.getElem?_cons_succ] at hs
      have h0 := hn 0 (by omega) x rfl
      simp only [sfind, h0, Bool.false_eq_true, if_false]
      exact ih (fun j hj s h => hn (j + 1) (by omega) s h) hs ht
theorem sfind_no {ss : List Svc} {l : List UInt8} {d : Bool} : (∀ j, j < ss.length → ∀ s, ss[j]? = some s → (s.label == l && s.dg == d) = false) → sfind ss l d = (⟨[], false, 0, 0, 0, []⟩, false) := by
  induction ss with
  | nil => intro _; rfl
  | cons x ss ih =>
    intro hn
    have h0 := hn 0 (by simp) x rfl
    simp only [sfind, h0, Bool.false_eq_true, if_false]
    exact ih (fun j hj s h => hn (j + 1) (by simp; omega) s h)
theorem sfind_step {ss : List Svc} {l : List UInt8} {d : Bool} {i : Nat} {s : Svc} (hs : ss[i]? = some s) (h : (s.label == l && s.dg == d) = false) (hn : ∀ j, j < i → ∀ s, ss[j]? = some s → (s.label == l && s.dg == d) = false) : ∀ j, j < i + 1 → ∀ s, ss[j]? = some s → (s.label == l && s.dg == d) = false := by
  intro j hj t ht
  by_cases hji : j = i
  · subst hji; rw [hs] at ht; cases ht; exact h
  · exact hn j (by omega) t ht

/-- What a search answers. -/
def found (H : Hp) (r : Svc × Bool) (q : AV × Hp × Ef) : Prop := q = (.tuple [.agg r.1.cells, .bool r.2], H, z0)
theorem found_s {H : Hp} {s : Svc} {b : Bool} {r : Svc × Bool} (h : r = (s, b)) : found H r (.tuple [.agg s.cells, .bool b], H, z0) := by subst h; rfl
theorem svc_len (s : Svc) : s.cells.length = 6 := rfl
theorem svc_scal (s : Svc) : s.cells.all scal = true := rfl
theorem svc_flat (s : Svc) : flats s.cells = true := by simp only [Svc.cells, go_sem]
theorem svc_put (s t : Svc) : splice s.cells 0 t.cells = t.cells := rfl
theorem svc_ld (s : Svc) {e : TypeId} {k : Kd} : ldC 0 6 true (.cells s.cells e k) = some (.agg s.cells) := rfl
theorem build41 : evBuild Tryd.prog 41 [] = some (.agg (Svc.cells ⟨[], false, 0, 0, 0, []⟩)) := by kernel_rfl

set_option maxRecDepth 20000 in
theorem find33 (a b c l d) (H k x ss) (hx : Sv H x ss) (hn : ss.length ≤ 9223372036854775807) : callK Tryd.prog 33 [.agg [.str a, .str b, .str c, x], .str l, .bool d] H k = k (.tuple [.agg (sfind ss l d).1.cells, .bool (sfind ss l d).2], H, z0) := by
  refine callK_eq (r := (.tuple [.agg (sfind ss l d).1.cells, .bool (sfind ss l d).2], H, z0)) ?_ k
  show callK _ _ _ _ (found H (sfind ss l d))
  refine callK_start (n := 30) (rs := [.cell 6 41, .tmp 7]) Tryd.func33 rfl rfl rfl ?_
  intro σ hl ha
  have h0 := ha 0 (by simp)
  have h1 := ha 1 (by simp)
  have h2 := ha 2 (by simp)
  clear ha
  have xl := hx.len
  simp only [Option.getD_some, List.getElem?_cons_zero, List.getElem?_cons_succ] at h0 h1 h2
  simp only [go_sem, simprocAttr, hl, h0, h1, h2, xl]
  refine go_rounds (fun n s => ∃ σ i e l', n + i = ss.length ∧ (∀ j, j < i → ∀ s, ss[j]? = some s → (s.label == l && s.dg == d) = false) ∧ s = ⟨σ, H ++ (.cells [.str a, .str b, .str c, x] 24 .rw :: .cells (Svc.cells ⟨[], false, 0, 0, 0, []⟩) 41 .rw :: l'), e⟩ ∧ clean H.length e ∧ σ.length = 30 ∧ fr σ 1 = .str l ∧ fr σ 2 = .bool d ∧ fr σ 6 = .ptr (H.length + 1) 0 ∧ fr σ 11 = x ∧ fr σ 12 = .int .i64 ss.length ∧ fr σ 13 = .int .i64 (i : Nat)) ss.length
    ⟨_, 0, _, [], rfl, fun j hj => absurd hj (Nat.not_lt_zero j), rfl, ⟨rfl, rfl⟩, by simp only [go_sem, simprocAttr, hl], by simp only [go_sem, simprocAttr, hl, h1], by simp only [go_sem, simprocAttr, hl, h2], by simp only [go_sem, simprocAttr, hl], by simp only [go_sem, simprocAttr, hl], by simp only [go_sem, simprocAttr, hl], by simp only [go_sem, simprocAttr, hl]⟩ ?_
  rintro n _ ⟨σ, i, e, l', hi, hno, rfl, he, hl, h1, h2, h6, h11, h12, h13⟩
  by_cases hlt : i < ss.length
  · obtain ⟨s, hs⟩ : ∃ s, ss[i]? = some s := ⟨_, List.getElem?_eq_getElem hlt⟩
    obtain ⟨bx, csx, ex, kx, xa, xb⟩ := hx.at hs
    have lx := sflat_ld ss i csx (e := ex) (k := kx) hs
    have hw := wrap_succ (show i < 9223372036854775807 by omega)
    have es : ∀ (e k), ldC 0 1 false (.cells s.cells e k) = some (.str s.label) := fun _ _ => rfl
    have ed : ∀ (e k), ldC 1 1 false (.cells s.cells e k) = some (.bool s.dg) := fun _ _ => rfl
    have ez : ∀ t : Svc, splice [.str [], .bool false, .int .u16 0, .int .u16 0, .int .u16 0, .str []] 0 t.cells = t.cells := fun _ => rfl
    simp only [go_sem, simprocAttr, hl, h1, h2, h6, h11, h12, h13, xl, hlt, xa, xb, lx, hw, es, ed, ez, svc_len, svc_scal, svc_flat, svc_put, svc_ld]

    refine guardK_split (fun hb => ?_) (fun hb => ?_)
    · simp only [go_sem, simprocAttr, hl, h1, h2, h6, h11, h12, h13, xl, hlt, xa, xb, lx, hw, es, ed, ez, svc_len, svc_scal, svc_flat, svc_put, svc_ld, he, hb]
      refine condK_split (fun hc => ?_) (fun hc => ?_)
      · simp only [go_sem, simprocAttr, hl, h1, h2, h6, h11, h12, h13, xl, hlt, xa, xb, lx, hw, es, ed, ez, svc_len, svc_scal, svc_flat, svc_put, svc_ld, he, hb, hc]
        exact found_s (sfind_at hno hs (by rw [hb, hc]; rfl))
      · simp only [go_sem, simprocAttr, hl, h1, h2, h6, h11, h12, h13, xl, hlt, xa, xb, lx, hw, es, ed, ez, svc_len, svc_scal, svc_flat, svc_put, svc_ld, he, hb, hc]
        exact ⟨n - 1, by omega, _, i + 1, _, _, by omega, sfind_step hs (by rw [hc]; simp) hno, rfl, by simp only [go_sem, simprocAttr, he], by simp only [go_sem, simprocAttr, hl], by simp only [go_sem, simprocAttr, hl, h1], by simp only [go_sem, simprocAttr, hl, h2], by simp only [go_sem, simprocAttr, hl, h6], by simp only [go_sem, simprocAttr, hl, h11], by simp only [go_sem, simprocAttr, hl, h12], by simp only [go_sem, simprocAttr, hl]⟩
    · simp only [go_sem, simprocAttr, hl, h1, h2, h6, h11, h12, h13, xl, hlt, xa, xb, lx, hw, es, ed, ez, svc_len, svc_scal, svc_flat, svc_put, svc_ld, he, hb]
      exact ⟨n - 1, by omega, _, i + 1, _, _, by omega, sfind_step hs (by rw [hb]; rfl) hno, rfl, by simp only [go_sem, simprocAttr, he], by simp only [go_sem, simprocAttr, hl], by simp only [go_sem, simprocAttr, hl, h1], by simp only [go_sem, simprocAttr, hl, h2], by simp only [go_sem, simprocAttr, hl, h6], by simp only [go_sem, simprocAttr, hl, h11], by simp only [go_sem, simprocAttr, hl, h12], by simp only [go_sem, simprocAttr, hl]⟩
  · simp only [go_sem, simprocAttr, hl, h1, h2, h6, h11, h12, h13, xl, hlt, he, build41, svc_len, svc_scal, svc_flat, svc_put, svc_ld]
    exact found_s (sfind_no fun j hj => hno j (by omega))

theorem build_mark : evBuild Tryd.prog 41 [(0, .str [109, 97, 114, 107])] = some (.agg mark.cells) := by kernel_rfl
theorem bslice_mark (H : Hp) (s : Svc) : evBuildSlice Tryd.prog 22 1 [(0, .agg s.cells)] H = some (.slice H.length 0 1 (.ex 1), H ++ [.cells s.cells 41 .rw]) := by
  simp only [evBuildSlice, tsh_22, tzero_41, Option.bind_some]
  rfl
theorem zok41 : zok Tryd.prog 41 6 = true := by kernel_rfl
/-- What a copy with a mark behind it answers. -/
def lentQ (H : Hp) (a b c : List UInt8) (ss : List Svc) (q : AV × Hp × Ef) : Prop := ∃ r : AV × Hp, q = (.agg [.str a, .str b, .str c, r.1], H ++ r.2, z0) ∧ Lent (H ++ r.2) r.1 ss

set_option maxRecDepth 20000 in
theorem lent_ex (a b c : List UInt8) (H x ss) (hx : Sv H x ss) (hn : ss.length < 9223372036854775806) (hf : fits (ss.length + 1) 40 = true) : ∃ r : {r : AV × Hp // Lent (H ++ r.2) r.1 ss}, ∀ k, callK Tryd.prog 9 [.agg [.str a, .str b, .str c, x]] H k = k (.agg [.str a, .str b, .str c, r.1.1], H ++ r.1.2, z0) := by
  refine callK_ex (fun r : {r : AV × Hp // Lent (H ++ r.2) r.1 ss} => (.agg [.str a, .str b, .str c, r.1.1], H ++ r.1.2, z0)) ?_
  refine callK_mono (k := lentQ H a b c ss) ?_ (fun q ⟨r, hq, hr⟩ => ⟨⟨r, hr⟩, hq⟩)
  refine callK_start (n := 19) (rs := [.cell 2 24]) Tryd.func9 rfl rfl rfl ?_
  intro σ hl ha
  have h0 := ha 0 (by simp)
  clear ha
  simp only [Option.getD_some, List.getElem?_cons_zero, List.getElem?_cons_succ] at h0
  have hf1 : fits 1 40 = true := rfl
  have hk : mark.cells.length = 6 := rfl
  have ht : ∀ (e k), rdC 0 6 (.cells mark.cells e k) = some mark.cells := fun _ _ => rfl
  have hsc : mark.cells.all scal = true := rfl
  obtain ⟨rfl, rfl⟩ | ⟨bx, cp, cs, ex, kx, rfl, hb⟩ := hx
  · simp only [go_sem, simprocAttr, hl, h0, build_mark, bslice_mark, hf1, hk, ht, show IntKind.i64.wrap 0 = 0 from rfl]
    exact ⟨(_, _), rfl, _, rfl, by simp only [go_sem, simprocAttr, sflat, List.flatMap_nil]⟩
  · have hr : rdC 0 (ss.length * 6) (.cells (sflat ss ++ cs) ex kx) = some (sflat ss) := by
      rw [rdC_c, if_pos (by rw [List.length_append, sflat_len]; omega), ← sflat_len, List.drop_zero, List.take_left]
    have hb' := fun l => hp_old (l := l) hb
    have hff : fits ss.length 40 = true := by
      simp only [fits, decide_eq_true_eq] at hf ⊢
      omega
    simp only [go_sem, simprocAttr, hl, h0, build_mark, bslice_mark, hf1, hk, ht, hb', hr, hff]
    refine guardK_split (fun he => ?_) (fun he => ?_)
    · simp only [go_sem, simprocAttr, hl, h0, build_mark, bslice_mark, hf1, hk, ht, show IntKind.i64.wrap 0 = 0 from rfl]
      have : ss = [] := by
        have : ss.length = 0 := by simpa using he
        exact List.length_eq_zero_iff.1 this
      subst this
      exact ⟨(_, _), rfl, _, rfl, by simp only [go_sem, simprocAttr, sflat, List.flatMap_nil]⟩
    · have hcap : decide ((ss.length + 1) * 6 ≤ ss.length * 6) = false := decide_eq_false (by omega)
      have hw := wrap_pred (show ss.length < 9223372036854775807 by omega)
      have hta : List.take (ss.length * 6) (sflat ss) = sflat ss := by rw [← sflat_len, List.take_length]
      simp only [go_sem, simprocAttr, hl, h0, build_mark, bslice_mark, hf1, hk, ht, sflat_len, hsc, hf, hff, hcap, hw, hta]
      have h7 : (ss.length * 6 + 6) / 6 = ss.length + 1 := by omega
      simp only [go_sem, simprocAttr, h7]
      exact ⟨(_, _), rfl, _, rfl, by simp only [go_sem, simprocAttr]⟩

end Go.Proofs.YtjemmehgfheflaaDoor.V
