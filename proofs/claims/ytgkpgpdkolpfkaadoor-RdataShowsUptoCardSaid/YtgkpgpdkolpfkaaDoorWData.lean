/- Data of records: of what types they may be, as 'V' runs the program's and the document's functions. No conditions. -/
import Derived.Test.YtgkpgpdkolpfkaaDoorWText
namespace Go.Proofs.YtgkpgpdkolpfkaaDoor.V
open Go
set_option linter.unusedSimpArgs false
set_option linter.unusedVariables false
attribute [local irreducible] go goOps goD opK callK callT stepK leaveTo nextK

structure Dt where
  raw : List UInt8
  host : List UInt8
  mail : List UInt8
  n0 : Int
  n1 : Int
  n2 : Int
  n3 : Int
  n4 : Int
  deriving DecidableEq
def Dt.cells (d : Dt) : List AV := [.str d.raw, .str d.host, .str d.mail, .int .u32 d.n0, .int .u32 d.n1, .int .u32 d.n2, .int .u32 d.n3, .int .u32 d.n4]
def Dt.zero : Dt := ⟨[], [], [], 0, 0, 0, 0, 0⟩
def is32 (n : Int) : Prop := 0 ≤ n ∧ n < 4294967296
structure Dt.wf (d : Dt) : Prop where
  raw : d.raw.length ≤ 1048576
  host : d.host.length ≤ 1048576
  mail : d.mail.length ≤ 1048576
  n0 : is32 d.n0
  n1 : is32 d.n1
  n2 : is32 d.n2
  n3 : is32 d.n3
  n4 : is32 d.n4

theorem kinds_cases (t : Int) : t = 1 ∨ t = 2 ∨ t = 5 ∨ t = 6 ∨ t = 12 ∨ t = 15 ∨ t = 16 ∨ t = 28 ∨ t = 33 ∨ (t ≠ 1 ∧ t ≠ 2 ∧ t ≠ 5 ∧ t ≠ 6 ∧ t ≠ 12 ∧ t ≠ 15 ∧ t ≠ 16 ∧ t ≠ 28 ∧ t ≠ 33) := by omega
/-- The kinds, as the program lays them. -/
def kindsC : List AV := [.int .u16 1, .str [65], .str [97], .int .u16 2, .str [78, 83], .str [104], .int .u16 5, .str [67, 78, 65, 77, 69], .str [104], .int .u16 6, .str [83, 79, 65], .str [104, 109, 108, 108, 108, 108, 108], .int .u16 12, .str [80, 84, 82], .str [104], .int .u16 15, .str [77, 88], .str [115, 104], .int .u16 16, .str [84, 88, 84], .str [120], .int .u16 28, .str [65, 65, 65, 65], .str [113], .int .u16 33, .str [83, 82, 86], .str [115, 115, 115, 112]]
def Tk (H : Hp) : Prop := ∃ e k, H[0]? = some (.cells kindsC e k)
theorem Tk.old {H : Hp} (h : Tk H) (l : Hp) : Tk (H ++ l) := by
  obtain ⟨e, k, h⟩ := h
  exact ⟨e, k, hp_old h⟩
def formS (t : Int) : List UInt8 :=
  if t = 1 then [97] else if t = 2 then [104] else if t = 5 then [104] else if t = 6 then [104, 109, 108, 108, 108, 108, 108] else if t = 12 then [104] else
  if t = 15 then [115, 104] else if t = 16 then [120] else if t = 28 then [113] else if t = 33 then [115, 115, 115, 112] else [114]

def kT (i : Nat) : Int := (([1, 2, 5, 6, 12, 15, 16, 28, 33] : List Int)[i]?).getD 0
def fT (i : Nat) : List UInt8 := formS (kT i)
theorem kinds_at {i : Nat} (h : i < 9) (e : TypeId) (k : Kd) : ldC (i * 3) 1 false (.cells kindsC e k) = some (.int .u16 (kT i)) ∧ ldC (i * 3 + 2) 1 false (.cells kindsC e k) = some (.str (fT i)) := by
  have : i = 0 ∨ i = 1 ∨ i = 2 ∨ i = 3 ∨ i = 4 ∨ i = 5 ∨ i = 6 ∨ i = 7 ∨ i = 8 := by omega
  rcases this with rfl | rfl | rfl | rfl | rfl | rfl | rfl | rfl | rfl <;> exact ⟨rfl, rfl⟩
theorem formS_no {t : Int} (h : ∀ j, j < 9 → kT j ≠ t) : formS t = [114] := by
  have h0 := h 0 (by decide); have h1 := h 1 (by decide); have h2 := h 2 (by decide); have h3 := h 3 (by decide); have h4 := h 4 (by decide)
  have h5 := h 5 (by decide); have h6 := h 6 (by decide); have h7 := h 7 (by decide); have h8 := h 8 (by decide)
  simp only [kT, List.getElem?_cons_zero, List.getElem?_cons_succ, Option.getD_some] at h0 h1 h2 h3 h4 h5 h6 h7 h8
  unfold formS
  rw [if_neg (Ne.symm h0), if_neg (Ne.symm h1), if_neg (Ne.symm h2), if_neg (Ne.symm h3), if_neg (Ne.symm h4), if_neg (Ne.symm h5), if_neg (Ne.symm h6), if_neg (Ne.symm h7), if_neg (Ne.symm h8)]

set_option maxRecDepth 20000 in
theorem rdata_form (t : Int) (H k) (hk : Tk H) : callK Tryd.prog 23 [.int .u16 t] H k = k (.str (formS t), H, z0) := by
  obtain ⟨e, kd, hg⟩ := hk
  refine callK_eq (r := (.str (formS t), H, z0)) ?_ k
  refine callK_start (n := 18) (rs := [.tmp 2]) Tryd.func23 rfl rfl rfl ?_
  intro σ hl ha
  have h0 := ha 0 (by simp)
  clear ha
  simp only [Option.getD_some, List.getElem?_cons_zero, List.getElem?_cons_succ] at h0
  simp only [go_sem, simprocAttr, hl, h0]
  refine go_rounds (fun n st => ∃ σ i, n + i = 9 ∧ (∀ j, j < i → kT j ≠ t) ∧ st = ⟨σ, H, z0⟩ ∧ σ.length = 18 ∧ fr σ 0 = .int .u16 t ∧ fr σ 4 = .int .i64 (i : Nat)) 9
    ⟨_, 0, rfl, fun j hj => by omega, rfl, by simp only [go_sem, simprocAttr, hl], by simp only [go_sem, simprocAttr, hl, h0], by simp only [go_sem, simprocAttr, hl]⟩ ?_
  rintro n _ ⟨σ, i, hn, hall, rfl, hl, h0, h4⟩
  by_cases hlt : i < 9
  · obtain ⟨l1, l2⟩ := kinds_at hlt e kd
    have hw := wrap_succ (show i < 9223372036854775807 by omega)
    have g0 : decide ((i : Int) < 9) = true := by simp; omega
    have b0 : (i : Int) < 9 := by omega
    by_cases hk : kT i = t
    · have g1 : (kT i == t) = true := by rw [hk]; exact beq_self_eq_true t
      have hf : fT i = formS t := by unfold fT; rw [hk]
      simp only [go_sem, simprocAttr, hl, h0, h4, g0, b0, hg, l1, l2, g1, hf]
    · have g1 : (kT i == t) = false := by rw [beq_eq_false_iff_ne]; exact hk
      simp only [go_sem, simprocAttr, hl, h0, h4, g0, b0, hg, l1, l2, g1, hw]
      refine ⟨n - 1, by omega, _, i + 1, by omega, fun j hj => ?_, rfl, by simp only [go_sem, simprocAttr, hl], by simp only [go_sem, simprocAttr, hl, h0], by simp only [go_sem, simprocAttr, hl]⟩
      by_cases hji : j = i
      · rw [hji]; exact hk
      · exact hall j (by omega)
  · have g0 : decide ((i : Int) < 9) = false := by simp; omega
    have hf := formS_no (fun j hj => hall j (by omega))
    simp only [go_sem, simprocAttr, hl, h0, h4, g0, hf]

/-! ### the document's tables -/
def hostT (t : Int) : Bool := decide (t = 2 ∨ t = 5 ∨ t = 12 ∨ t = 6 ∨ t = 15 ∨ t = 33)
def mailT (t : Int) : Bool := decide (t = 6)
def numT (t : Int) : Nat := if t = 6 then 5 else if t = 15 then 1 else if t = 33 then 3 else 0
def bitT (t : Int) : Nat := if t = 6 then 32 else if t = 15 then 16 else if t = 33 then 16 else 0

theorem hostT_1 : hostT 1 = false := rfl
theorem mailT_1 : mailT 1 = false := rfl
theorem hostT_2 : hostT 2 = true := rfl
theorem mailT_2 : mailT 2 = false := rfl
theorem hostT_5 : hostT 5 = true := rfl
theorem mailT_5 : mailT 5 = false := rfl
theorem hostT_6 : hostT 6 = true := rfl
theorem mailT_6 : mailT 6 = true := rfl
theorem hostT_12 : hostT 12 = true := rfl
theorem mailT_12 : mailT 12 = false := rfl
theorem hostT_15 : hostT 15 = true := rfl
theorem mailT_15 : mailT 15 = false := rfl
theorem hostT_16 : hostT 16 = false := rfl
theorem mailT_16 : mailT 16 = false := rfl
theorem hostT_28 : hostT 28 = false := rfl
theorem mailT_28 : mailT 28 = false := rfl
theorem hostT_33 : hostT 33 = true := rfl
theorem mailT_33 : mailT 33 = false := rfl
attribute [go_sem] hostT_1 mailT_1 hostT_2 mailT_2 hostT_5 mailT_5 hostT_6 mailT_6 hostT_12 mailT_12 hostT_15 mailT_15 hostT_16 mailT_16 hostT_28 mailT_28 hostT_33 mailT_33
theorem beq_f {t a : Int} (h : t ≠ a) : (t == a) = false := by rw [beq_eq_false_iff_ne]; exact h

set_option maxRecDepth 20000 in
theorem ref_names (t : Int) (H k) : callK Tryd.prog 39 [.int .u16 t] H k = k (.tuple [.bool (hostT t), .bool (mailT t)], H, z0) := by
  refine callK_eq (r := (.tuple [.bool (hostT t), .bool (mailT t)], H, z0)) ?_ k
  refine callK_start (n := 28) (rs := [.tmp 2, .tmp 3]) Tryd.func39 rfl rfl rfl ?_
  intro σ hl ha
  have h0 := ha 0 (by simp)
  clear ha
  simp only [Option.getD_some, List.getElem?_cons_zero, List.getElem?_cons_succ] at h0
  rcases kinds_cases t with rfl | rfl | rfl | rfl | rfl | rfl | rfl | rfl | rfl | ⟨h1, h2, h3, h4, h5, h6, h7, h8, h9⟩
  all_goals try (first | (simp only [go_sem, simprocAttr, hl, h0]; done) | (simp only [go_sem, simprocAttr, hl, h0]; rfl))
  have e1 : hostT t = false := by simp only [hostT, decide_eq_false_iff_not]; omega
  have e2 : mailT t = false := by simp only [mailT, decide_eq_false_iff_not]; omega
  have h2 := beq_f h2; have h3 := beq_f h3; have h4 := beq_f h4; have h5 := beq_f h5; have h6 := beq_f h6; have h9 := beq_f h9
  simp only [go_sem, simprocAttr, hl, h0, h2, h3, h4, h5, h6, h9, e1, e2]
set_option maxRecDepth 20000 in
theorem ref_numbers (t : Int) (H k) : callK Tryd.prog 40 [.int .u16 t] H k = k (.tuple [.int .i64 (numT t : Nat), .int .i64 (bitT t : Nat)], H, z0) := by
  refine callK_eq (r := (.tuple [.int .i64 (numT t : Nat), .int .i64 (bitT t : Nat)], H, z0)) ?_ k
  refine callK_start (n := 11) (rs := [.tmp 2, .tmp 3]) Tryd.func40 rfl rfl rfl ?_
  intro σ hl ha
  have h0 := ha 0 (by simp)
  clear ha
  simp only [Option.getD_some, List.getElem?_cons_zero, List.getElem?_cons_succ] at h0
  rcases kinds_cases t with rfl | rfl | rfl | rfl | rfl | rfl | rfl | rfl | rfl | ⟨h1, h2, h3, h4, h5, h6, h7, h8, h9⟩
  all_goals try (first | (simp only [go_sem, simprocAttr, hl, h0]; done) | (simp only [go_sem, simprocAttr, hl, h0]; rfl))
  have e1 : numT t = 0 := by unfold numT; rw [if_neg h4, if_neg h6, if_neg h9]
  have e2 : bitT t = 0 := by unfold bitT; rw [if_neg h4, if_neg h6, if_neg h9]
  have h4 := beq_f h4; have h6 := beq_f h6; have h9 := beq_f h9
  simp only [go_sem, simprocAttr, hl, h0, h4, h6, h9, e1, e2]

def rawT (t : Int) (r : List UInt8) : Bool :=
  if hostT t = true then (r == []) else if t = 1 then ((r.length : Int) == 4) else if t = 28 then ((r.length : Int) == 16) else if t = 16 then (txOk r && decide ((r.length : Int) ≤ 65535)) else decide ((r.length : Int) ≤ 65535)

set_option maxRecDepth 20000 in
theorem ref_raw (t : Int) (r : List UInt8) (H k) (hr : r.length ≤ 1048576) : callK Tryd.prog 48 [.int .u16 t, .str r] H k = k (.bool (rawT t r), H, z0) := by
  refine callK_eq (r := (.bool (rawT t r), H, z0)) ?_ k
  refine callK_start (n := 47) (rs := [.tmp 4]) Tryd.func48 rfl rfl rfl ?_
  intro σ hl ha
  have h0 := ha 0 (by simp)
  have h1 := ha 1 (by simp)
  clear ha
  simp only [Option.getD_some, List.getElem?_cons_zero, List.getElem?_cons_succ] at h0 h1
  have hn := fun (t : Int) H k => ref_names t H k
  rcases kinds_cases t with rfl | rfl | rfl | rfl | rfl | rfl | rfl | rfl | rfl | ⟨h1', h2, h3, h4, h5, h6, h7, h8, h9⟩
  case inr.inr.inr.inr.inr.inr.inl =>
    obtain ⟨b, _, hb⟩ := ref_texts r H hr
    cases ht : txOk r <;> rw [ht] at hb <;> simp only [go_sem, simprocAttr, hl, h0, h1, hn, hb] <;> simp [rawT, hostT, ht]
  case inr.inr.inr.inr.inr.inr.inr.inr.inr =>
    have e1 : hostT t = false := by simp only [hostT, decide_eq_false_iff_not]; omega
    have e2 : mailT t = false := by simp only [mailT, decide_eq_false_iff_not]; omega
    have e3 : rawT t r = decide ((r.length : Int) ≤ 65535) := by unfold rawT; rw [e1, if_neg (by decide), if_neg h1', if_neg h8, if_neg h7]
    have h1' := beq_f h1'; have h8 := beq_f h8; have h7 := beq_f h7
    simp only [go_sem, simprocAttr, hl, h0, h1, hn, e1, e2, e3, h1', h8, h7]
  all_goals (simp only [go_sem, simprocAttr, hl, h0, h1, hn]; first | done | simp [rawT, hostT])
end Go.Proofs.YtgkpgpdkolpfkaaDoor.V
