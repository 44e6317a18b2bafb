/- Data of records checked: what both functions answer. No conditions. -/
import Derived.Test.YtgkpgpdkolpfkaaDoorWCheckB
namespace Go.Proofs.YtgkpgpdkolpfkaaDoor.V
open Go
set_option linter.unusedSimpArgs false
set_option linter.unusedVariables false
attribute [local irreducible] go goOps goD opK callK callT stepK leaveTo nextK

def Dt.n (d : Dt) : Nat → Int
  | 0 => d.n0
  | 1 => d.n1
  | 2 => d.n2
  | 3 => d.n3
  | _ => d.n4
def numB (t : Int) (d : Dt) (i : Nat) : Bool := if i < numT t then !(bitT t == 16 && decide (d.n i > 65535)) else (d.n i == 0)
def headB (t : Int) (d : Dt) : Bool := rawT t d.raw && ((hostT t == (nm d.host).isSome) && ((hostT t || (d.host == [])) && ((mailT t == (nm d.mail).isSome) && (mailT t || (d.mail == [])))))
def goodB (t : Int) (d : Dt) : Bool := headB t d && (numB t d 0 && (numB t d 1 && (numB t d 2 && (numB t d 3 && numB t d 4))))
def chk (t : Int) (d : Dt) : Int := if goodB t d = true then 0 else 40

theorem nm_nil : nm [] = none := rfl
theorem iteQ {p q : Bool} (h : p = q) {H : Hp} : (AV.int .i64 (if p = true then (0 : Int) else 40), H, z0) = (AV.int .i64 (if q = true then (0 : Int) else 40), H, z0) := by rw [h]
theorem bool_iff {p q : Bool} (h : p = true ↔ q = true) : p = q := by cases p <;> cases q <;> simp_all

theorem rdata_CheckQ (t : Int) (d : Dt) (H) (hk : Tk H) (hd : d.wf) : callK Tryd.prog 14 [.int .u16 t, .agg d.cells] H (fun q => q = (.int .i64 (chk t d), H, z0)) := by
  have hn : (nm d.host).isSome = true → d.host ≠ [] := by intro h e; rw [e] at h; cases h
  have hm : (nm d.mail).isSome = true → d.mail ≠ [] := by intro h e; rw [e] at h; cases h
  have hx : txOk d.raw = true → d.raw ≠ [] := by intro h e; rw [e] at h; cases h
  have nn : nm ([] : List UInt8) = none := rfl
  rcases kinds_cases t with rfl | rfl | rfl | rfl | rfl | rfl | rfl | rfl | rfl | ht
  case inr.inr.inr.inr.inr.inr.inr.inr.inr =>
    refine callK_mono (check_o t d H ht hk hd) (fun r hr => hr.trans (iteQ (bool_iff ?_)))
    obtain ⟨h1, h2, h3, h4, h5, h6, h7, h8, h9⟩ := ht
    have e1 : hostT t = false := by simp only [hostT, decide_eq_false_iff_not]; omega
    have e2 : mailT t = false := by simp only [mailT, decide_eq_false_iff_not]; omega
    have e3 : numT t = 0 := by unfold numT; rw [if_neg h4, if_neg h6, if_neg h9]
    simp only [goodB, headB, rawT, numB, e1, e2, e3, h1, h7, h8, eqD, Dt.n, Bool.and_eq_true, decide_eq_true_eq, Dt.mk.injEq, if_false, Bool.false_eq_true, Nat.not_lt_zero, beq_iff_eq, Bool.or_eq_true, false_or]
    obtain ⟨r, h, m, a, b, c, e, f⟩ := d
    constructor
    · rintro ⟨x1, x2, rfl, rfl, rfl, rfl, rfl, rfl, rfl⟩
      simp [nn, x1]
    · rintro ⟨⟨x1, x2, rfl, x4, rfl⟩, rfl, rfl, rfl, rfl, rfl⟩
      simp [x1]
  all_goals
    first
      | refine callK_mono (check_1 d H hk hd) (fun r hr => hr.trans (iteQ (bool_iff ?_)))
      | refine callK_mono (check_2 d H hk hd) (fun r hr => hr.trans (iteQ (bool_iff ?_)))
      | refine callK_mono (check_5 d H hk hd) (fun r hr => hr.trans (iteQ (bool_iff ?_)))
      | refine callK_mono (check_6 d H hk hd) (fun r hr => hr.trans (iteQ (bool_iff ?_)))
      | refine callK_mono (check_12 d H hk hd) (fun r hr => hr.trans (iteQ (bool_iff ?_)))
      | refine callK_mono (check_15 d H hk hd) (fun r hr => hr.trans (iteQ (bool_iff ?_)))
      | refine callK_mono (check_16 d H hk hd) (fun r hr => hr.trans (iteQ (bool_iff ?_)))
      | refine callK_mono (check_28 d H hk hd) (fun r hr => hr.trans (iteQ (bool_iff ?_)))
      | refine callK_mono (check_33 d H hk hd) (fun r hr => hr.trans (iteQ (bool_iff ?_)))
  all_goals
    obtain ⟨r, h, m, a, b, c, e, f⟩ := d
    simp only [goodB, headB, rawT, numB, hostT, mailT, numT, bitT, eqD, Dt.n, Bool.and_eq_true, decide_eq_true_eq, Dt.mk.injEq, beq_iff_eq, Bool.or_eq_true]
    constructor
    · intro hh
      simp only [true_and] at hh
      simp_all
      try omega
    · intro hh
      simp_all
      try omega
end Go.Proofs.YtgkpgpdkolpfkaaDoor.V
