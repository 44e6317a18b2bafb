/- Joined by mkclaim.py: WMasC WTokE WMasD WHoldP WHoldQ WReadN WNmLow WHoldR WHoldS WHoldT WHoldU WFlat WMsBase WMsItems. No conditions. -/
import Derived.Test.YtdppgaphcmhffaaGreatDoorJ4
import Derived.Test.YtdppgaphcmhffaaGreatDoorJ3
import Derived.Test.YtdppgaphcmhffaaGreatDoorJ2
import Derived.Test.YtdppgaphcmhffaaGreatDoorRows
import Derived.Test.YtdppgaphcmhffaaGreatDoorCards
import Derived.Test.YtdppgaphcmhffaaGreatDoorTie
import Derived.WalkKit
import Derived.ProofKit
import Derived.OpenShut
import Derived.ShutString
import Derived.ChangeOld
import Derived.Below
import Derived.SizedLaws
import Derived.LaidMore
import Derived.Lay
import Derived.MakeChecks
import Derived.SevenTiedAt
import Derived.Deep.DeepHandedRow
set_option linter.unusedSimpArgs false
set_option linter.unusedVariables false
namespace Go.Proofs.YtdppgaphcmhffaaGreatDoor.V
open Go
attribute [local irreducible] go goOps goD opK callK callT stepK leaveTo nextK

structure Rcd where
 nm : List UInt8
 ty : Nat
 tt : Nat
 d : Dt
def Rcd.cells (x : Rcd) : List AV := RcC x.nm x.ty 1 x.tt x.d
def rcells (rs : List Rcd) : List AV := rs.flatMap Rcd.cells
theorem rcells_len (rs : List Rcd) : (rcells rs).length = rs.length * 12 := by
 induction rs with
 | nil => rfl
 | cons w ws ih =>
  have e : rcells (w :: ws) = w.cells ++ rcells ws := rfl
  rw [e, List.length_append, ih, List.length_cons]; simp [Rcd.cells, RcC.len]; omega
theorem rcells_snoc (rs : List Rcd) (x : Rcd) : rcells (rs ++ [x]) = rcells rs ++ x.cells := by simp [rcells]
def Ob (rb : Nat) (H : Hp) (v : AV) (rs : List Rcd) : Prop := (v = .nils ∧ rs = []) ∨ (0 < rs.length ∧ ∃ i, rb < i ∧ v = .slice i 0 rs.length (.op 0) ∧ H[i]? = some (.cells (rcells rs) 36 (.op 0 false)))
theorem Ob.len {rb : Nat} {H : Hp} {v : AV} {rs : List Rcd} (h : Ob rb H v rs) (H' : Hp) : evLen Tryz.prog 26 v H' = some (.int .i64 rs.length) := by
 obtain ⟨rfl, rfl⟩ | ⟨_, i, _, rfl, _⟩ := h
 ·simp only [evLen, tsh_26]; rfl
 ·simp only [evLen, tsh_26]
theorem Ob.scl {rb : Nat} {H : Hp} {v : AV} {rs : List Rcd} (h : Ob rb H v rs) : scal v = true ∧ vcells v = [v] := by
 obtain ⟨rfl, rfl⟩ | ⟨_, i, _, rfl, _⟩ := h <;> exact ⟨rfl, rfl⟩
theorem Ob.fr {rb : Nat} {H H' : Hp} {v : AV} {rs : List Rcd} (h : Ob rb H v rs) (hf : ∀ (i : Nat) x, rb < i → H[i]? = some (.cells x 36 (.op 0 false)) → H'[i]? = some (.cells x 36 (.op 0 false))) : Ob rb H' v rs := by
 obtain h | ⟨hp, i, hi, e, hx⟩ := h
 ·exact .inl h
 ·exact .inr ⟨hp, i, hi, e, hf i _ hi hx⟩
theorem Ob.app {rb : Nat} {H : Hp} {v : AV} {rs : List Rcd} (h : Ob rb H v rs) (hlt : rb < H.length) (x : Rcd) (hf : fits (rs.length + 1) 96 = true) :
  ∃ H2 e2, (∀ kk, stepK (appTo Tryz.prog (.slice 36 12 96) v (x.cells, 1) H) kk = kk (.slice H.length 0 (rs.length + 1) (.op 0), H2, e2)) ∧ H2.length = H.length + 1 ∧ clean (rb + 1) e2 ∧ (∀ (i : Nat) y, H[i]? = some y → (∀ n, v ≠ .slice i 0 n (.op 0)) → H2[i]? = some y) ∧ Ob rb H2 (.slice H.length 0 (rs.length + 1) (.op 0)) (rs ++ [x]) := by
 obtain ⟨B, T, rfl, hB⟩ : ∃ B T : Hp, H = B ++ T ∧ B.length = rb + 1 := ⟨H.take (rb + 1), H.drop (rb + 1), (List.take_append_drop _ _).symm, by rw [List.length_take]; omega⟩
 have hG : GBuf B.length T v 36 12 rs.length (rcells rs) := by
  obtain ⟨rfl, rfl⟩ | ⟨hp, i, hi, rfl, hx⟩ := h
  ·exact .inl ⟨rfl, rfl, rfl⟩
  ·refine .inr ⟨hp, rcells_len rs, i - B.length, by rw [show B.length + (i - B.length) = i by omega], ?_⟩
   rw [List.getElem?_append_right (by omega)] at hx
   exact hx
 obtain ⟨T2, e2, h1, h2, h3, h4, h5, h6⟩ := hG.app3 (P := Tryz.prog) (b := 96) (by decide) zok_26 x.cells 1 (by decide) rfl rfl hf
 refine ⟨B ++ T2, e2, fun kk => by rw [h1, List.length_append], by simp [h2]; omega, by rw [← hB]; exact h3, fun i y hy hn => ?_, ?_⟩
 ·by_cases hi : i < B.length
  ·rw [List.getElem?_append_left hi] at hy ⊢; exact hy
  ·rw [List.getElem?_append_right (by omega)] at hy ⊢
   exact h4 _ y hy (fun m n e hm => hn n (by rw [e]; congr 1; omega))
 ·refine .inr ⟨by simp, B.length + T.length, by omega, by simp, ?_⟩
  rw [List.getElem?_append_right (by omega), Nat.add_sub_cancel_left, h5, rcells_snoc]

def RdIs (o : List UInt8) (t : Nat) (r : List Wd) (y : Option Dt) : Prop := ∀ H v, Gl H → Wv H v r → ∃ dd ee, (∀ k, callK Tryz.prog 49 [.int .u16 (t : Nat), v, .str o] H k = k (.tuple [.agg (Dt.cells dd), .int .i64 ee], H, z0)) ∧ (match y with | some d => dd = d ∧ ee = 0 ∧ d.wf | none => ee ≠ 0)
def recS (rd : Nat → List Wd → Option Dt) (o ow : List UInt8) (tt : Nat) (tl fx : Bool) (many : Nat) (blank : Bool) (w0 : Wd) (ws : List Wd) : Except (Wd × Nat) (Rcd × List UInt8 × Nat) :=
 if many = 4096 then .error (w0, 2) else
 if blank = false ∧ (namW w0 o).2 = false then .error (w0, 90) else
 if blank = true ∧ tl = false then .error (w0, 90) else
 let ow' := if blank = true then ow else (namW w0 o).1
 match headS (if blank = true then w0 :: ws else ws) false false 0 with
 | .error e => .error e
 | .ok ([], _, _) => .error (w0, 93)
 | .ok (w :: r, tm, n) =>
  match (if w.q = true then none else tyO (lowS w.t)) with
  | none => .error (w, 93)
  | some t => match rd t r with
   | none => .error (w, 41)
   | some d => .ok (⟨ow', t, if tm = true then n else tt, foldD t d⟩, ow', if tm = true ∧ fx = false then n else tt)
theorem bslice_rc (x : Rcd) (H : Hp) : evBuildSlice Tryz.prog 26 1 [(0, .agg x.cells)] H = some (.slice H.length 0 1 (.ex 1), H ++ [.cells x.cells 36 .rw]) := by
 simp only [evBuildSlice, tsh_26, tzero_36, Option.bind_some]
 rfl

structure Kp1 (rb : Nat) (H Hc : Hp) (e : Ef) (vo vf : AV) (rs : List Rcd) (w0 : Wd) (ws : List Wd) : Prop where
 fm : ∀ (i : Nat) x, i < H.length → i ≠ rb → H[i]? = some x → Hc[i]? = some x
 len : H.length ≤ Hc.length
 cl : clean rb e
 gl : Gl Hc
 ob : Ob rb Hc vo rs
 fs : Wv Hc vf (w0 :: ws)

theorem Kp1.of {rb : Nat} {H Hc : Hp} {e : Ef} {vo vf : AV} {rs : List Rcd} {w0 : Wd} {ws : List Wd} {c : List AV} (hf : Fm rb H Hc) (hc : clean rb e) (hr : gN ≤ rb) (hb : H[rb]? = some (.cells c 61 .rw)) (hg : Gl H) (ho : Ob rb H vo rs) (hv : Wv H vf (w0 :: ws)) : Kp1 rb H Hc e vo vf rs w0 ws :=
 ⟨fun i x _ hi hx => hf.2 i x hi hx, hf.1, hc, hg.frm hr hf, ho.fr (fun i x hi hx => hf.2 i _ (by omega) hx), hv.fr hf hb⟩
theorem Wv.fm2 {H H' : Hp} {v : AV} {ws : List Wd} {rb xb : Nat} {c c' : List AV} {e e' : TypeId} (h : Wv H v ws) (hf : Fm2 rb xb H H') (hb : H[rb]? = some (.cells c e .rw)) (hx : H[xb]? = some (.cells c' e' .rw)) : Wv H' v ws := by
 obtain h | ⟨b, k, pre, fz, st, h1, h2, h3⟩ | ⟨b, h1, h2, h3⟩ := h
 ·exact .inl h
 ·exact .inr (.inl ⟨b, k, pre, fz, st, h1, h2, hf.2 b _ (by rintro rfl; rw [hb] at h3; injection h3 with h3; injection h3 with _ _ h3; cases h3) (by rintro rfl; rw [hx] at h3; injection h3 with h3; injection h3 with _ _ h3; cases h3) h3⟩)
 ·exact .inr (.inr ⟨b, h1, hf.2 b _ (by rintro rfl; rw [hb] at h2; cases h2) (by rintro rfl; rw [hx] at h2; cases h2) h2, h3⟩)
theorem headS_mem : ∀ (l : List Wd) (tm cs : Bool) (tt : Nat) (r : List Wd) (tm' : Bool) (n : Nat), headS l tm cs tt = .ok (r, tm', n) → ∀ x ∈ r, x ∈ l
 | [], tm, cs, tt, r, tm', n, h => by simp only [headS] at h; cases h; exact fun x hx => hx
 | w :: l, tm, cs, tt, r, tm', n, h => by
  simp only [headS] at h
  split at h
  ·split at h
   ·cases h
   ·exact fun x hx => List.mem_cons_of_mem _ (headS_mem l _ _ _ r tm' n h x hx)
  split at h
  ·exact fun x hx => List.mem_cons_of_mem _ (headS_mem l _ _ _ r tm' n h x hx)
  split at h
  ·cases h
  ·cases h; exact fun x hx => hx
theorem RcC.s1 {nm : List UInt8} {ty cl : Int} {tt : Nat} {d : Dt} {x : Int} : splice (RcC nm ty cl tt d) 1 [.int .u16 x] = RcC nm x cl tt d := rfl
theorem RcC.s4 {nm : List UInt8} {ty cl : Int} {tt : Nat} {d : Dt} {x : Dt} : splice (RcC nm ty cl tt d) 4 x.cells = RcC nm ty cl tt x := rfl
theorem RcC.l3 {nm : List UInt8} {ty cl : Int} {tt : Nat} {d : Dt} {e : TypeId} {k : Kd} : ldC 3 1 false (.cells (RcC nm ty cl tt d) e k) = some (.int .u32 tt) := rfl
theorem RcC.ld {nm : List UInt8} {ty cl : Int} {tt : Nat} {d : Dt} {e : TypeId} {k : Kd} : ldC 0 12 true (.cells (RcC nm ty cl tt d) e k) = some (.agg (RcC nm ty cl tt d)) := rfl
theorem Dt.len8 (d : Dt) : d.cells.length = 8 := rfl
theorem Dt.sc8 (d : Dt) : d.cells.all scal = true := rfl
theorem Dt.fl8 (d : Dt) : flats d.cells = true := rfl
theorem bd_rec (n : List UInt8) : evBuild Tryz.prog 36 [(0, .str n), (2, .int .u16 1)] = some (.agg (RcC n 0 1 0 Dt.zero)) := by
 simp only [evBuild, tsh_36, tzero_36, tplaces_36, Option.bind_some, fillA]
 rfl
theorem clean_dn {n : Nat} {e : Ef} (h : clean (n + 1) e) : clean n e := by
 obtain ⟨h1, h2⟩ := h
 have key : ∀ o : Option Nat, low (n + 1) o = none → low n o = none := by
  intro o h
  cases o with
  | none => rfl
  | some x => rw [low_w] at h ⊢; omega
 exact ⟨key _ h1, key _ h2⟩
theorem leave_gen {n : Nat} {v : AV} {Hc : Hp} {e : Ef} : ∃ H' e', leave n v Hc e = (v, H', e') ∧ (H' = Hc ∨ H' = Hc.take n) ∧ ∀ m, clean m e → clean m e' := by
 unfold V.leave
 refine ⟨_, _, rfl, ?_, fun m h => clean_leave h⟩
 split
 ·exact .inr rfl
 ·exact .inl rfl
set_option maxRecDepth 20000 in
set_option maxHeartbeats 4000000 in
theorem ms_record (rd : Nat → List Wd → Option Dt) (H : Hp) (rb : Nat) (o ow : List UInt8) (tt : Nat) (tl fx : Bool) (vo vf : AV) (rs : List Rcd) (blank : Bool) (w0 : Wd) (ws : List Wd) (hb : H[rb]? = some (.cells (MsC o ow tt tl fx vo vf vf) 61 .rw)) (hv : Wv H vf (w0 :: ws)) (hgl : Gl H) (hr : gN ≤ rb)
  (ho : Ob rb H vo rs) (hrs : rs.length ≤ 4096) (hw : ∀ x ∈ w0 :: ws, x.t.length ≤ 1048576) (hol : o.length ≤ 1048576) (A : Prop) (hA : A ∨ ∃ y, recS rd o ow tt tl fx rs.length blank w0 ws = .ok y) (hrd : ∀ t r, (∀ x ∈ r, x ∈ w0 :: ws) → ((rd t r).isSome = true ∨ A) → RdIs o t r (rd t r)) :
  callC Tryz.prog 25 [.ptr rb 0, .bool blank] H
   (fun q => ∃ y, recS rd o ow tt tl fx rs.length blank w0 ws = .ok y ∧ ∃ v' vo' H' e', q = (.tuple [], H', e') ∧ clean rb e' ∧ H.length ≤ H'.length ∧ (∀ (i : Nat) x, i ≠ rb → (∀ n, vo ≠ .slice i 0 n (.op 0)) → H[i]? = some x → H'[i]? = some x) ∧ H'[rb]? = some (.cells (MsC o y.2.1 y.2.2 true fx vo' vf v') 61 .rw) ∧ Ob rb H' vo' (rs ++ [y.1]))
   (fun q => ∃ y, recS rd o ow tt tl fx rs.length blank w0 ws = .error y ∧ ∃ H' e' c, q = (flt y.1 y.2, H', e') ∧ clean rb e' ∧ H.length ≤ H'.length ∧ (∀ (i : Nat) x, i ≠ rb → H[i]? = some x → H'[i]? = some x) ∧ H'[rb]? = some (.cells c 61 .rw)) := by
 have hlt := lt_of_get hb
 refine callC_start (n := 152) (rs := []) Tryz.func25 rfl rfl rfl ?_
 intro σ hl ha
 have h0 := ha 0 (by simp)
 have h1 := ha 1 (by simp)
 clear ha
 simp only [Option.getD_some, List.getElem?_cons_zero, List.getElem?_cons_succ] at h0 h1
 have hlen := ho.len
 have finp : ∀ (w : Wd) (n : Nat) (Hc : Hp) (e : Ef), recS rd o ow tt tl fx rs.length blank w0 ws = .error (w, n) → clean rb e → H.length ≤ Hc.length → (∀ (i : Nat) x, i < H.length → i ≠ rb → H[i]? = some x → Hc[i]? = some x) → (∃ c, Hc[rb]? = some (.cells c 61 .rw)) →
   ∃ y, recS rd o ow tt tl fx rs.length blank w0 ws = .error y ∧ ∃ H' e' c, leave H.length (flt w n) Hc e = (flt y.1 y.2, H', e') ∧ clean rb e' ∧ H.length ≤ H'.length ∧ (∀ (i : Nat) x, i ≠ rb → H[i]? = some x → H'[i]? = some x) ∧ H'[rb]? = some (.cells c 61 .rw) := by
  rintro w n Hc e hS hc hle hf ⟨c, hcb⟩
  obtain ⟨H', e', q1, q2, q3⟩ := leave_gen (n := H.length) (v := flt w n) (Hc := Hc) (e := e)
  refine ⟨_, hS, H', e', c, q1, q3 _ hc, ?_⟩
  rcases q2 with rfl | rfl
  ·exact ⟨hle, fun i x hi hx => hf i x (lt_of_get hx) hi hx, hcb⟩
  ·refine ⟨by rw [List.length_take]; omega, fun i x hi hx => ?_, ?_⟩
   ·rw [List.getElem?_take, if_pos (lt_of_get hx)]; exact hf i x (lt_of_get hx) hi hx
   ·rw [List.getElem?_take, if_pos hlt]; exact hcb
 by_cases hmany : rs.length = 4096
 ·have c0 : ((rs.length : Int) == 4096) = true := by rw [hmany]; rfl
  obtain ⟨b, q, row, ee, kd, hi, hg, hl4⟩ := hv.at (i := 0) rfl
  have hi : evIndexAddr Tryz.prog 59 vf (.int .i64 0) = some (.ptr b q) := hi
  have hbf : evBuild Tryz.prog 65 [(0, .agg w0.cells), (1, .int .i64 2)] = some (.agg (w0.cells ++ [.int .i64 2])) := bd_flt w0 2
  simp only [go_sem, simprocAttr, hl, h0, hb, MsC.l5, MsC.l7, hlen, c0, hi, hg, hl4, hbf, if_flt]
  exact finp w0 2 H _ (by unfold recS; rw [if_pos hmany]) ⟨rfl, rfl⟩ (Nat.le_refl _) (fun _ _ _ _ h => h) ⟨_, hb⟩
 ·have c0 : ((rs.length : Int) == 4096) = false := by rw [beq_eq_false_iff_ne]; omega
  simp only [go_sem, simprocAttr, hl, h0, h1, hb, MsC.l5, hlen, c0]
  refine condK_cut (fun st => ∃ σ Hc e v, st = ⟨σ, Hc, e⟩ ∧ Kp1 rb H Hc e vo vf rs w0 ws ∧ Hc[rb]? = some (.cells (MsC o (if blank = true then ow else (namW w0 o).1) tt true fx vo vf v) 61 .rw) ∧ Wv Hc v (if blank = true then w0 :: ws else ws) ∧ (blank = false → (namW w0 o).2 = true) ∧ (blank = true → tl = true) ∧ σ.length = 152 ∧ fr σ 0 = .ptr rb 0) ?_ ?_ ?_
  ·intro hbl
   have hbl : blank = false := by simpa using hbl
   subst hbl
   obtain ⟨v1, H1, hf1, hb1, hv1, hnx⟩ := ms_next H rb o ow tt tl fx vo vf vf w0 ws hb hv
   have hnm := fun L k => ms_named (H1 ++ L) rb o ow tt tl fx vo vf v1 w0 k (get_app hb1) (hw w0 (by simp)) hol
   have hvw : vcells (.agg w0.cells) = w0.cells := rfl
   have hbf : evBuild Tryz.prog 65 [(0, .agg w0.cells), (1, .int .i64 90)] = some (.agg (w0.cells ++ [.int .i64 90])) := bd_flt w0 90
   have he1 : (⟨some rb, some rb⟩ : Ef).and ⟨none, some H1.length⟩ = ⟨some rb, some rb⟩ := and_ec (n := H.length) (by have := hf1.1; simp [clean, low]; omega) hlt
   have hfm : ∀ L (i : Nat) x, i < H.length → i ≠ rb → H[i]? = some x → (H1 ++ L)[i]? = some x := fun L i x _ hi hx => get_app (hf1.2 i x hi hx)
   cases h2 : (namW w0 o).2
   ·rw [h2] at hnm
    simp only [go_sem, simprocAttr, hl, h0, hnx, hnm, hvw, sc_word, sp_word, fl_word, ld_word, ln_word, hbf, if_flt, he1]
    exact finp w0 90 _ _ (by unfold recS; rw [if_neg hmany, if_pos ⟨rfl, h2⟩]) (by simp [clean, low]) (by have := hf1.1; simp; omega) (hfm _) ⟨_, get_app hb1⟩
   ·rw [h2] at hnm
    have hs : ∀ y L, (H1 ++ L).set rb y = H1.set rb y ++ L := fun y L => List.set_append_left _ _ (lt_of_get hb1)
    have hs2 : ∀ y z L, (H1.set rb y ++ L).set rb z = H1.set rb z ++ L := fun y z L => by rw [List.set_append_left _ _ (by simpa using lt_of_get hb1), List.set_set]
    have hg5 : ∀ y L, (H1.set rb y ++ L)[rb]? = some y := fun y L => get_app (List.getElem?_set_self (lt_of_get hb1))
    have hg1 : ∀ x, (H1 ++ [x])[rb]? = some (.cells (MsC o ow tt tl fx vo vf v1) 61 .rw) := fun x => get_app hb1
    simp only [go_sem, simprocAttr, hl, h0, hnx, hnm, hvw, sc_word, sp_word, fl_word, ld_word, ln_word, he1, hg1, MsC.len, MsC.s1, MsC.s3, hs, hs2, hg5, and_ew]
    exact ⟨_, _, _, v1, rfl, Kp1.of ((hf1.trans (Fm.set _ _)).app _) (by simp [clean, low]) hr hb hgl ho hv, hg5 _ _, (hv1.set2 hb1 rw_no).old _, fun _ => trivial, fun h => h.elim, by simp only [go_sem, simprocAttr, hl], by simp only [go_sem, simprocAttr, hl, h0]⟩
  ·intro hbl
   have hbl : blank = true := by simpa using hbl
   subst hbl
   obtain ⟨b, q, row, ee, kd, hi, hg, hl4⟩ := hv.at (i := 0) rfl
   have hi : evIndexAddr Tryz.prog 59 vf (.int .i64 0) = some (.ptr b q) := hi
   have hbf : evBuild Tryz.prog 65 [(0, .agg w0.cells), (1, .int .i64 90)] = some (.agg (w0.cells ++ [.int .i64 90])) := bd_flt w0 90
   cases htl : tl
   ·subst htl
    simp only [go_sem, simprocAttr, hl, h0, hb, MsC.l3, MsC.l7, hi, hg, hl4, hbf, if_flt]
    exact finp w0 90 _ _ (by unfold recS; rw [if_neg hmany, if_neg (by simp), if_pos ⟨rfl, rfl⟩]) ⟨rfl, rfl⟩ (Nat.le_refl _) (fun _ _ _ _ h => h) ⟨_, hb⟩
   ·subst htl
    simp only [go_sem, simprocAttr, hl, h0, hb, MsC.l3]
    exact ⟨_, _, _, vf, rfl, Kp1.of (Fm.refl _ _) ⟨rfl, rfl⟩ hr hb hgl ho hv, hb, hv, fun h => h.elim, fun _ => trivial, by simp only [go_sem, simprocAttr, hl], by simp only [go_sem, simprocAttr, hl, h0]⟩
  ·rintro _ ⟨σ, Hc, e, v, rfl, hk, hcb, hcv, hn1, hn2, hl, h0⟩
   obtain ⟨ow', how⟩ : ∃ ow', ow' = if blank = true then ow else (namW w0 o).1 := ⟨_, rfl⟩
   obtain ⟨ws', hws'⟩ : ∃ ws', ws' = if blank = true then w0 :: ws else ws := ⟨_, rfl⟩
   rw [← how] at hcb
   rw [← hws'] at hcv
   have hwm : ∀ x ∈ ws', x ∈ w0 :: ws := by rw [hws']; intro x hx; split at hx; exact hx; exact List.mem_cons_of_mem _ hx
   have hS : recS rd o ow tt tl fx rs.length blank w0 ws = (match headS ws' false false 0 with
     | .error e => .error e
     | .ok ([], _, _) => .error (w0, 93)
     | .ok (w :: r, tm, n) =>
      match (if w.q = true then none else tyO (lowS w.t)) with
      | none => .error (w, 93)
      | some t => match rd t r with
       | none => .error (w, 41)
       | some d => .ok (⟨ow', t, if tm = true then n else tt, foldD t d⟩, ow', if tm = true ∧ fx = false then n else tt)) := by
    unfold recS
    rw [if_neg hmany, if_neg (by rintro ⟨h1, h2⟩; rw [hn1 h1] at h2; cases h2), if_neg (by rintro ⟨h1, h2⟩; rw [hn2 h1] at h2; cases h2), hws', how]
   clear how hws' hn1 hn2
   have hltc := lt_of_get hcb
   have hbd := bd_rec ow'
   have hvx : vcells (.agg (RcC ow' 0 1 0 Dt.zero)) = RcC ow' 0 1 0 Dt.zero := rfl
   have hspx : splice [.str [], .int .u16 0, .int .u16 0, .int .u32 0, .str [], .str [], .str [], .int .u32 0, .int .u32 0, .int .u32 0, .int .u32 0, .int .u32 0] 0 (RcC ow' 0 1 0 Dt.zero) = RcC ow' 0 1 0 Dt.zero := rfl
   have hflx : flats (RcC ow' 0 1 0 Dt.zero) = true := rfl
   have hscx : (RcC ow' 0 1 0 Dt.zero).all scal = true := rfl
   obtain ⟨X, hX⟩ : ∃ X : Hp, X = Hc ++ [.cells (RcC ow' 0 1 0 Dt.zero) 36 .rw] := ⟨_, rfl⟩
   have hxb : X[Hc.length]? = some (.cells (RcC ow' 0 1 0 Dt.zero) 36 .rw) := by rw [hX, hp_new0]; rfl
   have hxr : X[rb]? = some (.cells (MsC o ow' tt true fx vo vf v) 61 .rw) := by rw [hX]; exact get_app hcb
   have hXl : X.length = Hc.length + 1 := by rw [hX]; simp
   have hfX : ∀ (i : Nat) x, i < H.length → i ≠ rb → H[i]? = some x → X[i]? = some x := fun i x h1 h2 h3 => by rw [hX]; exact get_app (hk.fm i x h1 h2 h3)
   have hgX : Gl X := by rw [hX]; exact hk.gl.old _
   have hsX : Wv X vf (w0 :: ws) := by rw [hX]; exact hk.fs.old _
   have hoX : Ob rb X vo rs := hk.ob.fr (fun i x _ h => by rw [hX]; exact get_app h)
   have hvX : Wv X v ws' := by rw [hX]; exact hcv.old _
   have hhead := ms_head X rb Hc.length o ow' tt true fx vo vf v ws' ow' 0 1 0 Dt.zero hxr hxb hvX hgX hr hltc (fun x hx => hw x (hwm x hx))
   have hkl := hk.len
   have hcl1 : clean rb (e.and ⟨none, some Hc.length⟩) := clean_and hk.cl (by simp [clean, low]; omega)
   cases hh : headS ws' false false 0 with
   | error y =>
    rw [hh] at hhead hS
    obtain ⟨b, ⟨q1, q2, c, q3⟩, q4⟩ := callC_exP (fun b : Hp × Ef => clean rb b.2 ∧ Fm2 rb Hc.length X b.1 ∧ ∃ c, b.1[rb]? = some (.cells c 61 .rw)) (fun b => (flt y.1 y.2, b.1, b.2)) (callC_mono hhead (by rintro r ⟨y', hy, _⟩; cases hy) (by
     rintro r ⟨y', hy, H', e', c, rfl, h1, h2, h3⟩
     cases hy
     exact ⟨(H', e'), ⟨h1, h2, c, h3⟩, rfl⟩))
    simp only [go_sem, simprocAttr, hl, h0, hcb, MsC.l1, hbd, hvx, hspx, hflx, hscx, ← hX, RcC.len, q4]
    exact finp y.1 y.2 _ _ hS (clean_and hcl1 q1) (by have := q2.1; omega) (fun i x h1 h2 h3 => q2.2 i x h2 (by omega) (hfX i x h1 h2 h3)) ⟨c, q3⟩
   | ok y =>
    obtain ⟨r2, tm, n⟩ := y
    rw [hh] at hhead hS
    obtain ⟨⟨v2, H2, e2⟩, ⟨q1, q2, q3, q4, q5⟩, q6⟩ := callC_exK (fun b : AV × Hp × Ef => clean rb b.2.2 ∧ Fm2 rb Hc.length X b.2.1 ∧ b.2.1[rb]? = some (.cells (MsC o ow' tt true fx vo vf b.1) 61 .rw) ∧ b.2.1[Hc.length]? = some (.cells (RcC ow' 0 1 n Dt.zero) 36 .rw) ∧ Wv b.2.1 b.1 r2) (fun b => (.bool tm, b.2.1, b.2.2)) (callC_mono hhead (by
     rintro r ⟨y', hy, v', H', e', rfl, h1, h2, h3, h4, h5⟩
     cases hy
     exact ⟨(v', H', e'), ⟨h1, h2, h3, h4, h5⟩, rfl⟩) (by rintro r ⟨y', hy, _⟩; cases hy))
    simp only [] at q1 q2 q3 q4 q5 q6
    have hr2 : ∀ x ∈ r2, x ∈ ws' := headS_mem ws' false false 0 r2 tm n hh
    have hlen2 := q5.len
    have hf2 : ∀ (i : Nat) x, i < H.length → i ≠ rb → H[i]? = some x → H2[i]? = some x := fun i x h1 h2 h3 => q2.2 i x h2 (by omega) (hfX i x h1 h2 h3)
    have hl2 := q2.1
    have hcl2 : clean rb ((e.and ⟨none, some Hc.length⟩).and e2) := clean_and hcl1 q1
    cases r2 with
    | nil =>
     have c1 : ((([] : List Wd).length : Int) == 0) = true := rfl
     obtain ⟨bb, qq, row, ee, kd, hi, hg, hl4⟩ := (hsX.fm2 q2 hxr hxb).at (i := 0) rfl
     have hi : evIndexAddr Tryz.prog 59 vf (.int .i64 0) = some (.ptr bb qq) := hi
     have hbf : evBuild Tryz.prog 65 [(0, .agg w0.cells), (1, .int .i64 93)] = some (.agg (w0.cells ++ [.int .i64 93])) := bd_flt w0 93
     simp only [go_sem, simprocAttr, hl, h0, hcb, MsC.l1, hbd, hvx, hspx, hflx, hscx, ← hX, q6, RcC.len, q3, MsC.l7, hlen2, c1, MsC.l6, hi, hg, hl4, hbf, if_flt]
     exact finp w0 93 _ _ hS hcl2 (by omega) hf2 ⟨_, q3⟩
    | cons w r =>
     have c1 : (((r.length + 1 : Nat) : Int) == 0) = false := by rw [beq_eq_false_iff_ne]; omega
     obtain ⟨v3, H3, p1, p2, p3, p4⟩ := ms_next H2 rb o ow' tt true fx vo vf v2 w r q3 q5
     obtain ⟨Y, hY⟩ : ∃ Y : Hp, Y = H3 ++ [.cells w.cells 63 .rw] := ⟨_, rfl⟩
     have hp1 := p1.1
     have fY : Fm rb H2 Y := by rw [hY]; exact p1.app _
     have yr : Y[rb]? = some (.cells (MsC o ow' tt true fx vo vf v3) 61 .rw) := by rw [hY]; exact get_app p2
     have yx : Y[Hc.length]? = some (.cells (RcC ow' 0 1 n Dt.zero) 36 .rw) := fY.2 _ _ (by omega) q4
     have yw : Y[H3.length]? = some (.cells w.cells 63 .rw) := by rw [hY, hp_new0]; rfl
     have yv : Wv Y v3 r := by rw [hY]; exact p3.old _
     have ygl : Gl Y := (hgX.fm2 hr hltc q2).frm hr fY
     have hfY : ∀ (i : Nat) x, i < H.length → i ≠ rb → H[i]? = some x → Y[i]? = some x := fun i x h1 h2 h3 => fY.2 i x h2 (hf2 i x h1 h2 h3)
     have hlY : Y.length = H3.length + 1 := by rw [hY]; simp
     have yo : Ob rb Y vo rs := hoX.fr (fun i x h1 h2 => fY.2 i _ (by omega) (q2.2 i _ (by omega) (by rintro rfl; rw [hxb] at h2; injection h2 with h2; injection h2 with _ _ h2; cases h2) h2))
     have hwt : ldC 0 1 false (.cells w.cells 63 .rw) = some (.str w.t) := rfl
     have hwq : ldC 1 1 false (.cells w.cells 63 .rw) = some (.bool w.q) := rfl
     have hvw : vcells (.agg w.cells) = w.cells := rfl
     have hty := fun k => rdata_TypeOf w.t Y k ygl.1 ygl.2.1 (hw w (hwm w (hr2 w (by simp))))
     have hbf : evBuild Tryz.prog 65 [(0, .agg w.cells), (1, .int .i64 93)] = some (.agg (w.cells ++ [.int .i64 93])) := bd_flt w 93
     have hbf2 : evBuild Tryz.prog 65 [(0, .agg w.cells), (1, .int .i64 41)] = some (.agg (w.cells ++ [.int .i64 41])) := bd_flt w 41
     have he3 : ∀ e' : Ef, clean rb e' → clean rb ((e'.and ⟨some rb, some rb⟩).and ⟨none, some H3.length⟩) := fun e' h => clean_and (clean_and h (by simp [clean, low])) (by simp [clean, low]; omega)
     have fY93 : recS rd o ow tt tl fx rs.length blank w0 ws = .error (w, 93) → _ := fun h => finp w 93 Y _ h (he3 _ hcl2) (by omega) hfY ⟨_, yr⟩
     simp only [] at hS
     cases hq : w.q
     case true =>
      rw [hq] at hwq hS
      rw [if_pos rfl] at hS
      simp only [go_sem, simprocAttr, hl, h0, hcb, MsC.l1, hbd, hvx, hspx, hflx, hscx, ← hX, q6, RcC.len, q3, MsC.l7, hlen2, c1, p4, hvw, sc_word, sp_word, fl_word, ln_word, ld_word, ← hY, yw, hwt, hty, hwq, hbf, if_flt]
      exact fY93 hS
     rw [hq] at hwq hS
     rw [if_neg Bool.false_ne_true] at hS
     cases ht : tyO (lowS w.t) with
     | none =>
      rw [ht] at hty hS
      simp only [Option.isSome_none] at hty
      simp only [go_sem, simprocAttr, hl, h0, hcb, MsC.l1, hbd, hvx, hspx, hflx, hscx, ← hX, q6, RcC.len, q3, MsC.l7, hlen2, c1, p4, hvw, sc_word, sp_word, fl_word, ln_word, ld_word, ← hY, yw, hwt, hty, hwq, hbf, if_flt]
      exact fY93 hS
     | some t =>
      rw [ht] at hty hS
      simp only [Option.getD_some, Option.isSome_some] at hty
      have hA2 : (rd t r).isSome = true ∨ A := by
       rcases hA with h | ⟨y, hy⟩
       ·exact .inr h
       ·left
        cases hn : rd t r with
        | none => rw [hy] at hS; simp only [hn] at hS; cases hS
        | some d => rfl
      obtain ⟨dd, ee, hread, hcase⟩ := hrd t r (fun x hx => hwm x (hr2 x (by simp [hx]))) hA2 (Y ++ [.cells [.str [], .str [], .str [], .int .u32 0, .int .u32 0, .int .u32 0, .int .u32 0, .int .u32 0] 34 .rw]) v3 (ygl.old _) (yv.old _)
      have yr1 : ∀ x, (Y ++ [x])[rb]? = some (.cells (MsC o ow' tt true fx vo vf v3) 61 .rw) := fun x => get_app yr
      simp only [] at hS
      simp only [go_sem, simprocAttr, hl, h0, hcb, MsC.l1, hbd, hvx, hspx, hflx, hscx, ← hX, q6, RcC.len, q3, MsC.l7, hlen2, c1, p4, hvw, sc_word, sp_word, fl_word, ln_word, ld_word, ← hY, yw, hwt, hty, hwq, hbf2, if_flt]
      have hvd : vcells (.agg dd.cells) = dd.cells := rfl
      have hsd : dd.cells.all scal = true := rfl
      have hfd : flats dd.cells = true := rfl
      have hld : dd.cells.length = 8 := rfl
      have hpd : splice [.str [], .str [], .str [], .int .u32 0, .int .u32 0, .int .u32 0, .int .u32 0, .int .u32 0] 0 dd.cells = dd.cells := rfl
      refine go_drawF tFollows (by kernel_rfl) ?_
      simp only [go_sem, simprocAttr, hl, h0, hcb, MsC.l1, hbd, hvx, hspx, hflx, hscx, ← hX, q6, RcC.len, q3, MsC.l7, hlen2, c1, p4, hvw, sc_word, sp_word, fl_word, ln_word, ld_word, ← hY, yw, hwt, hty, hwq, hbf2, if_flt, yr1, MsC.l0, hread, hvd, hsd, hfd, hld, hpd]
      refine ⟨(by kernel_rfl : effOk _ _ _ = true), ?_⟩
      have yw1 : ∀ x, (Y ++ [x])[H3.length]? = some (.cells w.cells 63 .rw) := fun x => get_app yw
      have he4 : clean rb (((((e.and ⟨none, some Hc.length⟩).and e2).and ⟨some rb, some rb⟩).and ⟨none, some H3.length⟩).and ⟨none, some Y.length⟩) := clean_and (he3 _ hcl2) (by simp [clean, low]; omega)
      cases hrt : rd t r with
      | none =>
       rw [hrt] at hcase hS
       have c3 : (ee != 0) = true := by simpa using hcase
       simp only [go_sem, simprocAttr, hl, h0, hvw, sc_word, sp_word, fl_word, ln_word, ld_word, c3, yw1, hbf2, if_flt]
       exact finp w 41 (Y ++ [_]) _ hS he4 (by simp; omega) (fun i x h1 h2 h3 => get_app (hfY i x h1 h2 h3)) ⟨_, yr1 _⟩
      | some d =>
       rw [hrt] at hcase hS
       obtain ⟨rfl, rfl, hwf⟩ := hcase
       have c3 : ((0 : Int) != 0) = false := rfl
       obtain ⟨Z, hZ⟩ : ∃ Z : Hp, Z = Y ++ [.cells dd.cells 34 .rw] := ⟨_, rfl⟩
       have zr : Z[rb]? = some (.cells (MsC o ow' tt true fx vo vf v3) 61 .rw) := by rw [hZ]; exact yr1 _
       have zx : Z[Hc.length]? = some (.cells (RcC ow' 0 1 n Dt.zero) 36 .rw) := by rw [hZ]; exact get_app yx
       have zd : Z[Y.length]? = some (.cells dd.cells 34 .rw) := by rw [hZ, hp_new0]; rfl
       have zl : Z.length = Y.length + 1 := by rw [hZ]; simp
       have hfo := fun k => rdata_Fold t dd Z k (by rw [hZ]; exact (ygl.old _).1) hwf
       have hldd : ldC 0 8 true (.cells dd.cells 34 .rw) = some (.agg dd.cells) := rfl
       simp only [go_sem, simprocAttr, hl, h0, hvw, sc_word, sp_word, fl_word, ln_word, ld_word, c3, ← hZ]
       generalize hσ : List.set _ 115 _ = σ1
       have s0 : fr σ1 0 = .ptr rb 0 := by rw [← hσ]; simp only [go_sem, simprocAttr, hl, h0]
       have s7 : fr σ1 7 = .ptr Hc.length 0 := by rw [← hσ]; simp only [go_sem, simprocAttr, hl]
       have s8 : fr σ1 8 = .bool tm := by rw [← hσ]; simp only [go_sem, simprocAttr, hl]
       have s10 : fr σ1 10 = .int .u16 t := by rw [← hσ]; simp only [go_sem, simprocAttr, hl]
       have s12 : fr σ1 12 = .ptr Y.length 0 := by rw [← hσ]; simp only [go_sem, simprocAttr, hl]
       have sl : σ1.length = 152 := by rw [← hσ]; simp only [go_sem, simprocAttr, hl]
       clear hσ hl h0
       generalize heF : Ef.and _ ⟨none, some Y.length⟩ = eF at he4 ⊢
       have zs1 : ∀ y, (Z.set Hc.length y)[Hc.length]? = some y := fun y => List.getElem?_set_self (lt_of_get zx)
       have zs2 : ∀ y, (Z.set Hc.length y)[rb]? = some (.cells (MsC o ow' tt true fx vo vf v3) 61 .rw) := fun y => by rw [List.getElem?_set_ne (by omega)]; exact zr
       simp only [go_sem, simprocAttr, sl, s0, s7, s8, s10, s12, zd, hldd, hfo, zx, zs1, zs2, RcC.len, RcC.s1, RcC.s4, Dt.len8, Dt.sc8, Dt.fl8, List.set_set]
       obtain ⟨xc, hxc⟩ : ∃ xc, xc = RcC ow' t 1 n (foldD t dd) := ⟨_, rfl⟩
       rw [← hxc]
       have kf : ∀ (i : Nat) x, i < H.length → i ≠ rb → H[i]? = some x → Z[i]? = some x := fun i x h1 h2 h3 => by rw [hZ]; exact get_app (hfY i x h1 h2 h3)
       have hoZ : Ob rb Z vo rs := yo.fr (fun i x _ h => by rw [hZ]; exact get_app h)
       refine condK_cut (fun st => ∃ σ W eW, st = ⟨σ, W, eW⟩ ∧ clean rb eW ∧ W.length = Z.length ∧ (∀ (i : Nat) x, i ≠ rb → i ≠ Hc.length → Z[i]? = some x → W[i]? = some x) ∧ W[Hc.length]? = some (.cells (RcC ow' t 1 (if tm = true then n else tt) (foldD t dd)) 36 .rw) ∧
        W[rb]? = some (.cells (MsC o ow' (if tm = true ∧ fx = false then n else tt) true fx vo vf v3) 61 .rw) ∧ σ.length = 152 ∧ fr σ 0 = .ptr rb 0 ∧ fr σ 7 = .ptr Hc.length 0) ?_ ?_ ?_
       ·intro htm
        have htm : tm = false := by simpa using htm
        subst htm
        have l3 : ldC 3 1 false (.cells xc 36 .rw) = some (.int .u32 n) := by rw [hxc]; rfl
        have s3 : splice xc 3 [.int .u32 tt] = RcC ow' t 1 tt (foldD t dd) := by rw [hxc]; rfl
        have ln : xc.length = 12 := by rw [hxc]; rfl
        simp only [go_sem, simprocAttr, sl, s0, s7, zx, zs1, zs2, MsC.l2, l3, s3, ln, List.set_set]
        exact ⟨_, _, _, rfl, clean_and (clean_and (clean_and he4 (by simp [clean, low]; omega)) (by simp [clean, low]; omega)) (by simp [clean, low]; omega), by simp, fun i x h1 h2 h3 => by rw [List.getElem?_set_ne (Ne.symm h2)]; exact h3, zs1 _, by simpa using zs2 _, by simp only [go_sem, simprocAttr, sl], by simp only [go_sem, simprocAttr, sl, s0], by simp only [go_sem, simprocAttr, sl, s7]⟩
       ·intro htm
        have htm : tm = true := by simpa using htm
        subst htm
        have l3 : ldC 3 1 false (.cells xc 36 .rw) = some (.int .u32 n) := by rw [hxc]; rfl
        cases hfx : fx
        ·subst hfx
         have zs4 : ∀ y, (Z.set Hc.length y)[rb]? = some (.cells (MsC o ow' tt true false vo vf v3) 61 .rw) := zs2
         simp only [go_sem, simprocAttr, sl, s0, s7, zx, zs1, zs4, MsC.l4, MsC.len, MsC.s2, l3]
         refine ⟨_, _, _, rfl, clean_and (clean_and (clean_and he4 (by simp [clean, low]; omega)) (by simp [clean, low]; omega)) (by simp [clean, low]), by simp, fun i x h1 h2 h3 => by rw [List.getElem?_set_ne (Ne.symm h1), List.getElem?_set_ne (Ne.symm h2)]; exact h3, ?_, ?_, by simp only [go_sem, simprocAttr, sl], by simp only [go_sem, simprocAttr, sl, s0], by simp only [go_sem, simprocAttr, sl, s7]⟩
         ·rw [List.getElem?_set_ne (by omega), zs1, hxc]
         ·rw [List.getElem?_set_self (by simpa using lt_of_get zr)]
        ·subst hfx
         have zs4 : ∀ y, (Z.set Hc.length y)[rb]? = some (.cells (MsC o ow' tt true true vo vf v3) 61 .rw) := zs2
         simp only [go_sem, simprocAttr, sl, s0, s7, zx, zs1, zs4, MsC.l4, l3]
         exact ⟨_, _, _, rfl, clean_and (clean_and he4 (by simp [clean, low]; omega)) (by simp [clean, low]; omega), by simp, fun i x h1 h2 h3 => by rw [List.getElem?_set_ne (Ne.symm h2)]; exact h3, by rw [zs1, hxc], by simpa using zs4 _, by simp only [go_sem, simprocAttr, sl], by simp only [go_sem, simprocAttr, sl, s0], by simp only [go_sem, simprocAttr, sl, s7]⟩
       ·rintro _ ⟨σ, W, eW, rfl, w1, w2, w3, w4, w5, sl, s0, s7⟩
        obtain ⟨R, hR⟩ : ∃ R : Rcd, R = ⟨ow', t, if tm = true then n else tt, foldD t dd⟩ := ⟨_, rfl⟩
        have hRc : RcC ow' t 1 (if tm = true then n else tt) (foldD t dd) = R.cells := by rw [hR]; rfl
        rw [hRc] at w4
        obtain ⟨tr, htr⟩ : ∃ tr, tr = if tm = true ∧ fx = false then n else tt := ⟨_, rfl⟩
        simp only [] at hS
        rw [← hR, ← htr] at hS
        rw [← htr] at w5
        have oW : Ob rb W vo rs := hoZ.fr (fun i x h1 h2 => w3 i _ (by omega) (by rintro rfl; rw [zx] at h2; injection h2 with h2; injection h2 with _ _ h2; cases h2) h2)
        have wlt := lt_of_get w5
        have oW1 : Ob rb (W ++ [.cells R.cells 36 .rw]) vo rs := oW.fr (fun i x _ h => get_app h)
        obtain ⟨W2, e3, a1, a2, a3, a4, a5⟩ := oW1.app (by simp; omega) R (by simp only [fits, decide_eq_true_eq]; omega)
        have hbs := bslice_rc R
        have wr1 : ∀ x, (W ++ [x])[rb]? = some (.cells (MsC o ow' tr true fx vo vf v3) 61 .rw) := fun x => get_app w5
        have wn : ∀ x, (W ++ [x])[W.length]? = some x := fun x => by rw [hp_new0]; rfl
        have hldR : ldC 0 12 true (.cells R.cells 36 .rw) = some (.agg R.cells) := rfl
        have w2r : W2[rb]? = some (.cells (MsC o ow' tr true fx vo vf v3) 61 .rw) := a4 rb _ (wr1 _) (by
         rintro m rfl
         obtain ⟨h, _⟩ | ⟨_, i, hi, h, _⟩ := oW
         ·cases h
         ·injection h with h; omega)
        obtain ⟨hosc, hovc⟩ := oW.scl
        obtain ⟨vn, hvn⟩ : ∃ vn : AV, vn = .slice (W ++ [ABlk.cells R.cells 36 .rw] : Hp).length 0 (rs.length + 1) (.op 0) := ⟨_, rfl⟩
        rw [← hvn] at a1 a5
        obtain ⟨hnsc, hnvc⟩ := a5.scl
        have hrd2 : rdC 0 12 (.cells R.cells 36 .rw) = some R.cells := rfl
        have hnfl : flat vn = false := by rw [hvn]; rfl
        have hqt : quiet (vn, W2, e3) (W ++ [ABlk.cells R.cells 36 .rw]) = false := by simp only [List.length_append, List.length_cons, List.length_nil] at a2; simp [quiet]; omega
        refine go_drawZ tFollows (by kernel_rfl) ?_
        simp only [go_sem, simprocAttr, sl, s0, s7, w4, w5, wr1, wn, MsC.l5, hldR, hbs, hovc, hosc, hrd2, a1, w2r, MsC.len, MsC.s5, hnsc, hnvc, hnfl, hqt]
        refine ⟨by rcases tg_or 7 e3 with h | h <;> rw [h] <;> kernel_rfl, ?_⟩
        refine ⟨(R, ow', tr), hS, v3, vn, _, _, (Sto.this.r _).leave hlt, clean_leave (clean_and (clean_and w1 (clean_dn a3)) (by simp [clean, low])), ?_, fun i x h1 h2 h3 => ?_, List.getElem?_set_self (lt_of_get w2r), a5.fr (fun i x h1 h2 => by rw [List.getElem?_set_ne (by omega)]; exact h2)⟩
        ·simp only [List.length_set, List.length_append, List.length_cons, List.length_nil] at a2 ⊢; omega
        ·have hil := lt_of_get h3
         rw [List.getElem?_set_ne (Ne.symm h1)]
         exact a4 i x (get_app (w3 i x h1 (by omega) (kf i x hil h1 h3))) h2
end Go.Proofs.YtdppgaphcmhffaaGreatDoor.V
namespace Go.Proofs.YtdppgaphcmhffaaGreatDoor.V
open Go
attribute [local irreducible] go goOps goD opK callK callT stepK leaveTo nextK jumpTo

theorem rdT_bad : ∀ (k : Nat) (r : List UInt8) (ln cl : Nat) (op : List (Nat × Nat)) (cur : Option En) (out : List En) (l c n : Nat), rdT k r ln cl op cur out = .bad l c n → n = 80 ∨ n = 81
 | k, [], ln, cl, op, cur, out, l, c, n, h => by
  cases op with
  | nil => cases k <;> (unfold rdT at h; cases h)
  | cons p op => obtain ⟨a, b⟩ := p; cases k <;> (unfold rdT at h; cases h; exact .inr rfl)
 | 0, _ :: _, ln, cl, op, cur, out, l, c, n, h => by unfold rdT at h; cases h
 | k + 1, x :: r, ln, cl, op, cur, out, l, c, n, h => by
  unfold rdT at h
  simp only [] at h
  repeat' split at h
  all_goals first
   | (cases h; exact .inr rfl)
   | (cases h; exact .inl rfl)
   | exact rdT_bad k _ _ _ _ _ _ _ _ _ h

set_option maxRecDepth 20000 in
theorem tok_Entries (t : List UInt8) (H : Hp) (ht : t.length ≤ 262144) : callK Tryz.prog 20 [.str t] H (fun r =>
  match tokS t with
  | .bad l c n => r = (.tuple [.nils, .agg [.int .i64 (l : Nat), .int .i64 (c : Nat)], .int .i64 (n : Nat)], H, z0)
  | .ok l => ∃ ve T es, r = (.tuple [ve, .agg [.int .i64 0, .int .i64 0], .int .i64 0], H ++ T, z0) ∧ Eo H T ve es ∧ es.map (·.1) = l) := by
 refine callK_start (n := 25) (rs := [.tmp 2, .cell 3 38, .tmp 4]) Tryz.func20 rfl rfl rfl ?_
 intro σ hl ha
 have h0 := ha 0 (by simp)
 clear ha
 simp only [Option.getD_some, List.getElem?_cons_zero, List.getElem?_cons_succ] at h0
 have hgt : decide ((t.length : Int) > 262144) = false := by simp; omega
 have hbd : evBuild Tryz.prog 93 [(0, .str t), (2, .int .i64 1)] = some (.agg (TkC t 0 1 0 .nils false 0 .nils .nils false)) := by
  simp only [evBuild, tsh_93, tzero_93, tplaces_93, Option.bind_some, fillA]
  rfl
 simp only [go_sem, simprocAttr, hl, h0, hgt, hbd]
 refine ⟨rfl, ⟨Nat.le_refl _, rfl⟩, ?_⟩
 have hsp0 : splice [.str [], .int .i64 0, .int .i64 0, .int .i64 0, .nils, .bool false, .int .i64 0, .nils, .nils, .bool false] 0 (TkC t 0 1 0 .nils false 0 .nils .nils false) = TkC t 0 1 0 .nils false 0 .nils .nils false := rfl
 rw [hsp0]
 refine callK_mono (tok_read H [.cells [.int .i64 0, .int .i64 0] 38 .rw, .cells (TkC t 0 1 0 .nils false 0 .nils .nils false) 93 .rw] 1 t ht rfl) ?_
 rintro _ ⟨v, T, e, ⟨hce, hTl, hfr, hm⟩, rfl⟩
 have hs0 : T[0]? = some (.cells [.int .i64 0, .int .i64 0] 38 .rw) := hfr 0 _ _ (by decide) rfl
 have hs1 : ∀ (x y : ABlk), (T ++ [x])[0]? = some (.cells [.int .i64 0, .int .i64 0] 38 .rw) := fun x y => get_app hs0
 cases hr : tokS t with
 | bad l c n =>
  rw [hr] at hm
  subst hm
  have hn : n = 80 ∨ n = 81 := rdT_bad _ _ _ _ _ _ _ _ _ _ hr
  have hnz : ((n : Int) != 0) = true := by rcases hn with rfl | rfl <;> rfl
  simp only [go_sem, simprocAttr, hl, h0, hs0, hnz]
  have n1 : ∀ x, (T ++ [x])[T.length]? = some x := fun x => by simp
  have n0 : ∀ x, (T ++ [x])[0]? = some (.cells [.int .i64 0, .int .i64 0] 38 .rw) := fun x => get_app hs0
  have hss : ∀ x y, ((T ++ [x]).set 0 y)[0]? = some y := fun x y => List.getElem?_set_self (lt_of_get (n0 x))
  refine go_drawZ tFollows (by kernel_rfl) ?_
  simp only [go_sem, simprocAttr, hl, h0, hs0, n0, n1, hss]
  refine ⟨(by kernel_rfl : effOk _ _ _ = true), leave_abs rfl ?_ (fun i x hx => get_app hx)⟩
  have hf : flats (TkC t 0 1 0 .nils false 0 .nils .nils false) = true := rfl
  rw [if_pos hf]
  simp only [clean_andI, clean_sn, hce, true_and, and_true]
  omega
 | ok l =>
  rw [hr] at hm
  obtain ⟨rfl, i, ln, bg, vo, bl, el, vw, ve, ins, es, hb, hE, hl2⟩ := hm
  obtain ⟨hsc, hvc⟩ : scal ve = true ∧ vcells ve = [ve] := ⟨hE.1.scl, hE.1.vc⟩
  have hbz : evBuild Tryz.prog 38 [] = some (.agg [.int .i64 0, .int .i64 0]) := by kernel_rfl
  have hz : ((0 : Int) != 0) = false := rfl
  have g1 : ∀ x, (T ++ [x])[1]? = some (.cells (TkC t i ln bg vo bl el vw ve ins) 93 .rw) := fun x => get_app hb
  have g0 : ∀ x, (T ++ [x])[0]? = some (.cells [.int .i64 0, .int .i64 0] 38 .rw) := fun x => get_app hs0
  have gs : ∀ x y, ((T ++ [x]).set 0 y)[0]? = some y := fun x y => List.getElem?_set_self (lt_of_get (g0 x))
  simp only [go_sem, simprocAttr, hl, h0, hs0, hz, g1, g0, gs, TkC.l8, hsc, hvc, hbz]
  have hf : flats (TkC t 0 1 0 .nils false 0 .nils .nils false) = true := rfl
  rw [if_pos hf, set_get (g0 _)]
  have hcl : clean H.length ((((⟨none, some (H.length + 1)⟩ : Ef).and e).and ⟨none, some (H.length + T.length)⟩).and ⟨none, some H.length⟩) := by
   simp only [clean_andI, clean_sn, hce, true_and, and_true]; omega
  rcases hE.1 with ⟨rfl, h1, h2⟩ | ⟨hp, hcs, m, rfl, hm⟩
  ·have hes : es = [] := List.eq_nil_of_length_eq_zero h2
   subst hes
   refine ⟨.nils, [], [], ?_, ⟨.inl ⟨rfl, rfl, rfl⟩, fun x hx => by cases hx⟩, hl2⟩
   rw [List.append_nil]
   exact leave_flat rfl hcl
  ·refine ⟨_, T ++ [.cells [.int .i64 0, .int .i64 0] 38 .rw], es, leave_keep (by simp [flat, flats]) hcl, hE.fr (fun m y _ hy => get_app hy), hl2⟩
end Go.Proofs.YtdppgaphcmhffaaGreatDoor.V
namespace Go.Proofs.YtdppgaphcmhffaaGreatDoor.V
open Go
attribute [local irreducible] go goOps goD opK callK callT stepK leaveTo nextK

def parS (rd : List UInt8 → Nat → List Wd → Option Dt) : List En → List UInt8 → List UInt8 → Nat → Bool → Bool → List Rcd → Except (Wd × Nat) (List Rcd)
 | [], _, _, _, _, _, rs => .ok rs
 | x :: es, o, ow, tt, tl, fx, rs => match x.ws with
  | [] => .ok rs
  | w :: ws =>
   if x.bl = false ∧ w.q = false ∧ w.t.head? = some 36 then
    match dirS o tt fx w ws with
    | none => .error (w, 94)
    | some d => parS rd es d.1 ow d.2.1 tl d.2.2 rs
   else match recS (rd o) o ow tt tl fx rs.length x.bl w ws with
    | .error e => .error e
    | .ok y => parS rd es o y.2.1 y.2.2 true fx (rs ++ [y.1])

theorem asF_nil : evAssert Tryz.prog 65 .nili = some (.tuple [.agg [.str [], .bool false, .int .i64 0, .int .i64 0, .int .i64 0], .bool false]) := by
 rw [as_nil (by kernel_rfl)]
 kernel_rfl
theorem asF_hit (v : AV) : evAssert Tryz.prog 65 (.iface 65 v) = some (.tuple [v, .bool true]) := as_hit (by kernel_rfl)
def catC (a : Nat) : Dc := (.func (.func 22) [] [.ptr a 0, .ptr (a + 1) 0, .ptr (a + 2) 0], [])
set_option maxRecDepth 20000 in
theorem par_catch0 {a : Nat} {H : Hp} {K : Hp × Ef → Prop} (h : K (H ++ [.cells [.str [], .bool false, .int .i64 0, .int .i64 0, .int .i64 0] 65 .rw], ⟨none, some H.length⟩)) : defK Tryz.prog (catC a) none H K := by
 refine defK_start (n := 20) Tryz.func22 rfl rfl rfl rfl rfl rfl ?_
 intro σ hl ha
 have h0 := ha 0 (by simp)
 have h1 := ha 1 (by simp)
 have h2 := ha 2 (by simp)
 clear ha
 simp only [List.nil_append, Option.getD_some, List.getElem?_cons_zero, List.getElem?_cons_succ] at h0 h1 h2
 simp only [go_sem, simprocAttr, hl, h0, h1, h2, Option.getD_none, asF_nil]
 exact h
set_option maxRecDepth 20000 in
theorem par_catch (w : Wd) (n : Nat) {a : Nat} {H : Hp} {K : Hp × Ef → Prop} {v x y z : AV} (c0 : H[a]? = some (.cells [v] 26 .rw)) (c1 : H[a + 1]? = some (.cells [x, y] 38 .rw)) (c2 : H[a + 2]? = some (.cells [z] 39 .rw))
  (h : ∀ H' e, clean a e → H'[a]? = some (.cells [.nils] 26 .rw) → H'[a + 1]? = some (.cells [.int .i64 w.ln, .int .i64 w.cl] 38 .rw) → H'[a + 2]? = some (.cells [.int .i64 (n : Nat)] 39 .rw) → (∀ (i : Nat) q, i < a → H[i]? = some q → H'[i]? = some q) → H.length ≤ H'.length → K (H', e)) :
  defK Tryz.prog (catC a) (some (flt w n)) H K := by
 have l2 := lt_of_get c2
 refine defK_start (n := 20) Tryz.func22 rfl rfl rfl rfl rfl rfl ?_
 intro σ hl ha
 have h0 := ha 0 (by simp)
 have h1 := ha 1 (by simp)
 have h2 := ha 2 (by simp)
 clear ha
 simp only [List.nil_append, Option.getD_some, List.getElem?_cons_zero, List.getElem?_cons_succ] at h0 h1 h2
 have hfc : flt w n = .iface 65 (.agg [.str w.t, .bool w.q, .int .i64 w.ln, .int .i64 w.cl, .int .i64 (n : Nat)]) := rfl
 simp only [go_sem, simprocAttr, hl, h0, h1, h2, Option.getD_some, hfc, asF_hit]
 obtain ⟨Hn, hHn⟩ : ∃ Hn : Hp, Hn = H ++ [.cells [.str w.t, .bool w.q, .int .i64 w.ln, .int .i64 w.cl, .int .i64 (n : Nat)] 65 .rw] := ⟨_, rfl⟩
 have n0 : Hn[a]? = some (.cells [v] 26 .rw) := by rw [hHn]; exact get_app c0
 have n1 : Hn[a + 1]? = some (.cells [x, y] 38 .rw) := by rw [hHn]; exact get_app c1
 have n2 : Hn[a + 2]? = some (.cells [z] 39 .rw) := by rw [hHn]; exact get_app c2
 have n3 : Hn[H.length]? = some (.cells [.str w.t, .bool w.q, .int .i64 w.ln, .int .i64 w.cl, .int .i64 (n : Nat)] 65 .rw) := by rw [hHn, hp_new0]; rfl
 have hbs : evBuild Tryz.prog 38 [(0, .int .i64 w.ln), (1, .int .i64 w.cl)] = some (.agg [.int .i64 w.ln, .int .i64 w.cl]) := by
  simp only [evBuild, tsh_38, tzero_38, tplaces_38, Option.bind_some, fillA]
  rfl
 have m1 : ∀ q, (Hn.set a q)[a + 1]? = some (.cells [x, y] 38 .rw) := fun q => by rw [List.getElem?_set_ne (by omega)]; exact n1
 have m2 : ∀ q r, ((Hn.set a q).set (a + 1) r)[a + 2]? = some (.cells [z] 39 .rw) := fun q r => by rw [List.getElem?_set_ne (by omega), List.getElem?_set_ne (by omega)]; exact n2
 rw [← hHn]
 refine go_drawZL [((9, 2), (0, 12)), ((9, 5), (0, 15)), ((9, 8), (0, 18)), ((10, 8), (1, 18))] tFollows (by kernel_rfl) ?_
 simp only [go_sem, simprocAttr, hl, h0, h1, h2, n0, n3, hbs, m1, m2]
 refine ⟨(by kernel_rfl : effX _ _ _ = true), fun x hx => ?_, ?_⟩
 ·simp only [List.mem_cons, List.not_mem_nil, or_false] at hx
  rcases hx with rfl | rfl | rfl | rfl
  ·exact ⟨a, 0, H.length, 2, by simp only [go_sem, simprocAttr, hl, h0], by simp only [go_sem, simprocAttr, hl], by omega⟩
  ·exact ⟨a, 0, H.length, 3, by simp only [go_sem, simprocAttr, hl, h0], by simp only [go_sem, simprocAttr, hl], by omega⟩
  ·exact ⟨a, 0, H.length, 4, by simp only [go_sem, simprocAttr, hl, h0], by simp only [go_sem, simprocAttr, hl], by omega⟩
  ·exact ⟨a + 1, 0, H.length, 4, by simp only [go_sem, simprocAttr, hl, h1], by simp only [go_sem, simprocAttr, hl], by omega⟩
 refine h _ _ (by simp only [clean_andI, clean_sn]; omega) ?_ ?_ ?_ (fun i q hi hq => ?_) (by simp [hHn])
 ·rw [List.getElem?_set_ne (by omega), List.getElem?_set_ne (by omega), List.getElem?_set_self (lt_of_get n0)]
 ·rw [List.getElem?_set_ne (by omega), List.getElem?_set_self (by simpa using lt_of_get n1)]
 ·rw [List.getElem?_set_self (by simpa using lt_of_get n2)]
 ·rw [List.getElem?_set_ne (by omega), List.getElem?_set_ne (by omega), List.getElem?_set_ne (by omega), hHn]
  exact get_app hq
theorem wv_of {n : Nat} {T Hc : Hp} {v : AV} {ws : List Wd} (h : GBuf n T v 63 4 ws.length (wcells ws)) (hf : ∀ (m : Nat) y, T[m]? = some y → Hc[n + m]? = some y) : Wv Hc v ws := by
 obtain ⟨rfl, _, h⟩ | ⟨_, _, m, rfl, hm⟩ := h
 ·exact .inl ⟨rfl, List.eq_nil_of_length_eq_zero h⟩
 ·exact .inr (.inl ⟨n + m, 0, [], 0, false, by simp, rfl, hf m _ hm⟩)
theorem enC_at : ∀ (es : List (En × AV)) (i : Nat) (x : En × AV), es[i]? = some x → ((enC es).drop (i * 3)).take 3 = [.bool x.1.bl, .int .i64 (x.1.ln : Nat), x.2] ∧ i * 3 + 3 ≤ (enC es).length
 | [], i, x, h => by simp at h
 | y :: es, 0, x, h => by
  simp only [List.getElem?_cons_zero, Option.some.injEq] at h
  subst h
  exact ⟨rfl, by rw [enC_len, List.length_cons]; omega⟩
 | y :: es, i + 1, x, h => by
  obtain ⟨h1, h2⟩ := enC_at es i x (by simpa using h)
  have e : enC (y :: es) = [.bool y.1.bl, .int .i64 (y.1.ln : Nat), y.2] ++ enC es := rfl
  have e2 : (i + 1) * 3 = ([.bool y.1.bl, .int .i64 (y.1.ln : Nat), y.2] : List AV).length + i * 3 := by simp; omega
  refine ⟨?_, by rw [enC_len] at h2 ⊢; simp; omega⟩
  rw [e, e2, ← List.drop_drop, List.drop_left]; exact h1
theorem Eo.at {H T Hc : Hp} {v : AV} {es : List (En × AV)} (h : Eo H T v es) (hf : ∀ (m : Nat) y, T[m]? = some y → Hc[H.length + m]? = some y) {i : Nat} {x : En × AV} (hi : es[i]? = some x) :
  ∃ b q row, evIndexAddr Tryz.prog 54 v (.int .i64 (i : Nat)) = some (.ptr b q) ∧ Hc[b]? = some (.cells row 68 (.op 0 false)) ∧ ldC q 3 true (.cells row 68 (.op 0 false)) = some (.agg [.bool x.1.bl, .int .i64 (x.1.ln : Nat), x.2]) := by
 have hlt := (List.getElem?_eq_some_iff.1 hi).1
 obtain ⟨_, _, h0⟩ | ⟨_, _, m, rfl, hm⟩ := h.1
 ·omega
 ·obtain ⟨h4, h5⟩ := enC_at es i x hi
  refine ⟨H.length + m, 0 + i * 3, _, ?_, hf m _ hm, ?_⟩
  ·simp only [evIndexAddr, tsh_54]
   rw [if_pos ⟨by omega, by omega⟩]
   simp
  ·unfold ldC
   simp only [if_true, Nat.zero_add]
   rw [if_pos h5, h4]
theorem Eo.lenE {H T : Hp} {v : AV} {es : List (En × AV)} (h : Eo H T v es) (H' : Hp) : evLen Tryz.prog 54 v H' = some (.int .i64 es.length) := by
 obtain ⟨rfl, _, h0⟩ | ⟨_, _, m, rfl, _⟩ := h.1
 ·have : es = [] := List.eq_nil_of_length_eq_zero h0
  subst this
  simp only [evLen, tsh_54]; rfl
 ·simp only [evLen, tsh_54]
theorem s_HasPrefix (s p : List UInt8) (H k) (hs : s.length ≤ maxI) (hp : p.length ≤ maxI) : callK Tryz.prog 23 [.str s, .str p] H k = k (.bool (cutS s p).2, H, z0) := by
 refine callK_eq (r := (.bool (cutS s p).2, H, z0)) ?_ k
 refine callK_start (n := 8) (rs := [.tmp 4]) Tryz.func23 rfl rfl rfl ?_
 intro σ hl ha
 have h0 := ha 0 (by simp)
 have h1 := ha 1 (by simp)
 clear ha
 simp only [Option.getD_some, List.getElem?_cons_zero, List.getElem?_cons_succ] at h0 h1
 have hq := fun k => has_prefix s p H k hs hp
 simp only [go_sem, simprocAttr, hl, h0, h1, hq]
theorem cut36 (s : List UInt8) : (cutS s [36]).2 = true ↔ s.head? = some 36 := by
 unfold cutS
 cases s with
 | nil => simp
 | cons a t => simp only [List.length_cons, List.length_nil, List.take_succ_cons, List.take_zero, List.cons.injEq, and_true, List.head?_cons, Option.some.injEq]; split <;> simp_all
theorem clean_le {n m : Nat} {e : Ef} (h : clean m e) (hnm : n ≤ m) : clean n e := by
 obtain ⟨h1, h2⟩ := h
 have key : ∀ o : Option Nat, low m o = none → low n o = none := by
  intro o h
  cases o with
  | none => rfl
  | some x => rw [low_w] at h ⊢; omega
 exact ⟨key _ h1, key _ h2⟩
theorem Ob.dn {a b : Nat} {H : Hp} {v : AV} {rs : List Rcd} (h : Ob b H v rs) (hab : a ≤ b) : Ob a H v rs := by
 obtain h | ⟨hp, i, hi, h⟩ := h
 ·exact .inl h
 ·exact .inr ⟨hp, i, by omega, h⟩
def ParR (H : Hp) (y : Except (Wd × Nat) (List Rcd)) (r : AV × Hp × Ef) : Prop :=
 match y with
 | .error y => r = (.tuple [.nils, .agg [.int .i64 y.1.ln, .int .i64 y.1.cl], .int .i64 (y.2 : Nat)], H, z0)
 | .ok rs => ∃ vo H', r = (.tuple [vo, .agg [.int .i64 0, .int .i64 0], .int .i64 0], H', z0) ∧ H.length ≤ H'.length ∧ (∀ (i : Nat) x, H[i]? = some x → H'[i]? = some x) ∧ Ob H.length H' vo rs
theorem bd_ms (o : List UInt8) (n : Nat) : evBuild Tryz.prog 61 [(0, .str o), (2, .int .u32 n)] = some (.agg (MsC o [] n false false .nils .nils .nils)) := by
 simp only [evBuild, tsh_61, tzero_61, tplaces_61, Option.bind_some, fillA]
 rfl
set_option maxRecDepth 20000 in
set_option maxHeartbeats 4000000 in
theorem ms_Parse (rd : List UInt8 → Nat → List Wd → Option Dt) (A : Prop) (Op : List UInt8 → Prop) (yF : Except (Wd × Nat) (List Rcd)) (H : Hp) (t og : List UInt8) (tt : Nat) (l : List En) (hgl : Gl H) (hn : gN ≤ H.length) (ht : t.length ≤ 262144) (htt : tt ≤ 2147483647) (hog : (nm og).isSome = true) (hogl : og.length ≤ 1048576)
  (htok : tokS t = .ok l) (hA : A ∨ ∃ rs, yF = .ok rs) (hok : parS rd l (lowS og) [] tt false false [] = yF) (hop0 : Op (lowS og)) (hop : ∀ w o, Op o → (namW w o).2 = true → Op (namW w o).1) (hopl : ∀ o, Op o → o.length ≤ 1048576)
  (hll : l.length ≤ 1048576) (hne : ∀ x ∈ l, x.ws ≠ []) (hwl : ∀ x ∈ l, ∀ w ∈ x.ws, w.t.length ≤ 1048576) (hrd : ∀ o t r, Op o → (∀ w ∈ r, ∃ x ∈ l, w ∈ x.ws) → ((rd o t r).isSome = true ∨ A) → RdIs o t r (rd o t r)) :
  callK Tryz.prog 10 [.str t, .str og, .int .u32 tt] H (ParR H yF) := by
 have hck := fun H' k => name_Check og H' k (by unfold maxI; omega)
 simp only [hog, if_true] at hck
 have hfo := fun H' k => name_Fold og H' k (by unfold maxI; omega)
 have htg : decide ((tt : Int) > 2147483647) = false := by simp; omega
 obtain ⟨H3, hH3⟩ : ∃ H3 : Hp, H3 = H ++ [.cells [.nils] 26 .rw, .cells [.int .i64 0, .int .i64 0] 38 .rw, .cells [.int .i64 0] 39 .rw] := ⟨_, rfl⟩
 have hten := tok_Entries t H3 ht
 rw [htok] at hten
 obtain ⟨⟨ve, T, es⟩, ⟨hE, hmap⟩, hent⟩ := callK_exP (fun b : AV × Hp × List (En × AV) => Eo H3 b.2.1 b.1 b.2.2 ∧ b.2.2.map (·.1) = l) (fun b => (.tuple [b.1, .agg [.int .i64 0, .int .i64 0], .int .i64 0], H3 ++ b.2.1, z0)) (callK_mono hten (by
  rintro r ⟨ve, T, es, rfl, h1, h2⟩
  exact ⟨(ve, T, es), ⟨h1, h2⟩, rfl⟩))
 simp only [] at hE hmap hent
 refine callK_startD (n := 82) (rs := [.cell 6 26, .cell 7 38, .cell 8 39]) Tryz.func10 rfl rfl rfl ?_
 intro σ hl ha
 have h0 := ha 0 (by simp)
 have h1 := ha 1 (by simp)
 have h2 := ha 2 (by simp)
 clear ha
 simp only [Option.getD_some, List.getElem?_cons_zero, List.getElem?_cons_succ] at h0 h1 h2
 refine goA_seq (by kernel_rfl) (by kernel_rfl) ?_
 simp only [go_sem, simprocAttr, hl]
 rw [← hH3]
 refine goA_seq (by kernel_rfl) (by kernel_rfl) ?_
 simp only [go_sem, simprocAttr, hl, h0, h1, h2, hck]
 refine goA_seq (by kernel_rfl) (by kernel_rfl) ?_
 simp only [go_sem, simprocAttr, hl, h0, h1, h2, htg]
 refine goA_seq (by kernel_rfl) (by kernel_rfl) ?_
 have hl3 : H3.length = H.length + 3 := by rw [hH3]; simp
 obtain ⟨X, hX⟩ : ∃ X : Hp, X = H3 ++ T := ⟨_, rfl⟩
 have x0 : X[H.length]? = some (.cells [.nils] 26 .rw) := by rw [hX, hH3]; exact get_app (by rw [hp_new0]; rfl)
 have x1 : X[H.length + 1]? = some (.cells [.int .i64 0, .int .i64 0] 38 .rw) := by rw [hX, hH3]; exact get_app (by rw [hp_new]; rfl)
 have x2 : X[H.length + 2]? = some (.cells [.int .i64 0] 39 .rw) := by rw [hX, hH3]; exact get_app (by rw [hp_new]; rfl)
 have sp0 : splice [.int .i64 0, .int .i64 0] 0 [.int .i64 0, .int .i64 0] = [AV.int .i64 0, .int .i64 0] := rfl
 have st1 : X.set (H.length + 1) (.cells [.int .i64 0, .int .i64 0] 38 .rw) = X := set_get x1
 have st2 : X.set (H.length + 2) (.cells [.int .i64 0] 39 .rw) = X := set_get x2
 simp only [go_sem, simprocAttr, hl, h0, h1, h2, hent, ← hX, x1, x2, sp0, st1, st2]
 refine goA_seq (by kernel_rfl) (by kernel_rfl) ?_
 have hz : ((0 : Int) != 0) = false := rfl
 simp only [go_sem, simprocAttr, hl, x2, hz]
 refine goA_seq (by kernel_rfl) (by kernel_rfl) ?_
 have hbd := bd_ms (lowS og) tt
 have hvc : vcells (.agg (MsC (lowS og) [] tt false false .nils .nils .nils)) = MsC (lowS og) [] tt false false .nils .nils .nils := rfl
 have hscm : (MsC (lowS og) [] tt false false .nils .nils .nils).all scal = true := rfl
 simp only [go_sem, simprocAttr, hl, h1, h2, hfo, hbd, hvc, hscm]
 refine goA_def2 ?_
 simp only [go_sem, simprocAttr, hl]
 generalize hσ : List.set _ 36 _ = σ1
 have s6 : fr σ1 6 = .ptr H.length 0 := by rw [← hσ]; simp only [go_sem, simprocAttr, hl]
 have s7 : fr σ1 7 = .ptr (H.length + 1) 0 := by rw [← hσ]; simp only [go_sem, simprocAttr, hl]
 have s8 : fr σ1 8 = .ptr (H.length + 2) 0 := by rw [← hσ]; simp only [go_sem, simprocAttr, hl]
 have s10 : fr σ1 10 = .ptr X.length 0 := by rw [← hσ]; simp only [go_sem, simprocAttr, hl]
 have sl : σ1.length = 82 := by rw [← hσ]; simp only [go_sem, simprocAttr, hl]
 clear hσ hl h0 h1 h2
 have hel := hE.lenE
 have hXl : X.length = H.length + 3 + T.length := by rw [hX, List.length_append, hl3]
 simp only [go_sem, simprocAttr, sl, hel]
 refine go_rounds (fun m st => ∃ σ i Hc e o ow tm tl fx vo vf vw rs, m + i = es.length ∧ parS rd ((es.drop i).map (·.1)) o ow tm tl fx rs = yF ∧ st = ⟨σ, Hc, e⟩ ∧ Hc[X.length]? = some (.cells (MsC o ow tm tl fx vo vf vw) 61 .rw) ∧ (∀ (j : Nat) x, j < X.length → X[j]? = some x → Hc[j]? = some x) ∧ Ob X.length Hc vo rs ∧ clean H.length e ∧ Op o ∧ rs.length ≤ 4096 ∧
   σ.length = 82 ∧ fr σ 6 = .ptr H.length 0 ∧ fr σ 7 = .ptr (H.length + 1) 0 ∧ fr σ 8 = .ptr (H.length + 2) 0 ∧ fr σ 10 = .ptr X.length 0 ∧ fr σ 37 = ve ∧ fr σ 38 = .int .i64 es.length ∧ fr σ 39 = .int .i64 (i : Nat)) es.length
  ⟨_, 0, _, _, lowS og, [], tt, false, false, .nils, .nils, .nils, [], rfl, by rw [List.drop_zero, hmap]; exact hok, rfl, by rw [hp_new0]; rfl, fun j x _ hx => get_app hx, .inl ⟨rfl, rfl⟩, by simp only [clean_andI, clean_sn, clean_z, and_true]; omega, hop0, by decide, by simp only [go_sem, simprocAttr, sl], by simp only [go_sem, simprocAttr, sl, s6], by simp only [go_sem, simprocAttr, sl, s7], by simp only [go_sem, simprocAttr, sl, s8], by simp only [go_sem, simprocAttr, sl, s10], by simp only [go_sem, simprocAttr, sl], by simp only [go_sem, simprocAttr, sl], by simp only [go_sem, simprocAttr, sl]⟩ ?_
 clear sl s6 s7 s8 s10
 rintro m _ ⟨σ, i, Hc, e, o, ow, tm, tl, fx, vo, vf, vw, rs, hmi, hpar, rfl, hb, hfm, hob, hce, hopo, hrs, sl, s6, s7, s8, s10, s37, s38, s39⟩
 have hltc := lt_of_get hb
 by_cases hi : i < es.length
 ·obtain ⟨x, hx⟩ : ∃ x, es[i]? = some x := ⟨_, List.getElem?_eq_getElem hi⟩
  have c1 : decide (i < es.length) = true := decide_eq_true hi
  have hesl : es.length = l.length := by rw [← hmap]; simp
  have w1 := wrap_succ (show i < 9223372036854775807 by omega)
  have hfT : ∀ (m : Nat) y, T[m]? = some y → Hc[H3.length + m]? = some y := fun m y hy => hfm _ _ (by have := lt_of_get hy; omega) (by rw [hX, hp_new]; exact hy)
  obtain ⟨b, q, row, e1, e2, e3⟩ := hE.at hfT hx
  obtain ⟨en, wv⟩ := x
  have hEx := hE.2 _ (List.mem_of_getElem? hx)
  simp only [] at hEx e3
  have hwv : Wv Hc wv en.ws := wv_of hEx.2 hfT
  obtain ⟨hwsc, hwvc⟩ := hwv.scl
  have hze : [AV.bool false, .int .i64 0, .nils] = [AV.bool false, .int .i64 0, .nils] := rfl
  simp only [go_sem, simprocAttr, sl, s6, s7, s8, s10, s37, s38, s39, c1, e1, e2, e3, hwsc, hwvc]
  obtain ⟨Y, hY⟩ : ∃ Y : Hp, Y = Hc ++ [.cells [.bool en.bl, .int .i64 (en.ln : Nat), wv] 68 .rw] := ⟨_, rfl⟩
  have yE : Y[Hc.length]? = some (.cells [.bool en.bl, .int .i64 (en.ln : Nat), wv] 68 .rw) := by rw [hY, hp_new0]; rfl
  have yb : Y[X.length]? = some (.cells (MsC o ow tm tl fx vo vf vw) 61 .rw) := by rw [hY]; exact get_app hb
  have ysb : ∀ z, (Y.set X.length z)[X.length]? = some z := fun z => List.getElem?_set_self (lt_of_get yb)
  rw [← hY]
  have ysE : ∀ z, (Y.set X.length z)[Hc.length]? = some (.cells [.bool en.bl, .int .i64 (en.ln : Nat), wv] 68 .rw) := fun z => by rw [List.getElem?_set_ne (by omega)]; exact yE
  have henl : en ∈ l := by rw [← hmap]; exact List.mem_map_of_mem (f := (·.1)) (List.mem_of_getElem? hx)
  obtain ⟨w, ws, hws⟩ : ∃ w ws, en.ws = w :: ws := by
   cases h : en.ws with
   | nil => exact absurd h (hne en henl)
   | cons w ws => exact ⟨w, ws, rfl⟩
  rw [hws] at hwv
  have hnf : flat wv = false := by
   obtain ⟨_, h⟩ | ⟨b, k, pre, fz, st, rfl, h2, h3⟩ | ⟨b, _, _, h⟩ := hwv
   ·cases h
   ·rfl
   ·cases h
  obtain ⟨W0, hW0⟩ : ∃ W0 : Hp, W0 = Y.set X.length (.cells (MsC o ow tm tl fx vo wv wv) 61 .rw) := ⟨_, rfl⟩
  refine go_cut (fun st => ∃ σ e, st = ⟨σ, W0, e⟩ ∧ clean H.length e ∧ σ.length = 82 ∧ fr σ 6 = .ptr H.length 0 ∧ fr σ 7 = .ptr (H.length + 1) 0 ∧ fr σ 8 = .ptr (H.length + 2) 0 ∧ fr σ 10 = .ptr X.length 0 ∧ fr σ 12 = .ptr Hc.length 0 ∧ fr σ 37 = ve ∧ fr σ 38 = .int .i64 es.length ∧ fr σ 39 = .int .i64 (i : Nat)) ?_ ?_
  ·refine go_drawZL [((8, 5), (50, 47))] tFollows (by kernel_rfl) ?_
   simp only [go_sem, simprocAttr, sl, s6, s7, s8, s10, s37, s38, s39, yE, yb, ysb, ysE, hwsc, hwvc, MsC.len, MsC.s6, MsC.s7, List.set_set]
   refine ⟨(by kernel_rfl : effX _ _ _ = true), fun x hx => ?_, ?_⟩
   ·simp only [List.mem_cons, List.not_mem_nil, or_false] at hx
    subst hx
    exact ⟨X.length, 6, Hc.length, 2, by simp only [go_sem, simprocAttr, sl, s10], by simp only [go_sem, simprocAttr, sl], by omega⟩
   rw [← hW0]
   exact ⟨_, _, rfl, by simp only [clean_andT, clean_ewT, clean_wT, clean_ifT (show H.length ≤ Hc.length by omega), clean_ifT (show H.length ≤ X.length by omega), hce, and_true, true_and] <;> omega, by simp only [go_sem, simprocAttr, sl], by simp only [go_sem, simprocAttr, sl, s6], by simp only [go_sem, simprocAttr, sl, s7], by simp only [go_sem, simprocAttr, sl, s8], by simp only [go_sem, simprocAttr, sl, s10], by simp only [go_sem, simprocAttr, sl], by simp only [go_sem, simprocAttr, sl, s37], by simp only [go_sem, simprocAttr, sl, s38], by simp only [go_sem, simprocAttr, sl, s39]⟩
  clear sl s6 s7 s8 s10 s37 s38 s39
  rintro _ ⟨σ, eY, rfl, heY, sl, s6, s7, s8, s10, s12, s37, s38, s39⟩
  have w00 : W0[X.length]? = some (.cells (MsC o ow tm tl fx vo wv wv) 61 .rw) := by rw [hW0, ysb]
  have w0E : W0[Hc.length]? = some (.cells [.bool en.bl, .int .i64 (en.ln : Nat), wv] 68 .rw) := by rw [hW0, ysE]
  have hW0l : W0.length = Hc.length + 1 := by rw [hW0, hY]; simp
  have w0f : ∀ (j : Nat) x, j ≠ X.length → Hc[j]? = some x → W0[j]? = some x := fun j x h1 h2 => by rw [hW0, List.getElem?_set_ne (Ne.symm h1), hY]; exact get_app h2
  have w0v : Wv W0 wv (w :: ws) := by
   rw [hW0]
   refine Wv.set ?_ yb
   rw [hY]; exact hwv.old _
  obtain ⟨b0, q0, row0, ee0, kd0, hi0, hg0, hl40⟩ := w0v.at (i := 0) rfl
  have hi0 : evIndexAddr Tryz.prog 59 wv (.int .i64 0) = some (.ptr b0 q0) := hi0
  obtain ⟨W, hW⟩ : ∃ W : Hp, W = W0 ++ [.cells w.cells 63 .rw] := ⟨_, rfl⟩
  have hvw : vcells (.agg w.cells) = w.cells := rfl
  rw [go_seq]
  refine go_cut (fun st => ∃ σ e, st = ⟨σ, W, e⟩ ∧ clean H.length e ∧ σ.length = 82 ∧ fr σ 6 = .ptr H.length 0 ∧ fr σ 7 = .ptr (H.length + 1) 0 ∧ fr σ 8 = .ptr (H.length + 2) 0 ∧ fr σ 10 = .ptr X.length 0 ∧ fr σ 12 = .ptr Hc.length 0 ∧ fr σ 13 = .ptr W0.length 0 ∧ fr σ 37 = ve ∧ fr σ 38 = .int .i64 es.length ∧ fr σ 39 = .int .i64 (i : Nat)) ?_ ?_
  ·simp only [go_sem, simprocAttr, sl, s12, w0E, hi0, hg0, hl40, hvw, sc_word, sp_word, fl_word, ln_word, ld_word, hwsc, hwvc, ← hW]
   exact ⟨_, _, rfl, by simp only [clean_andI, clean_sn, heY, true_and]; omega, by simp only [go_sem, simprocAttr, sl], by simp only [go_sem, simprocAttr, sl, s6], by simp only [go_sem, simprocAttr, sl, s7], by simp only [go_sem, simprocAttr, sl, s8], by simp only [go_sem, simprocAttr, sl, s10], by simp only [go_sem, simprocAttr, sl, s12], by simp only [go_sem, simprocAttr, sl], by simp only [go_sem, simprocAttr, sl, s37], by simp only [go_sem, simprocAttr, sl, s38], by simp only [go_sem, simprocAttr, sl, s39]⟩
  clear sl s6 s7 s8 s10 s12 s37 s38 s39
  rintro _ ⟨σ, eV, rfl, heV, sl, s6, s7, s8, s10, s12, s13, s37, s38, s39⟩
  have hWl : W.length = Hc.length + 2 := by rw [hW]; simp [hW0l]
  have wb : W[X.length]? = some (.cells (MsC o ow tm tl fx vo wv wv) 61 .rw) := by rw [hW]; exact get_app w00
  have wE : W[Hc.length]? = some (.cells [.bool en.bl, .int .i64 (en.ln : Nat), wv] 68 .rw) := by rw [hW]; exact get_app w0E
  have wW : W[W0.length]? = some (.cells w.cells 63 .rw) := by rw [hW, hp_new0]; rfl
  have wf : ∀ (j : Nat) x, j ≠ X.length → Hc[j]? = some x → W[j]? = some x := fun j x h1 h2 => by rw [hW]; exact get_app (w0f j x h1 h2)
  have wvv : Wv W wv (w :: ws) := by rw [hW]; exact w0v.old _
  have hwt : ldC 0 1 false (.cells w.cells 63 .rw) = some (.str w.t) := rfl
  have hwq : ldC 1 1 false (.cells w.cells 63 .rw) = some (.bool w.q) := rfl
  have hwl1 : ∀ x ∈ w :: ws, x.t.length ≤ 1048576 := by rw [← hws]; exact hwl en henl
  have hwtl := hwl1 w (by simp)
  have hpre := fun k => s_HasPrefix w.t [36] W k (by unfold maxI; omega) (by decide)
  rw [go_seq]
  refine go_cut (fun st => ∃ σ e, st = ⟨σ, W, e⟩ ∧ clean H.length e ∧ σ.length = 82 ∧ fr σ 6 = .ptr H.length 0 ∧ fr σ 7 = .ptr (H.length + 1) 0 ∧ fr σ 8 = .ptr (H.length + 2) 0 ∧ fr σ 10 = .ptr X.length 0 ∧ fr σ 12 = .ptr Hc.length 0 ∧ fr σ 37 = ve ∧ fr σ 38 = .int .i64 es.length ∧ fr σ 39 = .int .i64 (i : Nat) ∧ fr σ 69 = .bool (!en.bl && (!w.q && (cutS w.t [36]).2))) ?_ ?_
  ·have hlW := lt_of_get wW
   cases hbl : en.bl
   ·cases hq : w.q
    ·rw [hq] at hwq; rw [hbl] at wE
     simp only [go_sem, simprocAttr, sl, s12, s13, wE, wW, hwt, hwq, hpre, Bool.not_false, Bool.not_true]
     exact ⟨_, _, rfl, by simp only [clean_andI, clean_sn, heV, true_and], by simp only [go_sem, simprocAttr, sl], by simp only [go_sem, simprocAttr, sl, s6], by simp only [go_sem, simprocAttr, sl, s7], by simp only [go_sem, simprocAttr, sl, s8], by simp only [go_sem, simprocAttr, sl, s10], by simp only [go_sem, simprocAttr, sl, s12], by simp only [go_sem, simprocAttr, sl, s37], by simp only [go_sem, simprocAttr, sl, s38], by simp only [go_sem, simprocAttr, sl, s39], by simp only [go_sem, simprocAttr, sl, Bool.not_false, Bool.true_and]⟩
    ·rw [hq] at hwq; rw [hbl] at wE
     simp only [go_sem, simprocAttr, sl, s12, s13, wE, wW, hwt, hwq, hpre, Bool.not_false, Bool.not_true]
     exact ⟨_, _, rfl, by simp only [clean_andI, clean_sn, heV, true_and], by simp only [go_sem, simprocAttr, sl], by simp only [go_sem, simprocAttr, sl, s6], by simp only [go_sem, simprocAttr, sl, s7], by simp only [go_sem, simprocAttr, sl, s8], by simp only [go_sem, simprocAttr, sl, s10], by simp only [go_sem, simprocAttr, sl, s12], by simp only [go_sem, simprocAttr, sl, s37], by simp only [go_sem, simprocAttr, sl, s38], by simp only [go_sem, simprocAttr, sl, s39], by simp only [go_sem, simprocAttr, sl, Bool.not_false, Bool.not_true, Bool.true_and, Bool.false_and]⟩
   ·rw [hbl] at wE
    simp only [go_sem, simprocAttr, sl, s12, s13, wE, wW, hwt, hwq, hpre, Bool.not_false, Bool.not_true]
    exact ⟨_, _, rfl, by simp only [clean_andI, clean_sn, heV, true_and], by simp only [go_sem, simprocAttr, sl], by simp only [go_sem, simprocAttr, sl, s6], by simp only [go_sem, simprocAttr, sl, s7], by simp only [go_sem, simprocAttr, sl, s8], by simp only [go_sem, simprocAttr, sl, s10], by simp only [go_sem, simprocAttr, sl, s12], by simp only [go_sem, simprocAttr, sl, s37], by simp only [go_sem, simprocAttr, sl, s38], by simp only [go_sem, simprocAttr, sl, s39], by simp only [go_sem, simprocAttr, sl, Bool.not_true, Bool.false_and]⟩
  clear sl s6 s7 s8 s10 s12 s13 s37 s38 s39
  rintro _ ⟨σ, eW, rfl, heW, sl, s6, s7, s8, s10, s12, s37, s38, s39, s69⟩
  have hpar2 : parS rd (en :: (es.drop (i + 1)).map (·.1)) o ow tm tl fx rs = yF := by rw [← hpar, List.drop_eq_getElem_cons hi, List.map_cons]; congr 2; rw [List.getElem?_eq_getElem hi] at hx; injection hx with hx; rw [hx]
  clear hpar
  have hglW : Gl W := hgl.fr (fun j x h1 h2 => wf j x (by omega) (hfm j x (by omega) (by rw [hX, hH3, List.append_assoc]; exact get_app h2)))
  have hXg : gN ≤ X.length := by omega
  have xW : ∀ (j : Nat) x, j < X.length → X[j]? = some x → W[j]? = some x := fun j x h1 h2 => wf j x (by omega) (hfm j x h1 h2)
  have obW : Ob X.length W vo rs := hob.fr (fun j x h1 h2 => wf j _ (by omega) h2)
  have finE : ∀ (y : Wd × Nat) (H2 : Hp) (σ' : List AV) (e2 : Ef), yF = .error y → W.length ≤ H2.length → (∀ (j : Nat) x, j ≠ X.length → W[j]? = some x → H2[j]? = some x) → clean H.length e2 → fr σ' 6 = .ptr H.length 0 → fr σ' 7 = .ptr (H.length + 1) 0 → fr σ' 8 = .ptr (H.length + 2) 0 → defK Tryz.prog (catC H.length) (some (flt y.1 y.2)) H2 (dfK Tryz.prog [.cell 6 26, .cell 7 38, .cell 8 39] H.length (ParR H yF) (catC H.length) σ' e2) := by
   rintro ⟨w, n⟩ H2 σ' e2 hyF hl2 hf2 hc2 s6' s7' s8'
   have gH : ∀ (j : Nat) x, j < X.length → X[j]? = some x → H2[j]? = some x := fun j x h1 h2 => hf2 j x (by omega) (xW j x h1 h2)
   refine par_catch w n (gH _ _ (by omega) x0) (gH _ _ (by omega) x1) (gH _ _ (by omega) x2) ?_
   intro H' e' hc' g0 g1 g2 gf gl
   have hcc := clean_and hc2 hc'
   have hHH : ∀ (j : Nat) x, H[j]? = some x → H'[j]? = some x := fun j x h => gf j x (lt_of_get h) (gH j x (by have := lt_of_get h; omega) (by rw [hX, hH3, List.append_assoc]; exact get_app h))
   rw [dfK_ap]
   simp only [go_sem, simprocAttr, s6', s7', s8', g0, g1, g2]
   rw [leave_abs rfl hcc hHH]
   rw [hyF]
   rfl
  have heX : ∀ e' : Ef, clean X.length e' → clean H.length (eW.and e') := fun e' h => clean_and heW (clean_le h (by omega))
  cases hdd : (!en.bl && (!w.q && (cutS w.t [36]).2))
  ·rw [hdd] at s69
   have hps : (match recS (rd o) o ow tm tl fx rs.length en.bl w ws with | .error e => .error e | .ok y => parS rd ((es.drop (i + 1)).map (·.1)) o y.2.1 y.2.2 true fx (rs ++ [y.1])) = yF := by
    rw [← hpar2]
    simp only [parS, hws]
    rw [if_neg (by
     rintro ⟨h1, h2, h3⟩
     rw [h1, h2, (cut36 _).2 h3] at hdd
     cases hdd)]
   have hrec := ms_record (rd o) W X.length o ow tm tl fx vo wv rs en.bl w ws wb wvv hglW hXg obW hrs hwl1 (hopl o hopo) A (by
    rcases hA with h | ⟨z, hz⟩
    ·exact .inl h
    ·right
     rw [hz] at hps
     cases hr : recS (rd o) o ow tm tl fx rs.length en.bl w ws with
     | error e => rw [hr] at hps; cases hps
     | ok y => exact ⟨y, rfl⟩) (fun t r hr h => hrd o t r hopo (fun q hq => ⟨en, henl, by rw [hws]; exact hr q hq⟩) h)
   cases hre : recS (rd o) o ow tm tl fx rs.length en.bl w ws with
   | error y =>
    rw [hre] at hrec hps
    obtain ⟨⟨H2, e2⟩, ⟨q1, q2, q3⟩, q4⟩ := callC_exP (fun b : Hp × Ef => clean X.length b.2 ∧ W.length ≤ b.1.length ∧ (∀ (i : Nat) x, i ≠ X.length → W[i]? = some x → b.1[i]? = some x)) (fun b => (flt y.1 y.2, b.1, b.2)) (callC_mono hrec (by rintro r ⟨y', hy, _⟩; cases hy) (by
     rintro r ⟨y', hy, H', e', c, rfl, h1, h2, h3, h4⟩
     cases hy
     exact ⟨(H', e'), ⟨h1, h2, h3⟩, rfl⟩))
    simp only [] at q1 q2 q3 q4
    simp only [go_sem, simprocAttr, sl, s69, s10, s12, wE, q4]
    exact finE y H2 _ _ hps.symm q2 q3 (clean_and (by simp only [clean_andT, clean_z0, heW, and_true]) (clean_le q1 (by omega))) (by simp only [go_sem, simprocAttr, sl, s6]) (by simp only [go_sem, simprocAttr, sl, s7]) (by simp only [go_sem, simprocAttr, sl, s8])
   | ok y =>
    rw [hre] at hrec hps
    obtain ⟨⟨v2, vo2, H2, e2⟩, ⟨q1, q2, q3, q4, q5⟩, q6⟩ := callC_exK (fun b : AV × AV × Hp × Ef => clean X.length b.2.2.2 ∧ W.length ≤ b.2.2.1.length ∧ (∀ (i : Nat) x, i ≠ X.length → (∀ n, vo ≠ .slice i 0 n (.op 0)) → W[i]? = some x → b.2.2.1[i]? = some x) ∧ b.2.2.1[X.length]? = some (.cells (MsC o y.2.1 y.2.2 true fx b.2.1 wv b.1) 61 .rw) ∧ Ob X.length b.2.2.1 b.2.1 (rs ++ [y.1])) (fun b => (.tuple [], b.2.2.1, b.2.2.2)) (callC_mono hrec (by
     rintro r ⟨y', hy, v', vo', H', e', rfl, h1, h2, h3, h4, h5⟩
     cases hy
     exact ⟨(v', vo', H', e'), ⟨h1, h2, h3, h4, h5⟩, rfl⟩) (by rintro r ⟨y', hy, _⟩; cases hy))
    simp only [] at q1 q2 q3 q4 q5 q6
    simp only [] at hps
    have hrn : rs.length ≠ 4096 := by
     intro h
     unfold recS at hre
     rw [if_pos h] at hre
     cases hre
    simp only [go_sem, simprocAttr, sl, s69, s10, s12, s39, wE, q6, w1]
    refine ⟨m - 1, by omega, _, i + 1, H2, _, o, y.2.1, y.2.2, true, fx, vo2, wv, v2, rs ++ [y.1], by omega, hps, rfl, q4, fun j x h1 h2 => q3 j x (by omega) (fun n hn => ?_) (xW j x h1 h2), q5, heX _ q1, hopo, by simp; omega, ?_⟩
    ·obtain ⟨h, _⟩ | ⟨_, i', hi', h, _⟩ := obW
     ·rw [h] at hn; cases hn
     ·rw [h] at hn; injection hn with hn; omega
    exact ⟨by simp only [go_sem, simprocAttr, sl], by simp only [go_sem, simprocAttr, sl, s6], by simp only [go_sem, simprocAttr, sl, s7], by simp only [go_sem, simprocAttr, sl, s8], by simp only [go_sem, simprocAttr, sl, s10], by simp only [go_sem, simprocAttr, sl, s37], by simp only [go_sem, simprocAttr, sl, s38], by simp only [go_sem, simprocAttr, sl]⟩
  ·rw [hdd] at s69
   have hdir := ms_dir W X.length o ow tm tl fx vo wv wv w ws wb wvv hglW hXg hwl1 (hopl o hopo)
   have hps : (match dirS o tm fx w ws with | none => .error (w, 94) | some d => parS rd ((es.drop (i + 1)).map (·.1)) d.1 ow d.2.1 tl d.2.2 rs) = yF := by
    rw [← hpar2]
    simp only [Bool.and_eq_true, Bool.not_eq_true'] at hdd
    simp only [parS, hws]
    rw [if_pos ⟨hdd.1, hdd.2.1, (cut36 _).1 hdd.2.2⟩]
   cases hd : dirS o tm fx w ws with
   | none =>
    rw [hd] at hdir hps
    obtain ⟨⟨H2, c2⟩, ⟨q1, q2⟩, q3⟩ := callC_exP (fun b : Hp × List AV => Fm X.length W b.1 ∧ b.1[X.length]? = some (.cells b.2 61 .rw)) (fun b => (flt w 94, b.1, ⟨some X.length, some X.length⟩)) (callC_mono hdir (by rintro r ⟨d, h, _⟩; cases h) (by
     rintro r ⟨_, H', c, rfl, h1, h2⟩
     exact ⟨(H', c), ⟨h1, h2⟩, rfl⟩))
    simp only [] at q1 q2 q3
    simp only [go_sem, simprocAttr, sl, s69, s10, q3]
    exact finE (w, 94) H2 _ _ hps.symm q1.1 q1.2 (clean_and (by simp only [clean_andT, clean_z0, heW, and_true]) (clean_ew (by omega) (by omega))) (by simp only [go_sem, simprocAttr, sl, s6]) (by simp only [go_sem, simprocAttr, sl, s7]) (by simp only [go_sem, simprocAttr, sl, s8])
   | some d =>
    rw [hd] at hdir hps
    obtain ⟨⟨v2, H2⟩, ⟨q1, q2⟩, q3⟩ := callC_exK (fun b : AV × Hp => Fm X.length W b.2 ∧ b.2[X.length]? = some (.cells (MsC d.1 ow d.2.1 tl d.2.2 vo wv b.1) 61 .rw)) (fun b => (.tuple [], b.2, ⟨some X.length, some X.length⟩)) (callC_mono hdir (by
     rintro r ⟨d', h, v', H', rfl, h1, h2⟩
     cases h
     exact ⟨(v', H'), ⟨h1, h2⟩, rfl⟩) (by rintro r ⟨h, _⟩; cases h))
    simp only [] at q1 q2 q3
    simp only [] at hps
    have hopd : Op d.1 := by
     unfold dirS at hd
     split at hd
     ·split at hd
      ·split at hd
       ·rename_i h; cases hd; exact hop _ _ hopo h
       ·cases hd
      split at hd
      ·split at hd
       ·split at hd
        ·cases hd; exact hopo
        ·cases hd
       ·cases hd
      ·cases hd
     ·cases hd
    simp only [go_sem, simprocAttr, sl, s69, s10, q3, s39, w1]
    exact ⟨m - 1, by omega, _, i + 1, H2, _, d.1, ow, d.2.1, tl, d.2.2, vo, wv, v2, rs, by omega, hps, rfl, q2, fun j x h1 h2 => q1.2 j x (by omega) (xW j x h1 h2), obW.fr (fun j x h1 h2 => q1.2 j _ (by omega) h2), heX _ (clean_ew (Nat.le_refl _) (Nat.le_refl _)), hopd, hrs, by simp only [go_sem, simprocAttr, sl], by simp only [go_sem, simprocAttr, sl, s6], by simp only [go_sem, simprocAttr, sl, s7], by simp only [go_sem, simprocAttr, sl, s8], by simp only [go_sem, simprocAttr, sl, s10], by simp only [go_sem, simprocAttr, sl, s37], by simp only [go_sem, simprocAttr, sl, s38], by simp only [go_sem, simprocAttr, sl]⟩
 ·have hie : i = es.length := by omega
  have c1 : decide (i < es.length) = false := decide_eq_false hi
  have hpar3 : yF = .ok rs := by rw [← hpar, List.drop_of_length_le (by omega)]; rfl
  obtain ⟨hosc, hovc⟩ := hob.scl
  have d0 := hfm _ _ (by omega) x0
  have d1 := hfm _ _ (by omega) x1
  have d2 := hfm _ _ (by omega) x2
  have k1 : ∀ (x : ABlk), ((Hc.set H.length x)[H.length + 1]? : Option ABlk) = some (.cells [.int .i64 0, .int .i64 0] 38 .rw) := fun x => by rw [List.getElem?_set_ne (by omega)]; exact d1
  have k2 : ∀ (x y : ABlk), (((Hc.set H.length x).set (H.length + 1) y)[H.length + 2]? : Option ABlk) = some (.cells [.int .i64 0] 39 .rw) := fun x y => by rw [List.getElem?_set_ne (by omega), List.getElem?_set_ne (by omega)]; exact d2
  simp only [go_sem, simprocAttr, sl, s6, s7, s8, s10, s37, s38, s39, c1, hb, MsC.l5, d0, d1, d2, hosc, hovc]
  have hbs : evBuild Tryz.prog 38 [] = some (.agg [.int .i64 0, .int .i64 0]) := by
   simp only [evBuild, tsh_38, tzero_38, tplaces_38, Option.bind_some, fillA]
   rfl
  have sp1 : splice [.int .i64 0, .int .i64 0] 0 [.int .i64 0, .int .i64 0] = [AV.int .i64 0, .int .i64 0] := rfl
  have hvs : vcells (.agg [.int .i64 0, .int .i64 0]) = [.int .i64 0, .int .i64 0] := rfl
  have hva : [AV.int .i64 0, .int .i64 0].all scal = true := rfl
  have spv : splice [AV.nils] 0 [vo] = [vo] := rfl
  have sp2 : splice [AV.int .i64 0] 0 [AV.int .i64 0] = [AV.int .i64 0] := rfl
  simp only [go_sem, simprocAttr, sl, s6, s7, s8, hbs, d0, k1, k2, sp1, sp2, spv, hovc, hosc, hvs, hva]
  generalize heZ : Ef.and _ ⟨_, some (H.length + 2)⟩ = eZ
  have heZc : clean H.length eZ := by
   rw [← heZ]
   simp only [clean_andT, clean_z0, clean_ifT (Nat.le_refl H.length), clean_ifT (Nat.le_add_right H.length _), clean_wT, clean_ewT, hce, true_and, and_true] <;> omega
  generalize hZ : List.set _ (H.length + 2) _ = Z
  have z0' : Z[H.length]? = some (.cells [vo] 26 .rw) := by rw [← hZ, List.getElem?_set_ne (by omega), List.getElem?_set_ne (by omega), List.getElem?_set_self (lt_of_get d0)]
  have z1' : Z[H.length + 1]? = some (.cells [.int .i64 0, .int .i64 0] 38 .rw) := by rw [← hZ, List.getElem?_set_ne (by omega), List.getElem?_set_self (by simpa using lt_of_get d1)]
  have z2' : Z[H.length + 2]? = some (.cells [.int .i64 0] 39 .rw) := by rw [← hZ, List.getElem?_set_self (by simpa using lt_of_get d2)]
  have zh : ∀ (j : Nat) x, H[j]? = some x → Z[j]? = some x := fun j x h => by
   have := lt_of_get h
   rw [← hZ, List.getElem?_set_ne (by omega), List.getElem?_set_ne (by omega), List.getElem?_set_ne (by omega)]
   exact hfm j x (by omega) (by rw [hX, hH3, List.append_assoc]; exact get_app h)
  have zo : Ob H.length Z vo rs := Ob.dn (hob.fr (fun j x h1 h2 => by rw [← hZ, List.getElem?_set_ne (by omega), List.getElem?_set_ne (by omega), List.getElem?_set_ne (by omega)]; exact h2)) (by omega)
  have zl : H.length ≤ Z.length := by have := lt_of_get z2'; omega
  refine par_catch0 (a := H.length) ?_
  have za : ∀ (j : Nat) x (y : ABlk), Z[j]? = some x → (Z ++ [y])[j]? = some x := fun j x y h => get_app h
  rw [dfK_ap]
  simp only [go_sem, simprocAttr, sl, s6, s7, s8, za _ _ _ z0', za _ _ _ z1', za _ _ _ z2']
  have hcf : clean H.length (eZ.and ⟨none, some Z.length⟩) := clean_and heZc (clean_w zl)
  rw [hpar3]
  refine ⟨vo, ?_⟩
  obtain ⟨rfl, rfl⟩ | ⟨hp, i', hi', rfl, hx'⟩ := zo
  ·rw [leave_abs rfl hcf (fun j x h => za _ _ _ (zh j x h))]
   exact ⟨H, rfl, Nat.le_refl _, fun _ _ h => h, .inl ⟨rfl, rfl⟩⟩
  ·rw [leave_keep rfl hcf]
   exact ⟨_, rfl, by simp; omega, fun j x h => za _ _ _ (zh j x h), .inr ⟨hp, i', hi', rfl, za _ _ _ hx'⟩⟩
end Go.Proofs.YtdppgaphcmhffaaGreatDoor.V
namespace Go.Proofs.YtdppgaphcmhffaaGreatDoor.V
open Go

structure Ln where
 how : Nat
 own : Nat
 ttl : Nat
 tm : Bool
 cs : Bool
 bh : Bool
def Ln.c (x : Ln) : UInt8 := UInt8.ofNat (97 + x.own % 5)
def Ln.rest (x : Ln) : List UInt8 := (if x.cs = true ∧ x.bh = false then [32, 73, 110] else []) ++ (if x.tm = true then 32 :: decP x.ttl else []) ++ (if x.cs = true ∧ x.bh = true then [9, 73, 78] else []) ++ [32, 110, 115, 32, 40, 10, 32, 110, 32, 41, 10]
structure HS where
 text : List UInt8
 o : List UInt8
 ow : List UInt8
 h : Nat
 fx : Bool
 want : List Rcd
def Ln.pre (x : Ln) : List UInt8 := if x.how % 6 = 2 then [64] else if x.how % 6 = 3 then [x.c, 46, 113, 46] else if x.how % 6 = 4 then [x.c] else []
def Ln.ow (x : Ln) (o ow : List UInt8) : List UInt8 := if x.how % 6 = 2 then o else if x.how % 6 = 3 then [1, x.c, 1, 113, 0] else if x.how % 6 = 4 then 1 :: x.c :: o else ow
def hStep (S : HS) (x : Ln) : HS :=
 if x.how % 6 = 0 then { S with text := S.text ++ ([36, 79, 114, 105, 103, 105, 110, 32] ++ [x.c] ++ [46, 10]), o := [1, x.c, 0] }
 else if x.how % 6 = 1 then { S with text := S.text ++ ([36, 84, 84, 76, 32] ++ decP x.ttl ++ [32, 59, 32, 120, 10]), h := x.ttl, fx := true }
 else if x.ow S.o S.ow = [] then S
 else { S with text := S.text ++ (x.pre ++ x.rest), ow := x.ow S.o S.ow, h := if x.tm = true ∧ S.fx = false then x.ttl else S.h, want := S.want ++ [⟨x.ow S.o S.ow, 2, if x.tm = true then x.ttl else S.h, { Dt.zero with host := 1 :: 110 :: S.o }⟩] }
def hS0 (n : Nat) : HS := ⟨[], [1, 122, 0], [], n, false, []⟩
def hAll (n : Nat) (l : List Ln) : HS := l.foldl hStep (hS0 n)

def keys (ws : List Wd) : List (List UInt8 × Bool) := ws.map fun w => (w.t, w.q)
def rk (x : Ln) : List (List UInt8 × Bool) := (if x.cs = true ∧ x.bh = false then [([73, 110], false)] else []) ++ (if x.tm = true then [(decP x.ttl, false)] else []) ++ (if x.cs = true ∧ x.bh = true then [([73, 78], false)] else []) ++ [([110, 115], false), ([110], false)]
theorem dec_plain (n : Nat) : plainW (decP n) = true := by
 unfold plainW
 rw [List.all_eq_true]
 intro c hc
 have := decP_dig n c hc
 have hs : ∀ k : UInt8, k.toNat < 48 ∨ 57 < k.toNat → (c == k) = false := fun k hk => by rw [beq_eq_false_iff_ne]; rintro rfl; omega
 simp only [isSt, isBl, hs 32 (by decide), hs 9 (by decide), hs 13 (by decide), hs 10 (by decide), hs 59 (by decide), hs 40 (by decide), hs 41 (by decide), hs 34 (by decide), hs 92 (by decide)]
 rfl
theorem tk_w (w r : List UInt8) (ln cl : Nat) (op : List (Nat × Nat)) (cur : Option En) (out : List En) (hw : plainW w = true) (hp : 0 < w.length) (hr : ∀ c, r.head? = some c → isSt c = true) :
  ∃ cl', tk (w ++ r) ln cl op cur out = tk r ln cl' op (some { cur.getD ⟨false, ln, []⟩ with ws := (cur.getD ⟨false, ln, []⟩).ws ++ [⟨w, false, ln, cl⟩] }) out := by
 cases w with
 | nil => cases hp
 | cons c w => exact ⟨_, tk_word c w r ln cl op cur out hw hr⟩
theorem tk_bw (b : UInt8) (w r : List UInt8) (ln cl : Nat) (op : List (Nat × Nat)) (x : En) (out : List En) (hb : isBl b = true) (hw : plainW w = true) (hp : 0 < w.length) (hr : ∀ c, r.head? = some c → isSt c = true) :
  ∃ cl' wd, wd.t = w ∧ wd.q = false ∧ tk (b :: (w ++ r)) ln cl op (some x) out = tk r ln cl' op (some { x with ws := x.ws ++ [wd] }) out := by
 rw [tk_bl _ _ _ _ _ _ _ hb]
 obtain ⟨cl', h⟩ := tk_w w r ln (cl + 1) op (some x) out hw hp hr
 exact ⟨cl', ⟨w, false, ln, ((cl + 1 : Nat) : Int)⟩, rfl, rfl, h⟩
theorem tk_rest (x : Ln) (r : List UInt8) (ln cl : Nat) (en : En) (out : List En) : ∃ en', en'.bl = en.bl ∧ keys en'.ws = keys en.ws ++ rk x ∧ tk (x.rest ++ r) ln cl [] (some en) out = tk r (ln + 2) 1 [] none (out ++ [en']) := by
 have hst : ∀ (c : UInt8) (y : List UInt8), isSt c = true → ∀ d, (c :: y).head? = some d → isSt d = true := fun c y h d hd => by cases hd; exact h
 -- the end
 have fin : ∀ (cl : Nat) (en : En), ∃ en', en'.bl = en.bl ∧ keys en'.ws = keys en.ws ++ [([110, 115], false), ([110], false)] ∧ tk ([32, 110, 115, 32, 40, 10, 32, 110, 32, 41, 10] ++ r) ln cl [] (some en) out = tk r (ln + 2) 1 [] none (out ++ [en']) := by
  intro cl en
  obtain ⟨c1, w1, a1, a2, e1⟩ := tk_bw 32 [110, 115] (32 :: 40 :: 10 :: 32 :: 110 :: 32 :: 41 :: 10 :: r) ln cl [] en out rfl rfl (by decide) (hst _ _ rfl)
  have e1' : tk ([32, 110, 115, 32, 40, 10, 32, 110, 32, 41, 10] ++ r) ln cl [] (some en) out = _ := e1
  rw [e1', tk_bl _ _ _ _ _ _ _ rfl, tk_op, tk_nl1 _ _ _ _ _ _ (by simp)]
  obtain ⟨c2, w2, b1, b2, e2⟩ := tk_bw 32 [110] (32 :: 41 :: 10 :: r) (ln + 1) 1 [(ln, c1 + 1)] { en with ws := en.ws ++ [w1] } out rfl rfl (by decide) (hst _ _ rfl)
  have e2' : tk (32 :: 110 :: 32 :: 41 :: 10 :: r) (ln + 1) 1 [(ln, c1 + 1)] (some { en with ws := en.ws ++ [w1] }) out = _ := e2
  refine ⟨{ en with ws := en.ws ++ [w1] ++ [w2] }, rfl, ?_, ?_⟩
  ·simp [keys, a1, a2, b1, b2]
  ·show tk (32 :: 110 :: 32 :: 41 :: 10 :: r) (ln + 1) 1 [(ln, c1 + 1)] (some { en with ws := en.ws ++ [w1] }) out = _
   rw [e2', tk_bl _ _ _ _ _ _ _ rfl, tk_cl _ _ _ _ _ _ (by simp)]
   show tk (10 :: r) (ln + 1) _ [] _ out = _
   rw [tk_nl0]
   simp [shut]
 have part : ∀ (on : Prop) [Decidable on] (b : UInt8) (w y : List UInt8) (cl : Nat) (en : En), isBl b = true → plainW w = true → 0 < w.length → (∀ c, y.head? = some c → isSt c = true) →
   ∃ cl' en', en'.bl = en.bl ∧ keys en'.ws = keys en.ws ++ (if on then [(w, false)] else []) ∧ tk ((if on then b :: w else []) ++ y) ln cl [] (some en) out = tk y ln cl' [] (some en') out := by
  intro on _ b w y cl en hb hw hp hy
  by_cases h : on
  ·rw [if_pos h, if_pos h]
   obtain ⟨c1, w1, a1, a2, e1⟩ := tk_bw b w y ln cl [] en out hb hw hp hy
   exact ⟨c1, { en with ws := en.ws ++ [w1] }, rfl, by simp [keys, a1, a2], e1⟩
  ·rw [if_neg h, if_neg h]
   exact ⟨cl, en, rfl, by simp, rfl⟩
 have hdec : 0 < (decP x.ttl).length := decP_pos _
 have hf : ∀ c, (([32, 110, 115, 32, 40, 10, 32, 110, 32, 41, 10] : List UInt8) ++ r).head? = some c → isSt c = true := hst _ _ rfl
 have h3 : ∀ c, ((if x.cs = true ∧ x.bh = true then [9, 73, 78] else []) ++ (([32, 110, 115, 32, 40, 10, 32, 110, 32, 41, 10] : List UInt8) ++ r)).head? = some c → isSt c = true := by
  split
  ·exact hst _ _ rfl
  ·exact hf
 have h2 : ∀ c, ((if x.tm = true then 32 :: decP x.ttl else []) ++ ((if x.cs = true ∧ x.bh = true then [9, 73, 78] else []) ++ (([32, 110, 115, 32, 40, 10, 32, 110, 32, 41, 10] : List UInt8) ++ r))).head? = some c → isSt c = true := by
  split
  ·exact hst _ _ rfl
  ·exact h3
 obtain ⟨c1, e1, a1, b1, t1⟩ := part (x.cs = true ∧ x.bh = false) 32 [73, 110] _ cl en rfl rfl (by decide) h2
 obtain ⟨c2, e2, a2, b2, t2⟩ := part (x.tm = true) 32 (decP x.ttl) _ c1 e1 rfl (dec_plain _) hdec h3
 obtain ⟨c3, e3, a3, b3, t3⟩ := part (x.cs = true ∧ x.bh = true) 9 [73, 78] _ c2 e2 rfl rfl (by decide) hf
 obtain ⟨e4, a4, b4, t4⟩ := fin c3 e3
 refine ⟨e4, by rw [a4, a3, a2, a1], ?_, ?_⟩
 ·rw [b4, b3, b2, b1]; unfold rk; simp only [List.append_assoc]
 ·unfold Ln.rest
  simp only [List.append_assoc] at t1 t2 t3 t4 ⊢
  rw [t1, t2, t3, t4]
def ek (x : Ln) : Bool × List (List UInt8 × Bool) :=
 if x.how % 6 = 0 then (false, [([36, 79, 114, 105, 103, 105, 110], false), ([x.c, 46], false)])
 else if x.how % 6 = 1 then (false, [([36, 84, 84, 76], false), (decP x.ttl, false)])
 else (decide (x.how % 6 = 5), (if x.how % 6 = 5 then [] else [(x.pre, false)]) ++ rk x)
def lt (x : Ln) : List UInt8 :=
 if x.how % 6 = 0 then [36, 79, 114, 105, 103, 105, 110, 32] ++ [x.c] ++ [46, 10]
 else if x.how % 6 = 1 then [36, 84, 84, 76, 32] ++ decP x.ttl ++ [32, 59, 32, 120, 10]
 else x.pre ++ x.rest
theorem c_cases (x : Ln) : x.c = 97 ∨ x.c = 98 ∨ x.c = 99 ∨ x.c = 100 ∨ x.c = 101 := by
 unfold Ln.c
 have : x.own % 5 = 0 ∨ x.own % 5 = 1 ∨ x.own % 5 = 2 ∨ x.own % 5 = 3 ∨ x.own % 5 = 4 := by omega
 rcases this with h | h | h | h | h <;> rw [h] <;> decide
theorem rest_hd (x : Ln) (r : List UInt8) : ∀ c, (x.rest ++ r).head? = some c → isSt c = true := by
 intro c h
 revert h
 unfold Ln.rest
 cases x.cs <;> cases x.bh <;> cases x.tm <;> (intro h; cases h; rfl)
theorem rest_bl (x : Ln) : ∃ b y, x.rest = b :: y ∧ isBl b = true := by
 unfold Ln.rest
 cases x.cs <;> cases x.bh <;> cases x.tm <;> exact ⟨_, _, rfl, rfl⟩
theorem tk_line (x : Ln) (r : List UInt8) (ln : Nat) (out : List En) : ∃ ln' en, en.bl = (ek x).1 ∧ keys en.ws = (ek x).2 ∧ tk (lt x ++ r) ln 1 [] none out = tk r ln' 1 [] none (out ++ [en]) := by
 have hst : ∀ (c : UInt8) (y : List UInt8), isSt c = true → ∀ d, (c :: y).head? = some d → isSt d = true := fun c y h d hd => by cases hd; exact h
 unfold ek lt
 by_cases h0 : x.how % 6 = 0
 ·rw [if_pos h0, if_pos h0]
  have hpl : plainW [x.c, 46] = true := by rcases c_cases x with h | h | h | h | h <;> rw [h] <;> rfl
  obtain ⟨c1, e1⟩ := tk_w [36, 79, 114, 105, 103, 105, 110] (32 :: ([x.c, 46] ++ 10 :: r)) ln 1 [] none out rfl (by decide) (hst _ _ rfl)
  obtain ⟨c2, w2, a2, b2, e2⟩ := tk_bw 32 [x.c, 46] (10 :: r) ln c1 [] (⟨false, ln, [⟨[36, 79, 114, 105, 103, 105, 110], false, ln, (1 : Nat)⟩]⟩) out rfl hpl (by simp) (hst _ _ rfl)
  refine ⟨ln + 1, ⟨false, ln, [⟨[36, 79, 114, 105, 103, 105, 110], false, ln, (1 : Nat)⟩, w2]⟩, rfl, by simp [keys, a2, b2], ?_⟩
  have e1' : tk ([36, 79, 114, 105, 103, 105, 110, 32] ++ [x.c] ++ [46, 10] ++ r) ln 1 [] none out = _ := e1
  rw [e1']
  have e2' : tk (32 :: ([x.c, 46] ++ 10 :: r)) ln c1 [] (some { (none : Option En).getD ⟨false, ln, []⟩ with ws := ((none : Option En).getD ⟨false, ln, []⟩).ws ++ [⟨[36, 79, 114, 105, 103, 105, 110], false, ln, (1 : Nat)⟩] }) out = _ := e2
  rw [e2', tk_nl0]
  simp [shut]
 by_cases h1 : x.how % 6 = 1
 ·rw [if_neg h0, if_pos h1, if_neg h0, if_pos h1]
  obtain ⟨c1, e1⟩ := tk_w [36, 84, 84, 76] (32 :: (decP x.ttl ++ (32 :: 59 :: 32 :: 120 :: 10 :: r))) ln 1 [] none out rfl (by decide) (hst _ _ rfl)
  obtain ⟨c2, w2, a2, b2, e2⟩ := tk_bw 32 (decP x.ttl) (32 :: 59 :: 32 :: 120 :: 10 :: r) ln c1 [] (⟨false, ln, [⟨[36, 84, 84, 76], false, ln, (1 : Nat)⟩]⟩) out rfl (dec_plain _) (decP_pos _) (hst _ _ rfl)
  refine ⟨ln + 1, ⟨false, ln, [⟨[36, 84, 84, 76], false, ln, (1 : Nat)⟩, w2]⟩, rfl, by simp [keys, a2, b2], ?_⟩
  have e1' : ([36, 84, 84, 76, 32] ++ decP x.ttl ++ [32, 59, 32, 120, 10] ++ r) = [36, 84, 84, 76] ++ (32 :: (decP x.ttl ++ (32 :: 59 :: 32 :: 120 :: 10 :: r))) := by simp
  rw [e1', e1]
  have e2' : tk (32 :: (decP x.ttl ++ (32 :: 59 :: 32 :: 120 :: 10 :: r))) ln c1 [] (some { (none : Option En).getD ⟨false, ln, []⟩ with ws := ((none : Option En).getD ⟨false, ln, []⟩).ws ++ [⟨[36, 84, 84, 76], false, ln, (1 : Nat)⟩] }) out = _ := e2
  rw [e2', tk_bl _ _ _ _ _ _ _ rfl, tk_rem]
  have hr : remS (32 :: 120 :: 10 :: r) = 10 :: r := by simp [remS]
  rw [hr, tk_nl0]
  simp [shut]
 rw [if_neg h0, if_neg h1, if_neg h0, if_neg h1]
 by_cases h5 : x.how % 6 = 5
 ·have hp : x.pre = [] := by unfold Ln.pre; rw [if_neg (by omega), if_neg (by omega), if_neg (by omega)]
  obtain ⟨b, y, hr, hb⟩ := rest_bl x
  obtain ⟨e1, a1, b1, t1⟩ := tk_rest x r ln 1 ⟨true, ln, []⟩ out
  refine ⟨ln + 2, e1, by rw [a1]; simp [h5], by rw [b1]; simp [h5, keys], ?_⟩
  rw [hp, ← t1, List.nil_append, hr, List.cons_append, tk_bl _ _ _ _ _ _ _ hb, tk_bl _ _ _ _ _ _ _ hb]
  rfl
 ·have hpl : plainW x.pre = true ∧ 0 < x.pre.length := by
   have hc := c_cases x
   unfold Ln.pre
   split
   ·exact ⟨rfl, by decide⟩
   split
   ·rcases hc with h | h | h | h | h <;> rw [h] <;> exact ⟨rfl, by decide⟩
   split
   ·rcases hc with h | h | h | h | h <;> rw [h] <;> exact ⟨rfl, by decide⟩
   ·omega
  obtain ⟨c1, e1⟩ := tk_w x.pre (x.rest ++ r) ln 1 [] none out hpl.1 hpl.2 (rest_hd x r)
  obtain ⟨e2, a2, b2, t2⟩ := tk_rest x r ln c1 ⟨false, ln, [⟨x.pre, false, ln, (1 : Nat)⟩]⟩ out
  refine ⟨ln + 2, e2, by rw [a2]; simp [h5], by rw [b2]; simp [h5, keys], ?_⟩
  rw [List.append_assoc, e1]
  exact t2

def rdH (o : List UInt8) (t : Nat) (r : List Wd) : Option Dt :=
 match r with
 | [w] => if w.q = true then none
  else if t = 2 ∧ w.t = [110] ∧ (nameS [110] o).2 = 0 then some { Dt.zero with host := (nameS [110] o).1 }
  else if t = 2 ∧ w.t = [87] ∧ (nameS [87] o).2 = 0 then some { Dt.zero with host := (nameS [87] o).1 }
  else if t = 1 ∧ w.t = [49, 46, 49, 46, 49, 46, 49] then some { Dt.zero with raw := [1, 1, 1, 1] }
  else none
 | _ => none
def oOk (o : List UInt8) : Prop := ∃ d : UInt8, o = [1, d, 0] ∧ (d = 122 ∨ d = 97 ∨ d = 98 ∨ d = 99 ∨ d = 100 ∨ d = 101)
theorem keys_nil {l : List Wd} (h : keys l = []) : l = [] := List.map_eq_nil_iff.1 h
theorem keys_cons {l : List Wd} {t : List UInt8} {q : Bool} {r : List (List UInt8 × Bool)} (h : keys l = (t, q) :: r) : ∃ w l', l = w :: l' ∧ w.t = t ∧ w.q = q ∧ keys l' = r := by
 obtain ⟨w, l', rfl, h1, h2⟩ := List.map_eq_cons_iff.1 h
 cases h1
 exact ⟨w, l', rfl, rfl, rfl, h2⟩
theorem numW_w {w : Wd} (hq : w.q = false) : numW w = numS w.t 4294967295 := by unfold numW; rw [hq]; rfl
theorem keys_opt {on : Prop} [Decidable on] {l : List Wd} {t : List UInt8} {K : List (List UInt8 × Bool)} (h : keys l = (if on then [(t, false)] else []) ++ K) : ∃ l', keys l' = K ∧ (on → ∃ w, l = w :: l' ∧ w.t = t ∧ w.q = false) ∧ (¬ on → l = l') := by
 by_cases ho : on
 ·rw [if_pos ho] at h
  obtain ⟨w, l', rfl, h1, h2, h3⟩ := keys_cons h
  exact ⟨l', h3, fun _ => ⟨w, rfl, h1, h2⟩, fun hn => absurd ho hn⟩
 ·rw [if_neg ho] at h
  exact ⟨l, h, fun hn => absurd hn ho, fun _ => rfl⟩
theorem head_in {w : Wd} {r : List Wd} {tm : Bool} {tt : Nat} (hq : w.q = false) (hn : numS w.t 4294967295 = none) (hl : lowS w.t = [105, 110]) : headS (w :: r) tm false tt = headS r tm true tt := by
 simp only [headS, numW_w hq, hn]
 rw [if_neg (by simp), if_pos ⟨hq, trivial, hl⟩]
theorem head_num {w : Wd} {r : List Wd} {cs : Bool} {tt n : Nat} (hq : w.q = false) (hn : numS w.t 4294967295 = some n) (hl : n ≤ 2147483647) : headS (w :: r) false cs tt = headS r true cs n := by
 simp only [headS, numW_w hq, hn, Option.getD_some]
 rw [if_pos ⟨rfl, trivial⟩, if_neg (by omega)]
theorem head_ns {w : Wd} {r : List Wd} {tm cs : Bool} {tt : Nat} (hq : w.q = false) (hw : w.t = [110, 115]) : headS (w :: r) tm cs tt = .ok (w :: r, tm, tt) := by
 have n3 : numS [110, 115] 4294967295 = none := by decide
 have l3 : lowS [110, 115] = [110, 115] := by decide
 simp only [headS, numW_w hq, hw, n3, l3]
 rw [if_neg (by simp), if_neg (by rintro ⟨_, _, h⟩; revert h; decide), if_neg (by rintro ⟨_, _, h⟩; revert h; decide)]
theorem head_rk (x : Ln) (hx : x.ttl ≤ 65535) (l : List Wd) (h : keys l = rk x) : ∃ w1 w2, w1.t = [110, 115] ∧ w1.q = false ∧ w2.t = [110] ∧ w2.q = false ∧ headS l false false 0 = .ok ([w1, w2], x.tm, if x.tm = true then x.ttl else 0) := by
 have hd : numS (decP x.ttl) 4294967295 = some x.ttl := numS_decP (by omega) (by decide)
 have n1 : numS [73, 110] 4294967295 = none := by decide
 have n2 : numS [73, 78] 4294967295 = none := by decide
 have l1 : lowS [73, 110] = [105, 110] := by decide
 have l2 : lowS [73, 78] = [105, 110] := by decide
 unfold rk at h
 simp only [List.append_assoc] at h
 obtain ⟨la, ka, a1, a2⟩ := keys_opt h
 obtain ⟨lb, kb, b1, b2⟩ := keys_opt ka
 obtain ⟨lc, kc, c1, c2⟩ := keys_opt kb
 obtain ⟨w1, l3, rfl, d1, d2, k3⟩ := keys_cons kc
 obtain ⟨w2, l4, rfl, e1, e2, k4⟩ := keys_cons k3
 obtain rfl := keys_nil k4
 refine ⟨w1, w2, d1, d2, e1, e2, ?_⟩
 have fin : ∀ (tm cs : Bool) (tt : Nat), headS [w1, w2] tm cs tt = .ok ([w1, w2], tm, tt) := fun tm cs tt => head_ns d2 d1
 have num : ∀ (cs : Bool) (tt : Nat), headS la false cs tt = headS lb x.tm cs (if x.tm = true then x.ttl else tt) := by
  intro cs tt
  by_cases htm : x.tm = true
  ·obtain ⟨w, rfl, t1, t2⟩ := b1 htm
   rw [head_num t2 (by rw [t1]; exact hd) (by omega), htm, if_pos rfl]
  ·rw [b2 htm, if_neg htm]
   have : x.tm = false := by simpa using htm
   rw [this]
 by_cases hA : x.cs = true ∧ x.bh = false
 ·obtain ⟨w, rfl, t1, t2⟩ := a1 hA
  have hC : ¬ (x.cs = true ∧ x.bh = true) := by rintro ⟨_, h⟩; rw [hA.2] at h; cases h
  rw [head_in t2 (by rw [t1]; exact n1) (by rw [t1]; exact l1), num, c2 hC, fin]
 ·rw [a2 hA, num]
  by_cases hC : x.cs = true ∧ x.bh = true
  ·obtain ⟨w, rfl, t1, t2⟩ := c1 hC
   rw [head_in t2 (by rw [t1]; exact n2) (by rw [t1]; exact l2), fin]
  ·rw [c2 hC, fin]

theorem nm_o {o : List UInt8} (h : oOk o) : (nm o).isSome = true ∧ o.length = 3 := by
 obtain ⟨d, rfl, hd⟩ := h
 rcases hd with rfl | rfl | rfl | rfl | rfl | rfl <;> exact ⟨by kernel_rfl, rfl⟩
theorem nN0 {c : UInt8} (hc : c = 97 ∨ c = 98 ∨ c = 99 ∨ c = 100 ∨ c = 101) {o : List UInt8} (h : oOk o) : nameS [c, 46] o = ([1, c, 0], 0) := by
 obtain ⟨d, rfl, hd⟩ := h
 rcases hd with rfl | rfl | rfl | rfl | rfl | rfl <;> rcases hc with rfl | rfl | rfl | rfl | rfl <;> kernel_rfl
theorem nN3 {c : UInt8} (hc : c = 97 ∨ c = 98 ∨ c = 99 ∨ c = 100 ∨ c = 101) {o : List UInt8} (h : oOk o) : nameS [c, 46, 113, 46] o = ([1, c, 1, 113, 0], 0) := by
 obtain ⟨d, rfl, hd⟩ := h
 rcases hd with rfl | rfl | rfl | rfl | rfl | rfl <;> rcases hc with rfl | rfl | rfl | rfl | rfl <;> kernel_rfl
theorem nN4 {c : UInt8} (hc : c = 97 ∨ c = 98 ∨ c = 99 ∨ c = 100 ∨ c = 101 ∨ c = 110) {o : List UInt8} (h : oOk o) : nameS [c] o = (1 :: c :: o, 0) := by
 obtain ⟨d, rfl, hd⟩ := h
 rcases hd with rfl | rfl | rfl | rfl | rfl | rfl <;> rcases hc with rfl | rfl | rfl | rfl | rfl | rfl <;> kernel_rfl
theorem low_c {c : UInt8} (hc : c = 97 ∨ c = 98 ∨ c = 99 ∨ c = 100 ∨ c = 101 ∨ c = 110) : lowB c = c := by
 rcases hc with rfl | rfl | rfl | rfl | rfl | rfl <;> rfl
theorem low_o {o : List UInt8} (h : oOk o) : lowS o = o := by
 obtain ⟨d, rfl, hd⟩ := h
 rcases hd with rfl | rfl | rfl | rfl | rfl | rfl <;> rfl
theorem ow_ok (x : Ln) {o : List UInt8} (h : oOk o) (ow : List UInt8) (w : Wd) (hq : w.q = false) (hw : w.t = x.pre) (h2 : x.how % 6 = 2 ∨ x.how % 6 = 3 ∨ x.how % 6 = 4) : namW w o = (x.ow o ow, true) := by
 have hc := c_cases x
 unfold namW
 rw [hq, hw, if_neg Bool.false_ne_true]
 rcases h2 with h2 | h2 | h2
 ·have hp : x.pre = [64] := by unfold Ln.pre; rw [if_pos h2]
  have ho : x.ow o ow = o := by unfold Ln.ow; rw [if_pos h2]
  rw [hp, ho, if_pos rfl]
 ·have hp : x.pre = [x.c, 46, 113, 46] := by unfold Ln.pre; rw [if_neg (by omega), if_pos h2]
  have ho : x.ow o ow = [1, x.c, 1, 113, 0] := by unfold Ln.ow; rw [if_neg (by omega), if_pos h2]
  have : lowS [1, x.c, 1, 113, 0] = [1, x.c, 1, 113, 0] := by rcases hc with h | h | h | h | h <;> rw [h] <;> rfl
  rw [hp, ho, if_neg (by simp), nN3 hc h]
  simp only [this]; rfl
 ·have h64 : x.c ≠ 64 := by rcases hc with h | h | h | h | h <;> rw [h] <;> decide
  have hp : x.pre = [x.c] := by unfold Ln.pre; rw [if_neg (by omega), if_neg (by omega), if_pos h2]
  have ho : x.ow o ow = 1 :: x.c :: o := by unfold Ln.ow; rw [if_neg (by omega), if_neg (by omega), if_pos h2]
  have hc6 : x.c = 97 ∨ x.c = 98 ∨ x.c = 99 ∨ x.c = 100 ∨ x.c = 101 ∨ x.c = 110 := by rcases hc with h | h | h | h | h <;> simp [h]
  have : lowS (1 :: x.c :: o) = 1 :: x.c :: o := by
   show lowB 1 :: lowB x.c :: lowS o = _
   rw [low_o h, low_c hc6]; rfl
  rw [hp, ho, if_neg (by simpa using h64), nN4 hc6 h]
  simp only [this]; rfl
theorem fold_n {o : List UInt8} (h : oOk o) : foldD 2 { Dt.zero with host := (nameS [110] o).1 } = { Dt.zero with host := 1 :: 110 :: o } := by
 obtain ⟨d, rfl, hd⟩ := h
 rcases hd with rfl | rfl | rfl | rfl | rfl | rfl <;> kernel_rfl
structure HI (S : HS) : Prop where
 o : oOk S.o
 h : S.h ≤ 65535
theorem par_line (x : Ln) (S : HS) (hS : HI S) (hx : x.ttl ≤ 65535) (hsk : x.how % 6 = 0 ∨ x.how % 6 = 1 ∨ x.ow S.o S.ow ≠ []) (hm : S.want.length < 4096) (en : En) (es : List En) (he : en.bl = (ek x).1) (hk : keys en.ws = (ek x).2) :
  parS rdH (en :: es) S.o S.ow S.h (decide (S.ow ≠ [])) S.fx S.want = parS rdH es (hStep S x).o (hStep S x).ow (hStep S x).h (decide ((hStep S x).ow ≠ [])) (hStep S x).fx (hStep S x).want := by
 have hc := c_cases x
 have hd : numS (decP x.ttl) 4294967295 = some x.ttl := numS_decP (by omega) (by decide)
 unfold ek at he hk
 by_cases h0 : x.how % 6 = 0
 ·rw [if_pos h0] at he hk
  obtain ⟨w1, l1, e1, a1, b1, k1⟩ := keys_cons hk
  obtain ⟨w2, l2, rfl, a2, b2, k2⟩ := keys_cons k1
  obtain rfl := keys_nil k2
  have hn : namW w2 S.o = ([1, x.c, 0], true) := by
   unfold namW
   rw [b2, a2, if_neg Bool.false_ne_true, if_neg (by simp), nN0 hc hS.o]
   have : lowS [1, x.c, 0] = [1, x.c, 0] := by rcases hc with h | h | h | h | h <;> rw [h] <;> rfl
   simp only [this]; rfl
  have hlow : lowS w1.t = oriT := by rw [a1]; rfl
  have hst : hStep S x = { S with text := S.text ++ ([36, 79, 114, 105, 103, 105, 110, 32] ++ [x.c] ++ [46, 10]), o := [1, x.c, 0] } := by unfold hStep; rw [if_pos h0]
  rw [hst]
  simp only [parS, e1]
  rw [if_pos ⟨he, b1, by rw [a1]; rfl⟩]
  simp only [dirS, hlow, if_true, hn]
 by_cases h1 : x.how % 6 = 1
 ·rw [if_neg h0, if_pos h1] at he hk
  obtain ⟨w1, l1, e1, a1, b1, k1⟩ := keys_cons hk
  obtain ⟨w2, l2, rfl, a2, b2, k2⟩ := keys_cons k1
  obtain rfl := keys_nil k2
  have hlow : lowS w1.t = ttlT := by rw [a1]; rfl
  have hst : hStep S x = { S with text := S.text ++ ([36, 84, 84, 76, 32] ++ decP x.ttl ++ [32, 59, 32, 120, 10]), h := x.ttl, fx := true } := by unfold hStep; rw [if_neg h0, if_pos h1]
  rw [hst]
  simp only [parS, e1]
  rw [if_pos ⟨he, b1, by rw [a1]; rfl⟩]
  simp only [dirS, hlow]
  rw [if_neg (by decide), if_pos trivial, numW_w b2, a2, hd]
  simp only []
  rw [if_pos (by omega)]
 rw [if_neg h0, if_neg h1] at he hk
 have how : x.ow S.o S.ow ≠ [] := by rcases hsk with h | h | h; exact absurd h h0; exact absurd h h1; exact h
 have hst : hStep S x = { S with text := S.text ++ (x.pre ++ x.rest), ow := x.ow S.o S.ow, h := if x.tm = true ∧ S.fx = false then x.ttl else S.h, want := S.want ++ [⟨x.ow S.o S.ow, 2, if x.tm = true then x.ttl else S.h, { Dt.zero with host := 1 :: 110 :: S.o }⟩] } := by
  unfold hStep; rw [if_neg h0, if_neg h1, if_neg how]
 rw [hst]
 have hty : tyO (lowS [110, 115]) = some 2 := by decide
 by_cases h5 : x.how % 6 = 5
 ·have hbl : en.bl = true := by rw [he]; simpa using h5
  rw [if_pos h5, List.nil_append] at hk
  have how5 : x.ow S.o S.ow = S.ow := by unfold Ln.ow; rw [if_neg (by omega), if_neg (by omega), if_neg (by omega)]
  rw [how5] at how ⊢
  obtain ⟨w1, w2, d1, d2, e1, e2, hh⟩ := head_rk x hx _ hk
  have hne : ∃ w ws, en.ws = w :: ws := by
   cases hw : en.ws with
   | nil => rw [hw] at hh; simp only [headS] at hh; cases hh
   | cons w ws => exact ⟨w, ws, rfl⟩
  obtain ⟨w, ws, hw⟩ := hne
  rw [hw] at hh
  have hrec : recS (rdH S.o) S.o S.ow S.h (decide (S.ow ≠ [])) S.fx S.want.length true w ws = .ok (⟨S.ow, 2, if x.tm = true then x.ttl else S.h, { Dt.zero with host := 1 :: 110 :: S.o }⟩, S.ow, if x.tm = true ∧ S.fx = false then x.ttl else S.h) := by
   unfold recS
   rw [if_neg (by omega), if_neg (by simp), if_neg (by simpa using how)]
   simp only [↓reduceIte, hh, d2, Bool.false_eq_true, d1, hty]
   have hr : rdH S.o 2 [w2] = some { Dt.zero with host := (nameS [110] S.o).1 } := by
    have h0 : (nameS [110] S.o).2 = 0 := by rw [nN4 (by simp) hS.o]
    unfold rdH; simp [e1, e2, h0]
   rw [hr]
   have hf := fold_n hS.o
   simp only [if_true]
   show Except.ok ((⟨S.ow, 2, _, foldD ((2 : Nat) : Int) _⟩ : Rcd), _, _) = _
   rw [show ((2 : Nat) : Int) = 2 from rfl, hf]
   cases x.tm <;> simp
  simp only [parS, hw, hbl]
  rw [if_neg (by simp), hrec]
  simp [how]
 ·have hbl : en.bl = false := by rw [he]; simpa using h5
  rw [if_neg h5] at hk
  obtain ⟨w, ws, hw, a1, b1, k1⟩ := keys_cons hk
  obtain ⟨w1, w2, d1, d2, e1, e2, hh⟩ := head_rk x hx _ k1
  have hn := ow_ok x hS.o S.ow w b1 a1 (by omega)
  have h36 : w.t.head? ≠ some 36 := by
   rw [a1]
   unfold Ln.pre
   have : x.how % 6 = 2 ∨ x.how % 6 = 3 ∨ x.how % 6 = 4 := by omega
   rcases this with h | h | h
   ·rw [if_pos h]; decide
   ·rw [if_neg (by omega), if_pos h]; rcases hc with h | h | h | h | h <;> rw [h] <;> decide
   ·rw [if_neg (by omega), if_neg (by omega), if_pos h]; rcases hc with h | h | h | h | h <;> rw [h] <;> decide
  have hrec : recS (rdH S.o) S.o S.ow S.h (decide (S.ow ≠ [])) S.fx S.want.length false w ws = .ok (⟨x.ow S.o S.ow, 2, if x.tm = true then x.ttl else S.h, { Dt.zero with host := 1 :: 110 :: S.o }⟩, x.ow S.o S.ow, if x.tm = true ∧ S.fx = false then x.ttl else S.h) := by
   unfold recS
   rw [if_neg (by omega), if_neg (by rw [hn]; simp), if_neg (by simp)]
   simp only [↓reduceIte, hh, d2, Bool.false_eq_true, d1, hty]
   have hr : rdH S.o 2 [w2] = some { Dt.zero with host := (nameS [110] S.o).1 } := by
    have h0 : (nameS [110] S.o).2 = 0 := by rw [nN4 (by simp) hS.o]
    unfold rdH; simp [e1, e2, h0]
   rw [hr]
   have hf := fold_n hS.o
   simp only [hn]
   show Except.ok ((⟨x.ow S.o S.ow, 2, _, foldD ((2 : Nat) : Int) _⟩ : Rcd), _, _) = _
   rw [show ((2 : Nat) : Int) = 2 from rfl, hf]
   cases x.tm <;> simp
  simp only [parS, hw, hbl]
  rw [if_neg (by rintro ⟨_, _, h⟩; exact h36 h), hrec]
  simp [how]
end Go.Proofs.YtdppgaphcmhffaaGreatDoor.V
namespace Go.Proofs.YtdppgaphcmhffaaGreatDoor.V
open Go

theorem dec5 (n : Nat) (h : n ≤ 65535) : (decP n).length ≤ 20 := Nat.le_trans (decP_len n (by omega)) (by decide)
theorem ek_len (x : Ln) (hx : x.ttl ≤ 65535) : ∀ k ∈ (ek x).2, k.1.length ≤ 20 := by
 have hd := dec5 x.ttl hx
 have hp : x.pre.length ≤ 20 := by
  unfold Ln.pre
  split
  ·decide
  split
  ·simp
  split
  ·simp
  ·decide
 have hr : ∀ k ∈ rk x, k.1.length ≤ 20 := by
  intro k hk
  unfold rk at hk
  simp only [List.mem_append] at hk
  rcases hk with ((hk | hk) | hk) | hk
  ·split at hk
   ·simp at hk; subst hk; decide
   ·cases hk
  ·split at hk
   ·simp at hk; subst hk; exact hd
   ·cases hk
  ·split at hk
   ·simp at hk; subst hk; decide
   ·cases hk
  ·simp at hk; rcases hk with rfl | rfl <;> decide
 intro k hk
 unfold ek at hk
 split at hk
 ·simp at hk; rcases hk with rfl | rfl
  ·decide
  ·simp
 split at hk
 ·simp at hk; rcases hk with rfl | rfl
  ·decide
  ·exact hd
 ·simp only [List.mem_append] at hk
  rcases hk with hk | hk
  ·split at hk
   ·cases hk
   ·simp at hk; subst hk; exact hp
  ·exact hr k hk
theorem ek_ne (x : Ln) : (ek x).2 ≠ [] := by
 unfold ek rk
 split
 ·simp
 split
 ·simp
 ·simp
theorem lt_len (x : Ln) (hx : x.ttl ≤ 65535) : (lt x).length ≤ 64 := by
 have hd := dec5 x.ttl hx
 have hp : x.pre.length ≤ 4 := by
  unfold Ln.pre
  split
  ·decide
  split
  ·simp
  split
  ·simp
  ·decide
 have hr : x.rest.length ≤ 45 := by
  unfold Ln.rest
  cases x.cs <;> cases x.bh <;> cases x.tm <;> simp <;> omega
 unfold lt
 split
 ·simp
 split
 ·simp; omega
 ·simp; omega
def on (S : HS) (x : Ln) : Prop := x.how % 6 = 0 ∨ x.how % 6 = 1 ∨ x.ow S.o S.ow ≠ []
theorem step_on {S : HS} {x : Ln} (h : on S x) : (hStep S x).text = S.text ++ lt x := by
 unfold hStep lt
 split
 ·rfl
 split
 ·rfl
 ·rw [if_neg (by rcases h with h | h | h; contradiction; contradiction; exact h)]
theorem step_off {S : HS} {x : Ln} (h : ¬ on S x) : hStep S x = S := by
 unfold on at h
 unfold hStep
 rw [if_neg (fun h' => h (.inl h')), if_neg (fun h' => h (.inr (.inl h'))), if_pos (Decidable.byContradiction fun h' => h (.inr (.inr h')))]
theorem step_hi {S : HS} {x : Ln} (hS : HI S) (hx : x.ttl ≤ 65535) : HI (hStep S x) := by
 unfold hStep
 split
 ·refine ⟨⟨x.c, rfl, ?_⟩, hS.h⟩
  rcases c_cases x with h | h | h | h | h <;> simp [h]
 split
 ·exact ⟨hS.o, hx⟩
 split
 ·exact hS
 ·refine ⟨hS.o, ?_⟩
  simp only []
  split
  ·exact hx
  ·exact hS.h
theorem step_want {S : HS} {x : Ln} : (hStep S x).want.length ≤ S.want.length + 1 := by
 unfold hStep
 split
 ·simp
 split
 ·simp
 split
 ·simp
 ·simp
instance (S : HS) (x : Ln) : Decidable (on S x) := by unfold on; infer_instance
def hTail : List Ln → HS → List UInt8
 | [], _ => []
 | x :: l, S => (if on S x then lt x else []) ++ hTail l (hStep S x)
theorem hTail_text : ∀ (l : List Ln) (S : HS), (l.foldl hStep S).text = S.text ++ hTail l S
 | [], S => by simp [hTail]
 | x :: l, S => by
  rw [List.foldl_cons, hTail_text l, hTail]
  by_cases h : on S x
  ·rw [if_pos h, step_on h, List.append_assoc]
  ·rw [if_neg h, step_off h]; rfl
theorem hTail_len : ∀ (l : List Ln) (S : HS), (∀ x ∈ l, x.ttl ≤ 65535) → (hTail l S).length ≤ 64 * l.length
 | [], S, _ => Nat.zero_le _
 | x :: l, S, h => by
  have := hTail_len l (hStep S x) (fun y hy => h y (by simp [hy]))
  have := lt_len x (h x (by simp))
  rw [hTail, List.length_append, List.length_cons]
  split <;> simp <;> omega
theorem want_len : ∀ (l : List Ln) (S : HS), (l.foldl hStep S).want.length ≤ S.want.length + l.length
 | [], S => by simp
 | x :: l, S => by
  have := want_len l (hStep S x)
  have := step_want (S := S) (x := x)
  rw [List.foldl_cons, List.length_cons]; omega
theorem hold_go : ∀ (l : List Ln) (S : HS) (ln : Nat) (out : List En), HI S → S.want.length + l.length ≤ 4096 → (∀ x ∈ l, x.ttl ≤ 65535) →
  ∃ ens, tk (hTail l S) ln 1 [] none out = .ok (out ++ ens) ∧ parS rdH ens S.o S.ow S.h (decide (S.ow ≠ [])) S.fx S.want = .ok (l.foldl hStep S).want ∧ (∀ x ∈ ens, x.ws ≠ [] ∧ ∀ w ∈ x.ws, w.t.length ≤ 20) ∧ ens.length ≤ l.length
 | [], S, ln, out, _, _, _ => ⟨[], by rw [List.append_nil]; rfl, rfl, fun x hx => (nomatch hx), Nat.le_refl _⟩
 | x :: l, S, ln, out, hS, hw, ht => by
  have hx := ht x (by simp)
  simp only [List.length_cons] at hw
  have hw' := step_want (S := S) (x := x)
  rw [hTail]
  by_cases ho : on S x
  ·obtain ⟨ln', en, e1, e2, e3⟩ := tk_line x (hTail l (hStep S x)) ln out
   obtain ⟨ens, i1, i2, i3, i4⟩ := hold_go l (hStep S x) ln' (out ++ [en]) (step_hi hS hx) (by omega) (fun y hy => ht y (by simp [hy]))
   refine ⟨en :: ens, ?_, ?_, fun y hy => ?_, by simp; omega⟩
   ·rw [if_pos ho, e3, i1]; simp
   ·rw [par_line x S hS hx ho (by omega) en ens e1 e2, i2]; rfl
   ·simp only [List.mem_cons] at hy
    rcases hy with rfl | hy
    ·refine ⟨fun hn => ek_ne x (by rw [← e2, hn]; rfl), fun w hw => ?_⟩
     have : (w.t, w.q) ∈ (ek x).2 := by rw [← e2]; exact List.mem_map_of_mem (f := fun w : Wd => (w.t, w.q)) hw
     exact ek_len x hx _ this
    ·exact i3 y hy
  ·rw [if_neg ho]
   obtain ⟨ens, i1, i2, i3, i4⟩ := hold_go l (hStep S x) ln out (step_hi hS hx) (by omega) (fun y hy => ht y (by simp [hy]))
   refine ⟨ens, i1, ?_, i3, by simp; omega⟩
   rw [step_off ho] at i2
   rw [i2, List.foldl_cons, step_off ho]
theorem hold_law (n : Nat) (hn : n ≤ 65535) (l : List Ln) (hl : l.length ≤ 40) (ht : ∀ x ∈ l, x.ttl ≤ 65535) : ∃ ens, tokS (hAll n l).text = .ok ens ∧ parS rdH ens [1, 122, 0] [] n false false [] = .ok (hAll n l).want ∧ (∀ x ∈ ens, x.ws ≠ [] ∧ ∀ w ∈ x.ws, w.t.length ≤ 20) ∧ ens.length ≤ 40 ∧ (hAll n l).text.length ≤ 2560 ∧ (hAll n l).want.length ≤ 40 := by
 obtain ⟨ens, h1, h2, h3, h4⟩ := hold_go l (hS0 n) 1 [] ⟨⟨122, rfl, .inl rfl⟩, hn⟩ (by show 0 + _ ≤ _; omega) ht
 have htx : (hAll n l).text = hTail l (hS0 n) := hTail_text l (hS0 n)
 refine ⟨ens, ?_, h2, h3, by omega, ?_, ?_⟩
 ·rw [htx]
  have h1' : tokS (hTail l (hS0 n)) = .ok ([] ++ ens) := h1
  rw [h1', List.nil_append]
 ·rw [htx]; have := hTail_len l (hS0 n) ht; omega
 ·have := want_len l (hS0 n)
  have e : (hS0 n).want.length = 0 := rfl
  unfold hAll; omega
end Go.Proofs.YtdppgaphcmhffaaGreatDoor.V
namespace Go.Proofs.YtdppgaphcmhffaaGreatDoor.V
open Go
attribute [local irreducible] go goOps goD opK callK callT stepK leaveTo nextK

set_option maxRecDepth 20000 in
set_option maxHeartbeats 8000000 in
theorem rdata_ReadN (H k) (v : AV) (w : Wd) (o n : List UInt8) (hk : Tk H) (hte : Te H) (hml : Ml H) (hv : Wv H v [w]) (hwq : w.q = false) (hwl : w.t.length ≤ 1048576) (hn : nameS w.t o = (n, 0)) (h64 : w.t ≠ [64]) (h92 : w.t ≠ [92, 35]) (ho : (nm o).isSome = true) (hol : o.length ≤ 1048576) :
  callK Tryz.prog 49 [.int .u16 2, v, .str o] H k = k (.tuple [.agg ({ Dt.zero with host := n } : Dt).cells, .int .i64 0], H, z0) := by
 obtain ⟨d, hd⟩ : ∃ d : Dt, d = { Dt.zero with host := n } := ⟨_, rfl⟩
 rw [← hd]
 refine callK_eq (r := (.tuple [.agg d.cells, .int .i64 0], H, z0)) ?_ k
 have hfm := fun l k => rdata_form 2 (H ++ l) k (hk.old l)
 have hchk := fun H' k => name_Check o H' k (by show _ ≤ 9223372036854775807; omega)
 simp only [ho, if_true] at hchk
 refine callK_startD (n := 93) (rs := [.cell 6 34, .cell 7 39]) Tryz.func49 rfl rfl rfl ?_
 intro σ hl ha
 have h0 := ha 0 (by simp)
 have h1 := ha 1 (by simp)
 have h2 := ha 2 (by simp)
 clear ha
 simp only [Option.getD_some, List.getElem?_cons_zero, List.getElem?_cons_succ] at h0 h1 h2
 refine goA_seq (by kernel_rfl) (by kernel_rfl) ?_
 simp only [go_sem, simprocAttr, hl]
 refine goA_seq (by kernel_rfl) (by kernel_rfl) ?_
 simp only [go_sem, simprocAttr, hl, h0, h1, h2, hchk]
 refine goA_def (fv := .func (.func 78) [] []) (az := [.ptr H.length 0, .ptr (H.length + 1) 0]) (by simp only [go_sem]) (by simp only [go_sem, simprocAttr, hl]) ?_
 have hbd : evBuild Tryz.prog 144 [(0, v), (1, .str o)] = some (.agg (WdC v o Dt.zero 0)) := by
  have hvc := hv.scl.2
  simp only [evBuild, tsh_144, tzero_144, tplaces_144, Option.bind_some, fillA, hvc, List.getElem?_cons_zero, List.getElem?_cons_succ]
  rfl
 have hvcR : ∀ v d j, vcells (.agg (WdC v o d j)) = WdC v o d j := fun _ _ _ => rfl
 have hlen := hv.len
 generalize hσ : put _ none undefA = σ1
 have s0 : fr σ1 0 = .int .u16 2 := by rw [← hσ]; simp only [go_sem, simprocAttr, hl, h0]
 have s1 : fr σ1 1 = v := by rw [← hσ]; simp only [go_sem, simprocAttr, hl, h1]
 have s2 : fr σ1 2 = .str o := by rw [← hσ]; simp only [go_sem, simprocAttr, hl, h2]
 have s6 : fr σ1 6 = .ptr H.length 0 := by rw [← hσ]; simp only [go_sem, simprocAttr, hl]
 have s7 : fr σ1 7 = .ptr (H.length + 1) 0 := by rw [← hσ]; simp only [go_sem, simprocAttr, hl]
 have sl : σ1.length = 93 := by rw [← hσ]; simp only [go_sem, simprocAttr, hl]
 clear hσ hl h0 h1 h2
 have hzc : [AV.str [], AV.str [], AV.str [], AV.int .u32 0, AV.int .u32 0, AV.int .u32 0, AV.int .u32 0, AV.int .u32 0] = Dt.zero.cells := rfl
 rw [hzc]
 have hspz : splice Dt.zero.cells 0 d.cells = d.cells := rfl
 have hlz : Dt.zero.cells.length = 8 := rfl
 have q3 : d.cells.all scal = true := rfl
 have hsc := hv.scl.1
 obtain ⟨A, hA⟩ : ∃ A : ABlk, A = .cells Dt.zero.cells 34 .rw := ⟨_, rfl⟩
 obtain ⟨B, hB⟩ : ∃ A : ABlk, A = .cells [.int .i64 0] 39 .rw := ⟨_, rfl⟩
 obtain ⟨b, q, row, e, kd, hi, hgw, hl1, hl2⟩ := hv.hd
 have hgw := fun l => get_app (l := l) hgw
 have d1 : decide (((([] : List Wd).length + 1 : Nat) : Int) > 0) = true := rfl
 have d1' : decide ((([w].length : Nat) : Int) > 0) = true := rfl
 have ht0 : (w.t == [92, 35]) = false := by rw [beq_eq_false_iff_ne]; exact h92
 have hsh : mapSh Tryz.prog 146 = some (.int .i32, 1) := by simp only [mapSh, tsh_146, tsh_21]
 have hms : ∀ (x y : ABlk) (z : ABlk) (es : List (AV × AV)) (c : Int) (g : FuncId), findK (.int .i32) (.int .i32 c) es 0 = some none → evMapSet Tryz.prog 146 (.map (H.length + 3)) (.int .i32 c) (.func (.func g) [.ptr (H.length + 2) 0] []) (H ++ [x, y, z, .map es]) = some (H ++ [x, y, z, .map (es ++ [(.int .i32 c, .func (.func g) [.ptr (H.length + 2) 0] [])])], ⟨some (H.length + 3), some (H.length + 3)⟩) := by
  intro x y z es c g hf
  have hg : (H ++ [x, y, z, .map es])[H.length + 3]? = some (.map es) := by rw [List.getElem?_append_right (by omega)]; simp
  simp only [evMapSet, hsh, Option.bind_some, hg, hf, Option.map_some]
  rw [List.set_append_right _ _ (by omega)]
  simp [flat, flats]
 have f1 : findK (.int .i32) (.int .i32 104) [] 0 = some none := rfl
 have f2 : ∀ x, findK (.int .i32) (.int .i32 112) [(.int .i32 104, x)] 0 = some none := fun _ => rfl
 have f3 : ∀ x y, findK (.int .i32) (.int .i32 109) [(.int .i32 104, x), (.int .i32 112, y)] 0 = some none := fun _ _ => rfl
 have f4 : ∀ x y z, findK (.int .i32) (.int .i32 115) [(.int .i32 104, x), (.int .i32 112, y), (.int .i32 109, z)] 0 = some none := fun _ _ _ => rfl
 have f5 : ∀ x y z w, findK (.int .i32) (.int .i32 108) [(.int .i32 104, x), (.int .i32 112, y), (.int .i32 109, z), (.int .i32 115, w)] 0 = some none := fun _ _ _ _ => rfl
 have f6 : ∀ x y z w u, findK (.int .i32) (.int .i32 97) [(.int .i32 104, x), (.int .i32 112, y), (.int .i32 109, z), (.int .i32 115, w), (.int .i32 108, u)] 0 = some none := fun _ _ _ _ _ => rfl
 have f7 : ∀ x y z w u p, findK (.int .i32) (.int .i32 113) [(.int .i32 104, x), (.int .i32 112, y), (.int .i32 109, z), (.int .i32 115, w), (.int .i32 108, u), (.int .i32 97, p)] 0 = some none := fun _ _ _ _ _ _ => rfl
 have f8 : ∀ x y z w u p r, findK (.int .i32) (.int .i32 120) [(.int .i32 104, x), (.int .i32 112, y), (.int .i32 109, z), (.int .i32 115, w), (.int .i32 108, u), (.int .i32 97, p), (.int .i32 113, r)] 0 = some none := fun _ _ _ _ _ _ _ => rfl
 rw [hwq] at hl2
 obtain ⟨F, hF⟩ : ∃ F : List UInt8, F = [104] := ⟨_, rfl⟩
 have hF2 : formS 2 = F := by rw [hF]; rfl
 have hfa : F.all (fun c => decide (c.toNat < 128)) = true := by rw [hF]; rfl
 have hFl : F.length = 1 := by rw [hF]; rfl
 rw [hF2] at hfm
 simp only [go_sem, simprocAttr, sl, s0, s1, s2, s6, s7, hbd, hvcR, hlen, hi, hgw, hl1, hl2, d1, d1', ht0, hms, f1, f2, f3, f4, f5, f6, f7, f8, hfm]
 refine go_rounds (fun m st => ∃ σ i x v' T e, m + i = 1 ∧ ((i = 0 ∧ x = Dt.zero ∧ v' = v ∧ Wv (H ++ (.cells Dt.zero.cells 34 .rw :: .cells [.int .i64 0] 39 .rw :: .cells (WdC v' o x 0) 144 .rw :: .map (doW (H.length + 2)) :: .iter F i :: T)) v' [w]) ∨ (i = 1 ∧ x = d ∧ ∀ H', evLen Tryz.prog 59 v' H' = some (.int .i64 0))) ∧ st = ⟨σ, H ++ (.cells Dt.zero.cells 34 .rw :: .cells [.int .i64 0] 39 .rw :: .cells (WdC v' o x 0) 144 .rw :: .map (doW (H.length + 2)) :: .iter F i :: T), e⟩ ∧ clean H.length e ∧ σ.length = 93 ∧ fr σ 0 = .int .u16 2 ∧ fr σ 6 = .ptr H.length 0 ∧ fr σ 7 = .ptr (H.length + 1) 0 ∧ fr σ 8 = .ptr (H.length + 2) 0 ∧ fr σ 9 = .map (H.length + 3) ∧ fr σ 67 = .ptr (H.length + 4) 0) 1
  ⟨_, 0, Dt.zero, v, [], _, rfl, .inl ⟨rfl, rfl, rfl, ?_⟩, rfl, by simp [clean_andI, clean_mk, low_sI], by simp only [go_sem, simprocAttr, sl], by simp only [go_sem, simprocAttr, sl, s0], by simp only [go_sem, simprocAttr, sl, s6], by simp only [go_sem, simprocAttr, sl, s7], by simp only [go_sem, simprocAttr, sl], by simp only [go_sem, simprocAttr, sl], by simp only [go_sem, simprocAttr, sl]⟩ ?_
 ·exact hv.old _
 clear s0 s1 s2 s6 s7 sl
 rintro m _ ⟨σ, i, x, v', T, e, hmi, hcase, rfl, hce, hl, h0, h6, h7, h8, h9, h67⟩
 have hit : strIter F 0 = (.tuple [.bool true, .int .i64 (0 : Nat), .int .i32 (104 : UInt8).toNat], 0 + 1) := by rw [strIter_a hfa, itN_s (c := 104) (by rw [hF]; rfl)]
 have hie : strIter F 1 = (.tuple [.bool false], 1) := by rw [strIter_a hfa]; unfold itN; rw [List.getElem?_eq_none (by omega)]
 rcases hcase with ⟨rfl, rfl, rfl, hvx⟩ | ⟨rfl, rfl, hl0⟩
 ·obtain ⟨Hx, hHx⟩ : ∃ Hx, Hx = H ++ (.cells Dt.zero.cells 34 .rw :: .cells [.int .i64 0] 39 .rw :: .cells (WdC v' o Dt.zero 0) 144 .rw :: .map (doW (H.length + 2)) :: .iter F (0 + 1) :: T) := ⟨_, rfl⟩
  have hbx : Hx[H.length + 2]? = some (.cells (WdC v' o Dt.zero 0) 144 .rw) := by rw [hHx, hp_new]; rfl
  have hmx : Hx[H.length + 3]? = some (.map (doW (H.length + 2))) := by rw [hHx, hp_new]; rfl
  have hset : ∀ y, Hx.set (H.length + 2) y = H ++ (.cells Dt.zero.cells 34 .rw :: .cells [.int .i64 0] 39 .rw :: y :: .map (doW (H.length + 2)) :: .iter F (0 + 1) :: T) := fun y => by rw [hHx, hp_set]; rfl
  have hvX : Wv Hx v' [w] := by
   have h := hvx.set2 (rb := H.length + 4) (x := .iter F (0 + 1)) (y := .iter F 0) (by rw [hp_new]; rfl) ⟨fun _ _ _ _ h => (by cases h), fun h => (by cases h)⟩
   rw [hp_set] at h
   rw [hHx]; exact h
  have hcl2 : clean H.length ⟨some (H.length + 2), some (H.length + 2)⟩ := clean_ew (by omega) (by omega)
  have hf : evLookup Tryz.prog 146 (.map (H.length + 3)) (.int .i32 104) true Hx = some (.tuple [.func (.func 80) [.ptr (H.length + 2) 0] [], .bool true]) := by
   have hr : findK (.int .i32) (.int .i32 104) (doW (H.length + 2)) 0 = some (some (0, .func (.func 80) [.ptr (H.length + 2) 0] [])) := rfl
   simp only [evLookup, hsh, hmx, Option.bind_some, hr, if_true]
  obtain ⟨v2, T2, hv2, hh⟩ := wd_host Hx (H.length + 2) v' o Dt.zero 0 w [] hwq hbx hvX hwl n hol hn h64
  rw [← hd] at hh
  simp only [go_sem, simprocAttr, hl, h0, h6, h7, h8, h9, h67, hit, hHx.symm, hf, hh]
  rw [hset, List.append_assoc]
  exact ⟨0, by omega, _, 1, d, v2, T ++ T2, _, rfl, .inr ⟨rfl, rfl, fun H' => hv2.len H'⟩, rfl, by simp only [go_sem, simprocAttr, hce, hcl2], by simp only [go_sem, simprocAttr, hl], by simp only [go_sem, simprocAttr, hl, h0], by simp only [go_sem, simprocAttr, hl, h6], by simp only [go_sem, simprocAttr, hl, h7], by simp only [go_sem, simprocAttr, hl, h8], by simp only [go_sem, simprocAttr, hl, h9], by simp only [go_sem, simprocAttr, hl, h67]⟩
 ·have hspz : splice Dt.zero.cells 0 x.cells = x.cells := rfl
  have q3 : x.cells.all scal = true := rfl
  simp only [go_sem, simprocAttr, hl, h0, h6, h7, h8, h9, h67, hie, WdC.l0, WdC.ld, hl0, hspz, hlz, q3, Dt.vc, Dt.len, Dt.flat]
  refine caught0 ?_
  simp only [go_sem, simprocAttr, hl, h6, h7, Dt.l8]
  exact leave_flat (by simp only [flat, flats, Dt.flat, Bool.and_self]) (by simp only [clean_andI, clean_sn, clean_z, go_sem, true_and, and_true, hce])
set_option maxRecDepth 20000 in
set_option maxHeartbeats 8000000 in
theorem rdata_ReadA (H k) (v : AV) (w : Wd) (o raw : List UInt8) (hk : Tk H) (hte : Te H) (hml : Ml H) (hv : Wv H v [w]) (hwq : w.q = false) (hwl : w.t.length ≤ 1048576) (hr4 : raw.length = 4) (hwt : w.t = joinS [46] (decA raw)) (h92 : w.t ≠ [92, 35]) (ho : (nm o).isSome = true) (hol : o.length ≤ 1048576) :
  callK Tryz.prog 49 [.int .u16 1, v, .str o] H k = k (.tuple [.agg ({ Dt.zero with raw := raw } : Dt).cells, .int .i64 0], H, z0) := by
 obtain ⟨d, hd⟩ : ∃ d : Dt, d = { Dt.zero with raw := raw } := ⟨_, rfl⟩
 rw [← hd]
 refine callK_eq (r := (.tuple [.agg d.cells, .int .i64 0], H, z0)) ?_ k
 have hfm := fun l k => rdata_form 1 (H ++ l) k (hk.old l)
 have hchk := fun H' k => name_Check o H' k (by show _ ≤ 9223372036854775807; omega)
 simp only [ho, if_true] at hchk
 refine callK_startD (n := 93) (rs := [.cell 6 34, .cell 7 39]) Tryz.func49 rfl rfl rfl ?_
 intro σ hl ha
 have h0 := ha 0 (by simp)
 have h1 := ha 1 (by simp)
 have h2 := ha 2 (by simp)
 clear ha
 simp only [Option.getD_some, List.getElem?_cons_zero, List.getElem?_cons_succ] at h0 h1 h2
 refine goA_seq (by kernel_rfl) (by kernel_rfl) ?_
 simp only [go_sem, simprocAttr, hl]
 refine goA_seq (by kernel_rfl) (by kernel_rfl) ?_
 simp only [go_sem, simprocAttr, hl, h0, h1, h2, hchk]
 refine goA_def (fv := .func (.func 78) [] []) (az := [.ptr H.length 0, .ptr (H.length + 1) 0]) (by simp only [go_sem]) (by simp only [go_sem, simprocAttr, hl]) ?_
 have hbd : evBuild Tryz.prog 144 [(0, v), (1, .str o)] = some (.agg (WdC v o Dt.zero 0)) := by
  have hvc := hv.scl.2
  simp only [evBuild, tsh_144, tzero_144, tplaces_144, Option.bind_some, fillA, hvc, List.getElem?_cons_zero, List.getElem?_cons_succ]
  rfl
 have hvcR : ∀ v d j, vcells (.agg (WdC v o d j)) = WdC v o d j := fun _ _ _ => rfl
 have hlen := hv.len
 generalize hσ : put _ none undefA = σ1
 have s0 : fr σ1 0 = .int .u16 1 := by rw [← hσ]; simp only [go_sem, simprocAttr, hl, h0]
 have s1 : fr σ1 1 = v := by rw [← hσ]; simp only [go_sem, simprocAttr, hl, h1]
 have s2 : fr σ1 2 = .str o := by rw [← hσ]; simp only [go_sem, simprocAttr, hl, h2]
 have s6 : fr σ1 6 = .ptr H.length 0 := by rw [← hσ]; simp only [go_sem, simprocAttr, hl]
 have s7 : fr σ1 7 = .ptr (H.length + 1) 0 := by rw [← hσ]; simp only [go_sem, simprocAttr, hl]
 have sl : σ1.length = 93 := by rw [← hσ]; simp only [go_sem, simprocAttr, hl]
 clear hσ hl h0 h1 h2
 have hzc : [AV.str [], AV.str [], AV.str [], AV.int .u32 0, AV.int .u32 0, AV.int .u32 0, AV.int .u32 0, AV.int .u32 0] = Dt.zero.cells := rfl
 rw [hzc]
 have hspz : splice Dt.zero.cells 0 d.cells = d.cells := rfl
 have hlz : Dt.zero.cells.length = 8 := rfl
 have q3 : d.cells.all scal = true := rfl
 have hsc := hv.scl.1
 obtain ⟨A, hA⟩ : ∃ A : ABlk, A = .cells Dt.zero.cells 34 .rw := ⟨_, rfl⟩
 obtain ⟨B, hB⟩ : ∃ A : ABlk, A = .cells [.int .i64 0] 39 .rw := ⟨_, rfl⟩
 obtain ⟨b, q, row, e, kd, hi, hgw, hl1, hl2⟩ := hv.hd
 have hgw := fun l => get_app (l := l) hgw
 have d1 : decide (((([] : List Wd).length + 1 : Nat) : Int) > 0) = true := rfl
 have d1' : decide ((([w].length : Nat) : Int) > 0) = true := rfl
 have ht0 : (w.t == [92, 35]) = false := by rw [beq_eq_false_iff_ne]; exact h92
 have hsh : mapSh Tryz.prog 146 = some (.int .i32, 1) := by simp only [mapSh, tsh_146, tsh_21]
 have hms : ∀ (x y : ABlk) (z : ABlk) (es : List (AV × AV)) (c : Int) (g : FuncId), findK (.int .i32) (.int .i32 c) es 0 = some none → evMapSet Tryz.prog 146 (.map (H.length + 3)) (.int .i32 c) (.func (.func g) [.ptr (H.length + 2) 0] []) (H ++ [x, y, z, .map es]) = some (H ++ [x, y, z, .map (es ++ [(.int .i32 c, .func (.func g) [.ptr (H.length + 2) 0] [])])], ⟨some (H.length + 3), some (H.length + 3)⟩) := by
  intro x y z es c g hf
  have hg : (H ++ [x, y, z, .map es])[H.length + 3]? = some (.map es) := by rw [List.getElem?_append_right (by omega)]; simp
  simp only [evMapSet, hsh, Option.bind_some, hg, hf, Option.map_some]
  rw [List.set_append_right _ _ (by omega)]
  simp [flat, flats]
 have f1 : findK (.int .i32) (.int .i32 104) [] 0 = some none := rfl
 have f2 : ∀ x, findK (.int .i32) (.int .i32 112) [(.int .i32 104, x)] 0 = some none := fun _ => rfl
 have f3 : ∀ x y, findK (.int .i32) (.int .i32 109) [(.int .i32 104, x), (.int .i32 112, y)] 0 = some none := fun _ _ => rfl
 have f4 : ∀ x y z, findK (.int .i32) (.int .i32 115) [(.int .i32 104, x), (.int .i32 112, y), (.int .i32 109, z)] 0 = some none := fun _ _ _ => rfl
 have f5 : ∀ x y z w, findK (.int .i32) (.int .i32 108) [(.int .i32 104, x), (.int .i32 112, y), (.int .i32 109, z), (.int .i32 115, w)] 0 = some none := fun _ _ _ _ => rfl
 have f6 : ∀ x y z w u, findK (.int .i32) (.int .i32 97) [(.int .i32 104, x), (.int .i32 112, y), (.int .i32 109, z), (.int .i32 115, w), (.int .i32 108, u)] 0 = some none := fun _ _ _ _ _ => rfl
 have f7 : ∀ x y z w u p, findK (.int .i32) (.int .i32 113) [(.int .i32 104, x), (.int .i32 112, y), (.int .i32 109, z), (.int .i32 115, w), (.int .i32 108, u), (.int .i32 97, p)] 0 = some none := fun _ _ _ _ _ _ => rfl
 have f8 : ∀ x y z w u p r, findK (.int .i32) (.int .i32 120) [(.int .i32 104, x), (.int .i32 112, y), (.int .i32 109, z), (.int .i32 115, w), (.int .i32 108, u), (.int .i32 97, p), (.int .i32 113, r)] 0 = some none := fun _ _ _ _ _ _ _ => rfl
 rw [hwq] at hl2
 obtain ⟨F, hF⟩ : ∃ F : List UInt8, F = [97] := ⟨_, rfl⟩
 have hF2 : formS 1 = F := by rw [hF]; rfl
 have hfa : F.all (fun c => decide (c.toNat < 128)) = true := by rw [hF]; rfl
 have hFl : F.length = 1 := by rw [hF]; rfl
 rw [hF2] at hfm
 simp only [go_sem, simprocAttr, sl, s0, s1, s2, s6, s7, hbd, hvcR, hlen, hi, hgw, hl1, hl2, d1, d1', ht0, hms, f1, f2, f3, f4, f5, f6, f7, f8, hfm]
 refine go_rounds (fun m st => ∃ σ i x v' T e, m + i = 1 ∧ ((i = 0 ∧ x = Dt.zero ∧ v' = v ∧ Wv (H ++ (.cells Dt.zero.cells 34 .rw :: .cells [.int .i64 0] 39 .rw :: .cells (WdC v' o x 0) 144 .rw :: .map (doW (H.length + 2)) :: .iter F i :: T)) v' [w]) ∨ (i = 1 ∧ x = d ∧ ∀ H', evLen Tryz.prog 59 v' H' = some (.int .i64 0))) ∧ st = ⟨σ, H ++ (.cells Dt.zero.cells 34 .rw :: .cells [.int .i64 0] 39 .rw :: .cells (WdC v' o x 0) 144 .rw :: .map (doW (H.length + 2)) :: .iter F i :: T), e⟩ ∧ clean H.length e ∧ σ.length = 93 ∧ fr σ 0 = .int .u16 1 ∧ fr σ 6 = .ptr H.length 0 ∧ fr σ 7 = .ptr (H.length + 1) 0 ∧ fr σ 8 = .ptr (H.length + 2) 0 ∧ fr σ 9 = .map (H.length + 3) ∧ fr σ 67 = .ptr (H.length + 4) 0) 1
  ⟨_, 0, Dt.zero, v, [], _, rfl, .inl ⟨rfl, rfl, rfl, ?_⟩, rfl, by simp [clean_andI, clean_mk, low_sI], by simp only [go_sem, simprocAttr, sl], by simp only [go_sem, simprocAttr, sl, s0], by simp only [go_sem, simprocAttr, sl, s6], by simp only [go_sem, simprocAttr, sl, s7], by simp only [go_sem, simprocAttr, sl], by simp only [go_sem, simprocAttr, sl], by simp only [go_sem, simprocAttr, sl]⟩ ?_
 ·exact hv.old _
 clear s0 s1 s2 s6 s7 sl
 rintro m _ ⟨σ, i, x, v', T, e, hmi, hcase, rfl, hce, hl, h0, h6, h7, h8, h9, h67⟩
 have hit : strIter F 0 = (.tuple [.bool true, .int .i64 (0 : Nat), .int .i32 (97 : UInt8).toNat], 0 + 1) := by rw [strIter_a hfa, itN_s (c := 97) (by rw [hF]; rfl)]
 have hie : strIter F 1 = (.tuple [.bool false], 1) := by rw [strIter_a hfa]; unfold itN; rw [List.getElem?_eq_none (by omega)]
 rcases hcase with ⟨rfl, rfl, rfl, hvx⟩ | ⟨rfl, rfl, hl0⟩
 ·obtain ⟨Hx, hHx⟩ : ∃ Hx, Hx = H ++ (.cells Dt.zero.cells 34 .rw :: .cells [.int .i64 0] 39 .rw :: .cells (WdC v' o Dt.zero 0) 144 .rw :: .map (doW (H.length + 2)) :: .iter F (0 + 1) :: T) := ⟨_, rfl⟩
  have hbx : Hx[H.length + 2]? = some (.cells (WdC v' o Dt.zero 0) 144 .rw) := by rw [hHx, hp_new]; rfl
  have hmx : Hx[H.length + 3]? = some (.map (doW (H.length + 2))) := by rw [hHx, hp_new]; rfl
  have hset : ∀ y, Hx.set (H.length + 2) y = H ++ (.cells Dt.zero.cells 34 .rw :: .cells [.int .i64 0] 39 .rw :: y :: .map (doW (H.length + 2)) :: .iter F (0 + 1) :: T) := fun y => by rw [hHx, hp_set]; rfl
  have hvX : Wv Hx v' [w] := by
   have h := hvx.set2 (rb := H.length + 4) (x := .iter F (0 + 1)) (y := .iter F 0) (by rw [hp_new]; rfl) ⟨fun _ _ _ _ h => (by cases h), fun h => (by cases h)⟩
   rw [hp_set] at h
   rw [hHx]; exact h
  have hcl2 : clean H.length ⟨some (H.length + 2), some (H.length + 2)⟩ := clean_ew (by omega) (by omega)
  have hf : evLookup Tryz.prog 146 (.map (H.length + 3)) (.int .i32 97) true Hx = some (.tuple [.func (.func 84) [.ptr (H.length + 2) 0] [], .bool true]) := by
   have hr : findK (.int .i32) (.int .i32 97) (doW (H.length + 2)) 0 = some (some (5, .func (.func 84) [.ptr (H.length + 2) 0] [])) := rfl
   simp only [evLookup, hsh, hmx, Option.bind_some, hr, if_true]
  obtain ⟨⟨v2, T2⟩, hv2, hh⟩ := wd_four Hx (H.length + 2) v' o Dt.zero 0 w [] hwq hbx hvX hwl raw hr4 hwt (by rw [hHx]; exact hte.old _) (by decide)
  have hz0 : ({ Dt.zero with raw := Dt.zero.raw ++ raw } : Dt) = d := by rw [hd]; rfl
  rw [hz0] at hh
  simp only [] at hv2 hh
  simp only [go_sem, simprocAttr, hl, h0, h6, h7, h8, h9, h67, hit, hHx.symm, hf, hh]
  rw [hset, List.append_assoc]
  exact ⟨0, by omega, _, 1, d, v2, T ++ T2, _, rfl, .inr ⟨rfl, rfl, fun H' => hv2.len H'⟩, rfl, by simp only [go_sem, simprocAttr, hce, hcl2], by simp only [go_sem, simprocAttr, hl], by simp only [go_sem, simprocAttr, hl, h0], by simp only [go_sem, simprocAttr, hl, h6], by simp only [go_sem, simprocAttr, hl, h7], by simp only [go_sem, simprocAttr, hl, h8], by simp only [go_sem, simprocAttr, hl, h9], by simp only [go_sem, simprocAttr, hl, h67]⟩
 ·have hspz : splice Dt.zero.cells 0 x.cells = x.cells := rfl
  have q3 : x.cells.all scal = true := rfl
  simp only [go_sem, simprocAttr, hl, h0, h6, h7, h8, h9, h67, hie, WdC.l0, WdC.ld, hl0, hspz, hlz, q3, Dt.vc, Dt.len, Dt.flat]
  refine caught0 ?_
  simp only [go_sem, simprocAttr, hl, h6, h7, Dt.l8]
  exact leave_flat (by simp only [flat, flats, Dt.flat, Bool.and_self]) (by simp only [clean_andI, clean_sn, clean_z, go_sem, true_and, and_true, hce])
end Go.Proofs.YtdppgaphcmhffaaGreatDoor.V
namespace Go.Proofs.YtdppgaphcmhffaaGreatDoor.V
open Go

theorem lowB_le {c : UInt8} (h : c.toNat ≤ 63) : lowB c = c := by
 unfold lowB; rw [if_neg (by omega)]
theorem lowB_gt {c : UInt8} (h : 63 < c.toNat) : 63 < (lowB c).toNat := by
 unfold lowB
 split
 ·rw [UInt8.toNat_add]
  have : (32 : UInt8).toNat = 32 := rfl
  omega
 ·exact h
theorem lab_low : ∀ (n : Nat) (s : List UInt8), s.length ≤ n → lab (lowS s) = (lab s).map fun L => L.map lowS
 | n, [], _ => rfl
 | 0, c :: s, h => by simp at h
 | n + 1, c :: s, h => by
  simp only [List.length_cons] at h
  have e : lowS (c :: s) = lowB c :: lowS s := rfl
  have hl : (lowS s).length = s.length := by simp [lowS]
  rw [e, lab_cons, lab_cons, hl]
  by_cases hc : c.toNat ≤ 63
  ·rw [lowB_le hc]
   by_cases h0 : c.toNat = 0
   ·rw [if_pos h0, if_pos h0]
    split <;> rfl
   ·rw [if_neg h0, if_neg h0]
    by_cases h1 : 63 < c.toNat ∨ s.length < c.toNat
    ·rw [if_pos h1, if_pos h1]; rfl
    ·rw [if_neg h1, if_neg h1]
     have hd : (lowS s).drop c.toNat = lowS (s.drop c.toNat) := by simp [lowS, List.map_drop]
     have ht : (lowS s).take c.toNat = lowS (s.take c.toNat) := by simp [lowS, List.map_take]
     rw [hd, ht, lab_low n _ (by rw [List.length_drop]; omega), Option.map_map, Option.map_map]
     rfl
  ·have hg := lowB_gt (c := c) (by omega)
   rw [if_neg (by omega), if_pos (.inl hg), if_neg (by omega), if_pos (.inl (by omega))]
   rfl
theorem nm_low (s : List UInt8) : nm (lowS s) = (nm s).map fun L => L.map lowS := by
 unfold nm
 have hl : (lowS s).length = s.length := by simp [lowS]
 rw [hl]
 split
 ·rfl
 ·exact lab_low _ s (Nat.le_refl _)
theorem nm_lowS (s : List UInt8) : (nm (lowS s)).isSome = (nm s).isSome := by rw [nm_low]; cases nm s <;> rfl
theorem lab_of : ∀ (L : List (List UInt8)), L.any badL = false → lab (nameOf L) = some L
 | [], _ => rfl
 | l :: L, h => by
  simp only [List.any_cons, Bool.or_eq_false_iff] at h
  obtain ⟨h1, h2⟩ := h
  unfold badL at h1
  simp only [Bool.or_eq_false_iff, beq_eq_false_iff_ne, decide_eq_false_iff_not] at h1
  have e : nameOf (l :: L) = UInt8.ofNat l.length :: (l ++ nameOf L) := by simp [nameOf, nameB]
  have hn : (UInt8.ofNat l.length).toNat = l.length := by rw [UInt8.toNat_ofNat']; omega
  rw [e, lab_cons, hn, if_neg (by omega), if_neg (by rw [List.length_append]; omega), List.drop_left, List.take_left, lab_of L h2]
  rfl
theorem nm_of {L : List (List UInt8)} (h : L.any badL = false) (ht : tot L + 1 ≤ 255) : nm (nameOf L) = some L := by
 unfold nm
 rw [if_neg (by simp only [nameOf, List.length_append, List.length_cons, List.length_nil, nameB_len]; omega)]
 exact lab_of L h
theorem parsF_err : ∀ (n : Nat) (b : Bool) (s : List UInt8), parsF n b s ≠ .error 0
 | 0, b, s, h => by simp only [parsF] at h; cases h
 | n + 1, b, s, h => by
  simp only [parsF] at h
  split at h
  ·split at h
   ·cases hp : parsF n false (s.drop (scan 46 s + 1)) with
    | error e => rw [hp] at h; simp only [Except.map] at h; injection h with h; rw [h] at hp; exact parsF_err n _ _ hp
    | ok y => rw [hp] at h; cases h
   ·rename_i h1
    injection h with h
    exact h1 h
  ·split at h
   ·split at h
    ·cases h
    ·rename_i h1
     injection h with h
     exact h1 h
   ·cases h
theorem nameS_nm {s o : List UInt8} (h : (nameS s o).2 = 0) : (nm (nameS s o).1).isSome = true := by
 have key : ∀ L, (ofS L).2 = 0 → (nm (ofS L).1).isSome = true := by
  intro L h
  unfold ofS at h ⊢
  split at h
  ·cases h
  split at h
  ·cases h
  ·rename_i h1 h2
   rw [if_neg h1, if_neg h2, nm_of (by simpa using h1) (by omega)]; rfl
 unfold nameS at h ⊢
 split at h
 ·cases h
 ·rename_i K hK
  split at h
  ·rename_i h1
   rw [if_pos h1]; rfl
  ·rename_i h1
   rw [if_neg h1]
   split at h
   ·rename_i e he
    simp only [he] at h
    subst h
    exact absurd he (parsF_err _ _ _)
   ·rename_i L b he
    exact key _ h
end Go.Proofs.YtdppgaphcmhffaaGreatDoor.V
namespace Go.Proofs.YtdppgaphcmhffaaGreatDoor.V
open Go
attribute [local irreducible] go goOps goD opK callK callT stepK leaveTo nextK

theorem nm_len {s : List UInt8} (h : (nm s).isSome = true) : s.length ≤ 255 := by
 unfold nm at h
 split at h
 ·cases h
 ·omega
theorem namW_op (w : Wd) (o : List UInt8) (h : (nm o).isSome = true) (h2 : (namW w o).2 = true) : (nm (namW w o).1).isSome = true := by
 unfold namW at h2 ⊢
 split at h2
 ·cases h2
 rename_i hq
 rw [if_neg hq]
 split at h2
 ·rename_i h64
  rw [if_pos h64]; exact h
 ·rename_i h64
  rw [if_neg h64]
  show (nm (lowS (nameS w.t o).1)).isSome = true
  rw [nm_lowS]
  exact nameS_nm (by simpa using h2)
theorem z32 : is32 0 := by unfold is32; decide
theorem zh_wf {n : List UInt8} (h : n.length ≤ 255) : ({ Dt.zero with host := n } : Dt).wf :=
 ⟨Nat.zero_le _, by show n.length ≤ _; omega, Nat.zero_le _, z32, z32, z32, z32, z32⟩
theorem rdH_is (o : List UInt8) (t : Nat) (r : List Wd) (ho : (nm o).isSome = true) (h : (rdH o t r).isSome = true) : RdIs o t r (rdH o t r) := by
 have hol := nm_len ho
 intro H v hgl hv
 unfold rdH at h ⊢
 split at h
 ·rename_i w
  split at h
  ·cases h
  rename_i hqn
  have hq : w.q = false := by simpa using hqn
  rw [if_neg hqn]
  have name : ∀ (x : List UInt8) (d : Option Dt), w.t = x → x.length ≤ 20 → (nameS x o).2 = 0 → x ≠ [64] → x ≠ [92, 35] → ∃ dd ee, (∀ k, callK Tryz.prog 49 [.int .u16 ((2 : Nat) : Int), v, .str o] H k = k (.tuple [.agg (Dt.cells dd), .int .i64 ee], H, z0)) ∧ (match some ({ Dt.zero with host := (nameS x o).1 } : Dt) with | some d => dd = d ∧ ee = 0 ∧ d.wf | none => ee ≠ 0) := by
   intro x _ hx hl h0 h1 h2
   subst hx
   have hr := fun k => rdata_ReadN H k v w o (nameS w.t o).1 hgl.1 hgl.2.1 hgl.2.2.1 hv hq (by omega) (by rw [← h0]) h1 h2 ho (by omega)
   exact ⟨_, 0, hr, rfl, rfl, zh_wf (nm_len (nameS_nm h0))⟩
  split at h
  ·rename_i hc
   obtain ⟨rfl, hw, h0⟩ := hc
   rw [if_pos ⟨rfl, hw, h0⟩]
   exact name [110] none hw (by decide) h0 (by decide) (by decide)
  rename_i hn1
  split at h
  ·rename_i hc
   obtain ⟨rfl, hw, h0⟩ := hc
   rw [if_neg hn1, if_pos ⟨rfl, hw, h0⟩]
   exact name [87] none hw (by decide) h0 (by decide) (by decide)
  rename_i hn2
  split at h
  ·rename_i hc
   obtain ⟨rfl, hw⟩ := hc
   rw [if_neg hn1, if_neg hn2, if_pos ⟨rfl, hw⟩]
   have hwf : ({ Dt.zero with raw := [1, 1, 1, 1] } : Dt).wf := ⟨by decide, Nat.zero_le _, Nat.zero_le _, by unfold is32; decide, by unfold is32; decide, by unfold is32; decide, by unfold is32; decide, by unfold is32; decide⟩
   have hwt : w.t = joinS [46] (decA [1, 1, 1, 1]) := by rw [hw]; kernel_rfl
   have hr := fun k => rdata_ReadA H k v w o [1, 1, 1, 1] hgl.1 hgl.2.1 hgl.2.2.1 hv hq (by rw [hw]; decide) rfl hwt (by rw [hw]; decide) ho (by omega)
   exact ⟨_, 0, hr, rfl, rfl, hwf⟩
  ·cases h
 ·cases h
theorem ms_hold (H : Hp) (n : Nat) (hn : n ≤ 65535) (l : List Ln) (hl : l.length ≤ 40) (ht : ∀ x ∈ l, x.ttl ≤ 65535) (hgl : Gl H) (hg : gN ≤ H.length) :
  callK Tryz.prog 10 [.str (hAll n l).text, .str [1, 90, 0], .int .u32 n] H (ParR H (.ok (hAll n l).want)) := by
 obtain ⟨ens, h1, h2, h3, h4, h5, h6⟩ := hold_law n hn l hl ht
 exact ms_Parse rdH False (fun o => (nm o).isSome = true) (.ok (hAll n l).want) H (hAll n l).text [1, 90, 0] n ens hgl hg (by omega) (by omega) (by kernel_rfl) (by decide) h1 (.inr ⟨_, rfl⟩) h2 (by show (nm (lowS [1, 90, 0])).isSome = true; kernel_rfl) (fun w o h h' => namW_op w o h h') (fun o h => by have := nm_len h; omega)
  (by omega) (fun x hx => (h3 x hx).1) (fun x hx w hw => by have := (h3 x hx).2 w hw; omega) (fun o t r ho _ h => rdH_is o t r ho (by rcases h with h | h; exact h; exact h.elim))
def rdsT : List UInt8 := [64, 32, 54, 48, 32, 73, 78, 32, 65, 32, 49, 46, 49, 46, 49, 46, 49, 10, 32, 73, 78, 32, 53, 32, 78, 83, 32, 87, 10]
def rdsR : List Rcd := [⟨[1, 101, 0], 1, 60, { Dt.zero with raw := [1, 1, 1, 1] }⟩, ⟨[1, 101, 0], 2, 5, { Dt.zero with host := [1, 119, 1, 101, 0] }⟩]
def rdsE : List En := match tokS rdsT with | .ok l => l | _ => []
theorem ms_rds (H : Hp) (hgl : Gl H) (hg : gN ≤ H.length) : callK Tryz.prog 10 [.str rdsT, .str [1, 69, 0], .int .u32 9] H (ParR H (.ok rdsR)) :=
 ms_Parse rdH False (fun o => (nm o).isSome = true) (.ok rdsR) H rdsT [1, 69, 0] 9 rdsE hgl hg (by decide) (by decide) (by kernel_rfl) (by decide) (by kernel_rfl) (.inr ⟨_, rfl⟩) (by kernel_rfl) (by show (nm (lowS [1, 69, 0])).isSome = true; kernel_rfl) (fun w o h h' => namW_op w o h h') (fun o h => by have := nm_len h; omega)
  (of_decide_eq_true (by kernel_rfl)) (fun x hx hn => by
   have : (rdsE.all fun x => !x.ws.isEmpty) = true := by kernel_rfl
   have := List.all_eq_true.1 this x hx
   rw [hn] at this; cases this) (fun x hx w hw => by
   have : (rdsE.all fun x => x.ws.all fun w => decide (w.t.length ≤ 1048576)) = true := by kernel_rfl
   have := List.all_eq_true.1 (List.all_eq_true.1 this x hx) w hw
   simpa using this) (fun o t r ho _ h => rdH_is o t r ho (by rcases h with h | h; exact h; exact h.elim))
end Go.Proofs.YtdppgaphcmhffaaGreatDoor.V
namespace Go.Proofs.YtdppgaphcmhffaaGreatDoor.V
open Go
attribute [local irreducible] go goOps goD opK callK callT stepK leaveTo nextK

theorem eq_recE (n r h m : List UInt8) (t a b c d e : Int) (tt : Int) :
    evEq Tryz.prog 20 36 (.agg [.str n, .int .u16 t, .int .u16 1, .int .u32 tt, .str r, .str h, .str m, .int .u32 a, .int .u32 b, .int .u32 c, .int .u32 d, .int .u32 e]) (.agg [.str n, .int .u16 t, .int .u16 1, .int .u32 tt, .str r, .str h, .str m, .int .u32 a, .int .u32 b, .int .u32 c, .int .u32 d, .int .u32 e]) = some true := by
  have key : evEq Tryz.prog 20 36 (.agg [.str n, .int .u16 t, .int .u16 1, .int .u32 tt, .str r, .str h, .str m, .int .u32 a, .int .u32 b, .int .u32 c, .int .u32 d, .int .u32 e]) (.agg [.str n, .int .u16 t, .int .u16 1, .int .u32 tt, .str r, .str h, .str m, .int .u32 a, .int .u32 b, .int .u32 c, .int .u32 d, .int .u32 e]) =
      if (n == n) = true then (if (t == t) = true then (if (tt == tt) = true then
      ((if (r == r) = true then (if (h == h) = true then (if (m == m) = true then
        ((if (a == a) = true then (if (b == b) = true then (if (c == c) = true then (if (d == d) = true then (if (e == e) = true then some true else some false) else some false) else some false) else some false) else some false : Option Bool).bind fun q => if q = true then some true else some false)
        else some false) else some false) else some false : Option Bool).bind fun q => if q = true then some true else some false) else some false) else some false) else some false := by kernel_rfl
  rw [key]
  simp
theorem eq_rec (x : Rcd) : evEq Tryz.prog 20 36 (.agg x.cells) (.agg x.cells) = some true := by
 obtain ⟨n, t, tt, r, h, m, a, b, c, d, e⟩ := x
 exact eq_recE n r h m t a b c d e tt
theorem rcells_at : ∀ (rs : List Rcd) (i : Nat) (x : Rcd), rs[i]? = some x → ((rcells rs).drop (i * 12)).take 12 = x.cells ∧ i * 12 + 12 ≤ (rcells rs).length
 | [], i, x, h => by simp at h
 | y :: rs, 0, x, h => by
  simp only [List.getElem?_cons_zero, Option.some.injEq] at h
  subst h
  exact ⟨rfl, by rw [rcells_len, List.length_cons]; omega⟩
 | y :: rs, i + 1, x, h => by
  obtain ⟨h1, h2⟩ := rcells_at rs i x (by simpa using h)
  have e : rcells (y :: rs) = y.cells ++ rcells rs := rfl
  have e2 : (i + 1) * 12 = y.cells.length + i * 12 := by simp [Rcd.cells, RcC.len]; omega
  refine ⟨?_, by rw [rcells_len] at h2 ⊢; simp; omega⟩
  rw [e, e2, ← List.drop_drop, List.drop_left]; exact h1
theorem Ob.at {rb : Nat} {H : Hp} {v : AV} {rs : List Rcd} (h : Ob rb H v rs) {i : Nat} {x : Rcd} (hi : rs[i]? = some x) :
  ∃ b q row, evIndexAddr Tryz.prog 26 v (.int .i64 (i : Nat)) = some (.ptr b q) ∧ H[b]? = some (.cells row 36 (.op 0 false)) ∧ ldC q 12 true (.cells row 36 (.op 0 false)) = some (.agg x.cells) := by
 have hlt := (List.getElem?_eq_some_iff.1 hi).1
 obtain ⟨_, rfl⟩ | ⟨_, b, _, rfl, hx⟩ := h
 ·simp at hlt
 ·obtain ⟨h4, h5⟩ := rcells_at rs i x hi
  refine ⟨b, 0 + i * 12, _, ?_, hx, ?_⟩
  ·simp only [evIndexAddr, tsh_26]
   rw [if_pos ⟨by omega, by omega⟩]
   simp
  ·unfold ldC
   simp only [if_true, Nat.zero_add]
   rw [if_pos h5, h4]
set_option maxRecDepth 20000 in
theorem ref_Equal (H : Hp) (va vb : AV) (rs : List Rcd) (ra rb : Nat) (ha0 : Ob ra H va rs) (hb0 : Ob rb H vb rs) (hl0 : rs.length ≤ 4096) (k) : callK Tryz.prog 11 [va, vb] H k = k (.bool true, H, z0) := by
 refine callK_eq (r := (.bool true, H, z0)) ?_ k
 refine callK_start (n := 26) (rs := [.tmp 4]) Tryz.func11 rfl rfl rfl ?_
 intro σ hl ha
 have h0 := ha 0 (by simp)
 have h1 := ha 1 (by simp)
 clear ha
 simp only [Option.getD_some, List.getElem?_cons_zero, List.getElem?_cons_succ] at h0 h1
 have e1 := ha0.len
 have e2 := hb0.len
 have e3 : ((rs.length : Int) != rs.length) = false := by simp
 simp only [go_sem, simprocAttr, hl, h0, h1, e1, e2, e3]
 refine go_rounds (fun m st => ∃ σ i e, m + i = rs.length ∧ st = ⟨σ, H, e⟩ ∧ clean H.length e ∧ σ.length = 26 ∧ fr σ 0 = va ∧ fr σ 1 = vb ∧ fr σ 5 = .int .i64 (i : Nat)) rs.length
  ⟨_, 0, _, rfl, rfl, ⟨rfl, rfl⟩, by simp only [go_sem, simprocAttr, hl], by simp only [go_sem, simprocAttr, hl, h0], by simp only [go_sem, simprocAttr, hl, h1], by simp only [go_sem, simprocAttr, hl]⟩ ?_
 clear h0 h1 hl
 rintro m _ ⟨σ, i, e, hmi, rfl, hce, hl, h0, h1, h5⟩
 by_cases hi : i < rs.length
 ·obtain ⟨x, hx⟩ : ∃ x, rs[i]? = some x := ⟨_, List.getElem?_eq_getElem hi⟩
  obtain ⟨b, q, row, a1, a2, a3⟩ := ha0.at hx
  obtain ⟨b', q', row', b1, b2, b3⟩ := hb0.at hx
  have c1 : decide (i < rs.length) = true := decide_eq_true hi
  have hq := eq_rec x
  have w1 := wrap_succ (show i < 9223372036854775807 by omega)
  simp only [go_sem, simprocAttr, hl, h0, h1, h5, e1, c1]
  refine go_drawZ tFollows (by kernel_rfl) ?_
  simp only [go_sem, simprocAttr, hl, h0, h1, h5, e1, c1, a1, a2, a3, b1, b2, b3, hq, w1]
  exact ⟨m - 1, by omega, _, i + 1, _, by omega, rfl, hce, by simp only [go_sem, simprocAttr, hl], by simp only [go_sem, simprocAttr, hl, h0], by simp only [go_sem, simprocAttr, hl, h1], by simp only [go_sem, simprocAttr, hl]⟩
 ·have c1 : decide (i < rs.length) = false := decide_eq_false hi
  simp only [go_sem, simprocAttr, hl, h0, h1, h5, e1, c1]
  exact leave_flat0 rfl hce
theorem dig_sl {n : Nat} (h : n < 10) : ((([48, 49, 50, 51, 52, 53, 54, 55, 56, 57] : List UInt8).drop n).take 1) = [hexD n] := by
 have : ∀ n : Fin 10, ((([48, 49, 50, 51, 52, 53, 54, 55, 56, 57] : List UInt8).drop n.val).take 1) = [hexD n.val] := by decide
 exact this ⟨n, h⟩
theorem let_sl {n : Nat} (h : n < 5) : ((([97, 98, 99, 100, 101] : List UInt8).drop n).take 1) = [UInt8.ofNat (97 + n)] := by
 have : ∀ n : Fin 5, ((([97, 98, 99, 100, 101] : List UInt8).drop n.val).take 1) = [UInt8.ofNat (97 + n.val)] := by decide
 exact this ⟨n, h⟩
set_option maxRecDepth 20000 in
theorem law_letter (n : Nat) (H k) : callK Tryz.prog 7 [.int .u8 (n : Nat)] H k = k (.str [UInt8.ofNat (97 + n % 5)], H, z0) := by
 refine callK_eq (r := (.str [UInt8.ofNat (97 + n % 5)], H, z0)) ?_ k
 refine callK_start (n := 9) (rs := [.tmp 2]) Tryz.func7 rfl rfl rfl ?_
 intro σ hl ha
 have h0 := ha 0 (by simp)
 clear ha
 simp only [Option.getD_some, List.getElem?_cons_zero, List.getElem?_cons_succ] at h0
 have w0 : (n : Int).tmod 5 = ((n % 5 : Nat) : Int) := rfl
 have w3 : IntKind.u8.wrap (((n % 5 : Nat) : Int) + 1) = ((n % 5 + 1 : Nat) : Int) := by rw [wrap_u8 (by omega)]; omega
 have d1 : n % 5 ≤ 4 := by omega
 have d2 : n % 5 + 1 ≤ 5 := by omega
 have d3 : n % 5 + 1 - n % 5 = 1 := by omega
 have hsl := let_sl (n := n % 5) (by omega)
 simp only [go_sem, simprocAttr, hl, h0, w0, w3, d1, d2, d3, hsl]
 omega
set_option maxRecDepth 20000 in
theorem law_under (a b : List UInt8) (H k) (ha1 : a.length ≤ 1048576) (hb1 : b.length ≤ 1048576) : callK Tryz.prog 8 [.str a, .str b] H k = k (.str (1 :: (a ++ b)), H, z0) := by
 refine callK_eq (r := (.str (1 :: (a ++ b)), H, z0)) ?_ k
 refine callK_start (n := 9) (rs := [.tmp 4]) Tryz.func8 rfl rfl rfl ?_
 intro σ hl ha
 have h0 := ha 0 (by simp)
 have h1 := ha 1 (by simp)
 clear ha
 simp only [Option.getD_some, List.getElem?_cons_zero, List.getElem?_cons_succ] at h0 h1
 have a1 := add_ok (a := [1]) (b := a) (m := 1) (n := 1048576) (by simp) ha1 (by omega)
 have a2 := add_ok (a := [1] ++ a) (b := b) (m := 1048577) (n := 1048576) (by simp; omega) hb1 (by omega)
 simp only [List.cons_append, List.nil_append] at a1 a2
 simp only [go_sem, simprocAttr, hl, h0, h1, a1, a2]
set_option maxRecDepth 20000 in
theorem law_digits : ∀ (n : Nat) (H k), n < 65536 → callK Tryz.prog 9 [.int .i64 (n : Nat)] H k = k (.str (decP n), H, z0) := by
 intro n
 induction n using Nat.strongRecOn with
 | _ n ih =>
  intro H k hn
  refine callK_eq (r := (.str (decP n), H, z0)) ?_ k
  refine callK_start (n := 19) (rs := [.tmp 2]) Tryz.func9 rfl rfl rfl ?_
  intro σ hl ha
  have h0 := ha 0 (by simp)
  clear ha
  simp only [Option.getD_some, List.getElem?_cons_zero, List.getElem?_cons_succ] at h0
  by_cases hlt : n < 10
  ·have c1 : decide ((n : Int) < 10) = true := by simp; omega
   have hsl := dig_sl hlt
   have w1 := wrap_succ (show n < 9223372036854775807 by omega)
   have d1 : n ≤ 9 := by omega
   have d1' : n ≤ 10 := by omega
   have d2 : n + 1 ≤ 10 := by omega
   have d3 : n + 1 - n = 1 := by omega
   simp only [go_sem, simprocAttr, hl, h0, c1, w1, d1, d2, d3, hsl]
   exact ⟨by omega, by rw [decP_small hlt]⟩
  ·have c1 : decide ((n : Int) < 10) = false := by simp; omega
   have w0 : (n : Int).tmod 10 = ((n % 10 : Nat) : Int) := rfl
   have e : (n : Int).tdiv 10 = ((n / 10 : Nat) : Int) := rfl
   have w4 : IntKind.i64.wrap ((n : Int).tdiv 10) = ((n / 10 : Nat) : Int) := by rw [e, wrap_i64 (by omega)]
   have hr := fun H' k' => ih (n / 10) (by omega) H' k' (by omega)
   have hsl := dig_sl (n := n % 10) (by omega)
   have w3 : IntKind.i64.wrap (((n % 10 : Nat) : Int) + 1) = ((n % 10 + 1 : Nat) : Int) := by rw [wrap_i64 (by omega)]; omega
   have d1 : n % 10 ≤ 9 := by omega
   have d2 : n % 10 + 1 ≤ 10 := by omega
   have d3 : n % 10 + 1 - n % 10 = 1 := by omega
   have a1 := add_ok (a := decP (n / 10)) (b := [hexD (n % 10)]) (m := 20) (n := 1) (dec5 _ (by omega)) (by simp) (by omega)
   simp only [go_sem, simprocAttr, hl, h0, c1]
   refine go_drawZ tFollows (by kernel_rfl) ?_
   simp only [go_sem, simprocAttr, hl, h0, c1, w0, w3, w4, hr, d1, d2, d3, hsl, a1, decP_big hlt]
   omega
end Go.Proofs.YtdppgaphcmhffaaGreatDoor.V
namespace Go.Proofs.YtdppgaphcmhffaaGreatDoor.V
open Go
attribute [local irreducible] go goOps goD opK callK callT stepK leaveTo nextK

theorem bd_sp0 : evBuild Tryz.prog 38 [] = some (.agg [.int .i64 0, .int .i64 0]) := by
 simp only [evBuild, tsh_38, tzero_38, tplaces_38, Option.bind_some, fillA]
 rfl
theorem bd_dtr (s : List UInt8) : evBuild Tryz.prog 34 [(0, .str s)] = some (.agg ({ Dt.zero with raw := s } : Dt).cells) := by
 simp only [evBuild, tsh_34, tzero_34, tplaces_34, Option.bind_some, fillA]
 rfl
theorem bd_dth (s : List UInt8) : evBuild Tryz.prog 34 [(1, .str s)] = some (.agg ({ Dt.zero with host := s } : Dt).cells) := by
 simp only [evBuild, tsh_34, tzero_34, tplaces_34, Option.bind_some, fillA]
 rfl
theorem bd_recd (n : List UInt8) (t : Int) (tt : Nat) (d : Dt) : evBuild Tryz.prog 36 [(0, .str n), (1, .int .u16 t), (2, .int .u16 1), (3, .int .u32 tt), (4, .agg d.cells)] = some (.agg (RcC n t 1 tt d)) := by
 simp only [evBuild, tsh_36, tzero_36, tplaces_36, Option.bind_some, fillA]
 rfl
theorem eq_sp0 : evEq Tryz.prog 20 38 (.agg [.int .i64 0, .int .i64 0]) (.agg [.int .i64 0, .int .i64 0]) = some true := by kernel_rfl
theorem ParR_ex {H : Hp} {rs : List Rcd} {args : List AV} (h : callK Tryz.prog 10 args H (ParR H (.ok rs))) :
  ∃ vo H', (∀ k, callK Tryz.prog 10 args H k = k (.tuple [vo, .agg [.int .i64 0, .int .i64 0], .int .i64 0], H', z0)) ∧ H.length ≤ H'.length ∧ (∀ (i : Nat) x, H[i]? = some x → H'[i]? = some x) ∧ Ob H.length H' vo rs := by
 obtain ⟨⟨vo, H'⟩, ⟨h1, h2, h3⟩, h4⟩ := callK_exP (fun b : AV × Hp => H.length ≤ b.2.length ∧ (∀ (i : Nat) x, H[i]? = some x → b.2[i]? = some x) ∧ Ob H.length b.2 b.1 rs) (fun b => (.tuple [b.1, .agg [.int .i64 0, .int .i64 0], .int .i64 0], b.2, z0)) (callK_mono h (by
  rintro r ⟨vo, H', rfl, h1, h2, h3⟩
  exact ⟨(vo, H'), ⟨h1, h2, h3⟩, rfl⟩))
 exact ⟨vo, H', h4, h1, h2, h3⟩
set_option maxRecDepth 20000 in
theorem law_reads (H : Hp) (hgl : Gl H) (hg : gN ≤ H.length) (k) : callK Tryz.prog 12 [] H k = k (.bool true, H, z0) := by
 refine callK_eq (r := (.bool true, H, z0)) ?_ k
 obtain ⟨vo, H', hp, hl', hf', hob⟩ := ParR_ex (ms_rds H hgl hg)
 unfold rdsT at hp
 refine callK_start (n := 37) (rs := [.tmp 0]) Tryz.func12 rfl rfl rfl ?_
 intro σ hl ha
 clear ha
 have hlen := hob.len
 have hll : rdsR.length = 2 := rfl
 rw [hll] at hlen
 obtain ⟨H2, hH2⟩ : ∃ H2 : Hp, H2 = H' ++ [.cells [.int .i64 0, .int .i64 0] 38 .rw] := ⟨_, rfl⟩
 have hob2 : Ob H.length H2 vo rdsR := by rw [hH2]; exact hob.fr (fun i x _ h => get_app h)
 obtain ⟨b, q, row, a1, a2, a3⟩ := hob2.at (i := 0) (x := ⟨[1, 101, 0], 1, 60, { Dt.zero with raw := [1, 1, 1, 1] }⟩) rfl
 obtain ⟨b', q', row', b1, b2, b3⟩ := hob2.at (i := 1) (x := ⟨[1, 101, 0], 2, 5, { Dt.zero with host := [1, 119, 1, 101, 0] }⟩) rfl
 have a1 : evIndexAddr Tryz.prog 26 vo (.int .i64 0) = some (.ptr b q) := a1
 have b1 : evIndexAddr Tryz.prog 26 vo (.int .i64 1) = some (.ptr b' q') := b1
 have n2 : H2[H'.length]? = some (.cells [.int .i64 0, .int .i64 0] 38 .rw) := by rw [hH2, hp_new0]; rfl
 have e1 := eq_rec ⟨[1, 101, 0], 1, 60, { Dt.zero with raw := [1, 1, 1, 1] }⟩
 have e2 := eq_rec ⟨[1, 101, 0], 2, 5, { Dt.zero with host := [1, 119, 1, 101, 0] }⟩
 have g1 : evBuild Tryz.prog 36 [(0, .str [1, 101, 0]), (1, .int .u16 1), (2, .int .u16 1), (3, .int .u32 60), (4, .agg (Dt.cells { Dt.zero with raw := [1, 1, 1, 1] }))] = some (.agg (Rcd.cells ⟨[1, 101, 0], 1, 60, { Dt.zero with raw := [1, 1, 1, 1] }⟩)) := bd_recd [1, 101, 0] 1 60 { Dt.zero with raw := [1, 1, 1, 1] }
 have g2 : evBuild Tryz.prog 36 [(0, .str [1, 101, 0]), (1, .int .u16 2), (2, .int .u16 1), (3, .int .u32 5), (4, .agg (Dt.cells { Dt.zero with host := [1, 119, 1, 101, 0] }))] = some (.agg (Rcd.cells ⟨[1, 101, 0], 2, 5, { Dt.zero with host := [1, 119, 1, 101, 0] }⟩)) := bd_recd [1, 101, 0] 2 5 { Dt.zero with host := [1, 119, 1, 101, 0] }
 have f1 := bd_dtr [1, 1, 1, 1]
 have f2 := bd_dth [1, 119, 1, 101, 0]
 have sp0 : splice [.int .i64 0, .int .i64 0] 0 [.int .i64 0, .int .i64 0] = [AV.int .i64 0, .int .i64 0] := rfl
 have st2 : H2.set H'.length (.cells [.int .i64 0, .int .i64 0] 38 .rw) = H2 := set_get n2
 have hll2 : ((2 : Nat) : Int) = 2 := rfl
 have bs := bd_sp0
 have es := eq_sp0
 simp only [go_sem, simprocAttr, hl, hp, ← hH2, n2, bs, es, hlen, a1, a2, a3, b1, b2, b3, f1, f2, g1, g2, e1, e2, sp0, st2]
 refine leave_abs rfl ?_ (fun j x h => by rw [hH2]; exact get_app (hf' j x h))
 simp only [clean_andT, clean_z0, clean_wT, clean_ewT, clean_ifT hl', and_true, true_and, hl']
end Go.Proofs.YtdppgaphcmhffaaGreatDoor.V
namespace Go.Proofs.YtdppgaphcmhffaaGreatDoor.V
open Go
attribute [local irreducible] go goOps goD opK callK callT stepK leaveTo nextK

def Ln.cells (x : Ln) : List AV := [.int .u8 (x.how : Nat), .int .u8 (x.own : Nat), .int .u16 (x.ttl : Nat), .bool x.tm, .bool x.cs, .bool x.bh]
def lnC (L : List Ln) : List AV := L.flatMap Ln.cells
theorem lnC_len (L : List Ln) : (lnC L).length = L.length * 6 := by
 induction L with
 | nil => rfl
 | cons w ws ih =>
  have e : lnC (w :: ws) = w.cells ++ lnC ws := rfl
  rw [e, List.length_append, ih, List.length_cons]; simp [Ln.cells]; omega
theorem lnC_at : ∀ (L : List Ln) (i : Nat) (x : Ln), L[i]? = some x → ((lnC L).drop (i * 6)).take 6 = x.cells ∧ i * 6 + 6 ≤ (lnC L).length
 | [], i, x, h => by simp at h
 | y :: rs, 0, x, h => by
  simp only [List.getElem?_cons_zero, Option.some.injEq] at h
  subst h
  exact ⟨rfl, by rw [lnC_len, List.length_cons]; omega⟩
 | y :: rs, i + 1, x, h => by
  obtain ⟨h1, h2⟩ := lnC_at rs i x (by simpa using h)
  have e : lnC (y :: rs) = y.cells ++ lnC rs := rfl
  have e2 : (i + 1) * 6 = y.cells.length + i * 6 := by simp [Ln.cells]; omega
  refine ⟨?_, by rw [lnC_len] at h2 ⊢; simp; omega⟩
  rw [e, e2, ← List.drop_drop, List.drop_left]; exact h1
def Hv (H : Hp) (v : AV) (L : List Ln) : Prop := (v = .nils ∧ L = []) ∨ ∃ lb c e kd, v = .slice lb 0 L.length c ∧ H[lb]? = some (.cells (lnC L) e kd)
theorem Hv.len {H : Hp} {v : AV} {L : List Ln} (h : Hv H v L) (H' : Hp) : evLen Tryz.prog 22 v H' = some (.int .i64 L.length) := by
 obtain ⟨rfl, rfl⟩ | ⟨lb, c, e, kd, rfl, _⟩ := h <;> simp only [evLen, tsh_22] <;> rfl
theorem Hv.at {H Hc : Hp} {v : AV} {L : List Ln} (h : Hv H v L) (hf : ∀ (i : Nat) x, H[i]? = some x → Hc[i]? = some x) {i : Nat} {x : Ln} (hi : L[i]? = some x) :
  ∃ b q row e kd, evIndexAddr Tryz.prog 22 v (.int .i64 (i : Nat)) = some (.ptr b q) ∧ Hc[b]? = some (.cells row e kd) ∧ ldC q 6 true (.cells row e kd) = some (.agg x.cells) := by
 have hlt := (List.getElem?_eq_some_iff.1 hi).1
 obtain ⟨_, rfl⟩ | ⟨b, c, e, kd, rfl, hx⟩ := h
 ·simp at hlt
 ·obtain ⟨h4, h5⟩ := lnC_at L i x hi
  refine ⟨b, 0 + i * 6, _, e, kd, ?_, hf b _ hx, ?_⟩
  ·simp only [evIndexAddr, tsh_22]
   rw [if_pos ⟨by omega, by omega⟩]
   simp
  ·unfold ldC
   simp only [if_true, Nat.zero_add]
   rw [if_pos h5, h4]
structure HJ (S : HS) (i : Nat) : Prop where
 hi : HI S
 tl : S.text.length ≤ 64 * i
 wl : S.want.length ≤ i
 owl : S.ow.length ≤ 5
theorem HJ.o3 {S : HS} {i : Nat} (h : HJ S i) : S.o.length = 3 := (nm_o h.hi.o).2
theorem ow_len {S : HS} {i : Nat} (h : HJ S i) (x : Ln) : (x.ow S.o S.ow).length ≤ 5 := by
 have := h.o3
 have := h.owl
 unfold Ln.ow
 split
 ·omega
 split
 ·simp
 split
 ·simp; omega
 ·omega
theorem HJ.step {S : HS} {i : Nat} (h : HJ S i) (x : Ln) (hx : x.ttl ≤ 65535) : HJ (hStep S x) (i + 1) := by
 refine ⟨step_hi h.hi hx, ?_, Nat.le_trans step_want (by have := h.wl; omega), ?_⟩
 ·have := h.tl
  have := lt_len x hx
  by_cases ho : on S x
  ·rw [step_on ho]; simp; omega
  ·rw [step_off ho]; omega
 ·have := h.owl
  have := ow_len h x
  unfold hStep
  split
  ·exact h.owl
  split
  ·exact h.owl
  split
  ·exact h.owl
  ·exact this
theorem HJ.zero (n : Nat) (hn : n ≤ 65535) : HJ (hS0 n) 0 := ⟨⟨⟨122, rfl, .inl rfl⟩, hn⟩, Nat.le_refl _, Nat.le_refl _, Nat.zero_le _⟩
attribute [-go_sem] go_seq
set_option maxRecDepth 20000 in
set_option maxHeartbeats 4000000 in
theorem law_Holds (H : Hp) (lv : AV) (L : List Ln) (n : Nat) (hn : n ≤ 65535) (hgl : Gl H) (hg : gN ≤ H.length) (hlv : Hv H lv L) (hL : ∀ x ∈ L, x.how ≤ 255 ∧ x.own ≤ 255 ∧ x.ttl ≤ 65535) :
  callK Tryz.prog 3 [lv, .int .u16 (n : Nat)] H (fun q => q = (.bool true, H, z0)) := by
 refine callK_start (n := 154) (rs := [.tmp 4]) Tryz.func3 rfl rfl rfl ?_
 intro σ hl ha
 have h0 := ha 0 (by simp)
 have h1 := ha 1 (by simp)
 clear ha
 simp only [Option.getD_some, List.getElem?_cons_zero, List.getElem?_cons_succ] at h0 h1
 have hlen := hlv.len
 by_cases hbig : L.length > 40
 ·have c1 : decide ((L.length : Int) > 40) = true := by simp; omega
  simp only [go_sem, simprocAttr, go_seq, hl, h0, h1, hlen, c1]
 have c1 : decide ((L.length : Int) > 40) = false := by simp; omega
 have wn : IntKind.u32.wrap (n : Int) = (n : Int) := wrap_u32 (by omega)
 simp only [go_sem, simprocAttr, go_seq, hl, h0, h1, hlen, c1, wn]
 obtain ⟨rb, hrb⟩ : ∃ rb, H.length = rb + 1 := ⟨H.length - 1, by have : gN = 9 := rfl; omega⟩
 refine go_rounds (fun m st => ∃ σ i Hc e vo S, m + i = L.length ∧ st = ⟨σ, Hc, e⟩ ∧ clean H.length e ∧ (∀ (j : Nat) x, H[j]? = some x → Hc[j]? = some x) ∧ H.length ≤ Hc.length ∧ Ob rb Hc vo S.want ∧ S = (L.take i).foldl hStep (hS0 n) ∧ HJ S i ∧ σ.length = 154 ∧ fr σ 0 = lv ∧ fr σ 1 = .int .u16 (n : Nat) ∧ fr σ 5 = .str S.text ∧ fr σ 6 = .str S.o ∧ fr σ 7 = .str S.ow ∧ fr σ 8 = .int .u32 (S.h : Nat) ∧ fr σ 9 = .bool S.fx ∧ fr σ 10 = vo ∧ fr σ 11 = .int .i64 (i : Nat)) L.length
  ⟨_, 0, H, _, .nils, hS0 n, rfl, rfl, ⟨rfl, rfl⟩, fun _ _ h => h, Nat.le_refl _, .inl ⟨rfl, rfl⟩, rfl, HJ.zero n hn, by simp only [go_sem, simprocAttr, hl], by simp only [go_sem, simprocAttr, hl, h0], by simp only [go_sem, simprocAttr, hl, h1], by show fr _ 5 = .str []; simp only [go_sem, simprocAttr, hl], by show fr _ 6 = .str [1, 122, 0]; simp only [go_sem, simprocAttr, hl], by show fr _ 7 = .str []; simp only [go_sem, simprocAttr, hl], by show fr _ 8 = .int .u32 (n : Nat); simp only [go_sem, simprocAttr, hl], by show fr _ 9 = .bool false; simp only [go_sem, simprocAttr, hl], by show fr _ 10 = .nils; simp only [go_sem, simprocAttr, hl], by show fr _ 11 = .int .i64 0; simp only [go_sem, simprocAttr, hl]⟩ ?_
 clear h0 h1 hl
 rintro m _ ⟨σ, i, Hc, e, vo, S, hmi, rfl, hce, hfm, hle, hob, hS, hJ, hl, h0, h1, h5, h6, h7, h8, h9, h10, h11⟩
 by_cases hi : i < L.length
 ·obtain ⟨x, hx⟩ : ∃ x, L[i]? = some x := ⟨_, List.getElem?_eq_getElem hi⟩
  obtain ⟨hx1, hx2, hx3⟩ := hL x (List.mem_of_getElem? hx)
  obtain ⟨b, q, row, ee, kd, a1, a2, a3⟩ := hlv.at hfm hx
  have c2 : decide (i < L.length) = true := decide_eq_true hi
  have w1 := wrap_succ (show i < 9223372036854775807 by omega)
  have hS1 : hStep S x = (L.take (i + 1)).foldl hStep (hS0 n) := by
   rw [List.take_add_one, hx, List.foldl_append, ← hS]; rfl
  have hJ1 := hJ.step x hx3
  have hlet := fun H' k => law_letter x.own H' k
  have hxv : vcells (.agg x.cells) = x.cells := rfl
  have hxs : x.cells.all scal = true := rfl
  have hxp : splice [.int .u8 0, .int .u8 0, .int .u16 0, .bool false, .bool false, .bool false] 0 x.cells = x.cells := rfl
  have hxf : flats x.cells = true := rfl
  have hxl : x.cells.length = 6 := rfl
  have l0 : ldC 0 1 false (.cells x.cells 28 .rw) = some (.int .u8 (x.how : Nat)) := rfl
  have l1 : ldC 1 1 false (.cells x.cells 28 .rw) = some (.int .u8 (x.own : Nat)) := rfl
  have l2 : ldC 2 1 false (.cells x.cells 28 .rw) = some (.int .u16 (x.ttl : Nat)) := rfl
  have l3 : ldC 3 1 false (.cells x.cells 28 .rw) = some (.bool x.tm) := rfl
  have l4 : ldC 4 1 false (.cells x.cells 28 .rw) = some (.bool x.cs) := rfl
  have l5 : ldC 5 1 false (.cells x.cells 28 .rw) = some (.bool x.bh) := rfl
  obtain ⟨H1, hH1⟩ : ∃ H1 : Hp, H1 = Hc ++ [.cells x.cells 28 .rw] := ⟨_, rfl⟩
  have n1 : H1[Hc.length]? = some (.cells x.cells 28 .rw) := by rw [hH1, hp_new0]; rfl
  have wm : (x.how : Int).tmod 6 = ((x.how % 6 : Nat) : Int) := rfl
  have oX : Ob rb H1 vo S.want := by rw [hH1]; exact hob.fr (fun j x _ h => get_app h)
  have f1 : ∀ (j : Nat) x, H[j]? = some x → H1[j]? = some x := fun j x h => by rw [hH1]; exact get_app (hfm j x h)
  have hl1 : H1.length = Hc.length + 1 := by rw [hH1]; simp
  have hxc : UInt8.ofNat (97 + x.own % 5) = x.c := rfl
  have htl := hJ.tl
  have ho3 := hJ.o3
  have hund1 := fun H' k => law_under [x.c] [0] H' k (by simp) (by simp)
  have hund2 := fun H' k => law_under [113] [0] H' k (by simp) (by simp)
  have hund3 := fun H' k => law_under [x.c] [1, 113, 0] H' k (by simp) (by simp)
  have hund4 := fun H' k => law_under [x.c] S.o H' k (by simp) (by omega)
  have hund5 := fun H' k => law_under [110] S.o H' k (by simp) (by omega)
  have hdig := fun H' k => law_digits x.ttl H' k (by omega)
  have hdl := dec5 x.ttl hx3
  have wt : IntKind.i64.wrap (x.ttl : Int) = (x.ttl : Int) := wrap_i64 (by omega)
  have wt2 : IntKind.u32.wrap (x.ttl : Int) = (x.ttl : Int) := wrap_u32 (by omega)
  rw [go_seq, go_seq]
  simp only [go_sem, simprocAttr, hl, h0, h11, hlen, c2]
  rw [go_seq]
  simp only [go_sem, simprocAttr, hl]
  rw [go_seq]
  simp only [go_sem, simprocAttr, hl, h0, h11, a1, a2, a3, hxv, hxs, hxp, hxf, hxl, ← hH1]
  rw [go_seq]
  simp only [go_sem, simprocAttr, hl, n1, l1, hlet, hxc]
  rw [go_seq]
  refine go_cut (fun st => ∃ σ e, st = ⟨σ, H1, e⟩ ∧ clean H.length e ∧ 2 ≤ x.how % 6 ∧ σ.length = 154 ∧ fr σ 0 = lv ∧ fr σ 1 = .int .u16 (n : Nat) ∧ fr σ 5 = .str (S.text ++ x.pre) ∧ fr σ 6 = .str S.o ∧ fr σ 7 = .str (x.ow S.o S.ow) ∧ fr σ 8 = .int .u32 (S.h : Nat) ∧ fr σ 9 = .bool S.fx ∧ fr σ 10 = vo ∧ fr σ 11 = .int .i64 (i : Nat) ∧ fr σ 12 = .ptr Hc.length 0) ?_ ?_
  ·have hcl : ∀ e' : Ef, clean H.length e' → clean H.length (e.and e') := fun e' h => clean_and hce h
   have h6c : x.how % 6 = 0 ∨ x.how % 6 = 1 ∨ x.how % 6 = 2 ∨ x.how % 6 = 3 ∨ x.how % 6 = 4 ∨ x.how % 6 = 5 := by omega
   rcases h6c with hm | hm | hm | hm | hm | hm
   ·rw [hm] at wm
    have wm : (x.how : Int).tmod 6 = 0 := wm
    simp only [go_sem, simprocAttr, go_seq, hl, h0, h1, h5, h6, h7, h8, h9, h10, h11, n1, l0, l2, wm, hund1, hund2, hund3, hund4, hdig, wt, wt2, w1]
    have hst : hStep S x = { S with text := S.text ++ ([36, 79, 114, 105, 103, 105, 110, 32] ++ [x.c] ++ [46, 10]), o := [1, x.c, 0] } := by unfold hStep; rw [if_pos hm]
    rw [hst] at hS1 hJ1
    repeat refine ⟨(by unfold maxI; omega), ?_⟩
    exact ⟨m - 1, by omega, _, i + 1, H1, _, vo, (⟨S.text ++ ([36, 79, 114, 105, 103, 105, 110, 32] ++ [x.c] ++ [46, 10]), [1, x.c, 0], S.ow, S.h, S.fx, S.want⟩ : HS), by omega, rfl, hcl _ (clean_w hle), f1, by omega, oX, hS1, hJ1, by simp only [go_sem, simprocAttr, hl], by simp only [go_sem, simprocAttr, hl, h0], by simp only [go_sem, simprocAttr, hl, h1], by simp only [go_sem, simprocAttr, hl, List.cons_append, List.nil_append, List.append_assoc], by simp only [go_sem, simprocAttr, hl], by simp only [go_sem, simprocAttr, hl, h7], by simp only [go_sem, simprocAttr, hl, h8], by simp only [go_sem, simprocAttr, hl, h9], by simp only [go_sem, simprocAttr, hl, h10], by simp only [go_sem, simprocAttr, hl]⟩
   ·rw [hm] at wm
    have wm : (x.how : Int).tmod 6 = 1 := wm
    simp only [go_sem, simprocAttr, go_seq, hl, h0, h1, h5, h6, h7, h8, h9, h10, h11, n1, l0, l2, wm, hund1, hund2, hund3, hund4, hdig, wt, wt2, w1]
    have hst : hStep S x = { S with text := S.text ++ ([36, 84, 84, 76, 32] ++ decP x.ttl ++ [32, 59, 32, 120, 10]), h := x.ttl, fx := true } := by unfold hStep; rw [if_neg (by omega), if_pos hm]
    rw [hst] at hS1 hJ1
    repeat refine ⟨(by unfold maxI; omega), ?_⟩
    exact ⟨m - 1, by omega, _, i + 1, H1, _, vo, (⟨S.text ++ ([36, 84, 84, 76, 32] ++ decP x.ttl ++ [32, 59, 32, 120, 10]), S.o, S.ow, x.ttl, true, S.want⟩ : HS), by omega, rfl, hcl _ (clean_w hle), f1, by omega, oX, hS1, hJ1, by simp only [go_sem, simprocAttr, hl], by simp only [go_sem, simprocAttr, hl, h0], by simp only [go_sem, simprocAttr, hl, h1], by simp only [go_sem, simprocAttr, hl, List.cons_append, List.nil_append, List.append_assoc], by simp only [go_sem, simprocAttr, hl, h6], by simp only [go_sem, simprocAttr, hl, h7], by simp only [go_sem, simprocAttr, hl], by simp only [go_sem, simprocAttr, hl], by simp only [go_sem, simprocAttr, hl, h10], by simp only [go_sem, simprocAttr, hl]⟩
   ·rw [hm] at wm
    have wm : (x.how : Int).tmod 6 = 2 := wm
    have hp : x.pre = [64] := by unfold Ln.pre; rw [if_pos hm]
    have ho : x.ow S.o S.ow = S.o := by unfold Ln.ow; rw [if_pos hm]
    rw [hp, ho]
    simp only [go_sem, simprocAttr, go_seq, hl, h0, h1, h5, h6, h7, h8, h9, h10, h11, n1, l0, l2, wm, hund1, hund2, hund3, hund4, hdig, wt, wt2, w1]
    repeat refine ⟨(by unfold maxI; omega), ?_⟩
    exact ⟨_, _, rfl, hcl _ (clean_w hle), by omega, by simp only [go_sem, simprocAttr, hl], by simp only [go_sem, simprocAttr, hl, h0], by simp only [go_sem, simprocAttr, hl, h1], by simp only [go_sem, simprocAttr, hl, h5, List.cons_append, List.nil_append, List.append_assoc, List.append_nil], by simp only [go_sem, simprocAttr, hl, h6], by simp only [go_sem, simprocAttr, hl, h7, List.cons_append, List.nil_append], by simp only [go_sem, simprocAttr, hl, h8], by simp only [go_sem, simprocAttr, hl, h9], by simp only [go_sem, simprocAttr, hl, h10], by simp only [go_sem, simprocAttr, hl, h11], by simp only [go_sem, simprocAttr, hl]⟩
   ·rw [hm] at wm
    have wm : (x.how : Int).tmod 6 = 3 := wm
    have hp : x.pre = [x.c, 46, 113, 46] := by unfold Ln.pre; rw [if_neg (by omega), if_pos hm]
    have ho : x.ow S.o S.ow = [1, x.c, 1, 113, 0] := by unfold Ln.ow; rw [if_neg (by omega), if_pos hm]
    rw [hp, ho]
    simp only [go_sem, simprocAttr, go_seq, hl, h0, h1, h5, h6, h7, h8, h9, h10, h11, n1, l0, l2, wm, hund1, hund2, hund3, hund4, hdig, wt, wt2, w1]
    repeat refine ⟨(by unfold maxI; omega), ?_⟩
    exact ⟨_, _, rfl, hcl _ (clean_w hle), by omega, by simp only [go_sem, simprocAttr, hl], by simp only [go_sem, simprocAttr, hl, h0], by simp only [go_sem, simprocAttr, hl, h1], by simp only [go_sem, simprocAttr, hl, h5, List.cons_append, List.nil_append, List.append_assoc, List.append_nil], by simp only [go_sem, simprocAttr, hl, h6], by simp only [go_sem, simprocAttr, hl, h7, List.cons_append, List.nil_append], by simp only [go_sem, simprocAttr, hl, h8], by simp only [go_sem, simprocAttr, hl, h9], by simp only [go_sem, simprocAttr, hl, h10], by simp only [go_sem, simprocAttr, hl, h11], by simp only [go_sem, simprocAttr, hl]⟩
   ·rw [hm] at wm
    have wm : (x.how : Int).tmod 6 = 4 := wm
    have hp : x.pre = [x.c] := by unfold Ln.pre; rw [if_neg (by omega), if_neg (by omega), if_pos hm]
    have ho : x.ow S.o S.ow = 1 :: x.c :: S.o := by unfold Ln.ow; rw [if_neg (by omega), if_neg (by omega), if_pos hm]
    rw [hp, ho]
    simp only [go_sem, simprocAttr, go_seq, hl, h0, h1, h5, h6, h7, h8, h9, h10, h11, n1, l0, l2, wm, hund1, hund2, hund3, hund4, hdig, wt, wt2, w1]
    repeat refine ⟨(by unfold maxI; omega), ?_⟩
    exact ⟨_, _, rfl, hcl _ (clean_w hle), by omega, by simp only [go_sem, simprocAttr, hl], by simp only [go_sem, simprocAttr, hl, h0], by simp only [go_sem, simprocAttr, hl, h1], by simp only [go_sem, simprocAttr, hl, h5, List.cons_append, List.nil_append, List.append_assoc, List.append_nil], by simp only [go_sem, simprocAttr, hl, h6], by simp only [go_sem, simprocAttr, hl, h7, List.cons_append, List.nil_append], by simp only [go_sem, simprocAttr, hl, h8], by simp only [go_sem, simprocAttr, hl, h9], by simp only [go_sem, simprocAttr, hl, h10], by simp only [go_sem, simprocAttr, hl, h11], by simp only [go_sem, simprocAttr, hl]⟩
   ·rw [hm] at wm
    have wm : (x.how : Int).tmod 6 = 5 := wm
    have hp : x.pre = [] := by unfold Ln.pre; rw [if_neg (by omega), if_neg (by omega), if_neg (by omega)]
    have ho : x.ow S.o S.ow = S.ow := by unfold Ln.ow; rw [if_neg (by omega), if_neg (by omega), if_neg (by omega)]
    rw [hp, ho]
    simp only [go_sem, simprocAttr, go_seq, hl, h0, h1, h5, h6, h7, h8, h9, h10, h11, n1, l0, l2, wm, hund1, hund2, hund3, hund4, hdig, wt, wt2, w1]
    exact ⟨_, _, rfl, hcl _ (clean_w hle), by omega, by simp only [go_sem, simprocAttr, hl], by simp only [go_sem, simprocAttr, hl, h0], by simp only [go_sem, simprocAttr, hl, h1], by simp only [go_sem, simprocAttr, hl, h5, List.cons_append, List.nil_append, List.append_assoc, List.append_nil], by simp only [go_sem, simprocAttr, hl, h6], by simp only [go_sem, simprocAttr, hl, h7, List.cons_append, List.nil_append], by simp only [go_sem, simprocAttr, hl, h8], by simp only [go_sem, simprocAttr, hl, h9], by simp only [go_sem, simprocAttr, hl, h10], by simp only [go_sem, simprocAttr, hl, h11], by simp only [go_sem, simprocAttr, hl]⟩
  clear hl h0 h1 h5 h6 h7 h8 h9 h10 h11
  rintro _ ⟨σ, e2, rfl, hc2, hhow, hl, h0, h1, h5, h6, h7, h8, h9, h10, h11, h12⟩
  have hpl : x.pre.length ≤ 4 := by
   unfold Ln.pre
   split
   ·decide
   split
   ·simp
   split
   ·simp
   ·decide
  rw [go_seq, go_seq]
  by_cases how0 : x.ow S.o S.ow = []
  ·have hm5 : x.how % 6 = 5 := by
    have : x.how % 6 = 2 ∨ x.how % 6 = 3 ∨ x.how % 6 = 4 ∨ x.how % 6 = 5 := by omega
    rcases this with h | h | h | h
    ·unfold Ln.ow at how0; rw [if_pos h] at how0; rw [how0] at ho3; cases ho3
    ·unfold Ln.ow at how0; rw [if_neg (by omega), if_pos h] at how0; cases how0
    ·unfold Ln.ow at how0; rw [if_neg (by omega), if_neg (by omega), if_pos h] at how0; cases how0
    ·exact h
   have hp : x.pre = [] := by unfold Ln.pre; rw [if_neg (by omega), if_neg (by omega), if_neg (by omega)]
   have hwo : S.ow = [] := by unfold Ln.ow at how0; rw [if_neg (by omega), if_neg (by omega), if_neg (by omega)] at how0; exact how0
   have hst : hStep S x = S := step_off (by unfold on; rintro (h | h | h); omega; omega; exact h how0)
   rw [hst] at hS1 hJ1
   rw [how0] at h7
   rw [hp, List.append_nil] at h5
   simp only [go_sem, simprocAttr, go_seq, hl, h0, h1, h5, h6, h7, h8, h9, h10, h11, h12, w1]
   exact ⟨m - 1, by omega, _, i + 1, H1, _, vo, S, by omega, rfl, hc2, f1, by omega, oX, hS1, hJ1, by simp only [go_sem, simprocAttr, hl], by simp only [go_sem, simprocAttr, hl, h0], by simp only [go_sem, simprocAttr, hl, h1], by simp only [go_sem, simprocAttr, hl, h5], by simp only [go_sem, simprocAttr, hl, h6], by simp only [go_sem, simprocAttr, hl, h7, hwo], by simp only [go_sem, simprocAttr, hl, h8], by simp only [go_sem, simprocAttr, hl, h9], by simp only [go_sem, simprocAttr, hl, h10], by simp only [go_sem, simprocAttr, hl]⟩
  have cE : (x.ow S.o S.ow == []) = false := by rw [beq_eq_false_iff_ne]; exact how0
  have hst : hStep S x = { S with text := S.text ++ (x.pre ++ x.rest), ow := x.ow S.o S.ow, h := if x.tm = true ∧ S.fx = false then x.ttl else S.h, want := S.want ++ [⟨x.ow S.o S.ow, 2, if x.tm = true then x.ttl else S.h, { Dt.zero with host := 1 :: 110 :: S.o }⟩] } := by
   unfold hStep; rw [if_neg (by omega), if_neg (by omega), if_neg how0]
  rw [hst] at hS1 hJ1
  obtain ⟨ow', how'⟩ : ∃ ow', ow' = x.ow S.o S.ow := ⟨_, rfl⟩
  rw [← how'] at hS1 hJ1 cE h7
  obtain ⟨d, hd⟩ : ∃ d : Dt, d = { Dt.zero with host := 1 :: 110 :: S.o } := ⟨_, rfl⟩
  rw [← hd] at hS1 hJ1
  have f2 := bd_dth (1 :: 110 :: S.o)
  rw [← hd] at f2
  have g2 : evBuild Tryz.prog 36 [(0, .str ow'), (1, .int .u16 2), (2, .int .u16 1), (3, .int .u32 (S.h : Nat)), (4, .agg d.cells)] = some (.agg (Rcd.cells ⟨ow', 2, S.h, d⟩)) := bd_recd ow' 2 S.h d
  have hrv : ∀ R : Rcd, vcells (.agg R.cells) = R.cells := fun _ => rfl
  have hrs : ∀ R : Rcd, R.cells.all scal = true := fun _ => rfl
  have hrp : ∀ R : Rcd, splice [.str [], .int .u16 0, .int .u16 0, .int .u32 0, .str [], .str [], .str [], .int .u32 0, .int .u32 0, .int .u32 0, .int .u32 0, .int .u32 0] 0 R.cells = R.cells := fun _ => rfl
  have hrf : ∀ R : Rcd, flats R.cells = true := fun _ => rfl
  have hrl : ∀ R : Rcd, R.cells.length = 12 := fun _ => rfl
  have hrld : ∀ (R : Rcd), ldC 0 12 true (.cells R.cells 36 .rw) = some (.agg R.cells) := fun _ => rfl
  have hrl3 : ∀ (R : Rcd), ldC 3 1 false (.cells R.cells 36 .rw) = some (.int .u32 (R.tt : Nat)) := fun _ => rfl
  have hrs3 : ∀ (o : List UInt8) (t a b : Nat) (d : Dt), splice (Rcd.cells ⟨o, t, a, d⟩) 3 [.int .u32 (b : Nat)] = Rcd.cells ⟨o, t, b, d⟩ := fun _ _ _ _ _ => rfl
  obtain ⟨H2, hH2⟩ : ∃ H2 : Hp, H2 = H1 ++ [.cells (Rcd.cells ⟨ow', 2, S.h, d⟩) 36 .rw] := ⟨_, rfl⟩
  have m1 : H2[H1.length]? = some (.cells (Rcd.cells ⟨ow', 2, S.h, d⟩) 36 .rw) := by rw [hH2, hp_new0]; rfl
  have k1 : H2[Hc.length]? = some (.cells x.cells 28 .rw) := by rw [hH2]; exact get_app n1
  have hl2 : H2.length = H1.length + 1 := by rw [hH2]; simp
  simp only [go_sem, simprocAttr, hl, h0, h1, h5, h6, h7, h8, h9, h10, h11, h12, cE]
  rw [go_seq]
  simp only [go_sem, simprocAttr, hl, h0, h1, h5, h6, h7, h8, h9, h10, h11, h12, hund5, List.cons_append, List.nil_append, f2, g2, hrv, hrs, hrp, hrf, hrl, ← hH2]
  rw [go_seq]
  obtain ⟨A, hA⟩ : ∃ A : List UInt8, A = if x.cs = true ∧ x.bh = false then [32, 73, 110] else [] := ⟨_, rfl⟩
  obtain ⟨B, hB⟩ : ∃ A : List UInt8, A = if x.tm = true then 32 :: decP x.ttl else [] := ⟨_, rfl⟩
  obtain ⟨C, hC⟩ : ∃ A : List UInt8, A = if x.cs = true ∧ x.bh = true then [9, 73, 78] else [] := ⟨_, rfl⟩
  have hAl : A.length ≤ 3 := by rw [hA]; split <;> simp
  have hBl : B.length ≤ 21 := by rw [hB]; split <;> simp; omega
  have hCl : C.length ≤ 3 := by rw [hC]; split <;> simp
  have hrest : x.rest = A ++ B ++ C ++ [32, 110, 115, 32, 40, 10, 32, 110, 32, 41, 10] := by unfold Ln.rest; rw [hA, hB, hC]
  refine go_cut (fun st => ∃ σ e, st = ⟨σ, H2, e⟩ ∧ clean H.length e ∧ σ.length = 154 ∧ fr σ 0 = lv ∧ fr σ 1 = .int .u16 (n : Nat) ∧ fr σ 5 = .str (S.text ++ (x.pre ++ A)) ∧ fr σ 6 = .str S.o ∧ fr σ 7 = .str ow' ∧ fr σ 8 = .int .u32 ((S.h : Nat) : Int) ∧ fr σ 9 = .bool S.fx ∧ fr σ 10 = vo ∧ fr σ 11 = .int .i64 (i : Nat) ∧ fr σ 12 = .ptr Hc.length 0 ∧ fr σ 14 = .ptr H1.length 0) ?_ ?_
  ·cases hcs : x.cs <;> cases hbh : x.bh
   all_goals
    rw [hcs] at l4 hA
    rw [hbh] at l5 hA
    simp only [Bool.false_eq_true, Bool.true_eq_false, and_self, and_true, true_and, false_and, and_false, if_true, if_false] at hA
    simp only [go_sem, simprocAttr, go_seq, hl, h0, h1, h5, h6, h7, h8, h9, h10, h11, h12, k1, l4, l5, Bool.not_true, Bool.not_false]
    repeat refine ⟨(by (try simp only [List.length_append]); unfold maxI; omega), ?_⟩
    exact ⟨_, _, rfl, by simp only [clean_andT, clean_z0, clean_wT, clean_ewT, hc2, true_and, and_true] <;> omega, by simp only [go_sem, simprocAttr, hl], by simp only [go_sem, simprocAttr, hl, h0], by simp only [go_sem, simprocAttr, hl, h1], by simp only [go_sem, simprocAttr, hl, h5, hA, List.cons_append, List.nil_append, List.append_assoc, List.append_nil], by simp only [go_sem, simprocAttr, hl, h6], by simp only [go_sem, simprocAttr, hl, h7], by simp only [go_sem, simprocAttr, hl, h8], by simp only [go_sem, simprocAttr, hl, h9], by simp only [go_sem, simprocAttr, hl, h10], by simp only [go_sem, simprocAttr, hl, h11], by simp only [go_sem, simprocAttr, hl, h12], by simp only [go_sem, simprocAttr, hl]⟩
  clear hl h0 h1 h5 h6 h7 h8 h9 h10 h11 h12
  rintro _ ⟨σ, e3, rfl, hc3, hl, h0, h1, h5, h6, h7, h8, h9, h10, h11, h12, h14⟩
  rw [go_seq]
  refine go_cut (fun st => ∃ σ W e, st = ⟨σ, W, e⟩ ∧ clean H.length e ∧ (W.length = H2.length ∧ (∀ (j : Nat) y, j ≠ H1.length → H2[j]? = some y → W[j]? = some y) ∧ W[H1.length]? = some (.cells (Rcd.cells ⟨ow', 2, if x.tm = true then x.ttl else S.h, d⟩) 36 .rw)) ∧ σ.length = 154 ∧ fr σ 0 = lv ∧ fr σ 1 = .int .u16 (n : Nat) ∧ fr σ 5 = .str (S.text ++ (x.pre ++ (A ++ B))) ∧ fr σ 6 = .str S.o ∧ fr σ 7 = .str ow' ∧ fr σ 8 = .int .u32 ((if x.tm = true ∧ S.fx = false then x.ttl else S.h : Nat) : Int) ∧ fr σ 9 = .bool S.fx ∧ fr σ 10 = vo ∧ fr σ 11 = .int .i64 (i : Nat) ∧ fr σ 12 = .ptr Hc.length 0 ∧ fr σ 14 = .ptr H1.length 0) ?_ ?_
  ·have z1 : ∀ y, (H2.set H1.length y)[H1.length]? = some y := fun y => List.getElem?_set_self (lt_of_get m1)
   have z2 : ∀ y, (H2.set H1.length y)[Hc.length]? = some (.cells x.cells 28 .rw) := fun y => by rw [List.getElem?_set_ne (by omega)]; exact k1
   have zf : ∀ y (j : Nat) z, j ≠ H1.length → H2[j]? = some z → (H2.set H1.length y)[j]? = some z := fun y j z h1 h2 => by rw [List.getElem?_set_ne (Ne.symm h1)]; exact h2
   cases htm : x.tm
   ·rw [htm] at l3 hB
    simp only [Bool.false_eq_true, if_false] at hB
    simp only [go_sem, simprocAttr, go_seq, hl, h0, h1, h5, h6, h7, h8, h9, h10, h11, h12, h14, k1, l3]
    exact ⟨_, H2, _, rfl, by simp only [clean_andT, clean_z0, clean_wT, clean_ewT, hc3, true_and, and_true] <;> omega, ⟨rfl, fun j y _ h => h, by simpa using m1⟩, by simp only [go_sem, simprocAttr, hl], by simp only [go_sem, simprocAttr, hl, h0], by simp only [go_sem, simprocAttr, hl, h1], by simp only [go_sem, simprocAttr, hl, h5, hB, List.append_nil], by simp only [go_sem, simprocAttr, hl, h6], by simp only [go_sem, simprocAttr, hl, h7], by simp only [go_sem, simprocAttr, hl, h8, Bool.false_eq_true, false_and, if_false], by simp only [go_sem, simprocAttr, hl, h9], by simp only [go_sem, simprocAttr, hl, h10], by simp only [go_sem, simprocAttr, hl, h11], by simp only [go_sem, simprocAttr, hl, h12], by simp only [go_sem, simprocAttr, hl, h14]⟩
   ·rw [htm] at l3 hB
    simp only [if_true] at hB
    cases hfx : S.fx
    all_goals
     rw [hfx] at h9
     simp only [go_sem, simprocAttr, go_seq, hl, h0, h1, h5, h6, h7, h8, h9, h10, h11, h12, h14, k1, l2, l3, wt, wt2, hdig, m1, z1, z2, hrs3, hrl3, hrl, Bool.not_true, Bool.not_false]
     repeat refine ⟨(by (try simp only [List.length_append]); unfold maxI; omega), ?_⟩
     exact ⟨_, H2.set H1.length (.cells (Rcd.cells ⟨ow', 2, x.ttl, d⟩) 36 .rw), _, rfl, by simp only [clean_andT, clean_z0, clean_wT, clean_ewT, hc3, true_and, and_true] <;> omega, ⟨by simp, zf _, by simpa using z1 _⟩, by simp only [go_sem, simprocAttr, hl], by simp only [go_sem, simprocAttr, hl, h0], by simp only [go_sem, simprocAttr, hl, h1], by simp only [go_sem, simprocAttr, hl, h5, hB, List.cons_append, List.nil_append, List.append_assoc], by simp only [go_sem, simprocAttr, hl, h6], by simp only [go_sem, simprocAttr, hl, h7], by simp only [go_sem, simprocAttr, hl, h8, Bool.true_eq_false, and_self, and_false, true_and, if_true, if_false], by simp only [go_sem, simprocAttr, hl, h9], by simp only [go_sem, simprocAttr, hl, h10], by simp only [go_sem, simprocAttr, hl, h11], by simp only [go_sem, simprocAttr, hl, h12], by simp only [go_sem, simprocAttr, hl, h14]⟩
  clear hl h0 h1 h5 h6 h7 h8 h9 h10 h11 h12 h14
  rintro _ ⟨σ, W, e4, rfl, hc4, ⟨w1l, w2f, w3r⟩, hl, h0, h1, h5, h6, h7, h8, h9, h10, h11, h12, h14⟩
  have k2 : W[Hc.length]? = some (.cells x.cells 28 .rw) := w2f _ _ (by omega) k1
  rw [go_seq]
  refine go_cut (fun st => ∃ σ  e, st = ⟨σ, W, e⟩ ∧ clean H.length e ∧ True ∧ σ.length = 154 ∧ fr σ 0 = lv ∧ fr σ 1 = .int .u16 (n : Nat) ∧ fr σ 5 = .str (S.text ++ (x.pre ++ (A ++ (B ++ C)))) ∧ fr σ 6 = .str S.o ∧ fr σ 7 = .str ow' ∧ fr σ 8 = .int .u32 ((if x.tm = true ∧ S.fx = false then x.ttl else S.h : Nat) : Int) ∧ fr σ 9 = .bool S.fx ∧ fr σ 10 = vo ∧ fr σ 11 = .int .i64 (i : Nat) ∧ fr σ 12 = .ptr Hc.length 0 ∧ fr σ 14 = .ptr H1.length 0) ?_ ?_
  ·cases hcs : x.cs <;> cases hbh : x.bh
   all_goals
    rw [hcs] at l4 hC
    rw [hbh] at l5 hC
    simp only [Bool.false_eq_true, Bool.true_eq_false, and_self, and_true, true_and, false_and, and_false, if_true, if_false] at hC
    simp only [go_sem, simprocAttr, go_seq, hl, h0, h1, h5, h6, h7, h8, h9, h10, h11, h12, h14, k2, l4, l5, Bool.not_true, Bool.not_false]
    repeat refine ⟨(by (try simp only [List.length_append]); unfold maxI; omega), ?_⟩
    exact ⟨_, _, rfl, by simp only [clean_andT, clean_z0, clean_wT, clean_ewT, hc4, true_and, and_true] <;> omega, by simp only [go_sem, simprocAttr, hl], by simp only [go_sem, simprocAttr, hl, h0], by simp only [go_sem, simprocAttr, hl, h1], by simp only [go_sem, simprocAttr, hl, h5, hC, List.cons_append, List.nil_append, List.append_assoc, List.append_nil], by simp only [go_sem, simprocAttr, hl, h6], by simp only [go_sem, simprocAttr, hl, h7], by simp only [go_sem, simprocAttr, hl, h8], by simp only [go_sem, simprocAttr, hl, h9], by simp only [go_sem, simprocAttr, hl, h10], by simp only [go_sem, simprocAttr, hl, h11], by simp only [go_sem, simprocAttr, hl, h12], by simp only [go_sem, simprocAttr, hl, h14]⟩
  clear hl h0 h1 h5 h6 h7 h8 h9 h10 h11 h12 h14
  rintro _ ⟨σ, e5, rfl, hc5, _, hl, h0, h1, h5, h6, h7, h8, h9, h10, h11, h12, h14⟩
  rw [go_seq]
  obtain ⟨R, hR⟩ : ∃ R : Rcd, R = ⟨ow', 2, if x.tm = true then x.ttl else S.h, d⟩ := ⟨_, rfl⟩
  rw [← hR] at w3r hS1 hJ1
  have oW : Ob rb W vo S.want := oX.fr (fun j y h h' => w2f j _ (by rintro rfl; have := lt_of_get h'; omega) (by rw [hH2]; exact get_app h'))
  have oW1 : Ob rb (W ++ [.cells R.cells 36 .rw]) vo S.want := oW.fr (fun j y _ h => get_app h)
  have hwl := hJ.wl
  obtain ⟨W2, e6, q1, q2, q3, q4, q5⟩ := oW1.app (by simp; omega) R (by simp only [fits, decide_eq_true_eq]; omega)
  have hbs := bslice_rc R
  obtain ⟨hosc, hovc⟩ := oW.scl
  have hrd2 : rdC 0 12 (.cells R.cells 36 .rw) = some R.cells := rfl
  simp only [go_sem, simprocAttr, go_seq, hl, h0, h1, h5, h6, h7, h8, h9, h10, h11, h12, h14, w3r, hrld, hbs, hrd2, q1, w1, hovc, hosc]
  refine ⟨by unfold maxI; omega, ?_⟩
  rw [hrest] at hS1 hJ1
  have hWf : ∀ (j : Nat) y, H[j]? = some y → W2[j]? = some y := fun j y h => q4 j y (get_app (w2f j y (by have := lt_of_get h; omega) (by rw [hH2]; exact get_app (f1 j y h)))) (by
   intro nn hv
   have := lt_of_get h
   obtain ⟨h, _⟩ | ⟨_, i', hi', h, _⟩ := oW
   ·rw [h] at hv; cases hv
   ·rw [h] at hv; injection hv with hv; omega)
  exact ⟨m - 1, by omega, _, i + 1, W2, _, _, (⟨S.text ++ (x.pre ++ (A ++ B ++ C ++ [32, 110, 115, 32, 40, 10, 32, 110, 32, 41, 10])), S.o, ow', if x.tm = true ∧ S.fx = false then x.ttl else S.h, S.fx, S.want ++ [R]⟩ : HS), by omega, rfl, by
   rw [hrb] at hc5 ⊢
   simp only [clean_andT, clean_z0, clean_wT, clean_ewT, hc5, q3, true_and, and_true] <;> omega, hWf, by simp at q2; omega, q5, hS1, hJ1, by simp only [go_sem, simprocAttr, hl], by simp only [go_sem, simprocAttr, hl, h0], by simp only [go_sem, simprocAttr, hl, h1], by simp only [go_sem, simprocAttr, hl, List.append_assoc], by simp only [go_sem, simprocAttr, hl, h6], by simp only [go_sem, simprocAttr, hl, h7], by simp only [go_sem, simprocAttr, hl, h8], by simp only [go_sem, simprocAttr, hl, h9], by simp only [go_sem, simprocAttr, hl], by simp only [go_sem, simprocAttr, hl]⟩
 ·have c2 : decide (i < L.length) = false := decide_eq_false hi
  have hi' : i = L.length := by omega
  have hSa : S = hAll n L := by rw [hS, hi', List.take_length]; rfl
  rw [hSa] at hob h5
  have hglc : Gl Hc := hgl.fr (fun j y _ h => hfm j y h)
  obtain ⟨v2, H', hp, hl', hf', hob2⟩ := ParR_ex (ms_hold Hc n hn L (by omega) (fun x hx => (hL x hx).2.2) hglc (by omega))
  obtain ⟨H2, hH2⟩ : ∃ H2 : Hp, H2 = H' ++ [.cells [.int .i64 0, .int .i64 0] 38 .rw] := ⟨_, rfl⟩
  have n2 : H2[H'.length]? = some (.cells [.int .i64 0, .int .i64 0] 38 .rw) := by rw [hH2, hp_new0]; rfl
  have st2 : H2.set H'.length (.cells [.int .i64 0, .int .i64 0] 38 .rw) = H2 := set_get n2
  have sp0 : splice [.int .i64 0, .int .i64 0] 0 [.int .i64 0, .int .i64 0] = [AV.int .i64 0, .int .i64 0] := rfl
  have fH : ∀ (j : Nat) y, Hc[j]? = some y → H2[j]? = some y := fun j y h => by rw [hH2]; exact get_app (hf' j y h)
  have oA : Ob Hc.length H2 v2 (hAll n L).want := by rw [hH2]; exact hob2.fr (fun j y _ h => get_app h)
  have oB : Ob rb H2 vo (hAll n L).want := hob.fr (fun j y _ h => fH j _ h)
  have hwl := hJ.wl
  rw [hSa] at hwl
  have hq := fun k => ref_Equal H2 v2 vo (hAll n L).want Hc.length rb oA oB (by omega) k
  have hl2 : H2.length = H'.length + 1 := by rw [hH2]; simp
  have hrd := fun k => law_reads H2 (hglc.fr (fun j y _ h => fH j y h)) (by omega) k
  have bs := bd_sp0
  have es := eq_sp0
  simp only [go_sem, simprocAttr, go_seq, hl, h0, h1, h5, h6, h7, h8, h9, h10, h11, hlen, c2, wn, hp, ← hH2, n2, st2, sp0, bs, es, hq, hrd]
  exact leave_abs rfl (clean_and hce (clean_w (by omega))) (fun j y h => fH j y (hfm j y h))
end Go.Proofs.YtdppgaphcmhffaaGreatDoor.V
namespace Go.Proofs.YtdppgaphcmhffaaGreatDoor.V
open Go Go.RowKit

mutual
def flatC {H : Type} : DataW H → List AV
 | .lit (.int k n) => [.int k n]
 | .lit (.string s) => [.str s]
 | .lit (.bool b) => [.bool b]
 | .agg ps => flatCs ps
 | _ => [.nili]
def flatCs {H : Type} : List (DataW H) → List AV
 | [] => []
 | d :: r => flatC d ++ flatCs r
end
def fieldsT (P : Program) (f : TypeId → Bool) : List Field → Nat → Nat → Bool
 | [], o, z => o == z
 | x :: r, o, z => x.offset == o && (f x.type && fieldsT P f r (o + P.cellsOf x.type) z)
def plainT (P : Program) : Nat → TypeId → Bool
 | 0, _ => false
 | d + 1, t => match P.underlying t with
  | some (.int _) => true
  | some .string => true
  | some .bool => true
  | some (.array n e) => plainT P d e && P.cellsOf t == n * P.cellsOf e
  | some (.struct fs) => fieldsT P (plainT P d) fs.toList 0 (P.cellsOf t)
  | _ => false

section
variable {H : Type} {enc : TypeId × Value → H} {P : Program} {W : World} {base : Nat} {sp : Nat → Bool} {held : Bool}

theorem concs_app {μ : Mu} : ∀ {a b : List AV} {x y : List Value}, concs μ a = some x → concs μ b = some y → concs μ (a ++ b) = some (x ++ y)
 | [], b, x, y, h, h' => by cases h; simpa using h'
 | v :: a, b, x, y, h, h' => by
  simp only [concs, Option.bind_eq_some_iff, Option.map_eq_some_iff] at h
  obtain ⟨c, hc, xs, hx, rfl⟩ := h
  have := concs_app hx h'
  simp only [List.cons_append, concs, hc, this, Option.bind_some, Option.map_some]
theorem pieces {μ : Mu} {c : Nat} : ∀ (xs : List (DataW H × List MemPlace)) (cs : List Value), cs.length = xs.length * c →
  (∀ i x, xs[i]? = some x → concs μ (flatC x.1) = some ((cs.drop (i * c)).take c)) → concs μ (flatCs (xs.map (·.1))) = some cs
 | [], cs, hl, _ => by
  have : cs = [] := List.length_eq_zero_iff.1 (by simpa using hl)
  subst this; rfl
 | x :: xs, cs, hl, h => by
  have h0 := h 0 x rfl
  simp only [Nat.zero_mul, List.drop_zero] at h0
  have ih := pieces (μ := μ) (c := c) xs (cs.drop c) (by rw [List.length_drop, hl, List.length_cons, Nat.add_mul]; omega) (fun i y hy => by
   have := h (i + 1) y (by simpa using hy)
   rw [List.drop_drop, show c + i * c = (i + 1) * c by rw [Nat.add_mul]; omega]
   exact this)
  have := concs_app h0 ih
  rw [List.take_append_drop] at this
  simpa [flatCs] using this
theorem fields {μ : Mu} {z : Nat} {f : TypeId → Bool} {cs : List Value} {g : TypeId → List Value → Option (DataW H × List MemPlace)}
  (hf : ∀ t l x, f t = true → g t l = some x → concs μ (flatC x.1) = some l) : ∀ (fs : List Field) (xs : List (DataW H × List MemPlace)) (o : Nat), fieldsT P f fs o z = true → o ≤ z → xs.length = fs.length → cs.length = z →
  (∀ (i : Nat) (x : Field), fs[i]? = some x → g x.type ((cs.drop x.offset).take (P.cellsOf x.type)) = xs[i]?) → concs μ (flatCs (xs.map (·.1))) = some (cs.drop o)
 | [], [], o, h, hoz, _, hz, _ => by
  simp only [fieldsT, beq_iff_eq] at h
  rw [List.drop_eq_nil_of_le (by omega)]; rfl
 | [], _ :: _, _, _, _, hl, _, _ => by simp at hl
 | _ :: _, [], _, _, _, hl, _, _ => by simp at hl
 | x :: fs, y :: xs, o, h, hoz, hl, hz, hx => by
  simp only [fieldsT, Bool.and_eq_true, beq_iff_eq] at h
  obtain ⟨rfl, h1, h2⟩ := h
  have h0 := hf _ _ _ h1 (hx 0 x rfl)
  have hle : x.offset + P.cellsOf x.type ≤ z := by
   have : ∀ (fs : List Field) (o : Nat), fieldsT P f fs o z = true → o ≤ z := by
    intro fs
    induction fs with
    | nil => intro o h; simp only [fieldsT, beq_iff_eq] at h; omega
    | cons a r ih =>
     intro o h
     simp only [fieldsT, Bool.and_eq_true, beq_iff_eq] at h
     have := ih _ h.2.2
     omega
   exact this _ _ h2
  have ih := fields hf fs xs (x.offset + P.cellsOf x.type) h2 hle (by simpa using hl) hz (fun i w hw => by simpa using hx (i + 1) w (by simpa using hw))
  have := concs_app h0 ih
  have e : (cs.drop x.offset).take (P.cellsOf x.type) ++ cs.drop (x.offset + P.cellsOf x.type) = cs.drop x.offset := by
   rw [← List.drop_drop, List.take_append_drop]
  rw [e] at this
  simpa [flatCs] using this
theorem trod_flat {μ : Mu} : ∀ (m fuel : Nat) (t : TypeId) (cs : List Value) (x : DataW H × List MemPlace), plainT P m t = true → DataW.trod enc P W base sp held fuel t cs = some x → concs μ (flatC x.1) = some cs
 | 0, _, _, _, _, h, _ => by cases h
 | m + 1, fuel, t, cs, x, h, hx => by
  unfold plainT at h
  split at h
  ·rename_i k ht
   obtain ⟨n, rfl, rfl, _⟩ := DataW.trod_int ht hx
   simp [flatC, concs, conc]
  ·rename_i ht
   obtain ⟨s, rfl, rfl, _⟩ := DataW.trod_string ht hx
   simp [flatC, concs, conc]
  ·rename_i ht
   obtain ⟨b, rfl, rfl⟩ := DataW.trod_bool ht hx
   simp [flatC, concs, conc]
  ·rename_i n e ht
   simp only [Bool.and_eq_true, beq_iff_eq] at h
   obtain ⟨xs, q, rfl, rfl, hcl, hxl, hel⟩ := DataW.trod_array ht hx
   refine pieces (c := P.cellsOf e) xs cs (by rw [hcl, hxl, h.2]) (fun i y hy => ?_)
   have hi : i < n := by rw [← hxl]; exact (List.getElem?_eq_some_iff.1 hy).1
   have := hel i hi
   rw [hy] at this
   exact trod_flat m q e _ y h.1 this
  ·rename_i fs ht
   obtain ⟨xs, q, rfl, rfl, hcl, hxl, hel⟩ := DataW.trod_struct ht hx
   have := fields (P := P) (μ := μ) (g := fun t l => DataW.trod enc P W base sp held q t l) (cs := cs) (fun t l x h1 h2 => trod_flat m q t l x h1 h2) fs.toList xs 0 h (Nat.zero_le _) (by simpa using hxl) hcl (fun i f hf => hel i f (by simpa using hf))
   simpa [flatC] using this
  ·cases h
end
end Go.Proofs.YtdppgaphcmhffaaGreatDoor.V
namespace Go.Proofs.YtdppgaphcmhffaaGreatDoor.V
open Go Go.ChangeShapes Go.WideShapes Go.ChangeAt Go.RowKit
open Go.ChangeMaps (open_string shut_string)
theorem gsize : Tryz.prog.globals.size = 9 := by kernel_rfl
theorem own : ownKnob Tryz.prog.godebug = none := by kernel_rfl
theorem laidOut : laidOutB Tryz.prog = true := by kernel_rfl
theorem gKinds : Tryz.prog.globalNamed "hearsay/rdata.kinds" = some 0 := by kernel_rfl
theorem gFirst : Tryz.prog.globalNamed "unicode/utf8.first" = some 2 := by kernel_rfl
theorem gAcc : Tryz.prog.globalNamed "unicode/utf8.acceptRanges" = some 3 := by kernel_rfl
theorem lastRow : ((((begin Tryz.prog (fun _ _ => 0) default).world.heap)[9 - 1]?).bind Obj.row?).isSome = true := by kernel_rfl
theorem ptKinds : ((Tryz.prog.globals[0]?).map (·.type)).all (plainT Tryz.prog 8) = true := by kernel_rfl
theorem ptFirst : ((Tryz.prog.globals[2]?).map (·.type)).all (plainT Tryz.prog 8) = true := by kernel_rfl
theorem ptAcc : ((Tryz.prog.globals[3]?).map (·.type)).all (plainT Tryz.prog 8) = true := by kernel_rfl
theorem pt_of {o : Option TypeId} {t : TypeId} {f : TypeId → Bool} (h : o.all f = true) (ht : o = some t) : f t = true := by subst ht; simpa using h

def muX (n : Nat) (xs : List Loc) : Mu := fun i => if i < n then some ⟨i, 0, 0⟩ else xs[i - n]?
theorem start_globX {P : Program} {W : World} {n : Nat} {xs : List Loc} {Bs : List ABlk} (hn : P.globals.size = n) (hsz : n ≤ W.heap.size) (hl : Bs.length = n) (hx : ∀ x ∈ xs, x.blk < W.heap.size) (hw : ∀ x ∈ Bs, apart x = false) (hB : ∀ (i : Nat) x, Bs[i]? = some x → BRel P (muX n xs) W ⟨i, 0, 0⟩ x) : HRel P (start W) (muX n xs) (Bs ++ List.replicate xs.length .ghost) W := by
 have hap : ∀ x ∈ Bs ++ List.replicate xs.length ABlk.ghost, apart x = false := by
  intro x h
  rcases List.mem_append.1 h with h | h
  ·exact hw x h
  ·rw [(List.mem_replicate.1 h).2]; rfl
 exact {
  dom := fun b l h => by
   unfold muX at h
   rw [List.length_append, List.length_replicate, hl]
   split at h
   ·omega
   ·have := (List.getElem?_eq_some_iff.1 h).1; omega
  glob := fun i hi => ⟨0, by unfold muX; rw [if_pos (by omega)]⟩
  lt := fun b l h => by
   unfold muX at h
   split at h
   ·cases h; show b < _; omega
   ·exact hx l (List.mem_of_getElem? h)
  blk := fun b l x h h' => by
   unfold muX at h
   split at h
   ·rename_i hb
    cases h
    rw [List.getElem?_append_left (by omega)] at h'
    exact hB b x h'
   ·rw [List.getElem?_append_right (by omega)] at h'
    have := List.mem_of_getElem? h'
    rw [(List.mem_replicate.1 this).2]; trivial
  sep := fun b b' l l' x x' _ _ _ hx _ hwx => by rw [hap x (List.mem_of_getElem? hx)] at hwx; cases hwx
  own := fun b l x _ hx hwx => by have := apart_w hwx; rw [hap x (List.mem_of_getElem? hx)] at this; cases this
  old := fun k hk => ⟨hk, rfl⟩
  os := rfl
  tape := rfl
  output := rfl
  size := Nat.le_refl _ }
abbrev erN : String := "*errors.errorString"
theorem name_er {u : TypeId} (h : Tryz.prog.typeName? 3 u = some erN) : u = 219 :=
 typeName_ptr_named (nm := "errors.errorString") (by kernel_rfl) (by kernel_rfl) (by decide) u (h.trans (congrArg some (by decide : erN = "*" ++ "errors.errorString")))
theorem und_ep : Tryz.prog.underlying 219 = some (.pointer 221) := by kernel_rfl
theorem cells_ep : Tryz.prog.cellsOf 221 = 1 := by kernel_rfl
set_option maxRecDepth 20000 in
theorem err_var {H : Type} {enc : TypeId × Value → H} {W : World} {base fuel : Nat} {sp : Nat → Bool} {cs : List Value} {d : DataW H} {p : List MemPlace} (h : DataW.trod enc Tryz.prog W base sp false fuel 75 cs = some (.iface erN (.ptr d), p)) :
  ∃ l : Loc, l.blk < W.heap.size ∧ (cs = [.iface 219 (.pointer (some ⟨l.blk, l.base, none⟩))] ∨ cs = [.iface 219 (.agg #[.pointer (some ⟨l.blk, l.base, none⟩)])]) := by
 obtain ⟨ms, hu⟩ : ∃ ms, Tryz.prog.underlying 75 = some (.interface ms) := by
  have := isIface_er
  split at this
  ·exact ⟨_, ‹_›⟩
  ·cases this
 obtain ⟨fuel', u, v, rfl, hn, hd⟩ := iface_of_trod hu h
 obtain rfl := name_er hn
 obtain ⟨f2, a, cs', q, hv, hc, _, _⟩ := ptr_of_trod und_ep hd
 rw [cells_ep] at hc
 unfold World.cells? at hc
 split at hc
 ·have hc1 : ∃ x, W.cell? (a.add 0) = some x := by
   cases hx : W.cell? (a.add 0) with
   | some x => exact ⟨x, rfl⟩
   | none => simp [List.range, List.range.loop, hx] at hc
  obtain ⟨x, hx⟩ := hc1
  unfold World.cell? at hx
  split at hx
  ·rename_i c e fr hb
   have hsp : a.spot = none := by
    cases hs : a.spot with
    | none => rfl
    | some s => rw [show (a.add 0).spot = a.spot from rfl, hs] at hx; simp at hx
   refine ⟨⟨a.block, a.off, 0⟩, ?_, ?_⟩
   ·exact (Array.getElem?_eq_some_iff.1 hb).1
   ·obtain ⟨b, o, s⟩ := a
    simp only at hsp
    subst hsp
    cases v with
    | agg l =>
     obtain ⟨l⟩ := l
     simp only [Value.cells] at hv
     exact .inr (by rw [hv])
    | _ =>
     simp only [Value.cells] at hv
     first | (left; have := List.head_eq_of_cons_eq hv; rw [this]) | (exfalso; cases hv)
  ·cases hx
 ·cases hc
theorem gRange : Tryz.prog.globalNamed "strconv.ErrRange" = some 5 := by kernel_rfl
theorem gSyntax : Tryz.prog.globalNamed "strconv.ErrSyntax" = some 4 := by kernel_rfl
theorem tRange : (Tryz.prog.globals[5]?).map (·.type) = some 75 := by kernel_rfl
theorem tSyntax : (Tryz.prog.globals[4]?).map (·.type) = some 75 := by kernel_rfl
theorem rowMax : ((((begin Tryz.prog (fun _ _ => 0) default).world.heap)[6]?).bind Obj.row?) = some (#[.int .i64 0], 3) := by kernel_rfl
theorem bldI : Tryz.prog.buildable 3 = true := by kernel_rfl
theorem ctI : Tryz.prog.cellTypes Tryz.prog.depth 3 = some [3] := by kernel_rfl
set_option maxRecDepth 100000 in
theorem max_block {W : World} (hsh : W.ShapedOpen Tryz.prog) : ∃ (n : Int) (cs : Array Value) (e : TypeId) (fr : Nat × Nat), W.heap[6]? = some (.cells cs e fr) ∧ cs.toList = [.int .i64 n] := by
 obtain ⟨cs, h1, h2, h3⟩ := hsh.1 6 _ _ (by rw [gsize]; decide) rowMax
 obtain ⟨ts, h4, _, h5⟩ := h3 bldI
 rw [ctI] at h4
 cases h4
 have hs : cs.size = 1 := h2
 obtain ⟨l⟩ := cs
 match l, hs with
 | [v], _ =>
  obtain ⟨u, h6, h7⟩ := h5 0 v rfl
  simp at h6
  subst h6
  unfold Cell.ok at h7
  rw [Tryz.underlying3] at h7
  cases v <;> simp only at h7 <;> first | exact h7.elim | skip
  obtain ⟨rfl, _⟩ := h7
  exact ⟨_, _, _, _, h1, rfl⟩
def firstC : List AV := (List.range 256).map fun c => .int .u8 (Lib.firstT c)
def accC : List AV := (List.range 32).map fun j => .int .u8 (if j % 2 = 0 then Lib.accLo (j / 2) else Lib.accHi (j / 2))
theorem at1 {l : List AV} {k : Nat} {x : AV} (h : l[k]? = some x) : (l.drop k).take 1 = [x] := by
 obtain ⟨h1, h2⟩ := List.getElem?_eq_some_iff.1 h
 rw [List.drop_eq_getElem_cons h1, h2]; rfl
set_option maxRecDepth 100000 in
theorem of_laidM {W : World} (hsh : W.ShapedOpen Tryz.prog) (h : laidMetH Tryz.prog Rows.masterHoldsRow.laid W) : ∃ (Bs : List ABlk) (μ : Mu), HRel Tryz.prog (start W) μ Bs W ∧ (∀ x ∈ Bs, apart x = false) ∧ gN ≤ Bs.length ∧ Gl Bs := by
 have hsz := shaped_size gsize hsh lastRow
 obtain ⟨nm, cm, em, frm, hbm, hcm⟩ := max_block hsh
 have h : laidMet Tryz.prog Rows.masterHoldsRow.laid W := h
 obtain ⟨ps, ⟨_, _, _, _, _, _, _, _, _, _, ⟨_, _, _, _, _, _, _, _, _, _, ⟨_, _, _, _, _, _, _, _, _, _, ⟨ga, ta, ca, fa, pa, qa, hga, hta, hva, hda, ⟨g4, t4, c4, f4, p4, q4, hg4, ht4, hv4, hd4, ⟨g3, t3, c3, f3, p3, q3, hg3, ht3, hv3, hd3, ⟨g0, t0, c0, f0, p0, q0, hg0, ht0, hv0, hd0, ⟨g2, t2, c2, f2, p2, q2, hg2, ht2, hv2, hd2, _, _⟩, _⟩, _⟩, _⟩, _⟩, _⟩, _⟩, _⟩, _⟩ := h
 obtain rfl := Option.some.inj (gAcc.symm.trans hga)
 obtain rfl := Option.some.inj (gFirst.symm.trans hg2)
 obtain rfl := Option.some.inj (gRange.symm.trans hg4)
 obtain rfl := Option.some.inj (gSyntax.symm.trans hg3)
 obtain rfl := Option.some.inj (gKinds.symm.trans hg0)
 obtain ⟨ea, fra, hba⟩ := var_block gAcc hva
 obtain ⟨e2, fr2, hb2⟩ := var_block gFirst hv2
 obtain ⟨e4, fr4, hb4⟩ := var_block gRange hv4
 obtain ⟨e3, fr3, hb3⟩ := var_block gSyntax hv3
 obtain ⟨e0, fr0, hb0⟩ := var_block gKinds hv0
 obtain rfl := Option.some.inj (tRange.symm.trans ht4)
 obtain rfl := Option.some.inj (tSyntax.symm.trans ht3)
 obtain ⟨l4, hl4, k4⟩ := err_var hd4
 obtain ⟨l3, hl3, k3⟩ := err_var hd3
 have ka : concs (muX 9 [l3, l4]) accC = some ca.toList := trod_flat (μ := muX 9 [l3, l4]) 8 _ _ _ _ (pt_of ptAcc hta) hda
 have k2 : concs (muX 9 [l3, l4]) firstC = some c2.toList := trod_flat (μ := muX 9 [l3, l4]) 8 _ _ _ _ (pt_of ptFirst ht2) hd2
 have k0 := trod_flat (μ := muX 9 [l3, l4]) 8 _ _ _ _ (pt_of ptKinds ht0) hd0
 have km : concs (muX 9 [l3, l4]) [.int .i64 nm] = some cm.toList := by rw [hcm]; rfl
 obtain ⟨x4, k4⟩ : ∃ x : AV, concs (muX 9 [l3, l4]) [.iface 219 x] = some c4.toList := by
  rcases k4 with k4 | k4
  ·exact ⟨.ptr 10 0, by rw [k4]; simp [concs, conc, muX]⟩
  ·exact ⟨.agg [.ptr 10 0], by rw [k4]; simp [concs, conc, muX]⟩
 obtain ⟨x3, k3⟩ : ∃ x : AV, concs (muX 9 [l3, l4]) [.iface 219 x] = some c3.toList := by
  rcases k3 with k3 | k3
  ·exact ⟨.ptr 9 0, by rw [k3]; simp [concs, conc, muX]⟩
  ·exact ⟨.agg [.ptr 9 0], by rw [k3]; simp [concs, conc, muX]⟩
 have hap : ∀ x ∈ ([.cells kindsC e0 .ro, .ghost, .cells firstC e2 .ro, .cells accC ea .ro, .cells [.iface 219 x3] e3 .ro, .cells [.iface 219 x4] e4 .ro, .cells [.int .i64 nm] em .ro, .ghost, .ghost] : List ABlk), apart x = false := by
  intro x hx
  simp only [List.mem_cons, List.not_mem_nil, or_false] at hx
  rcases hx with rfl | rfl | rfl | rfl | rfl | rfl | rfl | rfl | rfl <;> rfl
 refine ⟨_, _, start_globX (Bs := [.cells kindsC e0 .ro, .ghost, .cells firstC e2 .ro, .cells accC ea .ro, .cells [.iface 219 x3] e3 .ro, .cells [.iface 219 x4] e4 .ro, .cells [.int .i64 nm] em .ro, .ghost, .ghost]) (xs := [l3, l4]) gsize hsz rfl ?_ hap ?_, ?_, by simp [gN], ⟨e0, .ro, rfl⟩, ⟨⟨e3, .ro, _, _, rfl⟩, ⟨e4, .ro, _, _, rfl⟩⟩, ⟨nm, em, .ro, rfl⟩, ⟨by decide, by decide, fun c hc => ?_, fun i hi => ⟨?_, ?_⟩⟩⟩
 ·intro x hx
  simp only [List.mem_cons, List.not_mem_nil, or_false] at hx
  rcases hx with rfl | rfl
  ·exact hl3
  ·exact hl4
 ·intro i x hx
  match i with
  | 0 => cases hx; exact laid_block hb0 k0
  | 1 => cases hx; trivial
  | 2 => cases hx; exact laid_block hb2 k2
  | 3 => cases hx; exact laid_block hba ka
  | 4 => cases hx; exact laid_block hb3 k3
  | 5 => cases hx; exact laid_block hb4 k4
  | 6 => cases hx; exact laid_block hbm km
  | 7 => cases hx; trivial
  | 8 => cases hx; trivial
  | i + 9 => simp at hx
 ·intro x hx
  rcases List.mem_append.1 hx with h | h
  ·exact hap x h
  ·rw [(List.mem_replicate.1 h).2]; rfl
 ·show (if c + 1 ≤ firstC.length then some ((firstC.drop c).take 1) else none) = _
  rw [if_pos (by simp [firstC]; omega), at1 (x := .int .u8 (Lib.firstT c)) (by simp [firstC, hc])]
 ·show (if 2 * i + 1 ≤ accC.length then some ((accC.drop (2 * i)).take 1) else none) = _
  rw [if_pos (by simp [accC]; omega), at1 (x := .int .u8 (Lib.accLo i)) (by
   have h1 : 2 * i < 32 := by omega
   simp [accC, h1])]
 ·show (if 2 * i + 1 + 1 ≤ accC.length then some ((accC.drop (2 * i + 1)).take 1) else none) = _
  rw [if_pos (by simp [accC]; omega), at1 (x := .int .u8 (Lib.accHi i)) (by
   have h1 : 2 * i + 1 < 32 := by omega
   have h2 : ¬ (2 * i + 1) % 2 = 0 := by omega
   have h3 : (2 * i + 1) / 2 = i := by omega
   simp [accC, h1, h2, h3])]
end Go.Proofs.YtdppgaphcmhffaaGreatDoor.V
namespace Go.Proofs.YtdppgaphcmhffaaGreatDoor.V
open Go Go.ChangeShapes Go.WideShapes Go.ChangeAt Go.RowKit
open Go.ChangeMaps (open_string shut_string)
theorem cellsL : Tryz.prog.cellsOf 28 = 6 := by kernel_rfl
theorem cells8 : Tryz.prog.cellsOf 5 = 1 := by kernel_rfl
theorem cells16 : Tryz.prog.cellsOf 23 = 1 := by kernel_rfl
theorem cellsB : Tryz.prog.cellsOf 4 = 1 := by kernel_rfl
theorem u8n_of {n : Int} (h : (Lit.int .u8 n).wf = true) : ∃ c : Nat, n = (c : Int) ∧ c ≤ 255 := by
 simp [Lit.wf, IntKind.min, IntKind.max, IntKind.bits, IntKind.signed] at h
 exact ⟨n.toNat, by omega, by omega⟩
theorem u16n_of {n : Int} (h : (Lit.int .u16 n).wf = true) : ∃ c : Nat, n = (c : Int) ∧ c ≤ 65535 := by
 simp [Lit.wf, IntKind.min, IntKind.max, IntKind.bits, IntKind.signed] at h
 exact ⟨n.toNat, by omega, by omega⟩
section
variable {H : Type} {enc : TypeId × Value → H} {W : World} {base : Nat} {sp : Nat → Bool} {held : Bool}
set_option maxRecDepth 100000 in
theorem line_cells {n : Nat} {cs : List Value} {d : DataW H × List MemPlace} (h : DataW.trod enc Tryz.prog W base sp held n 28 cs = some d) :
  ∃ x : Ln, (∀ μ, concs μ x.cells = some cs) ∧ (x.how ≤ 255 ∧ x.own ≤ 255 ∧ x.ttl ≤ 65535) := by
 obtain ⟨xs, n', rfl, hx, hcl, hxl, hf⟩ := DataW.trod_struct Tryz.underlying28 h
 rw [cellsL] at hcl
 match cs, hcl with
 | [c0, c1, c2, c3, c4, c5], _ =>
  have f0 : DataW.trod enc Tryz.prog W base sp held n' 5 (([c0, c1, c2, c3, c4, c5].drop 0).take (Tryz.prog.cellsOf 5)) = xs[0]? := hf 0 _ rfl
  have f1 : DataW.trod enc Tryz.prog W base sp held n' 5 (([c0, c1, c2, c3, c4, c5].drop 1).take (Tryz.prog.cellsOf 5)) = xs[1]? := hf 1 _ rfl
  have f2 : DataW.trod enc Tryz.prog W base sp held n' 23 (([c0, c1, c2, c3, c4, c5].drop 2).take (Tryz.prog.cellsOf 23)) = xs[2]? := hf 2 _ rfl
  have f3 : DataW.trod enc Tryz.prog W base sp held n' 4 (([c0, c1, c2, c3, c4, c5].drop 3).take (Tryz.prog.cellsOf 4)) = xs[3]? := hf 3 _ rfl
  have f4 : DataW.trod enc Tryz.prog W base sp held n' 4 (([c0, c1, c2, c3, c4, c5].drop 4).take (Tryz.prog.cellsOf 4)) = xs[4]? := hf 4 _ rfl
  have f5 : DataW.trod enc Tryz.prog W base sp held n' 4 (([c0, c1, c2, c3, c4, c5].drop 5).take (Tryz.prog.cellsOf 4)) = xs[5]? := hf 5 _ rfl
  have hx6 : xs.length = 6 := hxl
  simp only [cells8, cells16, cellsB, List.drop_zero, List.drop_succ_cons, List.take_succ_cons, List.take_zero] at f0 f1 f2 f3 f4 f5
  match xs, hx6 with
  | [x0, x1, x2, x3, x4, x5], _ =>
   simp only [List.getElem?_cons_zero, List.getElem?_cons_succ] at f0 f1 f2 f3 f4 f5
   obtain ⟨n0, a0, _, w0⟩ := DataW.trod_int Tryz.underlying5 f0
   obtain ⟨n1, a1, _, w1⟩ := DataW.trod_int Tryz.underlying5 f1
   obtain ⟨n2, a2, _, w2⟩ := DataW.trod_int Tryz.underlying23 f2
   obtain ⟨b3, a3, _⟩ := DataW.trod_bool Tryz.underlying4 f3
   obtain ⟨b4, a4, _⟩ := DataW.trod_bool Tryz.underlying4 f4
   obtain ⟨b5, a5, _⟩ := DataW.trod_bool Tryz.underlying4 f5
   cases a0; cases a1; cases a2; cases a3; cases a4; cases a5
   obtain ⟨m0, rfl, h0⟩ := u8n_of w0
   obtain ⟨m1, rfl, h1⟩ := u8n_of w1
   obtain ⟨m2, rfl, h2⟩ := u16n_of w2
   exact ⟨⟨m0, m1, m2, b3, b4, b5⟩, fun μ => by simp [Ln.cells, conc, concs], h0, h1, h2⟩
set_option maxRecDepth 100000 in
theorem lines_ok {a : Addr} {n : Nat} : ∀ (len : Nat) (es : List (DataW H × List MemPlace)), es.length = len → (∀ i, i < len → (W.cells? base (a.add (i * 6)) 6).bind (DataW.trod enc Tryz.prog W base sp held n 28) = es[i]?) →
  ∃ R : List Ln, R.length = len ∧ (∃ vs, (∀ μ, concs μ (lnC R) = some vs) ∧ vs.length = len * 6 ∧ ∀ (j : Nat) (v : Value), vs[j]? = some v → W.cell? (a.add j) = some v) ∧
   (∀ x ∈ R, x.how ≤ 255 ∧ x.own ≤ 255 ∧ x.ttl ≤ 65535)
 | 0, es, he, _ => by
  obtain rfl : es = [] := List.eq_nil_of_length_eq_zero he
  exact ⟨[], rfl, ⟨[], fun μ => rfl, by simp, by simp⟩, by simp⟩
 | len + 1, es, he, h => by
  have hne : es ≠ [] := by rintro rfl; simp at he
  obtain ⟨es', e, rfl⟩ : ∃ es' e, es = es' ++ [e] := ⟨es.dropLast, es.getLast hne, (List.dropLast_concat_getLast hne).symm⟩
  have hl' : es'.length = len := by simpa using he
  obtain ⟨R, hl, ⟨vs, hv, hvl, hc⟩, h1⟩ := lines_ok len es' hl' (fun i hi => by rw [h i (by omega), List.getElem?_append_left (by omega)])
  have hlast := h len (by omega)
  rw [List.getElem?_append_right (by omega), hl', Nat.sub_self, List.getElem?_cons_zero, Option.bind_eq_some_iff] at hlast
  obtain ⟨cs, hcs, ht⟩ := hlast
  obtain ⟨x, hxc, hxn⟩ := line_cells ht
  obtain ⟨_, hcl, hcc⟩ := World.cells?_some hcs
  refine ⟨R ++ [x], by simp [hl], ⟨vs ++ cs, fun μ => ?_, by rw [List.length_append, hvl, hcl]; omega, fun j v hj => ?_⟩, fun y hy => ?_⟩
  ·have : lnC (R ++ [x]) = lnC R ++ x.cells := by simp [lnC]
   rw [this]
   exact concs_append_some (hv μ) (hxc μ)
  ·by_cases hlt : j < vs.length
   ·rw [List.getElem?_append_left hlt] at hj
    exact hc j v hj
   ·rw [List.getElem?_append_right (by omega)] at hj
    have hjl := (List.getElem?_eq_some_iff.1 hj).1
    have := hcc (j - vs.length) (by omega)
    rw [hj] at this
    rw [← this]
    congr 1
    unfold Addr.add
    by_cases hl0 : len * 6 = 0
    ·have : vs.length = 0 := by omega
     simp [hl0, this]
    ·by_cases hj0 : j - vs.length = 0
     ·have : j = len * 6 := by omega
      rw [if_pos hj0, if_neg hl0, if_neg (by omega), this]
     ·have h3 : ¬ j = 0 := by omega
      simp only [hl0, hj0, h3, if_false]
      congr 1; omega
  ·rcases List.mem_append.1 hy with hy | hy
   ·exact h1 y hy
   ·rw [List.mem_singleton] at hy; subst hy; exact hxn
end
end Go.Proofs.YtdppgaphcmhffaaGreatDoor.V
