/- Joined by mkclaim.py: WBld WEsc WTextN WJoin WRefEsc WNum WNumB WNumC WRefNum WHex WData WCheck WCheckB WCheckC WCheckD WShow WCut WUn WParse WBytes WOf WPars WType WNumP WNumQ WNumR WSplit WPut WPutA WPutB WPutC WPutE WPutD WPutF WRefA WRefB WRefC WRefD WRefE WRefF WWake WLawP WTakeA WTakeB VDef WTakeC WTakeP WWordA WTok WTokP. No conditions. -/
import Derived.Test.YtdppgaphcmhffaaGreatDoorJ2
import Derived.Lib.IndexLaws
import Derived.Lib.IndexBytes
set_option linter.unusedSimpArgs false
set_option linter.unusedVariables false
namespace Go.Proofs.YtdppgaphcmhffaaGreatDoor.V
open Go
attribute [local irreducible] go goOps goD opK callK callT stepK leaveTo nextK

def Buf (n : Nat) (T : Hp) (v : AV) (bs : List UInt8) : Prop := (v = .nils ∧ bs = []) ∨ (0 < bs.length ∧ ∃ m, v = .slice (n + m) 0 bs.length (.op 0) ∧ T[m]? = some (.cells (u8s bs) 5 (.op 0 false)))
def Bld (n : Nat) (T : Hp) (j : Nat) (bs : List UInt8) : Prop :=
 ∃ p v, T[j]? = some (.cells [p, v] 73 .rw) ∧ (p = .nilp ∨ p = .ptr (n + j) 0) ∧ Buf n T v bs
theorem und_Bp : Tryz.prog.underlying 70 = some (.pointer 73) := by kernel_rfl
theorem lies_B : liesAt Tryz.prog Tryz.prog.depth 73 (2 / Tryz.prog.cellsOf 73) 0 73 1 = true := by kernel_rfl
theorem info_B : ∃ j, Tryz.prog.info? 73 = some j ∧ j.size = 2 := by
 have := tsize_73
 unfold tsize at this
 simpa using this
theorem conv_70_148 {b : Nat} {p v : AV} {k : Kd} {H : Hp} (h : H[b]? = some (.cells [p, v] 73 k)) : evConv Tryz.prog 70 148 (.ptr b 0) H = some (.ptr b 0, H) := by
 obtain ⟨j, hj, hz⟩ := info_B
 simp [evConv, tsh_70, tsh_148, h, hj, hz]
theorem conv_148_70 {b : Nat} {p v : AV} {H : Hp} (h : H[b]? = some (.cells [p, v] 73 .rw)) : evConv Tryz.prog 148 70 (.ptr b 0) H = some (.ptr b 0, H) := by
 obtain ⟨j, hj, hz⟩ := info_B
 have := lies_B
 simp only [evConv, tsh_70, tsh_148, h, hj]
 exact if_pos this
theorem eqBn {c : Bool} : binV Tryz.prog .eql 70 .nilp .nilp c = some (.bool true) := by simp [binV, evBin, evEq, und_Bp]
theorem eqBp {b o : Nat} {c : Bool} : binV Tryz.prog .eql 70 (.ptr b o) .nilp c = some (.bool false) := by simp [binV, evBin, evEq, und_Bp]
theorem neB {b o : Nat} {c : Bool} : binV Tryz.prog .neq 70 (.ptr b o) (.ptr b o) c = some (.bool false) := by
 obtain ⟨j, hj, _⟩ := info_B
 simp [binV, evBin, evEq, und_Bp, hj]
attribute [go_sem] eqBn eqBp neB

set_option maxRecDepth 20000 in
theorem b_check (H T : Hp) (j : Nat) (p v : AV) (hj : T[j]? = some (.cells [p, v] 73 .rw)) (hp : p = .nilp ∨ p = .ptr (H.length + j) 0) (hv : scal v = true) :
  ∃ e, (e = z0 ∨ Cl H.length j e) ∧ ∀ k, callK Tryz.prog 50 [.ptr (H.length + j) 0] (H ++ T) k = k (.tuple [], H ++ T.set j (.cells [.ptr (H.length + j) 0, v] 73 .rw), e) := by
 have hlt := lt_of_get hj
 have hd : decide (j < T.length) = true := by simpa using hlt
 refine (fun h : ∃ r : {e : Ef // e = z0 ∨ Cl H.length j e}, ∀ k, callK Tryz.prog 50 [.ptr (H.length + j) 0] (H ++ T) k = k (.tuple [], H ++ T.set j (.cells [.ptr (H.length + j) 0, v] 73 .rw), r.1) => ?_) (callK_ex (fun r : {e : Ef // e = z0 ∨ Cl H.length j e} => (.tuple [], H ++ T.set j (.cells [.ptr (H.length + j) 0, v] 73 .rw), r.1)) ?_)
 ·obtain ⟨r, hr⟩ := h
  exact ⟨r.1, r.2, hr⟩
 refine callK_start (n := 20) (rs := []) Tryz.func50 rfl rfl rfl ?_
 intro σ hl ha
 have h0 := ha 0 (by simp)
 clear ha
 simp only [Option.getD_some, List.getElem?_cons_zero, List.getElem?_cons_succ] at h0
 have hb : (H ++ T)[H.length + j]? = some (.cells [p, v] 73 .rw) := by rw [hp_new, hj]
 have c1 := conv_70_148 hb
 have c2 := conv_148_70 hb
 obtain rfl | rfl := hp
 ·simp only [go_sem, simprocAttr, hl, h0, hj, hd, hv, c1, c2]
  have hcl : Cl H.length j ⟨some (H.length + j), some (H.length + j)⟩ := ⟨_, rfl, by omega, by omega, by simp [low]⟩
  obtain ⟨e', h1, h2⟩ := hcl.leave (m := H.length + T.length) (by omega)
  exact ⟨⟨e', .inr h1⟩, h2 _ _⟩
 ·simp only [go_sem, simprocAttr, hl, h0, hj, hd, hv]
  rw [set_get hj]
  refine ⟨⟨z0, .inl rfl⟩, ?_⟩
  rw [← List.length_append]
  exact leave_flat0 rfl (by rw [clean_z0]; trivial)

theorem Buf.scl {n : Nat} {T : Hp} {v : AV} {bs : List UInt8} (h : Buf n T v bs) : scal v = true := by
 obtain ⟨rfl, _⟩ | ⟨_, m, rfl, _⟩ := h <;> rfl
theorem Buf.len {n : Nat} {T : Hp} {v : AV} {bs : List UInt8} (h : Buf n T v bs) (H : Hp) : evLen Tryz.prog 71 v H = some (.int .i64 bs.length) := by
 obtain ⟨rfl, rfl⟩ | ⟨_, m, rfl, _⟩ := h
 ·simp only [evLen, tsh_71]; rfl
 ·simp only [evLen, tsh_71]
theorem Buf.app {H T : Hp} {v : AV} {bs : List UInt8} (h : Buf H.length T v bs) (s : List UInt8) (hf : fits (bs.length + s.length) 1 = true) :
  ∃ v' T2 e2, (∀ kk, stepK (appTo Tryz.prog (.slice 5 1 1) v (u8s s, s.length) (H ++ T)) kk = kk (v', H ++ T2, e2)) ∧ T.length ≤ T2.length ∧ clean H.length e2 ∧ (∀ (i : Nat) x, T[i]? = some x → fixd x = true → T2[i]? = some x) ∧ Buf H.length T2 v' (bs ++ s) := by
 obtain ⟨rfl, rfl⟩ | ⟨hpos, m, rfl, hm⟩ := h
 ·by_cases hs : s = []
  ·subst hs
   refine ⟨.nils, T, z0, fun kk => ?_, Nat.le_refl _, ⟨rfl, rfl⟩, fun i x hx _ => hx, .inl ⟨rfl, rfl⟩⟩
   rw [appTo_nils (by decide) zok_71]
   have hd : decide (([] : List UInt8).length = 0) = true := rfl
   rw [hd, guardK_tt]
  ·have hl : 0 < s.length := by cases s <;> simp_all
   refine ⟨.slice (H.length + T.length) 0 s.length (.op 0), T ++ [.cells (u8s s) 5 (.op 0 false)], z0, fun kk => ?_, by simp, ⟨rfl, rfl⟩, fun i x hx _ => get_app hx, .inr ⟨by simpa using hl, T.length, by simp, by simp⟩⟩
   rw [appTo_nils (by decide) zok_71]
   have hd : decide (s.length = 0) = false := by simp; omega
   have hf : fits s.length 1 = true := by simpa using hf
   simp only [hd, guardK_ft, hf, true_and, List.length_append, List.append_assoc]
 ·have hlt := lt_of_get hm
  have hg : (H ++ T)[H.length + m]? = some (.cells (u8s bs) 5 (.op 0 false)) := by rw [hp_new, hm]
  by_cases hs : s = []
  ·subst hs
   refine ⟨.slice (H.length + m) 0 bs.length (.op 0), T, ⟨none, some (H.length + m)⟩, fun kk => ?_, Nat.le_refl _, by simp [clean, low], fun i x hx _ => hx, .inr ⟨by simpa using hpos, m, by simp, by simpa using hm⟩⟩
   have hsp : splice (u8s bs) (bs.length) [] = u8s bs := by
    unfold splice
    simp
   rw [appTo_op (by decide) zok_71, hg]
   have hset : (H ++ T).set (H.length + m) (.cells (u8s bs) 5 (.op 0 false)) = H ++ T := set_get hg
   have hd : decide (0 + (bs.length + ([] : List UInt8).length) * 1 ≤ (u8s bs).length) = true := by rw [u8s_len]; simp
   have e1 : (0 + bs.length * 1 + (u8s []).length ≤ (u8s bs).length ∧ canWr (Kd.op 0 false) (0 + bs.length * 1) = true ∧ (u8s []).all scal = true) := ⟨by simp [u8s_len], rfl, rfl⟩
   have e2 : splice (u8s bs) (0 + bs.length * 1) (u8s []) = u8s bs := by rw [Nat.zero_add, Nat.mul_one]; exact hsp
   have hwr : wr (H ++ T) (H.length + m) (0 + bs.length * 1) (u8s []) = some (H ++ T, ⟨none, some (H.length + m)⟩) := by
    unfold wr
    rw [hg]
    show (if _ then _ else _) = _
    rw [if_pos e1, e2, hset, u8s_flat, if_pos rfl]
   simp only [bindK_some, appO_c, hwr]
   rw [hd, guardK_tt]
   rw [hwr]
   simp only [bindK_some, u8s_len, Nat.zero_add, Nat.mul_one, Nat.le_refl, and_self, true_and, List.length_nil, Nat.add_zero]
  ·have hl : 0 < s.length := by cases s <;> simp_all
   refine ⟨.slice (H.length + T.length) 0 (bs ++ s).length (.op 0), T.set m .dead ++ [.cells (u8s (bs ++ s)) 5 (.op 0 false)], ⟨none, some (H.length + m)⟩, fun kk => ?_, by simp, by simp [clean, low], fun i x hx hf => ?_, .inr ⟨by simp; omega, T.length, rfl, by simp⟩⟩
   ·rw [appTo_op (by decide) zok_71, hg]
    simp only [bindK_some, appO_c]
    have hd : decide (0 + (bs.length + s.length) * 1 ≤ (u8s bs).length) = false := by
     rw [u8s_len]; simp; omega
    have ht : (List.drop 0 (u8s bs)).take bs.length ++ u8s s = u8s (bs ++ s) := by
     rw [List.drop_zero, List.take_of_length_le (by rw [u8s_len]; exact Nat.le_refl _), u8s_app]
    rw [hd, guardK_ft]
    simp only [ht, hf, u8s_scal, hp_set, List.length_append, List.append_assoc, u8s_len, Nat.sub_self, Nat.zero_le, true_and, and_true, Nat.mul_one, Nat.zero_add, Nat.le_refl]
   ·have hne : m ≠ i := by
     rintro rfl
     rw [hm] at hx; cases hx; cases hf
    rw [get_app (x := x)]
    rw [List.getElem?_set_ne hne]; exact hx

theorem Buf.set {n : Nat} {T : Hp} {v : AV} {bs : List UInt8} {j : Nat} {c : List AV} {e : TypeId} {x : ABlk} (h : Buf n T v bs) (hj : T[j]? = some (.cells c e .rw)) : Buf n (T.set j x) v bs := by
 obtain h | ⟨hp, m, rfl, hm⟩ := h
 ·exact .inl h
 ·refine .inr ⟨hp, m, rfl, ?_⟩
  have : j ≠ m := by rintro rfl; rw [hj] at hm; cases hm
  rw [List.getElem?_set_ne this]; exact hm
theorem Buf.pos {n : Nat} {T : Hp} {v : AV} {bs : List UInt8} (h : Buf n T v bs) (hp : 0 < bs.length) : ∃ m, v = .slice (n + m) 0 bs.length (.op 0) ∧ T[m]? = some (.cells (u8s bs) 5 (.op 0 false)) := by
 obtain ⟨_, rfl⟩ | ⟨_, h⟩ := h
 ·cases hp
 ·exact h

set_option maxRecDepth 20000 in
theorem b_wstr (H T : Hp) (j : Nat) (bs s : List UInt8) (hb : Bld H.length T j bs) (hs : 0 < s.length) (hf : fits (bs.length + s.length) 1 = true) :
  ∃ T' e, Bld H.length T' j (bs ++ s) ∧ Keep T j T' ∧ Cl H.length j e ∧ ∀ k, callK Tryz.prog 26 [.ptr (H.length + j) 0, .str s] (H ++ T) k = k (.tuple [.int .i64 s.length, .nili], H ++ T', e) := by
 obtain ⟨p, v, hj, hp, hv⟩ := hb
 have hlt := lt_of_get hj
 obtain ⟨e1, he1, hck⟩ := b_check H T j p v hj hp hv.scl
 have hj1 : (T.set j (.cells [.ptr (H.length + j) 0, v] 73 .rw))[j]? = some (.cells [.ptr (H.length + j) 0, v] 73 .rw) := by rw [List.getElem?_set_self hlt]
 have hv1 := hv.set (x := .cells [.ptr (H.length + j) 0, v] 73 .rw) hj
 obtain ⟨v', T2, e2, happ, hlen, hcl, hkeep, hbuf⟩ := hv1.app s hf
 obtain ⟨m, hvm, hm⟩ := hbuf.pos (by simp; omega)
 have hj2 := hkeep j _ hj1 rfl
 have hlt2 := lt_of_get hj2
 have hfl : flat v' = false := by rw [hvm]; simp only [flat]
 have hsc := hbuf.scl
 have hvc : vcells v' = [v'] := by rw [hvm]; rfl
 have hc0 : clean H.length e1 := by
  obtain rfl | h := he1
  ·exact ⟨rfl, rfl⟩
  ·exact h.cln
 have hcl3 : Cl H.length j ((e1.and e2).and ⟨some (H.length + j), some (H.length + j)⟩) := .andr (clean_and hc0 hcl) ⟨_, rfl, by omega, by omega, by simp [low]⟩
 obtain ⟨e', hE, hleave⟩ := hcl3.leave (m := H.length + T.length) (by omega)
 refine ⟨T2.set j (.cells [.ptr (H.length + j) 0, v'] 73 .rw), e', ⟨_, v', by rw [List.getElem?_set_self hlt2], .inr rfl, hbuf.set hj2⟩, ⟨by simp at hlen ⊢; omega, fun i x hi hx hf => ?_⟩, hE, fun k => ?_⟩
 ·rw [List.getElem?_set_ne (Ne.symm hi)]
  exact hkeep i x (by rw [List.getElem?_set_ne (Ne.symm hi)]; exact hx) hf
 simp only [u8s] at happ
 refine callK_eq ?_ k
 refine callK_start (n := 19) (rs := [.tmp 4, .tmp 5]) Tryz.func26 rfl rfl rfl ?_
 intro σ hl ha
 have h0 := ha 0 (by simp)
 have h1 := ha 1 (by simp)
 clear ha
 simp only [Option.getD_some, List.getElem?_cons_zero, List.getElem?_cons_succ] at h0 h1
 have d1 : decide (j < T.length) = true := by simpa using hlt
 have d2 : decide (j < T2.length) = true := by simpa using hlt2
 simp only [go_sem, simprocAttr, hl, h0, h1, hck, d1, d2, hj1, hj2, happ, hvc, hsc, hfl]
 exact hleave _ _

set_option maxRecDepth 20000 in
theorem b_wbyte (H T : Hp) (j : Nat) (bs : List UInt8) (c : UInt8) (hb : Bld H.length T j bs) (hf : fits (bs.length + 1) 1 = true) :
  ∃ T' e, Bld H.length T' j (bs ++ [c]) ∧ Keep T j T' ∧ Cl H.length j e ∧ ∀ k, callK Tryz.prog 53 [.ptr (H.length + j) 0, .int .u8 c.toNat] (H ++ T) k = k (.nili, H ++ T', e) := by
 obtain ⟨p, v, hj, hp, hv⟩ := hb
 have hlt := lt_of_get hj
 obtain ⟨e1, he1, hck⟩ := b_check H T j p v hj hp hv.scl
 have hj1 : (T.set j (.cells [.ptr (H.length + j) 0, v] 73 .rw))[j]? = some (.cells [.ptr (H.length + j) 0, v] 73 .rw) := by rw [List.getElem?_set_self hlt]
 have hj1' : (T.set j (.cells [.ptr (H.length + j) 0, v] 73 .rw) ++ [.cells [.int .u8 c.toNat] 5 .rw])[j]? = some (.cells [.ptr (H.length + j) 0, v] 73 .rw) := get_app hj1
 have hv1 : Buf H.length (T.set j (.cells [.ptr (H.length + j) 0, v] 73 .rw) ++ [.cells [.int .u8 c.toNat] 5 .rw]) v bs := by
  obtain h | ⟨hp, m, rfl, hm⟩ := hv.set (x := .cells [.ptr (H.length + j) 0, v] 73 .rw) hj
  ·exact .inl h
  ·exact .inr ⟨hp, m, rfl, get_app hm⟩
 obtain ⟨v', T2, e2, happ, hlen, hcl, hkeep, hbuf⟩ := hv1.app [c] hf
 obtain ⟨m, hvm, hm⟩ := hbuf.pos (by simp)
 have hj2 := hkeep j _ hj1' rfl
 have hlt2 := lt_of_get hj2
 have hfl : flat v' = false := by rw [hvm]; simp only [flat]
 have hsc := hbuf.scl
 have hvc : vcells v' = [v'] := by rw [hvm]; rfl
 have hc0 : clean H.length e1 := by
  obtain rfl | h := he1
  ·exact ⟨rfl, rfl⟩
  ·exact h.cln
 have hcl3 : Cl H.length j ((e1.and e2).and ⟨some (H.length + j), some (H.length + j)⟩) := .andr (clean_and hc0 hcl) ⟨_, rfl, by omega, by omega, by simp [low]⟩
 obtain ⟨e', hE, hleave⟩ := hcl3.leave (m := H.length + T.length) (by omega)
 refine ⟨T2.set j (.cells [.ptr (H.length + j) 0, v'] 73 .rw), e', ⟨_, v', by rw [List.getElem?_set_self hlt2], .inr rfl, hbuf.set hj2⟩, ⟨by simp at hlen ⊢; omega, fun i x hi hx hf => ?_⟩, hE, fun k => ?_⟩
 ·rw [List.getElem?_set_ne (Ne.symm hi)]
  exact hkeep i x (get_app (by rw [List.getElem?_set_ne (Ne.symm hi)]; exact hx)) hf
 simp only [u8s, List.map_cons, List.map_nil, List.length_cons, List.length_nil, Nat.zero_add] at happ
 refine callK_eq ?_ k
 refine callK_start (n := 17) (rs := [.tmp 4]) Tryz.func53 rfl rfl rfl ?_
 intro σ hl ha
 have h0 := ha 0 (by simp)
 have h1 := ha 1 (by simp)
 clear ha
 simp only [Option.getD_some, List.getElem?_cons_zero, List.getElem?_cons_succ] at h0 h1
 have d1 : decide (j < T.length) = true := by simpa using hlt
 have d2 : decide (j < T2.length) = true := by simpa using hlt2
 have hbs : ∀ H, evBuildSlice Tryz.prog 71 1 [(0, .int .u8 c.toNat)] H = some (.slice H.length 0 1 (.ex 1), H ++ [.cells [.int .u8 c.toNat] 5 .rw]) := by
  intro H
  simp only [evBuildSlice, tsh_71, tzero_5, Option.bind_some]
  rfl
 simp only [go_sem, simprocAttr, hl, h0, h1, hck, d1, d2, hj1, hj2, hbs, happ, hvc, hsc, hfl]
 exact hleave _ _

theorem b_stringK (H T : Hp) (j : Nat) (bs : List UInt8) (hb : Bld H.length T j bs) (hn : bs.length ≤ 9223372036854775807) :
  ∃ T' e, Keep T j T' ∧ clean H.length e ∧ ∀ k, callK Tryz.prog 33 [.ptr (H.length + j) 0] (H ++ T) k = k (.str bs, H ++ T', e) := by
 obtain ⟨p, v, hj, hp, hv⟩ := hb
 have hlt := lt_of_get hj
 have hlen := hv.len
 obtain ⟨rfl, rfl⟩ | ⟨hpos, m, rfl, hm⟩ := hv
 ·refine ⟨T, z0, Keep.refl T j, ⟨rfl, rfl⟩, fun k => ?_⟩
  refine callK_eq ?_ k
  refine callK_start (n := 14) (rs := [.tmp 2]) Tryz.func33 rfl rfl rfl ?_
  intro σ hl ha
  have h0 := ha 0 (by simp)
  clear ha
  simp only [Option.getD_some, List.getElem?_cons_zero, List.getElem?_cons_succ] at h0
  have hsd : evSliceData Tryz.prog .nils (H ++ T) = some .nilp := rfl
  have hst : evString Tryz.prog 122 .nilp (.int .i64 0) (H ++ T) = some (.str [], H ++ T, z0) := rfl
  have d1 : decide (j < T.length) = true := by simpa using hlt
  simp only [go_sem, simprocAttr, hl, h0]
  refine go_drawZ tFollows (by kernel_rfl) ?_
  simp only [go_sem, simprocAttr, hl, h0, hj, d1, hsd, hst, hlen]
  rw [← List.length_append]
  exact leave_flat0 rfl (by rw [clean_z0]; trivial)
 ·have hlm := lt_of_get hm
  have hg : (H ++ T)[H.length + m]? = some (.cells (u8s bs) 5 (.op 0 false)) := by rw [hp_new, hm]
  have hsd : evSliceData Tryz.prog (.slice (H.length + m) 0 bs.length (.op 0)) (H ++ T) = some (.ptr (H.length + m) 0) := by
   simp only [evSliceData, hg, tsize_5, Option.bind_some]
   rw [if_pos ⟨by decide, trivial, hpos, by rw [u8s_len]; omega⟩]
  have hst : evString Tryz.prog 122 (.ptr (H.length + m) 0) (.int .i64 bs.length) (H ++ T) = some (.str bs, (H ++ T).set (H.length + m) (.cells (u8s bs) 5 (.op bs.length false)), ⟨none, some (H.length + m)⟩) := by
   have c1 : ¬ ((bs.length : Int) = 0) := by omega
   have c2 : 0 < (bs.length : Int) ∧ (bs.length : Int) ≤ 9223372036854775807 := by omega
   have c3 : Tryz.prog.cellsOf 5 = 1 := by kernel_rfl
   have c5 : ((u8s bs).drop 0).take (bs.length : Int).toNat = u8s bs := by
    rw [List.drop_zero, List.take_of_length_le (by rw [u8s_len]; simp)]
   simp only [evString, tsh_122, hg]
   rw [if_neg c1, if_pos c2, if_pos ⟨trivial, tsize_5, c3, by rw [u8s_len]; simp⟩, c5, bytes_u8s]
   simp
  refine ⟨T.set m (.cells (u8s bs) 5 (.op bs.length false)), ⟨none, low (H.length + T.length) (some (H.length + m))⟩, ⟨by simp, fun i x hi hx hf => by
   have hne : m ≠ i := by
    rintro rfl
    rw [hm] at hx; cases hx; cases hf
   rw [List.getElem?_set_ne hne]; exact hx⟩, ⟨rfl, low_low (m := H.length + T.length) (by simp [low] : low H.length (some (H.length + m)) = none)⟩, fun k => ?_⟩
  refine callK_eq ?_ k
  refine callK_start (n := 14) (rs := [.tmp 2]) Tryz.func33 rfl rfl rfl ?_
  intro σ hl ha
  have h0 := ha 0 (by simp)
  clear ha
  simp only [Option.getD_some, List.getElem?_cons_zero, List.getElem?_cons_succ] at h0
  have d1 : decide (j < T.length) = true := by simpa using hlt
  simp only [go_sem, simprocAttr, hl, h0]
  refine go_drawZ tFollows (by kernel_rfl) ?_
  simp only [go_sem, simprocAttr, hl, h0, hj, d1, hsd, hst, hlen]
  refine ⟨(by kernel_rfl : effOk _ _ _ = true), ?_⟩
  unfold leave
  have hlo : low (H.length + T.length) none = none := rfl
  simp only [hlo, flat, and_self, if_true]
  rw [List.take_of_length_le (by simp)]
end Go.Proofs.YtdppgaphcmhffaaGreatDoor.V
namespace Go.Proofs.YtdppgaphcmhffaaGreatDoor.V
open Go
attribute [local irreducible] go goOps goD opK callK callT stepK leaveTo nextK

theorem Bld.more {n : Nat} {T : Hp} {j : Nat} {bs : List UInt8} (h : Bld n T j bs) (l : Hp) : Bld n (T ++ l) j bs := by
 obtain ⟨p, v, hj, hp, hv⟩ := h
 refine ⟨p, v, get_app hj, hp, ?_⟩
 obtain h | ⟨q, m, rfl, hm⟩ := hv
 ·exact .inl h
 ·exact .inr ⟨q, m, rfl, get_app hm⟩
theorem Bld.lt {n : Nat} {T : Hp} {j : Nat} {bs : List UInt8} (h : Bld n T j bs) : j < T.length := by
 obtain ⟨p, v, hj, hp, hv⟩ := h
 exact lt_of_get hj

theorem b_wlit (H T : Hp) (j : Nat) (bs : List UInt8) (c : UInt8) (n : Int) (hn : n = c.toNat) (hb : Bld H.length T j bs) (hf : fits (bs.length + 1) 1 = true) :
  ∃ T' e, Bld H.length T' j (bs ++ [c]) ∧ Keep T j T' ∧ Cl H.length j e ∧ ∀ k, callK Tryz.prog 53 [.ptr (H.length + j) 0, .int .u8 n] (H ++ T) k = k (.nili, H ++ T', e) := by
 subst hn
 exact b_wbyte H T j bs c hb hf
end Go.Proofs.YtdppgaphcmhffaaGreatDoor.V
namespace Go.Proofs.YtdppgaphcmhffaaGreatDoor.V
open Go
attribute [local irreducible] go goOps goD opK callK callT stepK leaveTo nextK

def labs (s : List UInt8) : List (List UInt8) := (nm s).getD []
theorem lab_at : ∀ (L : List (List UInt8)) (s : List UInt8) (a : Nat), lab (s.drop a) = some L → ∀ (i : Nat) (l : List UInt8), L[i]? = some l →
  ∃ p c, (posn a L)[i]? = some p ∧ s[p]? = some c ∧ c.toNat = l.length ∧ (s.drop (p + 1)).take l.length = l ∧ p + (1 + l.length) ≤ s.length ∧ 0 < l.length ∧ l.length ≤ 63
 | [], s, a, h, i, l, hi => by simp at hi
 | m :: L, s, a, h, i, l, hi => by
  cases hd : s.drop a with
  | nil => rw [hd, lab_nil] at h; cases h
  | cons c t =>
   rw [hd, lab_cons] at h
   have ha : a < s.length := by
    have := congrArg List.length hd
    simp at this; omega
   have hc : s[a]? = some c := by
    have := congrArg (·[0]?) hd
    simpa using this
   have ht : t = s.drop (a + 1) := by
    rw [drop_at hc] at hd
    injection hd with _ h2
    exact h2.symm
   split at h
   ·split at h <;> cases h
   ·split at h
    ·cases h
    ·rename_i h0 h1
     cases hL : lab (t.drop c.toNat) with
     | none => rw [hL] at h; cases h
     | some L' =>
      rw [hL] at h
      simp only [Option.map_some, Option.some.injEq, List.cons.injEq] at h
      obtain ⟨rfl, rfl⟩ := h
      have hml : (t.take c.toNat).length = c.toNat := by rw [List.length_take]; omega
      have htl : t.length = s.length - (a + 1) := by rw [ht, List.length_drop]
      cases i with
      | zero =>
       simp only [List.getElem?_cons_zero, Option.some.injEq] at hi
       subst hi
       refine ⟨a, c, rfl, hc, hml.symm, by rw [hml, ht], by rw [hml]; omega, by rw [hml]; omega, by rw [hml]; omega⟩
      | succ i =>
       simp only [List.getElem?_cons_succ] at hi
       have hr : lab (s.drop (a + (1 + (t.take c.toNat).length))) = some L' := by
        rw [hml, show a + (1 + c.toNat) = (a + 1) + c.toNat by omega, ← List.drop_drop, ← ht]; exact hL
       obtain ⟨p, c', h1, h2⟩ := lab_at L' s _ hr i l hi
       exact ⟨p, c', h1, h2⟩
theorem posA_at {L : List (List UInt8)} {i p : Nat} (h : (posn 0 L)[i]? = some p) (e : TypeId) (k : Kd) : ldC i 1 false (.cells (posA L) e k) = some (.int .i64 (p : Nat)) := by
 rw [ldC_f]; simp [posA, h]
theorem nm_lab {s : List UInt8} {L : List (List UInt8)} (h : nm s = some L) : lab s = some L ∧ s.length ≤ 255 := by
 unfold nm at h
 split at h
 ·cases h
 ·exact ⟨h, by omega⟩
theorem tot_le : ∀ (L : List (List UInt8)) (s : List UInt8), lab s = some L → s.length = tot L + 1
 | [], s, h => by
  cases s with
  | nil => cases h
  | cons c t =>
   rw [lab_cons] at h
   split at h
   ·split at h
    ·rename_i h'; rw [List.length_cons, h']; rfl
    ·cases h
   ·split at h
    ·cases h
    ·rw [Option.map_eq_some_iff] at h
     obtain ⟨_, _, h⟩ := h
     cases h
 | l :: L, s, h => by
  cases s with
  | nil => cases h
  | cons c t =>
   rw [lab_cons] at h
   split at h
   ·split at h <;> cases h
   ·split at h
    ·cases h
    ·rename_i h0 h1
     rw [Option.map_eq_some_iff] at h
     obtain ⟨L', h2, h3⟩ := h
     injection h3 with h4 h5
     subst h4 h5
     have := tot_le L' _ h2
     rw [List.length_drop] at this
     have e : tot (t.take c.toNat :: L') = (1 + (t.take c.toNat).length) + tot L' := by simp [tot]
     rw [e, List.length_take, List.length_cons]; omega
theorem len_tot : ∀ (L : List (List UInt8)), L.length ≤ tot L
 | [] => Nat.zero_le _
 | l :: L => by
  have := len_tot L
  have e : tot (l :: L) = (1 + l.length) + tot L := by simp [tot]
  rw [e, List.length_cons]; omega

set_option maxRecDepth 20000 in
theorem name_Labels (s : List UInt8) (H) (hs : s.length ≤ maxI) : ∃ b : AV × Hp, GBuf H.length b.2 b.1 9 1 (labs s).length (strs (labs s)) ∧
  ∀ k, callK Tryz.prog 51 [.str s] H k = k (b.1, H ++ b.2, z0) := by
 obtain ⟨⟨bv, bT⟩, hb, hst⟩ := name_starts s H hs
 refine callK_exP (fun b : AV × Hp => GBuf H.length b.2 b.1 9 1 (labs s).length (strs (labs s))) (fun b => (b.1, H ++ b.2, z0)) ?_
 refine callK_start (n := 37) (rs := [.tmp 2]) Tryz.func51 rfl rfl rfl ?_
 intro σ hl ha
 have h0 := ha 0 (by simp)
 clear ha
 simp only [Option.getD_some, List.getElem?_cons_zero, List.getElem?_cons_succ] at h0
 cases hn : nm s with
 | none =>
  have hlb : labs s = [] := by rw [labs, hn]; rfl
  rw [hn] at hst
  simp only [Option.isSome_none] at hst
  simp only [go_sem, simprocAttr, hl, h0, hst]
  exact ⟨(.nils, []), by rw [hlb]; exact .inl ⟨rfl, rfl, rfl⟩, by simp⟩
 | some L =>
  have hlb : labs s = L := by rw [labs, hn]; rfl
  have hB := hb L hn
  obtain ⟨hL, h255⟩ := nm_lab hn
  have hLl : L.length ≤ 255 := by have := tot_le L s hL; have := len_tot L; omega
  rw [hn] at hst
  simp only [Option.isSome_some] at hst
  rw [hlb]
  have hlen : ∀ H', evLen Tryz.prog 88 bv H' = some (.int .i64 L.length) := by
   intro H'
   obtain ⟨rfl, h2, h3⟩ | ⟨h1, h2, m, rfl, h3⟩ := hB
   ·simp only [evLen, tsh_88, h3]; rfl
   ·simp only [evLen, tsh_88]
  simp only [go_sem, simprocAttr, hl, h0, hst, hlen]
  refine go_rounds (fun n st => ∃ σ i v T e, n + i = L.length ∧ st = ⟨σ, H ++ T, e⟩ ∧ GBuf H.length T v 9 1 i (strs (L.take i)) ∧ GBuf H.length T bv 3 1 L.length (posA L) ∧ clean H.length e ∧ σ.length = 37 ∧ fr σ 0 = .str s ∧ fr σ 5 = v ∧ fr σ 15 = bv ∧ fr σ 16 = .int .i64 L.length ∧ fr σ 17 = .int .i64 (i : Nat)) L.length
   ⟨_, 0, .nils, bT, _, rfl, rfl, .inl ⟨rfl, rfl, rfl⟩, hB, ⟨rfl, rfl⟩, by simp only [go_sem, simprocAttr, hl], by simp only [go_sem, simprocAttr, hl, h0], by simp only [go_sem, simprocAttr, hl], by simp only [go_sem, simprocAttr, hl], by simp only [go_sem, simprocAttr, hl], by simp only [go_sem, simprocAttr, hl]⟩ ?_
  rintro n _ ⟨σ, i, v, T, e, hi, rfl, hv, hB, he, hl, h0, h5, h15, h16, h17⟩
  by_cases hlt : i < L.length
  ·obtain ⟨l, hli⟩ : ∃ l, L[i]? = some l := ⟨_, List.getElem?_eq_getElem hlt⟩
   obtain ⟨p, c, hp, hc, hcl, htk, hle, hpos, h63⟩ := lab_at L s 0 (by simpa using hL) i l hli
   obtain ⟨rfl, h2, h3⟩ | ⟨h1, h2, m, rfl, h3⟩ := hB
   ·omega
   have hg : (H ++ T)[H.length + m]? = some (.cells (posA L) 3 (.op 0 false)) := by rw [hp_new, h3]
   have hld := posA_at hp
   have hw := wrap_succ (show i < 9223372036854775807 by omega)
   have w0 : IntKind.i64.wrap (c.toNat : Int) = (c.toNat : Int) := by rw [wrap_i64 (by omega)]
   have w1 : IntKind.i64.wrap ((p : Int) + 1) = ((p + 1 : Nat) : Int) := by rw [wrap_i64 (by omega)]; omega
   have w2 : IntKind.i64.wrap (((p + 1 : Nat) : Int) + (c.toNat : Int)) = ((p + (1 + c.toNat) : Nat) : Int) := by rw [wrap_i64 (by omega)]; omega
   have hsl : (s.take (p + (1 + c.toNat))).drop (p + 1) = l := by
    rw [List.drop_take, hcl, show p + (1 + l.length) - (p + 1) = l.length by omega]; exact htk
   have hsl2 : (s.drop (p + 1)).take c.toNat = l := by rw [hcl]; exact htk
   have hplt : p < s.length := by omega
   have hbs := fun H => bslice_str l H
   obtain ⟨v', T2, e2, happ, _, hcl2, hk2, hv3, _, hvc, hq⟩ := (hv.more [.cells [.str l] 9 .rw]).app2 (P := Tryz.prog) (b := 16) (by decide) zok_85 [.str l] 1 (by decide) rfl rfl (by simp only [fits, decide_eq_true_eq]; omega)
   have d1 : decide (p + 1 ≤ p + (1 + c.toNat)) = true := by simp
   have d2 : decide (p + (1 + c.toNat) ≤ s.length) = true := by simp; omega
   have d3 : p + (1 + c.toNat) - (p + 1) = c.toNat := by omega
   have hbm : T2[m]? = some (.cells (posA L) 3 (.op 0 false)) := hk2 m _ (get_app h3) (by intro c fz st hx; injection hx with _ h _; exact absurd h (by decide))
   simp only [go_sem, simprocAttr, hl, h0, h5, h15, h16, h17, hlt, hg, h3, hld, hc, hplt, w0, w1, w2, hsl, hsl2, d1, d2, d3, hbs, happ, hw]
   rw [show strs (L.take i) ++ [.str l] = strs (L.take (i + 1)) from strs_snoc hli] at hv3
   refine ⟨by omega, by omega, n - 1, by omega, _, i + 1, v', T2, _, by omega, rfl, hv3, .inr ⟨h1, h2, m, rfl, hbm⟩, by simp only [go_sem, simprocAttr, he, hcl2], by simp only [go_sem, simprocAttr, hl], by simp only [go_sem, simprocAttr, hl, h0], by simp only [go_sem, simprocAttr, hl], by simp only [go_sem, simprocAttr, hl, h15], by simp only [go_sem, simprocAttr, hl, h16], by simp only [go_sem, simprocAttr, hl]⟩
  ·have hi : i = L.length := by omega
   subst hi
   rw [List.take_length] at hv
   simp only [go_sem, simprocAttr, hl, h0, h5, h15, h16, h17, hlt]
   obtain ⟨rfl, h2, h3⟩ | ⟨h1, h2, m, rfl, h3⟩ := hv
   ·exact ⟨(.nils, []), .inl ⟨rfl, h2, h3⟩, by rw [leave_flat rfl he, List.append_nil]⟩
   ·exact ⟨(.slice (H.length + m) 0 L.length (.op 0), T), .inr ⟨h1, h2, m, rfl, h3⟩, by rw [leave_keep (by simp [flat, flats]) he]⟩

theorem labs_tot {s : List UInt8} : tot (labs s) ≤ 255 := by
 cases h : nm s with
 | none => rw [labs, h]; simp [tot]
 | some L =>
  obtain ⟨hL, h255⟩ := nm_lab h
  have := tot_le L s hL
  rw [labs, h]; simp only [Option.getD_some]; omega
theorem labs_pos {s l : List UInt8} {i : Nat} (h : (labs s)[i]? = some l) : 0 < l.length ∧ l.length ≤ 63 := by
 cases hn : nm s with
 | none => rw [labs, hn] at h; simp at h
 | some L =>
  rw [labs, hn] at h
  obtain ⟨hL, h255⟩ := nm_lab hn
  obtain ⟨p, c, _, _, _, _, _, h1, h2⟩ := lab_at L s 0 (by simpa using hL) i l h
  exact ⟨h1, h2⟩

end Go.Proofs.YtdppgaphcmhffaaGreatDoor.V
namespace Go.Proofs.YtdppgaphcmhffaaGreatDoor.V
open Go
attribute [local irreducible] go goOps goD opK callK callT stepK leaveTo nextK

def joinS (sep : List UInt8) : List (List UInt8) → List UInt8
 | [] => []
 | x :: r => x ++ r.flatMap (sep ++ ·)
def totS (L : List (List UInt8)) : Nat := (L.map List.length).sum
end Go.Proofs.YtdppgaphcmhffaaGreatDoor.V
namespace Go.Proofs.YtdppgaphcmhffaaGreatDoor.V
open Go
attribute [local irreducible] go goOps goD opK callK callT stepK leaveTo nextK

theorem Buf.more {n : Nat} {T : Hp} {v : AV} {bs : List UInt8} (h : Buf n T v bs) (l : Hp) : Buf n (T ++ l) v bs := by
 obtain h | ⟨q, m, rfl, hm⟩ := h
 ·exact .inl h
 ·exact .inr ⟨q, m, rfl, get_app hm⟩
theorem Buf.rd {H T : Hp} {v : AV} {bs : List UInt8} (h : Buf H.length T v bs) : Rd (H ++ T) v bs := by
 obtain h | ⟨q, m, rfl, hm⟩ := h
 ·exact .inl h
 ·exact .inr ⟨_, _, _, [], [], 5, .op 0 false, rfl, rfl, by rw [hp_new, hm]; simp, .inr ⟨rfl, rfl, 0, false, rfl⟩⟩

end Go.Proofs.YtdppgaphcmhffaaGreatDoor.V
namespace Go.Proofs.YtdppgaphcmhffaaGreatDoor.V
open Go
attribute [local irreducible] go goOps goD opK callK callT stepK leaveTo nextK

def len8 : List UInt8 := [0,1,2,2,3,3,3,3,4,4,4,4,4,4,4,4,5,5,5,5,5,5,5,5,5,5,5,5,5,5,5,5,6,6,6,6,6,6,6,6,6,6,6,6,6,6,6,6,6,6,6,6,6,6,6,6,6,6,6,6,6,6,6,6,7,7,7,7,7,7,7,7,7,7,7,7,7,7,7,7,7,7,7,7,7,7,7,7,7,7,7,7,7,7,7,7,7,7,7,7,7,7,7,7,7,7,7,7,7,7,7,7,7,7,7,7,7,7,7,7,7,7,7,7,7,7,7,7] ++ List.replicate 128 8
def bl8 (c : Nat) : Nat := ((len8[c]?).getD 0).toNat
def pow10c : List AV := [.int .u64 1, .int .u64 10, .int .u64 100, .int .u64 1000, .int .u64 10000, .int .u64 100000, .int .u64 1000000, .int .u64 10000000, .int .u64 100000000, .int .u64 1000000000, .int .u64 10000000000, .int .u64 100000000000, .int .u64 1000000000000, .int .u64 10000000000000, .int .u64 100000000000000, .int .u64 1000000000000000, .int .u64 10000000000000000, .int .u64 100000000000000000, .int .u64 1000000000000000000, .int .u64 10000000000000000000]
def Tb (H : Hp) : Prop := ∃ e k, H[1]? = some (.cells pow10c e k)
theorem Tb.old {H : Hp} (h : Tb H) (l : Hp) : Tb (H ++ l) := by
 obtain ⟨e, k, h⟩ := h
 exact ⟨e, k, hp_old h⟩
theorem decP_small {n : Nat} (h : n < 10) : decP n = [hexD n] := by unfold decP; rw [if_pos h]
theorem decP_big {n : Nat} (h : ¬ n < 10) : decP n = decP (n / 10) ++ [hexD (n % 10)] := by rw [decP]; rw [if_neg h]
end Go.Proofs.YtdppgaphcmhffaaGreatDoor.V
namespace Go.Proofs.YtdppgaphcmhffaaGreatDoor.V
open Go
attribute [local irreducible] go goOps goD opK callK callT stepK leaveTo nextK

end Go.Proofs.YtdppgaphcmhffaaGreatDoor.V
namespace Go.Proofs.YtdppgaphcmhffaaGreatDoor.V
open Go
attribute [local irreducible] go goOps goD opK callK callT stepK leaveTo nextK

def bl16 (n : Nat) : Nat := if n < 256 then bl8 n else 8 + bl8 (n / 256)
def bl (n : Nat) : Nat := if n < 65536 then bl16 n else 16 + bl16 (n / 65536)
end Go.Proofs.YtdppgaphcmhffaaGreatDoor.V
namespace Go.Proofs.YtdppgaphcmhffaaGreatDoor.V
open Go
attribute [local irreducible] go goOps goD opK callK callT stepK leaveTo nextK

end Go.Proofs.YtdppgaphcmhffaaGreatDoor.V
namespace Go.Proofs.YtdppgaphcmhffaaGreatDoor.V
open Go
attribute [local irreducible] go goOps goD opK callK callT stepK leaveTo nextK

def deB64c : List AV := [.int .u8 0, .int .u8 1, .int .u8 56, .int .u8 2, .int .u8 57, .int .u8 49, .int .u8 28, .int .u8 3, .int .u8 61, .int .u8 58, .int .u8 42, .int .u8 50, .int .u8 38, .int .u8 29, .int .u8 17, .int .u8 4, .int .u8 62, .int .u8 47, .int .u8 59, .int .u8 36, .int .u8 45, .int .u8 43, .int .u8 51, .int .u8 22, .int .u8 53, .int .u8 39, .int .u8 33, .int .u8 30, .int .u8 24, .int .u8 18, .int .u8 12, .int .u8 5, .int .u8 63, .int .u8 55, .int .u8 48, .int .u8 27, .int .u8 60, .int .u8 41, .int .u8 37, .int .u8 16, .int .u8 46, .int .u8 35, .int .u8 44, .int .u8 21, .int .u8 52, .int .u8 32, .int .u8 23, .int .u8 11, .int .u8 54, .int .u8 26, .int .u8 40, .int .u8 15, .int .u8 34, .int .u8 20, .int .u8 31, .int .u8 10, .int .u8 25, .int .u8 14, .int .u8 19, .int .u8 9, .int .u8 13, .int .u8 8, .int .u8 7, .int .u8 6]
def Db (H : Hp) : Prop := ∃ e k, H[8]? = some (.cells deB64c e k)
theorem Db.old {H : Hp} (h : Db H) (l : Hp) : Db (H ++ l) := by
 obtain ⟨e, k, h⟩ := h
 exact ⟨e, k, hp_old h⟩
end Go.Proofs.YtdppgaphcmhffaaGreatDoor.V
namespace Go.Proofs.YtdppgaphcmhffaaGreatDoor.V
open Go
attribute [local irreducible] go goOps goD opK callK callT stepK leaveTo nextK

structure Dt where
 raw : List UInt8
 host : List UInt8
 mail : List UInt8
 n0 : Int
 n1 : Int
 n2 : Int
 n3 : Int
 n4 : Int
 deriving DecidableEq
def Dt.cells (d : Dt) : List AV := [.str d.raw, .str d.host, .str d.mail, .int .u32 d.n0, .int .u32 d.n1, .int .u32 d.n2, .int .u32 d.n3, .int .u32 d.n4]
def Dt.zero : Dt := ⟨[], [], [], 0, 0, 0, 0, 0⟩
def is32 (n : Int) : Prop := 0 ≤ n ∧ n < 4294967296
structure Dt.wf (d : Dt) : Prop where
 raw : d.raw.length ≤ 1048576
 host : d.host.length ≤ 1048576
 mail : d.mail.length ≤ 1048576
 n0 : is32 d.n0
 n1 : is32 d.n1
 n2 : is32 d.n2
 n3 : is32 d.n3
 n4 : is32 d.n4

theorem kinds_cases (t : Int) : t = 1 ∨ t = 2 ∨ t = 5 ∨ t = 6 ∨ t = 12 ∨ t = 15 ∨ t = 16 ∨ t = 28 ∨ t = 33 ∨ (t ≠ 1 ∧ t ≠ 2 ∧ t ≠ 5 ∧ t ≠ 6 ∧ t ≠ 12 ∧ t ≠ 15 ∧ t ≠ 16 ∧ t ≠ 28 ∧ t ≠ 33) := by omega
def kindsC : List AV := [.int .u16 1, .str [65], .str [97], .int .u16 2, .str [78, 83], .str [104], .int .u16 5, .str [67, 78, 65, 77, 69], .str [104], .int .u16 6, .str [83, 79, 65], .str [104, 109, 108, 108, 108, 108, 108], .int .u16 12, .str [80, 84, 82], .str [104], .int .u16 15, .str [77, 88], .str [115, 104], .int .u16 16, .str [84, 88, 84], .str [120], .int .u16 28, .str [65, 65, 65, 65], .str [113], .int .u16 33, .str [83, 82, 86], .str [115, 115, 115, 112]]
def Tk (H : Hp) : Prop := ∃ e k, H[0]? = some (.cells kindsC e k)
theorem Tk.old {H : Hp} (h : Tk H) (l : Hp) : Tk (H ++ l) := by
 obtain ⟨e, k, h⟩ := h
 exact ⟨e, k, hp_old h⟩
def formS (t : Int) : List UInt8 :=
 if t = 1 then [97] else if t = 2 then [104] else if t = 5 then [104] else if t = 6 then [104, 109, 108, 108, 108, 108, 108] else if t = 12 then [104] else
 if t = 15 then [115, 104] else if t = 16 then [120] else if t = 28 then [113] else if t = 33 then [115, 115, 115, 112] else [114]

def kT (i : Nat) : Int := (([1, 2, 5, 6, 12, 15, 16, 28, 33] : List Int)[i]?).getD 0
def fT (i : Nat) : List UInt8 := formS (kT i)
theorem kinds_at {i : Nat} (h : i < 9) (e : TypeId) (k : Kd) : ldC (i * 3) 1 false (.cells kindsC e k) = some (.int .u16 (kT i)) ∧ ldC (i * 3 + 2) 1 false (.cells kindsC e k) = some (.str (fT i)) := by
 have : i = 0 ∨ i = 1 ∨ i = 2 ∨ i = 3 ∨ i = 4 ∨ i = 5 ∨ i = 6 ∨ i = 7 ∨ i = 8 := by omega
 rcases this with rfl | rfl | rfl | rfl | rfl | rfl | rfl | rfl | rfl <;> exact ⟨rfl, rfl⟩
theorem formS_no {t : Int} (h : ∀ j, j < 9 → kT j ≠ t) : formS t = [114] := by
 have h0 := h 0 (by decide); have h1 := h 1 (by decide); have h2 := h 2 (by decide); have h3 := h 3 (by decide); have h4 := h 4 (by decide)
 have h5 := h 5 (by decide); have h6 := h 6 (by decide); have h7 := h 7 (by decide); have h8 := h 8 (by decide)
 simp only [kT, List.getElem?_cons_zero, List.getElem?_cons_succ, Option.getD_some] at h0 h1 h2 h3 h4 h5 h6 h7 h8
 unfold formS
 rw [if_neg (Ne.symm h0), if_neg (Ne.symm h1), if_neg (Ne.symm h2), if_neg (Ne.symm h3), if_neg (Ne.symm h4), if_neg (Ne.symm h5), if_neg (Ne.symm h6), if_neg (Ne.symm h7), if_neg (Ne.symm h8)]

set_option maxRecDepth 20000 in
theorem rdata_form (t : Int) (H k) (hk : Tk H) : callK Tryz.prog 55 [.int .u16 t] H k = k (.str (formS t), H, z0) := by
 obtain ⟨e, kd, hg⟩ := hk
 refine callK_eq (r := (.str (formS t), H, z0)) ?_ k
 refine callK_start (n := 18) (rs := [.tmp 2]) Tryz.func55 rfl rfl rfl ?_
 intro σ hl ha
 have h0 := ha 0 (by simp)
 clear ha
 simp only [Option.getD_some, List.getElem?_cons_zero, List.getElem?_cons_succ] at h0
 simp only [go_sem, simprocAttr, hl, h0]
 refine go_rounds (fun n st => ∃ σ i, n + i = 9 ∧ (∀ j, j < i → kT j ≠ t) ∧ st = ⟨σ, H, z0⟩ ∧ σ.length = 18 ∧ fr σ 0 = .int .u16 t ∧ fr σ 4 = .int .i64 (i : Nat)) 9
  ⟨_, 0, rfl, fun j hj => by omega, rfl, by simp only [go_sem, simprocAttr, hl], by simp only [go_sem, simprocAttr, hl, h0], by simp only [go_sem, simprocAttr, hl]⟩ ?_
 rintro n _ ⟨σ, i, hn, hall, rfl, hl, h0, h4⟩
 by_cases hlt : i < 9
 ·obtain ⟨l1, l2⟩ := kinds_at hlt e kd
  have hw := wrap_succ (show i < 9223372036854775807 by omega)
  have g0 : decide ((i : Int) < 9) = true := by simp; omega
  have b0 : (i : Int) < 9 := by omega
  by_cases hk : kT i = t
  ·have g1 : (kT i == t) = true := by rw [hk]; exact beq_self_eq_true t
   have hf : fT i = formS t := by unfold fT; rw [hk]
   simp only [go_sem, simprocAttr, hl, h0, h4, g0, b0, hg, l1, l2, g1, hf]
  ·have g1 : (kT i == t) = false := by rw [beq_eq_false_iff_ne]; exact hk
   simp only [go_sem, simprocAttr, hl, h0, h4, g0, b0, hg, l1, l2, g1, hw]
   refine ⟨n - 1, by omega, _, i + 1, by omega, fun j hj => ?_, rfl, by simp only [go_sem, simprocAttr, hl], by simp only [go_sem, simprocAttr, hl, h0], by simp only [go_sem, simprocAttr, hl]⟩
   by_cases hji : j = i
   ·rw [hji]; exact hk
   ·exact hall j (by omega)
 ·have g0 : decide ((i : Int) < 9) = false := by simp; omega
  have hf := formS_no (fun j hj => hall j (by omega))
  simp only [go_sem, simprocAttr, hl, h0, h4, g0, hf]

def hostT (t : Int) : Bool := decide (t = 2 ∨ t = 5 ∨ t = 12 ∨ t = 6 ∨ t = 15 ∨ t = 33)
def mailT (t : Int) : Bool := decide (t = 6)
theorem hostT_1 : hostT 1 = false := rfl
theorem mailT_1 : mailT 1 = false := rfl
theorem hostT_2 : hostT 2 = true := rfl
theorem mailT_2 : mailT 2 = false := rfl
theorem hostT_5 : hostT 5 = true := rfl
theorem mailT_5 : mailT 5 = false := rfl
theorem hostT_6 : hostT 6 = true := rfl
theorem mailT_6 : mailT 6 = true := rfl
theorem hostT_12 : hostT 12 = true := rfl
theorem mailT_12 : mailT 12 = false := rfl
theorem hostT_15 : hostT 15 = true := rfl
theorem mailT_15 : mailT 15 = false := rfl
theorem hostT_16 : hostT 16 = false := rfl
theorem mailT_16 : mailT 16 = false := rfl
theorem hostT_28 : hostT 28 = false := rfl
theorem mailT_28 : mailT 28 = false := rfl
theorem hostT_33 : hostT 33 = true := rfl
theorem mailT_33 : mailT 33 = false := rfl
attribute [go_sem] hostT_1 mailT_1 hostT_2 mailT_2 hostT_5 mailT_5 hostT_6 mailT_6 hostT_12 mailT_12 hostT_15 mailT_15 hostT_16 mailT_16 hostT_28 mailT_28 hostT_33 mailT_33
end Go.Proofs.YtdppgaphcmhffaaGreatDoor.V
namespace Go.Proofs.YtdppgaphcmhffaaGreatDoor.V
open Go
attribute [local irreducible] go goOps goD opK callK callT stepK leaveTo nextK

theorem formS_o {t : Int} (h : t ≠ 1 ∧ t ≠ 2 ∧ t ≠ 5 ∧ t ≠ 6 ∧ t ≠ 12 ∧ t ≠ 15 ∧ t ≠ 16 ∧ t ≠ 28 ∧ t ≠ 33) : formS t = [114] := by
 obtain ⟨h1, h2, h3, h4, h5, h6, h7, h8, h9⟩ := h
 unfold formS
 rw [if_neg h1, if_neg h2, if_neg h3, if_neg h4, if_neg h5, if_neg h6, if_neg h7, if_neg h8, if_neg h9]

end Go.Proofs.YtdppgaphcmhffaaGreatDoor.V
namespace Go.Proofs.YtdppgaphcmhffaaGreatDoor.V
open Go
attribute [local irreducible] go goOps goD opK callK callT stepK leaveTo nextK

end Go.Proofs.YtdppgaphcmhffaaGreatDoor.V
namespace Go.Proofs.YtdppgaphcmhffaaGreatDoor.V
open Go
attribute [local irreducible] go goOps goD opK callK callT stepK leaveTo nextK

def Dt.n (d : Dt) : Nat → Int
 | 0 => d.n0
 | 1 => d.n1
 | 2 => d.n2
 | 3 => d.n3
 | _ => d.n4
end Go.Proofs.YtdppgaphcmhffaaGreatDoor.V
namespace Go.Proofs.YtdppgaphcmhffaaGreatDoor.V
open Go
attribute [local irreducible] go goOps goD opK callK callT stepK leaveTo nextK

theorem beq_tf : ((true : Bool) == false) = false := rfl
theorem beq_ft : ((false : Bool) == true) = false := rfl
attribute [go_sem] beq_tf beq_ft
theorem Dt.at (d : Dt) {i : Nat} (hi : i < 5) (e : TypeId) (k : Kd) : ldC (3 + i) 1 false (.cells d.cells e k) = some (.int .u32 (d.n i)) := by
 have : i = 0 ∨ i = 1 ∨ i = 2 ∨ i = 3 ∨ i = 4 := by omega
 rcases this with rfl | rfl | rfl | rfl | rfl <;> rfl
theorem Dt.l0 (d : Dt) (e : TypeId) (k : Kd) : ldC 0 1 false (.cells d.cells e k) = some (.str d.raw) := rfl
theorem Dt.l1 (d : Dt) (e : TypeId) (k : Kd) : ldC 1 1 false (.cells d.cells e k) = some (.str d.host) := rfl
theorem Dt.l2 (d : Dt) (e : TypeId) (k : Kd) : ldC 2 1 false (.cells d.cells e k) = some (.str d.mail) := rfl
theorem Dt.l8 (d : Dt) (e : TypeId) (k : Kd) : ldC 0 8 true (.cells d.cells e k) = some (.agg d.cells) := rfl
theorem Dt.vc (d : Dt) : vcells (.agg d.cells) = d.cells := rfl
theorem Dt.len (d : Dt) : d.cells.length = 8 := rfl
theorem Dt.scl (d : Dt) : d.cells.all scal = true := rfl
theorem Dt.flat (d : Dt) : flats d.cells = true := by simp only [Dt.cells, go_sem]

def foldD (t : Int) (d : Dt) : Dt := { d with host := if hostT t = true then lowS d.host else d.host, mail := if mailT t = true then lowS d.mail else d.mail }
end Go.Proofs.YtdppgaphcmhffaaGreatDoor.V
namespace Go.Proofs.YtdppgaphcmhffaaGreatDoor.V
open Go
attribute [local irreducible] go goOps goD opK callK callT stepK leaveTo nextK

theorem GBuf.app3 {P : Program} {H T : Hp} {v : AV} {e z b len : Nat} {cs : List AV} (h : GBuf H.length T v e z len cs) (hz : decide (0 < z) = true) (hk : zok P e z = true) (xs : List AV) (q : Nat) (hq : 0 < q) (hx : xs.length = q * z) (hsc : xs.all V.scal = true) (hf : fits (len + q) b = true) :
  ∃ T2 e2, (∀ kk, stepK (appTo P (.slice e z b) v (xs, q) (H ++ T)) kk = kk (.slice (H.length + T.length) 0 (len + q) (.op 0), H ++ T2, e2)) ∧ T2.length = T.length + 1 ∧ clean H.length e2 ∧ (∀ (i : Nat) x, T[i]? = some x → (∀ m n, v = .slice (H.length + m) 0 n (.op 0) → i ≠ m) → T2[i]? = some x) ∧ T2[T.length]? = some (.cells (cs ++ xs) e (.op 0 false)) ∧ GBuf H.length T2 (.slice (H.length + T.length) 0 (len + q) (.op 0)) e z (len + q) (cs ++ xs) := by
 have hz' : 0 < z := by simpa using hz
 obtain ⟨rfl, rfl, rfl⟩ | ⟨hpos, hcl, m, rfl, hm⟩ := h
 ·refine ⟨T ++ [.cells xs e (.op 0 false)], z0, fun kk => ?_, by simp, ⟨rfl, rfl⟩, fun i x hx _ => get_app hx, by simp, .inr ⟨by omega, by simpa using hx, T.length, by simp, by simp⟩⟩
  rw [appTo_nils hz hk]
  have hd : decide (q = 0) = false := by simp; omega
  have hf : fits q b = true := by simpa using hf
  simp only [hd, guardK_ft, hf, true_and, List.length_append, List.append_assoc, Nat.zero_add]
 ·have hlt := lt_of_get hm
  have hg : (H ++ T)[H.length + m]? = some (.cells cs e (.op 0 false)) := by rw [hp_new, hm]
  refine ⟨T.set m .dead ++ [.cells (cs ++ xs) e (.op 0 false)], ⟨none, some (H.length + m)⟩, fun kk => ?_, by simp, by simp [clean, low], fun i x hx hf => ?_, by simp, .inr ⟨by omega, by rw [List.length_append, hcl, hx, Nat.add_mul], T.length, rfl, by simp⟩⟩
  ·rw [appTo_op hz hk, hg]
   simp only [bindK_some, appO_c]
   have hqz : 0 < q * z := Nat.mul_pos hq hz'
   have hd : decide (0 + (len + q) * z ≤ cs.length) = false := by
    rw [hcl, Nat.add_mul]; simp; omega
   have ht : (List.drop 0 cs).take (len * z) ++ xs = cs ++ xs := by
    rw [List.drop_zero, List.take_of_length_le (by rw [hcl]; exact Nat.le_refl _)]
   have hle : 0 + len * z ≤ cs.length := by rw [hcl]; omega
   rw [hd, guardK_ft]
   simp only [ht, hf, hsc, hle, hp_set, List.length_append, List.append_assoc, Nat.sub_self, Nat.zero_le, true_and, and_true, Nat.zero_mul]
  ·have hne := hf m len rfl
   rw [get_app (x := x)]
   rw [List.getElem?_set_ne (Ne.symm hne)]; exact hx

def decA (r : List UInt8) : List (List UInt8) := r.map fun b => decP b.toNat
theorem decP_pos (n : Nat) : 0 < (decP n).length := by
 by_cases h : n < 10
 ·rw [decP_small h]; simp
 ·rw [decP_big h, List.length_append]; simp
theorem totS_app (a b : List (List UInt8)) : totS (a ++ b) = totS a + totS b := by simp [totS]
theorem decP_le2 {n : Nat} (h : n < 4294967296) : (decP n).length ≤ 10 := by
 have key : ∀ (k n : Nat), n < 10 ^ (k + 1) → (decP n).length ≤ k + 1 := by
  intro k
  induction k with
  | zero => intro n h; rw [decP_small (by simpa using h)]; simp
  | succ k ih =>
   intro n h
   by_cases h0 : n < 10
   ·rw [decP_small h0]; simp
   ·rw [decP_big h0, List.length_append]
    have : n / 10 < 10 ^ (k + 1) := by
     rw [Nat.div_lt_iff_lt_mul (by omega)]
     rw [Nat.pow_succ] at h; exact h
    have := ih (n / 10) this
    simp; omega
 exact key 9 n (by omega)
def rowS (A : List (List UInt8)) (n j : Nat) : List AV := strs (A.take j) ++ List.replicate (n - j) (.str [])
theorem rowS_len {A : List (List UInt8)} {n j : Nat} (hA : A.length = n) (hj : j ≤ n) : (rowS A n j).length = n := by
 simp [rowS, strs]; omega
theorem rowS_end {A : List (List UInt8)} {n : Nat} (hA : A.length = n) : rowS A n n = strs A := by
 unfold rowS; rw [← hA, List.take_length]; simp
theorem rowS_put {A : List (List UInt8)} {n j : Nat} {x : List UInt8} (h : A[j]? = some x) (hj : j < n) : splice (rowS A n j) j [.str x] = rowS A n (j + 1) := by
 have hl : (strs (A.take j)).length = j := by have := (List.getElem?_eq_some_iff.1 h).1; simp [strs]; omega
 obtain ⟨m, hm⟩ : ∃ m, n - j = m + 1 := ⟨n - j - 1, by omega⟩
 unfold rowS splice
 rw [take_snoc h, hm, show n - (j + 1) = m by omega]
 rw [List.take_left' hl, List.length_singleton, List.replicate_succ, show j + 1 = (strs (A.take j)).length + 1 by omega, List.drop_append]
 simp [strs]

end Go.Proofs.YtdppgaphcmhffaaGreatDoor.V
namespace Go.Proofs.YtdppgaphcmhffaaGreatDoor.V
open Go

def scan (p : UInt8) : List UInt8 → Nat
 | [] => 0
 | [c] => if c = p then 0 else if c = 92 then 2 else 1
 | c :: d :: r => if c = p then 0 else if c = 92 then 2 + scan p r else 1 + scan p (d :: r)
theorem u8_ne {c : UInt8} {n : Nat} (hn : n < 256) (h : c.toNat ≠ n) : c ≠ UInt8.ofNat n := by
 rintro rfl
 rw [UInt8.toNat_ofNat'] at h
 omega
theorem decP_dig (n : Nat) : ∀ c ∈ decP n, 48 ≤ c.toNat ∧ c.toNat ≤ 57 := by
 induction n using Nat.strongRecOn with
 | ind n ih =>
  intro c hc
  have hd : ∀ k, k < 10 → 48 ≤ (hexD k).toNat ∧ (hexD k).toNat ≤ 57 := by
   intro k hk
   unfold hexD; rw [if_pos hk, UInt8.toNat_ofNat']; omega
  unfold decP at hc
  split at hc
  ·rename_i h
   simp only [List.mem_singleton] at hc; subst hc; exact hd n h
  ·rename_i h
   rcases List.mem_append.1 hc with hc | hc
   ·exact ih (n / 10) (by omega) c hc
   ·simp only [List.mem_singleton] at hc; subst hc; exact hd _ (by omega)
end Go.Proofs.YtdppgaphcmhffaaGreatDoor.V
namespace Go.Proofs.YtdppgaphcmhffaaGreatDoor.V
open Go

def dig (c : UInt8) : Bool := decide (48 ≤ c.toNat ∧ c.toNat ≤ 57)
def unC (c : UInt8) (r : List UInt8) : Option (UInt8 × List UInt8) :=
 if c.toNat ≠ 92 then some (c, r) else
 match r with
 | [] => none
 | d :: r1 => if dig d = false then some (d, r1) else
  match r1 with
  | e :: f :: r2 => if (dig e && dig f) = false then none else
   if (d.toNat - 48) * 100 + (e.toNat - 48) * 10 + (f.toNat - 48) > 255 then none else some (UInt8.ofNat ((d.toNat - 48) * 100 + (e.toNat - 48) * 10 + (f.toNat - 48)), r2)
  | _ => none
theorem unC_lt {c b : UInt8} {r r' : List UInt8} (h : unC c r = some (b, r')) : r'.length ≤ r.length := by
 unfold unC at h
 split at h
 ·cases h; exact Nat.le_refl _
 ·split at h
  ·cases h
  ·split at h
   ·cases h; simp
   ·split at h
    ·split at h
     ·cases h
     ·split at h
      ·cases h
      ·cases h; simp; omega
    ·cases h
def unF : Nat → List UInt8 → Option (List UInt8)
 | _, [] => some []
 | 0, _ :: _ => none
 | n + 1, c :: r => (unC c r).bind fun x => (unF n x.2).map (x.1 :: ·)
theorem unF_more : ∀ (n m : Nat) (s : List UInt8), s.length ≤ n → s.length ≤ m → unF n s = unF m s
 | _, _, [], _, _ => by unfold unF; rfl
 | 0, _, c :: r, h, _ => by simp at h
 | _, 0, c :: r, _, h => by simp at h
 | n + 1, m + 1, c :: r, h, k => by
  simp only [unF]
  cases hx : unC c r with
  | none => rfl
  | some x =>
   obtain ⟨b, r'⟩ := x
   have := unC_lt hx
   simp only [List.length_cons] at h k
   simp only [Option.bind_some]
   rw [unF_more n m r' (by omega) (by omega)]
def unB (s : List UInt8) : Option (List UInt8) := unF s.length s
theorem unB_nil : unB [] = some [] := rfl
theorem unB_cons (c : UInt8) (r : List UInt8) : unB (c :: r) = (unC c r).bind fun x => (unB x.2).map (x.1 :: ·) := by
 unfold unB
 rw [List.length_cons]
 simp only [unF]
 cases hx : unC c r with
 | none => rfl
 | some x =>
  obtain ⟨b, r'⟩ := x
  have := unC_lt hx
  simp only [Option.bind_some]
  rw [unF_more r.length r'.length r' (by omega) (Nat.le_refl _)]
end Go.Proofs.YtdppgaphcmhffaaGreatDoor.V
namespace Go.Proofs.YtdppgaphcmhffaaGreatDoor.V
open Go

def nameB (L : List (List UInt8)) : List UInt8 := L.flatMap fun l => UInt8.ofNat l.length :: l
def nameOf (L : List (List UInt8)) : List UInt8 := nameB L ++ [0]
theorem nameB_len (L : List (List UInt8)) : (nameB L).length = tot L := by
 induction L with
 | nil => rfl
 | cons l L ih =>
  have e1 : nameB (l :: L) = (UInt8.ofNat l.length :: l) ++ nameB L := rfl
  have e2 : tot (l :: L) = (1 + l.length) + tot L := by simp [tot]
  rw [e1, e2, List.length_append, ih, List.length_cons]; omega
theorem nameB_snoc {L : List (List UInt8)} {i : Nat} {l : List UInt8} (h : L[i]? = some l) : nameB (L.take (i + 1)) = nameB (L.take i) ++ (UInt8.ofNat l.length :: l) := by
 rw [take_snoc h]; simp [nameB]
def badL (l : List UInt8) : Bool := l.length == 0 || decide (63 < l.length)
def ofS (L : List (List UInt8)) : List UInt8 × Nat := if L.any badL = true then ([], 10) else if 255 < tot L + 1 then ([], 2) else (nameOf L, 0)
def lblE (x : List UInt8) : List UInt8 × Nat := match unB x with
 | none => ([], 12)
 | some l => (l, if badL l = true then 10 else 0)
def parsF : Nat → Bool → List UInt8 → Except Nat (List (List UInt8) × Bool)
  | 0, _, _ => .error 12
  | n + 1, fst, s =>
    if scan 46 s < s.length then
      (if (lblE (s.take (scan 46 s))).2 = 0 then (parsF n false (s.drop (scan 46 s + 1))).map fun r => ((lblE (s.take (scan 46 s))).1 :: r.1, r.2)
       else .error (lblE (s.take (scan 46 s))).2)
    else if 0 < s.length ∨ fst = true then (if (lblE s).2 = 0 then .ok ([(lblE s).1], true) else .error (lblE s).2)
    else .ok ([], false)
theorem parsF_more : ∀ (n m : Nat) (b : Bool) (s : List UInt8), s.length < n → s.length < m → parsF n b s = parsF m b s
 | 0, _, b, s, h, _ => by omega
 | _ + 1, 0, b, s, _, h => by omega
 | n + 1, m + 1, b, s, h, k => by
  simp only [parsF]
  by_cases hs : scan 46 s < s.length
  ·rw [if_pos hs, if_pos hs, parsF_more n m false (s.drop (scan 46 s + 1)) (by rw [List.length_drop]; omega) (by rw [List.length_drop]; omega)]
  ·rw [if_neg hs, if_neg hs]
def parsS (b : Bool) (s : List UInt8) : Except Nat (List (List UInt8) × Bool) := parsF (s.length + 1) b s
theorem parsS_eq (b : Bool) (s : List UInt8) : parsS b s = if scan 46 s < s.length then
      (if (lblE (s.take (scan 46 s))).2 = 0 then (parsS false (s.drop (scan 46 s + 1))).map fun r => ((lblE (s.take (scan 46 s))).1 :: r.1, r.2)
       else .error (lblE (s.take (scan 46 s))).2)
    else if 0 < s.length ∨ b = true then (if (lblE s).2 = 0 then .ok ([(lblE s).1], true) else .error (lblE s).2)
    else .ok ([], false) := by
  unfold parsS
  conv => lhs; unfold parsF
  by_cases hs : scan 46 s < s.length
  · rw [if_pos hs, if_pos hs, parsF_more s.length ((s.drop (scan 46 s + 1)).length + 1) false _ (by rw [List.length_drop]; omega) (by omega)]
  · rw [if_neg hs, if_neg hs]
def nameS (s o : List UInt8) : List UInt8 × Nat :=
 match nm o with
 | none => ([], 11)
 | some K => if s = [46] then ([0], 0) else match parsS true s with
  | .error e => ([], e)
  | .ok (L, b) => ofS (if b = true then L ++ K else L)
end Go.Proofs.YtdppgaphcmhffaaGreatDoor.V
namespace Go.Proofs.YtdppgaphcmhffaaGreatDoor.V
open Go
attribute [local irreducible] go goOps goD opK callK callT stepK leaveTo nextK

theorem bsliceU (a : Int) (H : Hp) : evBuildSlice Tryz.prog 71 1 [(0, .int .u8 a)] H = some (.slice H.length 0 1 (.ex 1), H ++ [.cells [.int .u8 a] 5 .rw]) := by
 simp only [evBuildSlice, tsh_71, tzero_5, Option.bind_some]
 rfl
def rowB (out : List UInt8) (n : Nat) : List AV := u8s (out ++ List.replicate (n - out.length) 0)
theorem rowB_len {out : List UInt8} {n : Nat} (h : out.length ≤ n) : (rowB out n).length = n := by simp [rowB, u8s]; omega
theorem rowB_put {out : List UInt8} {n : Nat} {c : UInt8} (h : out.length < n) : splice (rowB out n) out.length [.int .u8 c.toNat] = rowB (out ++ [c]) n := by
 unfold splice rowB
 have e : n - out.length = (n - (out ++ [c]).length) + 1 := by simp; omega
 rw [e, List.replicate_succ, u8s_app]
 have h1 : (u8s out).length = out.length := u8s_len
 rw [List.take_left' h1, List.length_singleton, ← List.drop_drop, List.drop_left' h1]
 simp [u8s]
theorem mk_row (n : Nat) (m : Nat) (H : Hp) (hm : m ≤ n) (hn : n ≤ 1048576) : evMake Tryz.prog 71 (.int .i64 (m : Nat)) (.int .i64 (n : Nat)) H = some (.slice H.length 0 m (.ex n), H ++ [.cells (rowB [] n) 5 .rw]) := by
 have hr : ∀ n, rep [.int .u8 0] n = List.replicate n (AV.int .u8 0) := by
  intro n; induction n with
  | zero => rfl
  | succ n ih => rw [rep, ih]; rfl
 simp only [evMake, tsh_71, tzero_5, Option.bind_some]
 rw [if_pos (by omega)]
 simp [hr, rowB, u8s]
theorem row_app {H : Hp} {bl : Nat} {out : List UInt8} {N : Nat} {c : UInt8} (hb : H[bl]? = some (.cells (rowB out N) 5 .rw)) (h : out.length < N) (kk : AV × Hp × Ef → Prop) :
  stepK (appTo Tryz.prog (.slice 5 1 1) (.slice bl 0 out.length (.ex N)) ([.int .u8 c.toNat], 1) H) kk = kk (.slice bl 0 (out.length + 1) (.ex N), H.set bl (.cells (rowB (out ++ [c]) N) 5 .rw), ⟨none, some bl⟩) := by
 rw [appTo_ex (by decide) zok_71]
 have g : decide (out.length + 1 ≤ N) = true := by simp; omega
 have hl := rowB_len (out := out) (n := N) (by omega)
 have hp := rowB_put (c := c) h
 simp only [go_sem, simprocAttr, g, hb, hl, Nat.mul_one]
 rw [hp]
 exact propext ⟨fun h => h.2, fun h => ⟨by omega, h⟩⟩
def digAt (s : List UInt8) (i : Nat) : Bool := match s[i]? with
 | some c => dig c
 | none => false
theorem digAt_s {s : List UInt8} {i : Nat} {c : UInt8} (h : s[i]? = some c) : digAt s i = dig c := by unfold digAt; rw [h]
set_option maxRecDepth 20000 in
theorem name_digit (s : List UInt8) (i b : Nat) (H k) (hb : H[b]? = some (.cells [.str s] 9 .rw)) : callK Tryz.prog 129 [.int .i64 (i : Nat), .ptr b 0] H k = k (.bool (digAt s i), H, z0) := by
 refine callK_eq (r := (.bool (digAt s i), H, z0)) ?_ k
 refine callK_start (n := 20) (rs := [.tmp 3]) Tryz.func129 rfl rfl rfl ?_
 intro σ hl ha
 have h0 := ha 0 (by simp)
 have h1 := ha 1 (by simp)
 clear ha
 simp only [Option.getD_some, List.getElem?_cons_zero, List.getElem?_cons_succ] at h0 h1
 by_cases hlt : i < s.length
 ·obtain ⟨c, hc⟩ : ∃ c, s[i]? = some c := ⟨_, List.getElem?_eq_getElem hlt⟩
  rw [digAt_s hc]
  by_cases h48 : 48 ≤ c.toNat
  ·have g1 : decide (48 ≤ (c.toNat : Int)) = true := by simp; omega
   by_cases h57 : c.toNat ≤ 57
   ·have g2 : decide ((c.toNat : Int) ≤ 57) = true := by simp; omega
    have hd : dig c = true := by unfold dig; simp; omega
    simp only [go_sem, simprocAttr, hl, h0, h1, hb, hlt, hc, g1, g2, hd]
   ·have g2 : decide ((c.toNat : Int) ≤ 57) = false := by simp; omega
    have hd : dig c = false := by unfold dig; simp; omega
    simp only [go_sem, simprocAttr, hl, h0, h1, hb, hlt, hc, g1, g2, hd]
  ·have g1 : decide (48 ≤ (c.toNat : Int)) = false := by simp; omega
   have hd : dig c = false := by unfold dig; simp; omega
   simp only [go_sem, simprocAttr, hl, h0, h1, hb, hlt, hc, g1, hd]
 ·have hd : digAt s i = false := by unfold digAt; rw [List.getElem?_eq_none (by omega)]
  simp only [go_sem, simprocAttr, hl, h0, h1, hb, hlt, hd]
set_option maxRecDepth 20000 in
set_option maxHeartbeats 4000000 in
theorem name_Bytes (s : List UInt8) (H k) (hs : s.length ≤ 1048576) : callK Tryz.prog 106 [.str s] H k = k (.tuple [.str ((unB s).getD []), .int .i64 (if (unB s).isSome = true then 0 else 12)], H, z0) := by
 refine callK_eq (r := (.tuple [.str ((unB s).getD []), .int .i64 (if (unB s).isSome = true then 0 else 12)], H, z0)) ?_ k
 refine callK_start (n := 95) (rs := [.tmp 2, .tmp 3]) Tryz.func106 rfl rfl rfl ?_
 intro σ hl ha
 have h0 := ha 0 (by simp)
 clear ha
 simp only [Option.getD_some, List.getElem?_cons_zero, List.getElem?_cons_succ] at h0
 have hmk := fun H' => mk_row s.length 0 H' (by omega) hs
 have hmk : ∀ H', evMake Tryz.prog 71 (.int .i64 0) (.int .i64 (s.length : Nat)) H' = _ := hmk
 simp only [go_sem, simprocAttr, hl, h0, hmk]
 refine go_rounds (fun n st => ∃ σ i out T e, n + i = s.length ∧ unB s = (unB (s.drop i)).map (out ++ ·) ∧ out.length ≤ i ∧ st = ⟨σ, H ++ (.cells [.str s] 9 .rw :: .cells (rowB out s.length) 5 .rw :: T), e⟩ ∧ clean H.length e ∧ σ.length = 95 ∧ fr σ 1 = .ptr H.length 0 ∧ fr σ 4 = .slice (H.length + 1) 0 out.length (.ex s.length) ∧ fr σ 5 = .func (.func 129) [] [.ptr H.length 0] ∧ fr σ 6 = .int .i64 (i : Nat)) s.length
  ⟨_, 0, [], [], _, rfl, by simp, Nat.le_refl _, rfl, ⟨rfl, rfl⟩, by simp only [go_sem, simprocAttr, hl], by simp only [go_sem, simprocAttr, hl], by simp only [go_sem, simprocAttr, hl], by simp only [go_sem, simprocAttr, hl], by simp only [go_sem, simprocAttr, hl]⟩ ?_
 rintro n _ ⟨σ, i, out, T, e, hn, hm, ho, rfl, he, hl, h1, h4, h5, h6⟩
 by_cases hlt : i < s.length
 ·obtain ⟨c, hc⟩ : ∃ c, s[i]? = some c := ⟨_, List.getElem?_eq_getElem hlt⟩
  have hcl := c.toNat_lt
  rw [drop_at hc, unB_cons] at hm
  have hw := wrap_succ (show i < 9223372036854775807 by omega)
  have happ := fun (X : ABlk) (c : UInt8) kk => row_app (H := H ++ (.cells [.str s] 9 .rw :: .cells (rowB out s.length) 5 .rw :: (T ++ [X]))) (bl := H.length + 1) (out := out) (N := s.length) (c := c) (by rw [hp_new]; rfl) (by omega) kk
  have hfin : ∀ (σ' : List AV) (i' : Nat) (c : UInt8) (T' : Hp) (e' : Ef), i < i' → i' ≤ s.length → unB s = (unB (s.drop i')).map ((out ++ [c]) ++ ·) → clean H.length e' → σ'.length = 95 → fr σ' 1 = .ptr H.length 0 → fr σ' 4 = .slice (H.length + 1) 0 (out.length + 1) (.ex s.length) → fr σ' 5 = .func (.func 129) [] [.ptr H.length 0] → fr σ' 6 = .int .i64 (i' : Nat) →
    ∃ m, m < n ∧ ∃ σ i o2 T e, m + i = s.length ∧ unB s = (unB (s.drop i)).map (o2 ++ ·) ∧ o2.length ≤ i ∧ (⟨σ', H ++ (.cells [.str s] 9 .rw :: .cells (rowB (out ++ [c]) s.length) 5 .rw :: T'), e'⟩ : St) = ⟨σ, H ++ (.cells [.str s] 9 .rw :: .cells (rowB o2 s.length) 5 .rw :: T), e⟩ ∧ clean H.length e ∧ σ.length = 95 ∧ fr σ 1 = .ptr H.length 0 ∧ fr σ 4 = .slice (H.length + 1) 0 o2.length (.ex s.length) ∧ fr σ 5 = .func (.func 129) [] [.ptr H.length 0] ∧ fr σ 6 = .int .i64 (i : Nat) := by
   intro σ' i' c T' e' q1 q2 q3 q4 q5 q6 q7 q8 q9
   exact ⟨n - (i' - i), by omega, σ', i', out ++ [c], T', e', by omega, q3, by simp; omega, rfl, q4, q5, q6, by rw [q7]; simp, q8, q9⟩
  have hdg := fun i' k => name_digit s i' H.length (H ++ (.cells [.str s] 9 .rw :: .cells (rowB out s.length) 5 .rw :: T)) k (by rw [hp_new0]; rfl)
  have hs2 : ∀ (X : ABlk) (c : UInt8), ((H ++ (.cells [.str s] 9 .rw :: .cells (rowB out s.length) 5 .rw :: (T ++ [X]))).set (H.length + 1) (.cells (rowB (out ++ [c]) s.length) 5 .rw)) = H ++ (.cells [.str s] 9 .rw :: .cells (rowB (out ++ [c]) s.length) 5 .rw :: (T ++ [X])) := fun X c => by rw [hp_set]; rfl
  by_cases h92 : c.toNat = 92
  ·have g92 : ((c.toNat : Int) != 92) = false := by simp; omega
   have hc92 : ¬ c.toNat ≠ 92 := by omega
   by_cases hend : i + 1 = s.length
   ·have hd0 : s.drop (i + 1) = [] := List.drop_of_length_le (by omega)
    rw [hd0] at hm
    have hu : unB s = none := by rw [hm]; unfold unC; rw [if_neg hc92]; rfl
    rw [hu]
    have ge : (((i + 1 : Nat) : Int) == (s.length : Int)) = true := by rw [hend]; exact beq_self_eq_true _
    simp only [go_sem, simprocAttr, hl, h1, h4, h5, h6, hlt, hc, g92, hw, ge, Option.getD_none, Option.isSome_none, he]
   ·have ge : (((i + 1 : Nat) : Int) == (s.length : Int)) = false := by rw [beq_eq_false_iff_ne]; omega
    have hlt1 : i + 1 < s.length := by omega
    obtain ⟨d, hd⟩ : ∃ d, s[i + 1]? = some d := ⟨_, List.getElem?_eq_getElem hlt1⟩
    have hdl := d.toNat_lt
    have hw2 : IntKind.i64.wrap ((i : Int) + 2) = ((i + 2 : Nat) : Int) := by rw [wrap_i64 (by omega)]; omega
    have hw3 : IntKind.i64.wrap ((i : Int) + 3) = ((i + 3 : Nat) : Int) := by rw [wrap_i64 (by omega)]; omega
    have hwb : IntKind.i64.wrap (((i + 1 : Nat) : Int) + 1) = ((i + 2 : Nat) : Int) := by rw [wrap_i64 (by omega)]; omega
    have hwc : IntKind.i64.wrap (((i + 3 : Nat) : Int) + 1) = ((i + 4 : Nat) : Int) := by rw [wrap_i64 (by omega)]; omega
    rw [drop_at hd] at hm
    cases hdd : dig d with
    | false =>
     have e1 : digAt s (i + 1) = false := by rw [digAt_s hd, hdd]
     have hu : unB s = (unB (s.drop (i + 2))).map ((out ++ [d]) ++ ·) := by
      rw [hm]; unfold unC; rw [if_neg hc92]
      simp only [hdd, if_true, Option.bind_some, Option.map_map]
      congr 1; funext x; simp
     have hbs := bsliceU d.toNat
     simp only [go_sem, simprocAttr, hl, h1, h4, h5, h6, hlt, hlt1, hc, hd, g92, hw, ge, hdg, e1, hbs, ↓happ, hs2, hwb]
     exact hfin _ (i + 2) d _ _ (by omega) (by omega) hu (by simp only [go_sem, simprocAttr, he]) (by simp only [go_sem, simprocAttr, hl]) (by simp only [go_sem, simprocAttr, hl, h1]) (by simp only [go_sem, simprocAttr, hl]) (by simp only [go_sem, simprocAttr, hl, h5]) (by simp only [go_sem, simprocAttr, hl])
    | true =>
     have e1 : digAt s (i + 1) = true := by rw [digAt_s hd, hdd]
     have bad : (digAt s (i + 2) && digAt s (i + 3)) = false → unB s = none := by
      intro hb
      rw [hm]; unfold unC; rw [if_neg hc92]
      simp only [hdd, Bool.true_eq_false, if_false]
      cases h2 : s.drop (i + 1 + 1) with
      | nil => rfl
      | cons e r =>
       cases r with
       | nil => rfl
       | cons f r =>
        have k2 : s[i + 2]? = some e := by have := congrArg (·[0]?) h2; simpa using this
        have k3 : s[i + 3]? = some f := by have := congrArg (·[1]?) h2; simpa using this
        rw [digAt_s k2, digAt_s k3] at hb
        simp only [hb, if_true]; rfl
     cases e2 : digAt s (i + 2) with
     | false =>
      have hu := bad (by rw [e2]; rfl)
      rw [hu]
      simp only [go_sem, simprocAttr, hl, h1, h4, h5, h6, hlt, hlt1, hc, hd, g92, hw, hw2, ge, hdg, e1, e2, Option.getD_none, Option.isSome_none, he]
     | true =>
      cases e3 : digAt s (i + 3) with
      | false =>
       have hu := bad (by rw [e2, e3]; rfl)
       rw [hu]
       simp only [go_sem, simprocAttr, hl, h1, h4, h5, h6, hlt, hlt1, hc, hd, g92, hw, hw2, hw3, ge, hdg, e1, e2, e3, Option.getD_none, Option.isSome_none, he]
      | true =>
       have hlt2 : i + 2 < s.length := by
        by_cases h : i + 2 < s.length
        ·exact h
        ·unfold digAt at e2; rw [List.getElem?_eq_none (by omega)] at e2; cases e2
       have hlt3 : i + 3 < s.length := by
        by_cases h : i + 3 < s.length
        ·exact h
        ·unfold digAt at e3; rw [List.getElem?_eq_none (by omega)] at e3; cases e3
       obtain ⟨x, hx⟩ : ∃ d, s[i + 2]? = some d := ⟨_, List.getElem?_eq_getElem hlt2⟩
       obtain ⟨y, hy⟩ : ∃ d, s[i + 3]? = some d := ⟨_, List.getElem?_eq_getElem hlt3⟩
       have dx : dig x = true := by rw [digAt_s hx] at e2; exact e2
       have dy : dig y = true := by rw [digAt_s hy] at e3; exact e3
       have rng : ∀ c, dig c = true → 48 ≤ c.toNat ∧ c.toNat ≤ 57 := fun c h => by simpa [dig] using h
       have rd := rng d hdd
       have rx := rng x dx
       have ry := rng y dy
       obtain ⟨D, hD⟩ : ∃ D, D = d.toNat - 48 := ⟨_, rfl⟩
       obtain ⟨X, hX⟩ : ∃ D, D = x.toNat - 48 := ⟨_, rfl⟩
       obtain ⟨Y, hY⟩ : ∃ D, D = y.toNat - 48 := ⟨_, rfl⟩
       have a1 : IntKind.u8.wrap ((d.toNat : Int) - 48) = (D : Int) := by rw [wrap_u8 (by omega)]; omega
       have a2 : IntKind.u8.wrap ((x.toNat : Int) - 48) = (X : Int) := by rw [wrap_u8 (by omega)]; omega
       have a3 : IntKind.u8.wrap ((y.toNat : Int) - 48) = (Y : Int) := by rw [wrap_u8 (by omega)]; omega
       have b1 : IntKind.i64.wrap (D : Int) = (D : Int) := wrap_i64 (by omega)
       have b2 : IntKind.i64.wrap (X : Int) = (X : Int) := wrap_i64 (by omega)
       have b3 : IntKind.i64.wrap (Y : Int) = (Y : Int) := wrap_i64 (by omega)
       have c1 : IntKind.i64.wrap ((D : Int) * 100) = ((D * 100 : Nat) : Int) := by rw [wrap_i64 (by omega)]; omega
       have c2 : IntKind.i64.wrap ((X : Int) * 10) = ((X * 10 : Nat) : Int) := by rw [wrap_i64 (by omega)]; omega
       have c3 : IntKind.i64.wrap (((D * 100 : Nat) : Int) + ((X * 10 : Nat) : Int)) = ((D * 100 + X * 10 : Nat) : Int) := by rw [wrap_i64 (by omega)]; omega
       have c4 : IntKind.i64.wrap (((D * 100 + X * 10 : Nat) : Int) + (Y : Int)) = ((D * 100 + X * 10 + Y : Nat) : Int) := by rw [wrap_i64 (by omega)]; omega
       obtain ⟨N, hN⟩ : ∃ N, N = D * 100 + X * 10 + Y := ⟨_, rfl⟩
       rw [← hN] at c4
       have hun : unC c (d :: s.drop (i + 1 + 1)) = if N > 255 then none else some (UInt8.ofNat N, s.drop (i + 4)) := by
        have k2 : s.drop (i + 1 + 1) = x :: y :: s.drop (i + 4) := by rw [drop_at hx, drop_at hy]
        unfold unC
        rw [if_neg hc92]
        simp only [hdd, Bool.true_eq_false, if_false, k2, dx, dy, Bool.and_self]
        rw [← hD, ← hX, ← hY, ← hN]
       rw [hun] at hm
       by_cases hbig : N > 255
       ·have gN : decide ((N : Int) > 255) = true := by simp; omega
        rw [if_pos hbig] at hm
        have hu : unB s = none := hm
        rw [hu]
        simp only [go_sem, simprocAttr, hl, h1, h4, h5, h6, hlt, hlt1, hc, hd, g92, hw, hw2, hw3, ge, hdg, e1, e2, e3]
        refine go_drawZ tFollows (by kernel_rfl) ?_
        simp only [go_sem, simprocAttr, hl, h1, h4, h5, h6, hlt1, hlt2, hlt3, hd, hx, hy, hw, hw2, hw3, a1, a2, a3, b1, b2, b3, c1, c2, c3, c4, gN, Option.getD_none, Option.isSome_none, he]
       ·have gN : decide ((N : Int) > 255) = false := by simp; omega
        rw [if_neg hbig] at hm
        have hu : unB s = (unB (s.drop (i + 4))).map ((out ++ [UInt8.ofNat N]) ++ ·) := by
         rw [hm]
         simp only [Option.bind_some, Option.map_map]
         congr 1; funext x; simp
        have wN : IntKind.u8.wrap (N : Int) = ((UInt8.ofNat N).toNat : Int) := by rw [UInt8.toNat_ofNat', wrap_u8 (by omega)]; omega
        have hbs := bsliceU (UInt8.ofNat N).toNat
        simp only [go_sem, simprocAttr, hl, h1, h4, h5, h6, hlt, hlt1, hc, hd, g92, hw, hw2, hw3, ge, hdg, e1, e2, e3]
        refine go_drawZ tFollows (by kernel_rfl) ?_
        simp only [go_sem, simprocAttr, hl, h1, h4, h5, h6, hlt1, hlt2, hlt3, hd, hx, hy, hw, hw2, hw3, a1, a2, a3, b1, b2, b3, c1, c2, c3, c4, gN, wN, hbs, ↓happ, hs2, hwc]
        exact hfin _ (i + 4) (UInt8.ofNat N) _ _ (by omega) (by omega) hu (by simp only [go_sem, simprocAttr, he]) (by simp only [go_sem, simprocAttr, hl]) (by simp only [go_sem, simprocAttr, hl, h1]) (by simp only [go_sem, simprocAttr, hl]) (by simp only [go_sem, simprocAttr, hl, h5]) (by simp only [go_sem, simprocAttr, hl])
  ·have g92 : ((c.toNat : Int) != 92) = true := by simp; omega
   have hu : unB s = (unB (s.drop (i + 1))).map ((out ++ [c]) ++ ·) := by
    rw [hm]; unfold unC; rw [if_pos h92]
    simp only [Option.bind_some, Option.map_map]
    congr 1; funext x; simp
   have hbs := bsliceU c.toNat
   simp only [go_sem, simprocAttr, hl, h1, h4, h5, h6, hlt, hc, g92, hbs, ↓happ, hs2, hw]
   exact hfin _ (i + 1) c _ _ (by omega) (by omega) hu (by simp only [go_sem, simprocAttr, he]) (by simp only [go_sem, simprocAttr, hl]) (by simp only [go_sem, simprocAttr, hl, h1]) (by simp only [go_sem, simprocAttr, hl]) (by simp only [go_sem, simprocAttr, hl, h5]) (by simp only [go_sem, simprocAttr, hl])
 ·have hi : i = s.length := by omega
  subst hi
  rw [List.drop_length, unB_nil] at hm
  have hu : unB s = some out := by rw [hm]; simp
  rw [hu]
  have hcv : evConv Tryz.prog 71 9 (.slice (H.length + 1) 0 out.length (.ex s.length)) (H ++ (.cells [.str s] 9 .rw :: .cells (rowB out s.length) 5 .rw :: T)) = some (.str out, H ++ (.cells [.str s] 9 .rw :: .cells (rowB out s.length) 5 .rw :: T)) := by
   have hv : Rd (H ++ (.cells [.str s] 9 .rw :: .cells (rowB out s.length) 5 .rw :: T)) (.slice (H.length + 1) 0 out.length (.ex s.length)) out := by
    refine .inr ⟨H.length + 1, 0, _, [], u8s (List.replicate (s.length - out.length) 0), 5, .rw, rfl, rfl, ?_, .inl ⟨_, rfl, ho⟩⟩
    rw [hp_new]
    simp [rowB, u8s_app]
   exact hv.v.str
  simp only [go_sem, simprocAttr, hl, h1, h4, h5, h6, hlt, hcv, Option.getD_some, Option.isSome_some, he]
end Go.Proofs.YtdppgaphcmhffaaGreatDoor.V
namespace Go.Proofs.YtdppgaphcmhffaaGreatDoor.V
open Go
attribute [local irreducible] go goOps goD opK callK callT stepK leaveTo nextK

def Lv (H : Hp) (v : AV) (L : List (List UInt8)) : Prop := (v = .nils ∧ L = []) ∨ ∃ b c e k, v = .slice b 0 L.length c ∧ H[b]? = some (.cells (strs L) e k)
theorem Lv.old {H : Hp} {v : AV} {L : List (List UInt8)} (h : Lv H v L) (l : Hp) : Lv (H ++ l) v L := by
 obtain h | ⟨b, c, e, k, h1, h2⟩ := h
 ·exact .inl h
 ·exact .inr ⟨b, c, e, k, h1, get_app h2⟩
theorem Lv.len {H : Hp} {v : AV} {L : List (List UInt8)} (h : Lv H v L) (H' : Hp) : evLen Tryz.prog 85 v H' = some (.int .i64 L.length) := by
 obtain ⟨rfl, rfl⟩ | ⟨b, c, e, k, rfl, _⟩ := h
 ·simp only [evLen, tsh_85]; rfl
 ·simp only [evLen, tsh_85]
theorem GBuf.lv {H T : Hp} {v : AV} {L : List (List UInt8)} (h : GBuf H.length T v 9 1 L.length (strs L)) : Lv (H ++ T) v L := by
 obtain ⟨rfl, h2, h3⟩ | ⟨h1, h2, m, rfl, h3⟩ := h
 ·exact .inl ⟨rfl, List.length_eq_zero_iff.1 h3⟩
 ·exact .inr ⟨_, _, _, _, rfl, by rw [hp_new]; exact h3⟩
theorem leave_sum {v : Int} {kd : IntKind} {H T : Hp} : leave (List.length H + List.length T) (.int kd v) (H ++ T) z0 = (.int kd v, H ++ T, z0) := by
 rw [← List.length_append]
 exact leave_flat0 rfl ⟨rfl, rfl⟩
theorem b_len (H T : Hp) (j : Nat) (bs : List UInt8) (hb : Bld H.length T j bs) (k) : callK Tryz.prog 32 [.ptr (H.length + j) 0] (H ++ T) k = k (.int .i64 bs.length, H ++ T, z0) := by
 obtain ⟨p, v, hj, hp, hv⟩ := hb
 have hlen := hv.len
 refine callK_eq (r := (.int .i64 bs.length, H ++ T, z0)) ?_ k
 refine callK_start (n := 8) (rs := [.tmp 2]) Tryz.func32 rfl rfl rfl ?_
 intro σ hl ha
 have h0 := ha 0 (by simp)
 clear ha
 simp only [Option.getD_some, List.getElem?_cons_zero, List.getElem?_cons_succ] at h0
 simp only [go_sem, simprocAttr, hl, h0, hj, hlen, leave_sum]
theorem b_lit (H T : Hp) (j : Nat) (bs : List UInt8) (hb : Bld H.length T j bs) (c : UInt8) (n : Int) (hn : n = c.toNat) (hf : bs.length ≤ 1000000) :
  ∃ T' e, Bld H.length T' j (bs ++ [c]) ∧ Keep T j T' ∧ clean H.length e ∧ ∀ k, callK Tryz.prog 53 [.ptr (H.length + j) 0, .int .u8 n] (H ++ T) k = k (.nili, H ++ T', e) := by
 obtain ⟨T', e, h1, h2, h3, h4⟩ := b_wlit H T j bs c n hn hb (by simp only [fits, decide_eq_true_eq]; omega)
 exact ⟨T', e, h1, h2, h3.cln, h4⟩
theorem b_wst (H T : Hp) (j : Nat) (bs : List UInt8) (hb : Bld H.length T j bs) (s : List UInt8) (hs : 0 < s.length) (hf : bs.length + s.length ≤ 1000000000) :
  ∃ T' e, Bld H.length T' j (bs ++ s) ∧ Keep T j T' ∧ clean H.length e ∧ ∀ k, callK Tryz.prog 26 [.ptr (H.length + j) 0, .str s] (H ++ T) k = k (.tuple [.int .i64 s.length, .nili], H ++ T', e) := by
 obtain ⟨T', e, h1, h2, h3, h4⟩ := b_wstr H T j bs s hb hs (by simp only [fits, decide_eq_true_eq]; omega)
 exact ⟨T', e, h1, h2, h3.cln, h4⟩
theorem any_take {L : List (List UInt8)} {i : Nat} {l : List UInt8} (h : L[i]? = some l) (ha : (L.take i).any badL = false) (hl : badL l = false) : (L.take (i + 1)).any badL = false := by
 rw [take_snoc h, List.any_append, ha]; simp [hl]
theorem tot_takes {L : List (List UInt8)} {i : Nat} {l : List UInt8} (h : L[i]? = some l) : tot (L.take (i + 1)) = tot (L.take i) + (1 + l.length) := by
 rw [take_snoc h, tot_snoc]
set_option maxRecDepth 20000 in
set_option maxHeartbeats 2000000 in
theorem name_Of (L : List (List UInt8)) (v : AV) (H k) (hv : Lv H v L) (hL : L.length ≤ 2000000) (hx : ∀ l ∈ L, l.length ≤ 1048576) : callK Tryz.prog 107 [v] H k = k (.tuple [.str (ofS L).1, .int .i64 ((ofS L).2 : Nat)], H, z0) := by
 refine callK_eq (r := (.tuple [.str (ofS L).1, .int .i64 ((ofS L).2 : Nat)], H, z0)) ?_ k
 refine callK_start (n := 42) (rs := [.tmp 2, .tmp 3]) Tryz.func107 rfl rfl rfl ?_
 intro σ hl ha
 have h0 := ha 0 (by simp)
 clear ha
 simp only [Option.getD_some, List.getElem?_cons_zero, List.getElem?_cons_succ] at h0
 have hlen := hv.len
 have hb0 : Bld H.length [.cells [.nilp, .nils] 73 .rw] 0 (nameB (L.take 0)) := ⟨_, _, rfl, .inl rfl, .inl ⟨rfl, rfl⟩⟩
 simp only [go_sem, simprocAttr, hl, h0, hlen]
 refine go_rounds (fun n st => ∃ σ i bs lg T e, n + i = L.length ∧ (L.take i).any badL = false ∧ ((lg = false ∧ bs = nameB (L.take i) ∧ tot (L.take i) + 1 ≤ 255) ∨ (lg = true ∧ 255 < tot (L.take i) + 1)) ∧ bs.length ≤ 255 ∧ st = ⟨σ, H ++ T, e⟩ ∧ Bld H.length T 0 bs ∧ clean H.length e ∧ σ.length = 42 ∧ fr σ 4 = .ptr H.length 0 ∧ fr σ 5 = .bool lg ∧ fr σ 8 = v ∧ fr σ 9 = .int .i64 L.length ∧ fr σ 10 = .int .i64 (i : Nat)) L.length
  ⟨_, 0, _, false, _, _, rfl, rfl, .inl ⟨rfl, rfl, by simp [tot]⟩, by simp [nameB], rfl, hb0, ⟨rfl, rfl⟩, by simp only [go_sem, simprocAttr, hl], by simp only [go_sem, simprocAttr, hl], by simp only [go_sem, simprocAttr, hl], by simp only [go_sem, simprocAttr, hl, h0], by simp only [go_sem, simprocAttr, hl], by simp only [go_sem, simprocAttr, hl]⟩ ?_
 rintro n _ ⟨σ, i, bs, lg, T, e, hi, hany, hlg, hbs, rfl, hb, he, hl, h4, h5, h8, h9, h10⟩
 have bl := fun k => b_len H T 0 bs hb k
 simp only [Nat.add_zero] at bl
 by_cases hlt : i < L.length
 ·obtain ⟨l, hli⟩ : ∃ l, L[i]? = some l := ⟨_, List.getElem?_eq_getElem hlt⟩
  have hlm := hx l (List.mem_of_getElem? hli)
  have hw := wrap_succ (show i < 9223372036854775807 by omega)
  have hld := strs_ld hli
  have htk := tot_takes hli
  obtain ⟨rfl, h3'⟩ | ⟨b, c, ee, kd, rfl, hg⟩ := hv
  ·rw [h3'] at hlt; simp at hlt
  have hgT := fun T' : Hp => get_app (l := T') hg
  by_cases hz : l = []
  ·have hbad : L.any badL = true := List.any_eq_true.2 ⟨l, List.mem_of_getElem? hli, by rw [hz]; rfl⟩
   have ho : ofS L = ([], 10) := if_pos hbad
   rw [ho]
   have g0 : (l == []) = true := by rw [hz]; rfl
   simp only [go_sem, simprocAttr, hl, h4, h5, h8, h9, h10, hlt, hgT, hld, g0, he]
  have g0 : (l == []) = false := by rw [beq_eq_false_iff_ne]; exact hz
  have hlp : 0 < l.length := List.length_pos_iff.2 hz
  by_cases h63 : 63 < l.length
  ·have hbad : L.any badL = true := List.any_eq_true.2 ⟨l, List.mem_of_getElem? hli, by unfold badL; simp [h63]⟩
   have ho : ofS L = ([], 10) := if_pos hbad
   rw [ho]
   have g1 : decide ((l.length : Int) > 63) = true := by simp; omega
   simp only [go_sem, simprocAttr, hl, h4, h5, h8, h9, h10, hlt, hgT, hld, g0, g1, he]
  have g1 : decide ((l.length : Int) > 63) = false := by simp; omega
  have hbl : badL l = false := by simp only [badL, Bool.or_eq_false_iff, beq_eq_false_iff_ne, decide_eq_false_iff_not]; omega
  have hany' := any_take hli hany hbl
  rcases hlg with ⟨rfl, hbs', htot⟩ | ⟨rfl, htot⟩
  ·have hbl2 : bs.length = tot (L.take i) := by rw [hbs', nameB_len]
   have w1 : IntKind.i64.wrap ((bs.length : Int) + (l.length : Int)) = ((bs.length + l.length : Nat) : Int) := by rw [wrap_i64 (by omega)]; omega
   have w2 : IntKind.i64.wrap (((bs.length + l.length : Nat) : Int) + 2) = ((bs.length + (l.length + 2) : Nat) : Int) := by rw [wrap_i64 (by omega)]; omega
   by_cases hbig : bs.length + l.length + 2 > 255
   ·have g2 : decide (((bs.length + (l.length + 2) : Nat) : Int) > 255) = true := by simp; omega
    simp only [go_sem, simprocAttr, hl, h4, h5, h8, h9, h10, hlt, hgT, hld, g0, g1, bl, w1, w2, g2, hw]
    exact ⟨n - 1, by omega, _, i + 1, bs, true, T, _, by omega, hany', .inr ⟨rfl, by omega⟩, hbs, rfl, hb, by simp only [go_sem, simprocAttr, he], by simp only [go_sem, simprocAttr, hl], by simp only [go_sem, simprocAttr, hl, h4], by simp only [go_sem, simprocAttr, hl], by simp only [go_sem, simprocAttr, hl, h8], by simp only [go_sem, simprocAttr, hl, h9], by simp only [go_sem, simprocAttr, hl]⟩
   ·have g2 : decide (((bs.length + (l.length + 2) : Nat) : Int) > 255) = false := by simp; omega
    have w3 : IntKind.u8.wrap (l.length : Int) = ((UInt8.ofNat l.length).toNat : Int) := by rw [UInt8.toNat_ofNat', wrap_u8 (by omega)]; omega
    obtain ⟨T1, e1, b1, k1, c1, r1⟩ := b_lit H T 0 bs hb (UInt8.ofNat l.length) _ rfl (by omega)
    obtain ⟨T2, e2, b2, k2, c2, r2⟩ := b_wst H T1 0 _ b1 l hlp (by simp; omega)
    simp only [Nat.add_zero] at r1 r2
    simp only [go_sem, simprocAttr, hl, h4, h5, h8, h9, h10, hlt, hgT, hld, g0, g1, bl, w1, w2, w3, g2, hw, r1, r2]
    exact ⟨n - 1, by omega, _, i + 1, _, false, T2, _, by omega, hany', .inl ⟨rfl, by rw [nameB_snoc hli, ← hbs']; simp, by omega⟩, by simp; omega, rfl, b2, by simp only [go_sem, simprocAttr, he, c1, c2], by simp only [go_sem, simprocAttr, hl], by simp only [go_sem, simprocAttr, hl, h4], by simp only [go_sem, simprocAttr, hl], by simp only [go_sem, simprocAttr, hl, h8], by simp only [go_sem, simprocAttr, hl, h9], by simp only [go_sem, simprocAttr, hl]⟩
  ·simp only [go_sem, simprocAttr, hl, h4, h5, h8, h9, h10, hlt, hgT, hld, g0, g1, hw]
   exact ⟨n - 1, by omega, _, i + 1, bs, true, T, _, by omega, hany', .inr ⟨rfl, by omega⟩, hbs, rfl, hb, by simp only [go_sem, simprocAttr, he], by simp only [go_sem, simprocAttr, hl], by simp only [go_sem, simprocAttr, hl, h4], by simp only [go_sem, simprocAttr, hl, h5], by simp only [go_sem, simprocAttr, hl, h8], by simp only [go_sem, simprocAttr, hl, h9], by simp only [go_sem, simprocAttr, hl]⟩
 ·have hiL : i = L.length := by omega
  subst hiL
  rw [List.take_length] at hany hlg
  rcases hlg with ⟨rfl, rfl, htot⟩ | ⟨rfl, htot⟩
  ·have ho : ofS L = (nameOf L, 0) := by unfold ofS; rw [hany, if_neg (by simp), if_neg (by omega)]
   rw [ho]
   obtain ⟨T1, e1, b1, k1, c1, r1⟩ := b_lit H T 0 _ hb 0 0 rfl (by omega)
   obtain ⟨T2, e2, k2, c2, r2⟩ := b_stringK H T1 0 _ b1 (by simp; omega)
   simp only [Nat.add_zero] at r1 r2
   simp only [go_sem, simprocAttr, hl, h4, h5, h8, h9, h10, hlt, r1, r2]
   exact leave_flat (by simp [flat, flats]) (by simp only [go_sem, simprocAttr, he, c1, c2])
  ·have ho : ofS L = ([], 2) := by unfold ofS; rw [hany, if_neg (by simp), if_pos htot]
   rw [ho]
   simp only [go_sem, simprocAttr, hl, h4, h5, h8, h9, h10, hlt, he]
end Go.Proofs.YtdppgaphcmhffaaGreatDoor.V
namespace Go.Proofs.YtdppgaphcmhffaaGreatDoor.V
open Go
attribute [local irreducible] go goOps goD opK callK callT stepK leaveTo nextK

theorem scan_cons (p c : UInt8) (r : List UInt8) : scan p (c :: r) = if c = p then 0 else if c = 92 then 2 + scan p r.tail else 1 + scan p r := by
 cases r with
 | nil => simp only [scan, List.tail_nil, Nat.add_zero]
 | cons d r => simp only [scan, List.tail_cons]
theorem scan_drop (p : UInt8) {s : List UInt8} {i : Nat} {c : UInt8} (h : s[i]? = some c) : scan p (s.drop i) = if c = p then 0 else if c = 92 then 2 + scan p (s.drop (i + 2)) else 1 + scan p (s.drop (i + 1)) := by
 rw [drop_at h, scan_cons, List.tail_drop]
theorem unB_len : ∀ (n : Nat) (s : List UInt8), s.length ≤ n → ∀ r, unB s = some r → r.length ≤ s.length
 | _, [], _, r, h => by rw [unB_nil] at h; cases h; exact Nat.le_refl _
 | 0, c :: s, hn, r, h => by simp at hn
 | n + 1, c :: s, hn, r, h => by
  rw [unB_cons, Option.bind_eq_some_iff] at h
  obtain ⟨⟨b, t⟩, h1, h2⟩ := h
  rw [Option.map_eq_some_iff] at h2
  obtain ⟨u, h3, rfl⟩ := h2
  have h4 := unC_lt h1
  have := unB_len n t (by simp at hn; omega) u h3
  simp only [List.length_cons]
  omega
theorem lblE_len (x : List UInt8) : (lblE x).1.length ≤ x.length := by
 unfold lblE
 cases h : unB x with
 | none => exact Nat.zero_le _
 | some l => exact unB_len _ x (Nat.le_refl _) l h
set_option maxRecDepth 20000 in
set_option maxHeartbeats 2000000 in
theorem name_piece (s : List UInt8) (L1 : List (List UInt8)) (v : AV) (frm tt : Nat) (H T : Hp) (t0 : T[0]? = some (.cells [.str s] 9 .rw)) (t1 : T[1]? = some (.cells [v] 85 .rw)) (t2 : T[2]? = some (.cells [.int .i64 (frm : Nat)] 3 .rw))
  (hB : GBuf H.length T v 9 1 L1.length (strs L1)) (hft : frm ≤ tt) (hto : tt ≤ s.length) (hs : s.length ≤ 1048576) (hL : L1.length ≤ 1048576) :
  ∃ T' v' e', T'[0]? = some (.cells [.str s] 9 .rw) ∧ T'[1]? = some (.cells [v'] 85 .rw) ∧ T'[2]? = some (.cells [.int .i64 (tt + 1 : Nat)] 3 .rw) ∧ GBuf H.length T' v' 9 1 (L1.length + 1) (strs (L1 ++ [(lblE ((s.drop frm).take (tt - frm))).1])) ∧ Cl H.length 1 e' ∧
   ∀ k, callK Tryz.prog 105 [.int .i64 (tt : Nat), .ptr H.length 0, .ptr (H.length + 2) 0, .ptr (H.length + 1) 0] (H ++ T) k = k (.int .i64 ((lblE ((s.drop frm).take (tt - frm))).2 : Nat), H ++ T', e') := by
 obtain ⟨x, hx⟩ : ∃ x, x = (s.drop frm).take (tt - frm) := ⟨_, rfl⟩
 have hxl : x.length ≤ 1048576 := by rw [hx, List.length_take, List.length_drop]; omega
 rw [← hx]
 have hby := fun k => name_Bytes x (H ++ T) k hxl
 obtain ⟨l, hl0⟩ : ∃ l, l = (lblE x).1 := ⟨_, rfl⟩
 obtain ⟨v', T2, e2, happ, hlen2, hcl2, hkp, hv3, hfl, hvc, _⟩ := (hB.more [.cells [.str l] 9 .rw]).app2 (P := Tryz.prog) (b := 16) (by decide) zok_85 [.str l] 1 (by decide) rfl rfl (by simp only [fits, decide_eq_true_eq]; omega)
 have k0 : T2[0]? = some (.cells [.str s] 9 .rw) := hkp 0 _ (get_app t0) (by intro c fz st h; injection h with _ _ h; cases h)
 have k1 : T2[1]? = some (.cells [v] 85 .rw) := hkp 1 _ (get_app t1) (by intro c fz st h; injection h with _ _ h; cases h)
 have k2 : T2[2]? = some (.cells [.int .i64 (frm : Nat)] 3 .rw) := hkp 2 _ (get_app t2) (by intro c fz st h; injection h with _ _ h; cases h)
 have l1 := lt_of_get k1
 have l2 := lt_of_get k2
 have hscl : scal v' = true := hv3.scl
 have hst : l = (unB x).getD [] := by rw [hl0]; unfold lblE; cases unB x <;> rfl
 have hcl : Cl H.length 1 (((z0.and e2).and ⟨some (H.length + 1), some (H.length + 1)⟩).and ⟨none, some (H.length + 2)⟩) := .andl (.andr (clean_and ⟨rfl, rfl⟩ hcl2) ⟨_, rfl, by omega, by omega, by simp [low]⟩) (clean_w (by omega))
 obtain ⟨e', hE, hleave⟩ := hcl.leave (m := H.length + T.length) (by have := lt_of_get t1; omega)
 rw [Ef.z0_and] at hleave
 refine ⟨(T2.set 1 (.cells [v'] 85 .rw)).set 2 (.cells [.int .i64 (tt + 1 : Nat)] 3 .rw), v', e', by simp [k0], by simp [l1], by simp [l2], ?_, hE, fun k => ?_⟩
 ·have := (hv3.set (x := .cells [v'] 85 .rw) k1).set (j := 2) (x := .cells [.int .i64 (tt + 1 : Nat)] 3 .rw) (by rw [List.getElem?_set_ne (by decide)]; exact k2)
  rw [← hl0]
  simpa [strs] using this
 refine callK_eq ?_ k
 refine callK_start (n := 34) (rs := [.tmp 5]) Tryz.func105 rfl rfl rfl ?_
 intro σ hl ha
 have h0 := ha 0 (by simp)
 have h1 := ha 1 (by simp)
 have h2 := ha 2 (by simp)
 have h3 := ha 3 (by simp)
 clear ha
 simp only [Option.getD_some, List.getElem?_cons_zero, List.getElem?_cons_succ] at h0 h1 h2 h3
 have hw := wrap_succ (show tt < 9223372036854775807 by omega)
 have b1 : (frm : Int) ≤ (tt : Int) := by omega
 have b2 : (tt : Int) ≤ (s.length : Int) := by omega
 have hbs := bslice_str l
 have hg1 : ∀ y, (T2.set 1 y)[2]? = some (.cells [.int .i64 (frm : Nat)] 3 .rw) := fun y => by rw [List.getElem?_set_ne (by decide)]; exact k2
 cases hu : unB x with
 | none =>
  have hc : (lblE x).2 = 12 := by unfold lblE; rw [hu]
  rw [hu] at hby hst
  simp only [Option.getD_none, Option.isSome_none, Bool.false_eq_true, if_false] at hby hst
  subst hst
  rw [hc]
  simp only [go_sem, simprocAttr, hl, h0, h1, h2, h3, t0, t1, t2, b1, b2, hx.symm, hby, hbs, ↓happ, k0, k1, k2, hvc, hscl, hfl, hg1, hw]
  exact hleave _ _
 | some y =>
  rw [hu] at hby hst
  simp only [Option.getD_some, Option.isSome_some, if_true] at hby hst
  subst hst
  by_cases hz : l = []
  ·have hc : (lblE x).2 = 10 := by unfold lblE; rw [hu]; simp only; rw [hz]; rfl
   rw [hc]
   have g0 : (l == []) = true := by rw [hz]; rfl
   simp only [go_sem, simprocAttr, hl, h0, h1, h2, h3, t0, t1, t2, b1, b2, hx.symm, hby, hbs, ↓happ, k0, k1, k2, hvc, hscl, hfl, hg1, hw, g0]
   exact hleave _ _
  ·have g0 : (l == []) = false := by rw [beq_eq_false_iff_ne]; exact hz
   have hlp : 0 < l.length := List.length_pos_iff.2 hz
   by_cases h63 : 63 < l.length
   ·have hc : (lblE x).2 = 10 := by unfold lblE; rw [hu]; simp only; rw [if_pos]; unfold badL; simp [h63]
    rw [hc]
    have g1 : decide ((l.length : Int) > 63) = true := by simp; omega
    simp only [go_sem, simprocAttr, hl, h0, h1, h2, h3, t0, t1, t2, b1, b2, hx.symm, hby, hbs, ↓happ, k0, k1, k2, hvc, hscl, hfl, hg1, hw, g0, g1]
    exact hleave _ _
   ·have hc : (lblE x).2 = 0 := by unfold lblE; rw [hu]; simp only; rw [if_neg]; simp only [badL, Bool.or_eq_true, beq_iff_eq, decide_eq_true_eq]; omega
    rw [hc]
    have g1 : decide ((l.length : Int) > 63) = false := by simp; omega
    simp only [go_sem, simprocAttr, hl, h0, h1, h2, h3, t0, t1, t2, b1, b2, hx.symm, hby, hbs, ↓happ, k0, k1, k2, hvc, hscl, hfl, hg1, hw, g0, g1]
    exact hleave _ _
theorem GBuf.app0 {P : Program} {H T : Hp} {v : AV} {e z b len : Nat} {cs : List AV} (h : GBuf H.length T v e z len cs) (hp : 0 < len) (hz : decide (0 < z) = true) (hk : zok P e z = true) :
  ∃ w, (∀ kk, stepK (appTo P (.slice e z b) v ([], 0) (H ++ T)) kk = kk (v, H ++ T, ⟨none, some w⟩)) ∧ H.length ≤ w := by
 obtain ⟨rfl, h2, h3⟩ | ⟨h1, h2, m, rfl, h3⟩ := h
 ·omega
 ·refine ⟨H.length + m, fun kk => ?_, by omega⟩
  rw [appTo_op hz hk, hp_new, h3, bindK_some, appO_c]
  have g : decide (0 + (len + 0) * z ≤ cs.length) = true := by simp [h2]
  rw [g, guardK_tt]
  have hw : wr (H ++ T) (H.length + m) (0 + len * z) [] = some (H ++ T, ⟨none, some (H.length + m)⟩) := by
   unfold wr
   rw [hp_new, h3]
   simp only
   have e1 : splice cs (0 + len * z) [] = cs := by unfold splice; simp
   rw [if_pos ⟨by simp [h2], by simp [canWr], rfl⟩, e1, hp_set, set_get h3]
   simp only [flats, if_true]
  rw [hw, bindK_some]
  simp only [Nat.add_zero, Nat.zero_mul, Nat.zero_add, h2]
  exact propext ⟨fun h => h.2, fun h => ⟨⟨trivial, trivial, Nat.le_refl _⟩, h⟩⟩
theorem quiet_g4 {v : AV} {H T l : Hp} {x : ABlk} {e : Ef} : quiet (v, H ++ (T ++ x :: l), e) (H ++ T) = false := by simp [quiet]
theorem mem_totS {l : List UInt8} : ∀ {L : List (List UInt8)}, l ∈ L → l.length ≤ totS L
 | m :: L, h => by
  have e : totS (m :: L) = m.length + totS L := by simp [totS]
  rcases List.mem_cons.1 h with rfl | h
  ·omega
  ·have := mem_totS h; omega
theorem map_map_ok {α β γ : Type} {x : Except Nat α} {f : α → β} {g : β → γ} : (x.map f).map g = x.map fun a => g (f a) := by cases x <;> rfl
theorem map_err {α β : Type} {e : Nat} {f : α → β} : (Except.error e : Except Nat α).map f = .error e := rfl
theorem map_ok {α β : Type} {a : α} {f : α → β} : (Except.ok a : Except Nat α).map f = .ok (f a) := rfl
set_option maxRecDepth 20000 in
set_option maxHeartbeats 4000000 in
theorem name_Parse (s o : List UInt8) (H k) (hs : s.length ≤ 1048576) (ho : o.length ≤ 1048576) : callK Tryz.prog 73 [.str s, .str o] H k = k (.tuple [.str (nameS s o).1, .int .i64 ((nameS s o).2 : Nat)], H, z0) := by
 refine callK_eq (r := (.tuple [.str (nameS s o).1, .int .i64 ((nameS s o).2 : Nat)], H, z0)) ?_ k
 refine callK_start (n := 62) (rs := [.tmp 4, .tmp 5]) Tryz.func73 rfl rfl rfl ?_
 intro σ hl ha
 have h0 := ha 0 (by simp)
 have h1 := ha 1 (by simp)
 clear ha
 simp only [Option.getD_some, List.getElem?_cons_zero, List.getElem?_cons_succ] at h0 h1
 have hck := fun H' k => name_Check o H' k (by show _ ≤ 9223372036854775807; omega)
 cases ho2 : nm o with
 | none =>
  have hn : nameS s o = ([], 11) := by unfold nameS; rw [ho2]
  rw [hn]
  rw [ho2] at hck
  simp only [Option.isSome_none, Bool.false_eq_true, if_false] at hck
  simp only [go_sem, simprocAttr, hl, h0, h1, hck]
 | some K =>
 rw [ho2] at hck
 simp only [Option.isSome_some, if_true] at hck
 by_cases hd : s = [46]
 ·have hn : nameS s o = ([0], 0) := by unfold nameS; rw [ho2]; exact if_pos hd
  rw [hn]
  subst hd
  simp only [go_sem, simprocAttr, hl, h0, h1, hck]
 have hne : (s == [46]) = false := by rw [beq_eq_false_iff_ne]; exact hd
 have hn : nameS s o = match parsS true s with | .error e => ([], e) | .ok (L, b) => ofS (if b = true then L ++ K else L) := by unfold nameS; rw [ho2]; exact if_neg hd
 rw [hn]
 simp only [go_sem, simprocAttr, hl, h0, h1, hck, hne]
 refine go_rounds (fun n st => ∃ σ i frm L1 v T e, n + i = s.length + 1 ∧ frm ≤ i ∧ frm ≤ s.length ∧ parsS true s = (parsS (decide (frm = 0)) (s.drop frm)).map (fun r => (L1 ++ r.1, r.2)) ∧ (L1 = [] → frm = 0) ∧ L1.length ≤ frm ∧ totS L1 ≤ frm ∧ frm + scan 46 (s.drop frm) = i + scan 46 (s.drop i) ∧
   T[0]? = some (.cells [.str s] 9 .rw) ∧ T[1]? = some (.cells [v] 85 .rw) ∧ T[2]? = some (.cells [.int .i64 (frm : Nat)] 3 .rw) ∧ GBuf H.length T v 9 1 L1.length (strs L1) ∧ st = ⟨σ, H ++ T, e⟩ ∧ clean H.length e ∧ σ.length = 62 ∧ fr σ 1 = .str o ∧ fr σ 2 = .ptr H.length 0 ∧ fr σ 6 = .ptr (H.length + 1) 0 ∧ fr σ 7 = .ptr (H.length + 2) 0 ∧ fr σ 8 = .func (.func 105) [] [.ptr H.length 0, .ptr (H.length + 2) 0, .ptr (H.length + 1) 0] ∧ fr σ 9 = .int .i64 (i : Nat)) (s.length + 1)
  ⟨_, 0, 0, [], .nils, [.cells [.str s] 9 .rw, .cells [.nils] 85 .rw, .cells [.int .i64 0] 3 .rw], _, rfl, Nat.le_refl _, Nat.zero_le _, by cases h : parsS true s <;> simp [h, Except.map], fun _ => rfl, Nat.le_refl _, by simp [totS], rfl, rfl, rfl, rfl, .inl ⟨rfl, rfl, rfl⟩, rfl, by simp only [go_sem, simprocAttr], by simp only [go_sem, simprocAttr, hl], by simp only [go_sem, simprocAttr, hl, h1], by simp only [go_sem, simprocAttr, hl], by simp only [go_sem, simprocAttr, hl], by simp only [go_sem, simprocAttr, hl], by simp only [go_sem, simprocAttr, hl], by simp only [go_sem, simprocAttr, hl]⟩ ?_
 rintro n _ ⟨σ, i, frm, L1, v, T, e, hni, hfi, hfs, hp, hLf, hLl, hLt, hsc, t0, t1, t2, hB, rfl, he, hl, h1, h2, h6, h7, h8, h9⟩
 by_cases hlt : i < s.length
 ·obtain ⟨c, hc⟩ : ∃ c, s[i]? = some c := ⟨_, List.getElem?_eq_getElem hlt⟩
  have hcl := c.toNat_lt
  rw [scan_drop 46 hc] at hsc
  have hw := wrap_succ (show i < 9223372036854775807 by omega)
  have hw2 : IntKind.i64.wrap (((i + 1 : Nat) : Int) + 1) = ((i + 2 : Nat) : Int) := by rw [wrap_i64 (by omega)]; omega
  by_cases c92 : c.toNat = 92
  ·have e1 : c = 92 := UInt8.toNat.inj c92
   have g92 : ((c.toNat : Int) == 92) = true := by simp; omega
   rw [if_neg (by rw [e1]; decide), if_pos e1] at hsc
   simp only [go_sem, simprocAttr, hl, h1, h2, h6, h7, h8, h9, t0, hlt, hc, g92, hw, hw2]
   exact ⟨n - 2, by omega, _, i + 2, frm, L1, v, T, e, by omega, by omega, hfs, hp, hLf, hLl, hLt, by omega, t0, t1, t2, hB, rfl, he, by simp only [go_sem, simprocAttr, hl], by simp only [go_sem, simprocAttr, hl, h1], by simp only [go_sem, simprocAttr, hl, h2], by simp only [go_sem, simprocAttr, hl, h6], by simp only [go_sem, simprocAttr, hl, h7], by simp only [go_sem, simprocAttr, hl, h8], by simp only [go_sem, simprocAttr, hl]⟩
  ·have g92 : ((c.toNat : Int) == 92) = false := by simp; omega
   have e92 : c ≠ 92 := u8_ne (n := 92) (by omega) c92
   by_cases c46 : c.toNat = 46
   ·have e1 : c = 46 := UInt8.toNat.inj c46
    have g46 : ((c.toNat : Int) == 46) = true := by simp; omega
    rw [if_pos e1] at hsc
    obtain ⟨x, hx⟩ : ∃ x, x = (s.drop frm).take (i - frm) := ⟨_, rfl⟩
    have hk : scan 46 (s.drop frm) = i - frm := by omega
    rw [parsS_eq _ (s.drop frm), hk, if_pos (by rw [List.length_drop]; omega), ← hx, List.drop_drop, show frm + (i - frm + 1) = i + 1 by omega] at hp
    obtain ⟨T', v', e', p0, p1, p2, pB, pc, pr⟩ := name_piece s L1 v frm i H T t0 t1 t2 hB hfi (by omega) hs (by omega)
    have pc := pc.cln
    rw [← hx] at pB pr
    have hxl : x.length = i - frm := by rw [hx, List.length_take, List.length_drop]; omega
    have hll := lblE_len x
    by_cases hc0 : (lblE x).2 = 0
    ·rw [if_pos hc0, map_map_ok] at hp
     have pr : ∀ k, callK Tryz.prog 105 [.int .i64 (i : Nat), .ptr H.length 0, .ptr (H.length + 2) 0, .ptr (H.length + 1) 0] (H ++ T) k = k (.int .i64 0, H ++ T', e') := by rw [hc0] at pr; exact pr
     simp only [go_sem, simprocAttr, hl, h1, h2, h6, h7, h8, h9, t0, hlt, hc, g92, g46, hw, pr]
     refine ⟨n - 1, by omega, _, i + 1, i + 1, L1 ++ [(lblE x).1], v', T', _, by omega, Nat.le_refl _, by omega, ?_, by simp, by simp; omega, by rw [totS_app]; simp [totS] at hLt ⊢; omega, rfl, p0, p1, p2, by simpa using pB, rfl, by simp only [go_sem, simprocAttr, he, pc], by simp only [go_sem, simprocAttr, hl], by simp only [go_sem, simprocAttr, hl, h1], by simp only [go_sem, simprocAttr, hl, h2], by simp only [go_sem, simprocAttr, hl, h6], by simp only [go_sem, simprocAttr, hl, h7], by simp only [go_sem, simprocAttr, hl, h8], by simp only [go_sem, simprocAttr, hl]⟩
     rw [hp, show decide (i + 1 = 0) = false by simp]
     congr 1; funext r; simp
    ·rw [if_neg hc0, map_err] at hp
     rw [hp]
     have gn : (((lblE x).2 : Int) != 0) = true := by simp; omega
     simp only [go_sem, simprocAttr, hl, h1, h2, h6, h7, h8, h9, t0, hlt, hc, g92, g46, hw, pr, gn]
     exact leave_flat (by simp [flat, flats]) (by simp only [go_sem, simprocAttr, he, pc])
   ·have g46 : ((c.toNat : Int) == 46) = false := by simp; omega
    have e46 : c ≠ 46 := u8_ne (n := 46) (by omega) c46
    rw [if_neg e46, if_neg e92] at hsc
    simp only [go_sem, simprocAttr, hl, h1, h2, h6, h7, h8, h9, t0, hlt, hc, g92, g46, hw, hw2]
    exact ⟨n - 1, by omega, _, i + 1, frm, L1, v, T, e, by omega, by omega, hfs, hp, hLf, hLl, hLt, by omega, t0, t1, t2, hB, rfl, he, by simp only [go_sem, simprocAttr, hl], by simp only [go_sem, simprocAttr, hl, h1], by simp only [go_sem, simprocAttr, hl, h2], by simp only [go_sem, simprocAttr, hl, h6], by simp only [go_sem, simprocAttr, hl, h7], by simp only [go_sem, simprocAttr, hl, h8], by simp only [go_sem, simprocAttr, hl]⟩
 ·have hdi : s.drop i = [] := List.drop_of_length_le (by omega)
  rw [hdi] at hsc
  have hsc : frm + scan 46 (s.drop frm) = i := hsc
  have hnk : ¬ scan 46 (s.drop frm) < (s.drop frm).length := by rw [List.length_drop]; omega
  rw [parsS_eq _ (s.drop frm), if_neg hnk] at hp
  have hmem : ∀ l ∈ L1, l.length ≤ 1048576 := fun l hl => by have := mem_totS hl; omega
  by_cases hlast : frm < s.length ∨ frm = 0
  ·rw [if_pos (by rw [List.length_drop]; rcases hlast with h | h; exact .inl (by omega); exact .inr (by simp [h]))] at hp
   obtain ⟨x, hx⟩ : ∃ x, x = (s.drop frm).take (s.length - frm) := ⟨_, rfl⟩
   have hx' : s.drop frm = x := by rw [hx, List.take_of_length_le (by rw [List.length_drop]; omega)]
   rw [hx'] at hp
   obtain ⟨T', v', e', p0, p1, p2, pB, pc, pr⟩ := name_piece s L1 v frm s.length H T t0 t1 t2 hB hfs (Nat.le_refl _) hs (by omega)
   have pc := pc.cln
   rw [← hx] at pB pr
   have hll := lblE_len x
   have hxl : x.length = s.length - frm := by rw [hx, List.length_take, List.length_drop]; omega
   have gd : frm < s.length ∨ (¬ frm < s.length ∧ ((frm : Int) == 0) = true) := by
    by_cases h : frm < s.length
    ·exact .inl h
    ·exact .inr ⟨h, by simp; omega⟩
   by_cases hc0 : (lblE x).2 = 0
   ·rw [if_pos hc0, map_ok] at hp
    rw [hp]
    have pr : ∀ k, callK Tryz.prog 105 [.int .i64 (s.length : Nat), .ptr H.length 0, .ptr (H.length + 2) 0, .ptr (H.length + 1) 0] (H ++ T) k = k (.int .i64 0, H ++ T', e') := by rw [hc0] at pr; exact pr
    have hKl : labs o = K := by unfold labs; rw [ho2]; rfl
    obtain ⟨⟨bv, bT⟩, hb, hlab⟩ := name_Labels o (H ++ T') (by show _ ≤ 9223372036854775807; omega)
    rw [hKl] at hb
    simp only [List.append_assoc] at hlab
    simp only at hb
    have hKb : ∀ l ∈ K, l.length ≤ 63 := fun l hl => by
     rw [← hKl] at hl
     obtain ⟨i, hi⟩ := List.getElem?_of_mem hl
     exact (labs_pos hi).2
    have hKn : K.length ≤ 255 := by have := len_tot K; have := labs_tot (s := o); rw [hKl] at this; omega
    have hb16 : (L1 ++ [(lblE x).1]).length = L1.length + 1 := by simp
    obtain ⟨L2, hL2⟩ : ∃ L2, L2 = L1 ++ [(lblE x).1] := ⟨_, rfl⟩
    rw [← hL2] at pB hb16
    have hL2m : ∀ l ∈ L2, l.length ≤ 1048576 := fun l hl => by
     rw [hL2] at hl
     rcases List.mem_append.1 hl with h | h
     ·exact hmem l h
     ·simp only [List.mem_singleton] at h; subst h; omega
    have hof : ∀ (T9 : Hp) (v9 : AV), GBuf H.length T9 v9 9 1 (L2 ++ K).length (strs (L2 ++ K)) → ∀ k, callK Tryz.prog 107 [v9] (H ++ T9) k = k (.tuple [.str (ofS (L2 ++ K)).1, .int .i64 ((ofS (L2 ++ K)).2 : Nat)], H ++ T9, z0) :=
     fun T9 v9 h9 k => name_Of (L2 ++ K) v9 (H ++ T9) k h9.lv (by simp; omega) (fun l hl => by
      rcases List.mem_append.1 hl with h | h
      ·exact hL2m l h
      ·have := hKb l h; omega)
    have hres : ([(lblE x).1] : List (List UInt8)) = [(lblE x).1] := rfl
    rw [← hL2]
    rcases gd with g1 | ⟨g1, g2⟩
    all_goals
     first | simp only [go_sem, simprocAttr, hl, h1, h2, h6, h7, h8, h9, t0, t2, hlt, pr, g1, g2] | simp only [go_sem, simprocAttr, hl, h1, h2, h6, h7, h8, h9, t0, t2, hlt, pr, g1]
     refine go_drawZ tFollows (by kernel_rfl) ?_
     by_cases hK0 : K = []
     ·subst hK0
      obtain rfl : bv = .nils := by
       obtain ⟨h, _⟩ | ⟨h, _⟩ := hb
       ·exact h
       ·simp at h
      obtain ⟨w, ha0, hw0⟩ := (pB.more bT).app0 (P := Tryz.prog) (b := 16) (by omega) (by decide) zok_85
      rw [List.append_nil] at hof
      have p1' : (T' ++ bT)[1]? = some (.cells [v'] 85 .rw) := get_app p1
      have hv9 := (pB.more bT).set (x := .cells [v'] 85 .rw) p1'
      rw [set_get p1'] at hv9
      have hof := hof (T' ++ bT) v' (by rw [hb16]; exact hv9)
      have hscl : scal v' = true := pB.scl
      have hset : (T' ++ bT).set 1 (.cells [v'] 85 .rw) = T' ++ bT := set_get p1'
      have hnf : flat v' = false := by
       obtain ⟨_, _, h⟩ | ⟨_, _, m, rfl, _⟩ := pB
       ·omega
       ·rfl
      have hvc : vcells v' = [v'] := by
       obtain ⟨rfl, _, h⟩ | ⟨_, _, m, rfl, _⟩ := pB <;> rfl
      have hcw : clean H.length ⟨none, some w⟩ := clean_w hw0
      rcases bT with _ | ⟨b0, bT⟩
      ·simp only [List.append_nil] at hlab ha0 hof hset
       simp only [go_sem, simprocAttr, hl, h1, h6, p1, hlab, ↓ha0, hvc, hscl, hnf, hset, hof, List.append_nil]
       exact ⟨by kernel_rfl, leave_flat (by simp [flat, flats]) (by simp only [go_sem, simprocAttr, he, pc, hcw])⟩
      ·simp only [go_sem, simprocAttr, hl, h1, h6, p1, p1', hlab, ↓ha0, hvc, hscl, hnf, hset, hof, quiet_g4, List.append_nil]
       exact ⟨by kernel_rfl, leave_flat (by simp [flat, flats]) (by simp only [go_sem, simprocAttr, he, pc, hcw])⟩
     ·obtain ⟨_, _, h⟩ | ⟨hKp, _, m, rfl, hbm⟩ := hb
      ·exact absurd (List.length_eq_zero_iff.1 h) hK0
      obtain ⟨v9, T9, e9, happ, hlen9, hcl9, hkp9, hv9, hfl9, hvc9, hq9⟩ := (pB.more bT).app2 (P := Tryz.prog) (b := 16) (by decide) zok_85 (strs K) K.length hKp (by rw [strs_len, Nat.mul_one]) (by simp [strs, scal]) (by simp only [fits, decide_eq_true_eq]; omega)
      have hrd : rdC 0 K.length (.cells (strs K) 9 (.op 0 false)) = some (strs K) := by
       rw [rdC_c, if_pos (by rw [strs_len]; omega), List.drop_zero, List.take_of_length_le (by rw [strs_len]; omega)]
      have hgl : (H ++ T').length = H.length + T'.length := List.length_append
      simp only [hgl] at hlab
      have p19 : T9[1]? = some (.cells [v'] 85 .rw) := hkp9 1 _ (get_app p1) (by intro c fz st h; injection h with _ _ h; cases h)
      have hB9 := hv9.set (x := .cells [v9] 85 .rw) p19
      have hof := hof (T9.set 1 (.cells [v9] 85 .rw)) v9 (by simpa [strs, hb16] using hB9)
      have l19 := lt_of_get p19
      have hg9 : (T9.set 1 (.cells [v9] 85 .rw))[1]? = some (.cells [v9] 85 .rw) := by simp [l19]
      have hscl : scal v9 = true := hv9.scl
      rcases bT with _ | ⟨b0, bT⟩
      ·simp at hbm
      ·simp only [go_sem, simprocAttr, hl, h1, h6, p1, hlab, hbm, hrd, ↓happ, hvc9, hscl, hfl9, p19, hg9, hof, quiet_g4, hq9]
       exact ⟨by rcases tg_or 3 e9 with h | h <;> rw [h] <;> kernel_rfl, leave_flat (by simp [flat, flats]) (by simp only [go_sem, simprocAttr, he, pc, hcl9])⟩
   ·rw [if_neg hc0, map_err] at hp
    rw [hp]
    have gn : (((lblE x).2 : Int) != 0) = true := by simp; omega
    rcases gd with g1 | ⟨g1, g2⟩
    ·simp only [go_sem, simprocAttr, hl, h1, h2, h6, h7, h8, h9, t0, t2, hlt, pr, gn, g1]
     exact leave_flat (by simp [flat, flats]) (by simp only [go_sem, simprocAttr, he, pc])
    ·simp only [go_sem, simprocAttr, hl, h1, h2, h6, h7, h8, h9, t0, t2, hlt, pr, gn, g1, g2]
     exact leave_flat (by simp [flat, flats]) (by simp only [go_sem, simprocAttr, he, pc])
  ·rw [if_neg (by rw [List.length_drop]; rintro (h | h); omega; simp at h; omega), map_ok] at hp
   rw [hp]
   have g1 : ¬ frm < s.length := by omega
   have g2 : ((frm : Int) == 0) = false := by simp; omega
   have hof := fun k => name_Of L1 v (H ++ T) k hB.lv (by omega) hmem
   simp only [go_sem, simprocAttr, hl, h1, h2, h6, h7, h8, h9, t0, t1, t2, hlt, g1, g2, hof, List.append_nil, Bool.false_eq_true, if_false]
   exact leave_flat (by simp [flat, flats]) he
end Go.Proofs.YtdppgaphcmhffaaGreatDoor.V
namespace Go.Proofs.YtdppgaphcmhffaaGreatDoor.V
open Go
attribute [local irreducible] go goOps goD opK callK callT stepK leaveTo nextK

def kX : List (List UInt8) := [[65], [78, 83], [67, 78, 65, 77, 69], [83, 79, 65], [80, 84, 82], [77, 88], [84, 88, 84], [65, 65, 65, 65], [83, 82, 86]]
def kXt (i : Nat) : List UInt8 := (kX[i]?).getD []
theorem kinds_tx {i : Nat} (h : i < 9) (e : TypeId) (k : Kd) : ldC (i * 3 + 1) 1 false (.cells kindsC e k) = some (.str (kXt i)) := by
 have : i = 0 ∨ i = 1 ∨ i = 2 ∨ i = 3 ∨ i = 4 ∨ i = 5 ∨ i = 6 ∨ i = 7 ∨ i = 8 := by omega
 rcases this with rfl | rfl | rfl | rfl | rfl | rfl | rfl | rfl | rfl <;> rfl
set_option maxRecDepth 20000 in
theorem rdata_low (s : List UInt8) (H k) (hs : s.length ≤ maxI) : callK Tryz.prog 75 [.str s] H k = k (.str (lowS s), H, z0) := by
 refine callK_eq (r := (.str (lowS s), H, z0)) ?_ k
 refine callK_start (n := 5) (rs := [.tmp 2]) Tryz.func75 rfl rfl rfl ?_
 intro σ hl ha
 have h0 := ha 0 (by simp)
 clear ha
 simp only [Option.getD_some, List.getElem?_cons_zero, List.getElem?_cons_succ] at h0
 have hf := fun k => name_Fold s H k hs
 simp only [go_sem, simprocAttr, hl, h0, hf]
def cutS (s p : List UInt8) : List UInt8 × Bool := if s.take p.length = p then (s.drop p.length, true) else (s, false)
set_option maxRecDepth 20000 in
theorem has_prefix (s p : List UInt8) (H k) (hs : s.length ≤ maxI) (hp : p.length ≤ maxI) : callK Tryz.prog 42 [.str s, .str p] H k = k (.bool (cutS s p).2, H, z0) := by
 refine callK_eq (r := (.bool (cutS s p).2, H, z0)) ?_ k
 refine callK_start (n := 18) (rs := [.tmp 4]) Tryz.func42 rfl rfl rfl ?_
 intro σ hl ha
 have h0 := ha 0 (by simp)
 have h1 := ha 1 (by simp)
 clear ha
 simp only [Option.getD_some, List.getElem?_cons_zero, List.getElem?_cons_succ] at h0 h1
 by_cases hlt : p.length ≤ s.length
 ·have hc : (cutS s p).2 = (s.take p.length == p) := by
   unfold cutS
   by_cases h : s.take p.length = p
   ·rw [if_pos h]; simp [h]
   ·rw [if_neg h]; simp [h]
  rw [hc]
  simp only [go_sem, simprocAttr, hl, h0, h1, ge_iff_le, hlt]
 ·have hc : (cutS s p).2 = false := by
   unfold cutS
   rw [if_neg]
   intro h
   have := congrArg List.length h
   rw [List.length_take] at this; omega
  rw [hc]
  simp only [go_sem, simprocAttr, hl, h0, h1, ge_iff_le, hlt]
set_option maxRecDepth 20000 in
theorem cut_prefix_i (s p : List UInt8) (H k) (hs : s.length ≤ maxI) (hp : p.length ≤ maxI) : callK Tryz.prog 110 [.str s, .str p] H k = k (.tuple [.str (cutS s p).1, .bool (cutS s p).2], H, z0) := by
 refine callK_eq (r := (.tuple [.str (cutS s p).1, .bool (cutS s p).2], H, z0)) ?_ k
 refine callK_start (n := 15) (rs := [.tmp 4, .tmp 5]) Tryz.func110 rfl rfl rfl ?_
 intro σ hl ha
 have h0 := ha 0 (by simp)
 have h1 := ha 1 (by simp)
 clear ha
 simp only [Option.getD_some, List.getElem?_cons_zero, List.getElem?_cons_succ] at h0 h1
 have hf := fun k => has_prefix s p H k hs hp
 by_cases h : s.take p.length = p
 ·have hc : cutS s p = (s.drop p.length, true) := if_pos h
  have hle : p.length ≤ s.length := by
   have := congrArg List.length h
   rw [List.length_take] at this; omega
  have ht : (s.drop p.length).take (s.length - p.length) = s.drop p.length := by rw [List.take_of_length_le (by rw [List.length_drop]; exact Nat.le_refl _)]
  rw [hc] at hf ⊢
  simp only [go_sem, simprocAttr, hl, h0, h1, hf, hle, ht]
 ·have hc : cutS s p = (s, false) := if_neg h
  rw [hc] at hf ⊢
  simp only [go_sem, simprocAttr, hl, h0, h1, hf]
set_option maxRecDepth 20000 in
theorem cut_prefix (s p : List UInt8) (H k) (hs : s.length ≤ maxI) (hp : p.length ≤ maxI) : callK Tryz.prog 76 [.str s, .str p] H k = k (.tuple [.str (cutS s p).1, .bool (cutS s p).2], H, z0) := by
 refine callK_eq (r := (.tuple [.str (cutS s p).1, .bool (cutS s p).2], H, z0)) ?_ k
 refine callK_start (n := 11) (rs := [.tmp 4, .tmp 5]) Tryz.func76 rfl rfl rfl ?_
 intro σ hl ha
 have h0 := ha 0 (by simp)
 have h1 := ha 1 (by simp)
 clear ha
 simp only [Option.getD_some, List.getElem?_cons_zero, List.getElem?_cons_succ] at h0 h1
 have hf := fun k => cut_prefix_i s p H k hs hp
 simp only [go_sem, simprocAttr, hl, h0, h1, hf]

end Go.Proofs.YtdppgaphcmhffaaGreatDoor.V
namespace Go.Proofs.YtdppgaphcmhffaaGreatDoor.V
open Go
attribute [local irreducible] go goOps goD opK callK callT stepK leaveTo nextK

def isD (c : UInt8) : Bool := decide (48 ≤ c.toNat ∧ c.toNat ≤ 57)
def valS (s : List UInt8) : Nat := s.foldl (fun v c => 10 * v + (c.toNat - 48)) 0
def numS (s : List UInt8) (most : Nat) : Option Nat :=
 if s = [] ∨ (1 < s.length ∧ s[0]? = some 48) ∨ 12 < s.length then none else if s.all isD = true then (if valS s ≤ most then some (valS s) else none) else none
theorem numS_bad {s : List UInt8} {most : Nat} (h : s = [] ∨ (1 < s.length ∧ s[0]? = some 48) ∨ 12 < s.length) : numS s most = none := if_pos h
end Go.Proofs.YtdppgaphcmhffaaGreatDoor.V
namespace Go.Proofs.YtdppgaphcmhffaaGreatDoor.V
open Go
attribute [local irreducible] go goOps goD opK callK callT stepK leaveTo nextK

def puE (mx : Nat) : List UInt8 → Nat → Nat × Nat
 | [], v => (v, 0)
 | c :: r, v => if isD c = true then (if mx < 10 * v + (c.toNat - 48) then (mx, 1) else puE mx r (10 * v + (c.toNat - 48))) else (0, 2)
def Bits (b : Int) (mx : Nat) : Prop := (b = 8 ∧ mx = 255) ∨ (b = 16 ∧ mx = 65535) ∨ (b = 32 ∧ mx = 4294967295) ∨ (b = 40 ∧ mx = 1099511627775)
theorem Bits.le {b : Int} {mx : Nat} (h : Bits b mx) : mx ≤ 1099511627775 ∧ 255 ≤ mx := by unfold Bits at h; omega
theorem Bits.z {b : Int} {mx : Nat} (h : Bits b mx) : (b == 0) = false := by
 rw [beq_eq_false_iff_ne]; unfold Bits at h; omega
theorem Bits.n {b : Int} {mx : Nat} (h : Bits b mx) : decide (b < 0) = false := by
 rw [decide_eq_false_iff_not]; unfold Bits at h; omega
theorem Bits.g {b : Int} {mx : Nat} (h : Bits b mx) : decide (b > 64) = false := by
 rw [decide_eq_false_iff_not]; unfold Bits at h; omega
theorem Bits.w {b : Int} {mx : Nat} (h : Bits b mx) : IntKind.u64.wrap b = b := by
 rcases h with ⟨rfl, _⟩ | ⟨rfl, _⟩ | ⟨rfl, _⟩ | ⟨rfl, _⟩ <;> decide
theorem Bits.m {b : Int} {mx : Nat} (h : Bits b mx) : IntKind.u64.wrap (IntKind.u64.wrap (1 * 2 ^ min b.toNat 64) - 1) = (mx : Int) := by
 rcases h with ⟨rfl, rfl⟩ | ⟨rfl, rfl⟩ | ⟨rfl, rfl⟩ | ⟨rfl, rfl⟩ <;> decide
def errP (n : Nat) : AV := if n = 0 then .nili else .iface 187 (.int .i64 (n : Nat))
set_option maxRecDepth 20000 in
theorem str_lower (c : UInt8) (H k) : callK Tryz.prog 130 [.int .u8 c.toNat] H k = k (.int .u8 (c ||| 32).toNat, H, z0) := by
 refine callK_eq (r := (.int .u8 (c ||| 32).toNat, H, z0)) ?_ k
 refine callK_start (n := 5) (rs := [.tmp 2]) Tryz.func130 rfl rfl rfl ?_
 intro σ hl ha
 have h0 := ha 0 (by simp)
 clear ha
 simp only [Option.getD_some, List.getElem?_cons_zero, List.getElem?_cons_succ] at h0
 have hor : evInt .or .u8 (c.toNat : Int) 32 = some (.int .u8 (c ||| 32).toNat) := by
  have hlt := (c ||| 32).toNat_lt
  have : (BitVec.ofInt 8 (c.toNat : Int) ||| BitVec.ofInt 8 32).toNat = (c ||| 32).toNat := by
   rw [BitVec.toNat_or, BitVec.ofInt_natCast, UInt8.toNat_or]
   simp only [BitVec.toNat_ofNat]
   rw [Nat.mod_eq_of_lt (show c.toNat < 2 ^ 8 from c.toNat_lt)]
   rfl
  show some (AV.int .u8 (IntKind.u8.wrap ((BitVec.ofInt 8 (c.toNat : Int) ||| BitVec.ofInt 8 32).toNat : Int))) = _
  rw [this, wrap_u8 (by omega)]
 simp only [go_sem, simprocAttr, hl, h0, hor]

set_option maxRecDepth 20000 in
theorem parse_uint_i (s : List UInt8) (bits : Int) (mx : Nat) (hb : Bits bits mx) (H k) (hz : s ≠ []) (hs : s.length ≤ 1048576) : callK Tryz.prog 108 [.str s, .int .i64 10, .int .i64 bits] H k = k (.tuple [.int .u64 ((puE mx s 0).1 : Nat), errP (puE mx s 0).2], H, z0) := by
 refine callK_eq (r := (.tuple [.int .u64 ((puE mx s 0).1 : Nat), errP (puE mx s 0).2], H, z0)) ?_ k
 refine callK_start (n := 172) (rs := [.tmp 6, .tmp 7]) Tryz.func108 rfl rfl rfl ?_
 intro σ hl ha
 have h0 := ha 0 (by simp)
 have h1 := ha 1 (by simp)
 have h2 := ha 2 (by simp)
 clear ha
 simp only [Option.getD_some, List.getElem?_cons_zero, List.getElem?_cons_succ] at h0 h1 h2
 have e0 : (s == []) = false := by simpa using hz
 have hm := hb.m
 have hbz := hb.z
 have hbn := hb.n
 have hbg := hb.g
 have hbw := hb.w
 have hmx := hb.le
 simp only [go_sem, simprocAttr, hl, h0, h1, h2, e0, hm, hbz, hbn, hbg, hbw]
 refine go_rounds (fun n st => ∃ σ i V e, n + i = s.length ∧ puE mx s 0 = puE mx (s.drop i) V ∧ V ≤ mx ∧ st = ⟨σ, H ++ [.cells (u8s s) 5 (.op 0 true)], e⟩ ∧ clean H.length e ∧ σ.length = 172 ∧ fr σ 0 = .str s ∧ fr σ 1 = .int .i64 10 ∧ fr σ 8 = .bool false ∧ fr σ 10 = .int .u64 1844674407370955162 ∧ fr σ 11 = .int .u64 (mx : Nat) ∧ fr σ 12 = .bool false ∧ fr σ 13 = .int .u64 (V : Nat) ∧ fr σ 99 = .slice H.length 0 s.length (.op 0) ∧ fr σ 100 = .int .i64 s.length ∧ fr σ 101 = .int .i64 (i : Nat)) s.length
  ⟨_, 0, 0, _, rfl, rfl, by omega, rfl, ⟨rfl, rfl⟩, by simp only [go_sem, simprocAttr, hl], by simp only [go_sem, simprocAttr, hl, h0], by simp only [go_sem, simprocAttr, hl, h1], by simp only [go_sem, simprocAttr, hl], by simp only [go_sem, simprocAttr, hl], by simp only [go_sem, simprocAttr, hl, hm], by simp only [go_sem, simprocAttr, hl], by simp only [go_sem, simprocAttr, hl], by simp only [go_sem, simprocAttr, hl], by simp only [go_sem, simprocAttr, hl], by simp only [go_sem, simprocAttr, hl]⟩ ?_
 rintro n _ ⟨σ, i, V, e, hn, hp, hV, rfl, he, hl, h0, h1, h8, h10, h11, h12, h13, h99, h100, h101⟩
 have hg : (H ++ [ABlk.cells (u8s s) 5 (.op 0 true)])[H.length]? = some (.cells (u8s s) 5 (.op 0 true)) := by rw [hp_new0]; rfl
 by_cases hlt : i < s.length
 ·obtain ⟨c, hc⟩ : ∃ c, s[i]? = some c := ⟨_, List.getElem?_eq_getElem hlt⟩
  have hcl := c.toNat_lt
  have hw := wrap_succ (show i < 9223372036854775807 by omega)
  have hld := fun (e : TypeId) (k : Kd) => u8s_ld (n := 1) (e := e) (k := k) hc
  have hlo := fun H k => str_lower c H k
  rw [drop_at hc] at hp
  have w10 : IntKind.u8.wrap 10 = 10 := by decide
  have hif : ∀ n : Int, ifaceV Tryz.prog 187 (.int .i64 n) = some (.iface 187 (.int .i64 n)) := by intro n; simp only [ifaceV, tsh_187]
  have w11 : IntKind.u64.wrap 10 = 10 := by decide
  by_cases hd : isD c = true
  ·have hd' : 48 ≤ c.toNat ∧ c.toNat ≤ 57 := by simpa [isD] using hd
   rw [puE, if_pos hd] at hp
   have a0 : ((c.toNat : Int) == 95) = false := by simp; omega
   have a1 : decide (48 ≤ (c.toNat : Int)) = true := by simp; omega
   have a2 : decide ((c.toNat : Int) ≤ 57) = true := by simp; omega
   have w1 : IntKind.u8.wrap ((c.toNat : Int) - 48) = ((c.toNat - 48 : Nat) : Int) := by rw [wrap_u8 (by omega)]; omega
   have a3 : decide (((c.toNat - 48 : Nat) : Int) ≥ 10) = false := by simp; omega
   have a4 : decide ((V : Int) ≥ 1844674407370955162) = false := by simp; omega
   have w2 : IntKind.u64.wrap ((V : Int) * 10) = ((10 * V : Nat) : Int) := by rw [wrap_u64 (by omega)]; omega
   have w3 : IntKind.u64.wrap ((c.toNat - 48 : Nat) : Int) = ((c.toNat - 48 : Nat) : Int) := wrap_u64 (by omega)
   have w4 : IntKind.u64.wrap (((10 * V : Nat) : Int) + ((c.toNat - 48 : Nat) : Int)) = ((10 * V + (c.toNat - 48) : Nat) : Int) := by rw [wrap_u64 (by omega)]; omega
   have a5 : (10 * V + (c.toNat - 48) < 10 * V) = False := by apply eq_false; omega
   by_cases ho : mx < 10 * V + (c.toNat - 48)
   ·rw [if_pos ho] at hp
    rw [hp]
    have a6 : mx < 10 * V + (c.toNat - 48) := ho
    simp only [go_sem, simprocAttr, hl, h0, h1, h8, h10, h11, h12, h13, h99, h100, h101, hlt, hg, hld, a0, a1, a2, w1, w10, w11, a3, a4, w2, w3, w4, a5, gt_iff_lt, a6, hw, hif]
    exact leave_flat (by simp [flat, flats]) he
   ·rw [if_neg ho] at hp
    have a6 : ¬ mx < 10 * V + (c.toNat - 48) := ho
    simp only [go_sem, simprocAttr, hl, h0, h1, h8, h10, h11, h12, h13, h99, h100, h101, hlt, hg, hld, a0, a1, a2, w1, w10, w11, a3, a4, w2, w3, w4, a5, gt_iff_lt, a6, hw, hif]
    exact ⟨n - 1, by omega, _, i + 1, _, _, by omega, hp, by omega, rfl, he, by simp only [go_sem, simprocAttr, hl], by simp only [go_sem, simprocAttr, hl, h0], by simp only [go_sem, simprocAttr, hl, h1], by simp only [go_sem, simprocAttr, hl, h8], by simp only [go_sem, simprocAttr, hl, h10], by simp only [go_sem, simprocAttr, hl, h11], by simp only [go_sem, simprocAttr, hl, h12], by simp only [go_sem, simprocAttr, hl], by simp only [go_sem, simprocAttr, hl, h99], by simp only [go_sem, simprocAttr, hl, h100], by simp only [go_sem, simprocAttr, hl]⟩
  ·rw [puE, if_neg hd] at hp
   rw [hp]
   have hd' : c.toNat < 48 ∨ 57 < c.toNat := by
    have : ¬ (48 ≤ c.toNat ∧ c.toNat ≤ 57) := by simpa [isD] using hd
    omega
   have hLl := (c ||| 32).toNat_lt
   have y1 : decide (48 ≤ (c.toNat : Int)) = true ∧ decide ((c.toNat : Int) ≤ 57) = false ∨ decide (48 ≤ (c.toNat : Int)) = false := by
    rcases hd' with h | h
    ·exact .inr (by simp; omega)
    ·exact .inl ⟨by simp; omega, by simp; omega⟩
   generalize hL : (c ||| 32).toNat = L at *
   have w6 : 97 ≤ L → L ≤ 122 → decide (IntKind.u8.wrap (IntKind.u8.wrap ((L : Int) - 97) + 10) ≥ 10) = true := by
    intro h1 h2
    have e1 : IntKind.u8.wrap ((L : Int) - 97) = ((L - 97 : Nat) : Int) := by rw [wrap_u8 (by omega)]; omega
    rw [e1, wrap_u8 (by omega)]; simp; omega
   by_cases x4 : 97 ≤ L
   ·have z4 : decide (97 ≤ (L : Int)) = true := by simp; omega
    by_cases x5 : L ≤ 122
    ·have z5 : decide ((L : Int) ≤ 122) = true := by simp; omega
     have w6 := w6 x4 x5
     rcases y1 with ⟨y1, y2⟩ | y1 <;> cases x1 : ((c.toNat : Int) == 95)
     all_goals
      first | simp only [go_sem, simprocAttr, hl, h0, h1, h8, h10, h11, h12, h13, h99, h100, h101, hlt, hg, hld, hlo, hL, x1, y1, y2, z4, z5, w6, w10, hif] | simp only [go_sem, simprocAttr, hl, h0, h1, h8, h10, h11, h12, h13, h99, h100, h101, hlt, hg, hld, hlo, hL, x1, y1, z4, z5, w6, w10, hif]
      exact leave_flat (by simp [flat, flats]) he
    ·have z5 : decide ((L : Int) ≤ 122) = false := by simp; omega
     rcases y1 with ⟨y1, y2⟩ | y1 <;> cases x1 : ((c.toNat : Int) == 95)
     all_goals
      first | simp only [go_sem, simprocAttr, hl, h0, h1, h8, h10, h11, h12, h13, h99, h100, h101, hlt, hg, hld, hlo, hL, x1, y1, y2, z4, z5, w10, hif] | simp only [go_sem, simprocAttr, hl, h0, h1, h8, h10, h11, h12, h13, h99, h100, h101, hlt, hg, hld, hlo, hL, x1, y1, z4, z5, w10, hif]
      exact leave_flat (by simp [flat, flats]) he
   ·have z4 : decide (97 ≤ (L : Int)) = false := by simp; omega
    rcases y1 with ⟨y1, y2⟩ | y1 <;> cases x1 : ((c.toNat : Int) == 95)
    all_goals
     first | simp only [go_sem, simprocAttr, hl, h0, h1, h8, h10, h11, h12, h13, h99, h100, h101, hlt, hg, hld, hlo, hL, x1, y1, y2, z4, w10, hif] | simp only [go_sem, simprocAttr, hl, h0, h1, h8, h10, h11, h12, h13, h99, h100, h101, hlt, hg, hld, hlo, hL, x1, y1, z4, w10, hif]
     exact leave_flat (by simp [flat, flats]) he
 ·have hi : i = s.length := by omega
  subst hi
  rw [List.drop_length] at hp
  rw [hp]
  simp only [go_sem, simprocAttr, hl, h0, h1, h8, h10, h11, h12, h13, h99, h100, h101, hlt]
  exact leave_flat (by simp [flat, flats]) he
end Go.Proofs.YtdppgaphcmhffaaGreatDoor.V
namespace Go.Proofs.YtdppgaphcmhffaaGreatDoor.V
open Go
attribute [local irreducible] go goOps goD opK callK callT stepK leaveTo nextK

def valF (v : Nat) (s : List UInt8) : Nat := s.foldl (fun v c => 10 * v + (c.toNat - 48)) v
theorem valF_ge : ∀ (s : List UInt8) (v : Nat), v * 10 ^ s.length ≤ valF v s
 | [], v => by simp [valF]
 | c :: r, v => by
  have := valF_ge r (10 * v + (c.toNat - 48))
  refine Nat.le_trans ?_ this
  rw [List.length_cons, Nat.pow_succ, Nat.mul_comm (10 ^ r.length) 10, ← Nat.mul_assoc]
  exact Nat.mul_le_mul_right _ (by omega)
theorem valF_le (s : List UInt8) (v : Nat) : v ≤ valF v s :=
 Nat.le_trans (Nat.le_mul_of_pos_right v (Nat.pow_pos (by decide))) (valF_ge s v)
theorem puE_spec {mx : Nat} : ∀ (s : List UInt8) (v : Nat), (s.all isD = true ∧ valF v s ≤ mx → puE mx s v = (valF v s, 0)) ∧ (¬ (s.all isD = true ∧ valF v s ≤ mx) → v ≤ mx → (puE mx s v).2 = 1 ∨ (puE mx s v).2 = 2)
 | [], v => ⟨fun _ => rfl, fun h hv => absurd ⟨rfl, hv⟩ h⟩
 | c :: r, v => by
  have ih := puE_spec (mx := mx) r (10 * v + (c.toNat - 48))
  have hF : valF v (c :: r) = valF (10 * v + (c.toNat - 48)) r := rfl
  have hle := valF_le r (10 * v + (c.toNat - 48))
  rw [hF]
  by_cases hd : isD c = true
  ·rw [puE, if_pos hd]
   by_cases ho : mx < 10 * v + (c.toNat - 48)
   ·rw [if_pos ho]
    exact ⟨fun h => by omega, fun _ _ => .inl rfl⟩
   ·rw [if_neg ho]
    refine ⟨fun ⟨h1, h2⟩ => ih.1 ⟨by simp only [List.all_cons, hd, Bool.true_and] at h1; exact h1, h2⟩, fun h _ => ih.2 (fun ⟨h1, h2⟩ => h ⟨by simp only [List.all_cons, hd, Bool.true_and]; exact h1, h2⟩) (by omega)⟩
  ·rw [puE, if_neg hd]
   refine ⟨fun ⟨h1, _⟩ => ?_, fun _ _ => .inr rfl⟩
   simp only [List.all_cons, Bool.and_eq_true] at h1
   exact absurd h1.1 hd
theorem numS_pu {mx : Nat} (hmx : mx ≤ 4294967295) {s : List UInt8} (hz : s ≠ []) (h0 : ¬ (1 < s.length ∧ s[0]? = some 48)) : numS s mx = if (puE mx s 0).2 = 0 then some (puE mx s 0).1 else none := by
 have sp := puE_spec (mx := mx) s 0
 by_cases hg : s.all isD = true ∧ valF 0 s ≤ mx
 ·rw [sp.1 hg, if_pos rfl]
  have hl : ¬ 12 < s.length := by
   intro hl
   obtain ⟨c, r, rfl⟩ := List.exists_cons_of_ne_nil hz
   have h1 := valF_ge r (10 * 0 + (c.toNat - 48))
   have hc : isD c = true := by have := hg.1; simp only [List.all_cons, Bool.and_eq_true] at this; exact this.1
   have hc' : 48 ≤ c.toNat ∧ c.toNat ≤ 57 := by simpa [isD] using hc
   have hne : c.toNat ≠ 48 := fun h => h0 ⟨by omega, by simp; exact UInt8.toNat.inj h⟩
   have hp : 10 ^ 12 ≤ 10 ^ r.length := Nat.pow_le_pow_right (by decide) (by simp only [List.length_cons] at hl; omega)
   have h2 : 1 * 10 ^ r.length ≤ (10 * 0 + (c.toNat - 48)) * 10 ^ r.length := Nat.mul_le_mul_right _ (by omega)
   have h3 : valF (10 * 0 + (c.toNat - 48)) r ≤ mx := hg.2
   omega
  unfold numS
  rw [if_neg (by
   rintro (h | h | h)
   ·exact hz h
   ·exact h0 h
   ·exact hl h), if_pos hg.1]
  exact if_pos hg.2
 ·have h1 := sp.2 hg (by omega)
  rw [if_neg (by omega)]
  unfold numS
  split
  ·rfl
  ·split
   ·rename_i ha
    exact if_neg (fun h => hg ⟨ha, h⟩)
   ·rfl
theorem numS_plus {mx : Nat} {s : List UInt8} (h : s[0]? = some 43) : numS s mx = none := by
 unfold numS
 split
 ·rfl
 ·rw [if_neg]
  rw [all_not h (by decide)]; simp

def Te (H : Hp) : Prop := (∃ e k u b, H[4]? = some (.cells [.iface u b] e k)) ∧ (∃ e k u b, H[5]? = some (.cells [.iface u b] e k))
theorem Te.old {H : Hp} (h : Te H) (l : Hp) : Te (H ++ l) := by
 obtain ⟨⟨e, k, u, b, h1⟩, ⟨e', k', u', b', h2⟩⟩ := h
 exact ⟨⟨e, k, u, b, get_app h1⟩, ⟨e', k', u', b', get_app h2⟩⟩
theorem flats_u8s : ∀ s : List UInt8, flats (u8s s) = true
 | [] => rfl
 | c :: s => by
  have := flats_u8s s
  unfold u8s at this ⊢
  rw [List.map_cons]
  simp only [flats, flat, this, Bool.and_self]
set_option maxRecDepth 20000 in
theorem sl_clone (s : List UInt8) (H k) (hs : s.length ≤ 1048576) : callK Tryz.prog 153 [.str s] H k = k (.str s, H, z0) := by
 refine callK_eq (r := (.str s, H, z0)) ?_ k
 refine callK_start (n := 18) (rs := [.tmp 2]) Tryz.func153 rfl rfl rfl ?_
 intro σ hl ha
 have h0 := ha 0 (by simp)
 clear ha
 simp only [Option.getD_some, List.getElem?_cons_zero, List.getElem?_cons_succ] at h0
 by_cases hz : s = []
 ·subst hz
  simp only [go_sem, simprocAttr, hl, h0]
 ·have hpos : 0 < s.length := List.length_pos_iff.2 hz
  have g0 : ((s.length : Int) == 0) = false := by simp; exact hz
  have hmk : ∀ H', evMake Tryz.prog 71 (.int .i64 s.length) (.int .i64 s.length) H' = some (.slice H'.length 0 s.length (.ex s.length), H' ++ [.cells (List.replicate s.length (.int .u8 0)) 5 .rw]) := by
   intro H'
   have hr : ∀ n, rep [.int .u8 0] n = List.replicate n (AV.int .u8 0) := by
    intro n; induction n with
    | zero => rfl
    | succ n ih => rw [rep, ih]; rfl
   simp only [evMake, tsh_71, tzero_5, Option.bind_some]
   rw [if_pos (by omega)]
   simp [hr]
  have hcp : ∀ x, evCopy Tryz.prog 71 (.slice H.length 0 s.length x) (.str s) (H ++ [.cells (List.replicate s.length (.int .u8 0)) 5 .rw]) = some (.int .i64 s.length, H ++ [.cells (u8s s) 5 .rw], ⟨none, some H.length⟩) := by
   intro x
   have hg : (H ++ [ABlk.cells (List.replicate s.length (.int .u8 0)) 5 .rw])[H.length]? = some (.cells (List.replicate s.length (.int .u8 0)) 5 .rw) := by rw [hp_new0]; rfl
   have hsc : (u8s s).all scal = true := by simp [u8s, scal]
   have hfl : flats (u8s s) = true := flats_u8s s
   have hsp : splice (List.replicate s.length (AV.int .u8 0)) 0 (u8s s) = u8s s := by
    unfold splice
    rw [List.take_zero, List.nil_append, List.drop_eq_nil_of_le (by simp [u8s]), List.append_nil]
   simp only [evCopy, tsh_71, appended, Option.bind_some]
   have ht : List.take (min s.length s.length * 1) (s.map fun b => AV.int .u8 (b.toNat : Int)) = u8s s := by
    rw [List.take_of_length_le (by simp)]; rfl
   simp only [if_true, Option.bind_some, ht]
   unfold wr
   rw [hg]
   simp only
   rw [if_pos ⟨by simp [u8s], rfl, hsc⟩, hsp, hfl]
   simp [hp_set]
  have hst : ∀ H', H'[H.length]? = some (.cells (u8s s) 5 .rw) → evString Tryz.prog 122 (.ptr H.length 0) (.int .i64 s.length) H' = some (.str s, H'.set H.length .dead, ⟨none, some H.length⟩) := by
   intro H' hg
   have c1 : ¬ ((s.length : Int) = 0) := by omega
   have c2 : 0 < (s.length : Int) ∧ (s.length : Int) ≤ 9223372036854775807 := by omega
   have c3 : Tryz.prog.cellsOf 5 = 1 := by kernel_rfl
   have c5 : ((u8s s).drop 0).take (s.length : Int).toNat = u8s s := by
    rw [List.drop_zero, List.take_of_length_le (by rw [u8s_len]; simp)]
   simp only [evString, tsh_122, hg]
   rw [if_neg c1, if_pos c2, if_pos ⟨trivial, tsize_5, c3, by rw [u8s_len]; simp⟩, c5, bytes_u8s]
   simp
  have hst := hst (H ++ [.cells (u8s s) 5 .rw]) (by rw [hp_new0]; rfl)
  simp only [go_sem, simprocAttr, hl, h0, g0, hmk, hcp, hst, hpos]
  omega

set_option maxRecDepth 20000 in
theorem isIface_er : (match Tryz.prog.underlying 75 with | some (.interface _) => true | _ => false) = true := by kernel_rfl
theorem und_se : Tryz.prog.underlying 187 = some (.int .i64) := by kernel_rfl
set_option maxRecDepth 20000 in
theorem cmp_se : (Tryz.prog.info? 187).map (·.comparable) = some true := by kernel_rfl
set_option maxRecDepth 20000 in
theorem eqErr {a b : Int} {c : Bool} : binV Tryz.prog .eql 75 (.iface 187 (.int .i64 a)) (.iface 187 (.int .i64 b)) c = some (.bool (a == b)) := by
 obtain ⟨ms, hu⟩ : ∃ ms, Tryz.prog.underlying 75 = some (.interface ms) := by
  have := isIface_er
  split at this
  ·exact ⟨_, ‹_›⟩
  ·cases this
 obtain ⟨i, hi, hc⟩ : ∃ i, Tryz.prog.info? 187 = some i ∧ i.comparable = true := by
  have := cmp_se
  rw [Option.map_eq_some_iff] at this
  exact this
 simp [binV, evBin, evEq, hu, hi, hc, und_se]
theorem isC_c {v : Value} : evOp.isConst (.const v) = true := rfl
theorem neNN : binV Tryz.prog .neq 75 .nili .nili true = some (.bool false) := by
 simp only [binV, if_true, tsh_75]
set_option maxRecDepth 20000 in
theorem neNI {c : Bool} {u : TypeId} {v : AV} : binV Tryz.prog .neq 75 (.iface u v) .nili c = some (.bool true) := by
 obtain ⟨ms, hu⟩ : ∃ ms, Tryz.prog.underlying 75 = some (.interface ms) := by
  have := isIface_er
  split at this
  ·exact ⟨_, ‹_›⟩
  ·cases this
 simp [binV, evBin, evEq, hu]
attribute [go_sem] eqErr isC_c neNN neNI
theorem bd_ne (a b : List UInt8) (u : TypeId) (x : AV) : evBuild Tryz.prog 210 [(0, .str a), (1, .str b), (2, .iface u x)] = some (.agg [.str a, .str b, .iface u x]) := by
 simp only [evBuild, tsh_210, tzero_210, tplaces_210, Option.bind_some]
 rfl
set_option maxRecDepth 20000 in
theorem sc_syntaxError (a s : List UInt8) (H) (ht : Te H) (hs : s.length ≤ 1048576) : ∃ x : ABlk, ∀ l k, callK Tryz.prog 132 [.str a, .str s] (H ++ l) k = k (.ptr (H ++ l).length 0, H ++ (l ++ [x]), z0) := by
 obtain ⟨e0, k0, u, b, hg⟩ := ht.1
 refine ⟨.cells [.str a, .str s, .iface u b] 210 .rw, fun l k => ?_⟩
 refine callK_eq (r := (.ptr (H ++ l).length 0, H ++ (l ++ [.cells [.str a, .str s, .iface u b] 210 .rw]), z0)) ?_ k
 refine callK_start (n := 11) (rs := [.tmp 4]) Tryz.func132 rfl rfl rfl ?_
 intro σ hl ha
 have h0 := ha 0 (by simp)
 have h1 := ha 1 (by simp)
 clear ha
 simp only [Option.getD_some, List.getElem?_cons_zero, List.getElem?_cons_succ] at h0 h1
 have hc := fun k => sl_clone s (H ++ l) k hs
 have hg' : (H ++ l)[4]? = some (.cells [.iface u b] e0 k0) := get_app hg
 have hbd := bd_ne a s u b
 simp only [go_sem, simprocAttr, hl, h0, h1, hc, hg', hbd]
 refine go_drawZ tFollows (by kernel_rfl) ?_
 simp only [go_sem, simprocAttr, hl, h0, h1, hc, hg', hbd]
 kernel_rfl
set_option maxRecDepth 20000 in
theorem sc_rangeError (a s : List UInt8) (H) (ht : Te H) (hs : s.length ≤ 1048576) : ∃ x : ABlk, ∀ l k, callK Tryz.prog 133 [.str a, .str s] (H ++ l) k = k (.ptr (H ++ l).length 0, H ++ (l ++ [x]), z0) := by
 obtain ⟨e0, k0, u, b, hg⟩ := ht.2
 refine ⟨.cells [.str a, .str s, .iface u b] 210 .rw, fun l k => ?_⟩
 refine callK_eq (r := (.ptr (H ++ l).length 0, H ++ (l ++ [.cells [.str a, .str s, .iface u b] 210 .rw]), z0)) ?_ k
 refine callK_start (n := 11) (rs := [.tmp 4]) Tryz.func133 rfl rfl rfl ?_
 intro σ hl ha
 have h0 := ha 0 (by simp)
 have h1 := ha 1 (by simp)
 clear ha
 simp only [Option.getD_some, List.getElem?_cons_zero, List.getElem?_cons_succ] at h0 h1
 have hc := fun k => sl_clone s (H ++ l) k hs
 have hg' : (H ++ l)[5]? = some (.cells [.iface u b] e0 k0) := get_app hg
 have hbd := bd_ne a s u b
 simp only [go_sem, simprocAttr, hl, h0, h1, hc, hg', hbd]
 refine go_drawZ tFollows (by kernel_rfl) ?_
 simp only [go_sem, simprocAttr, hl, h0, h1, hc, hg', hbd]
 kernel_rfl
set_option maxRecDepth 20000 in
theorem sc_toError (bits : Int) (a s : List UInt8) (n : Nat) (hn : n = 1 ∨ n = 2) (H) (ht : Te H) (hs : s.length ≤ 1048576) : ∃ x : ABlk, ∀ k, callK Tryz.prog 109 [.str a, .str s, .int .i64 10, .int .i64 bits, .iface 187 (.int .i64 (n : Nat))] H k = k (.iface 189 (.ptr H.length 0), H ++ [x], z0) := by
 obtain ⟨x1, hx1⟩ := sc_syntaxError a s H ht hs
 obtain ⟨x2, hx2⟩ := sc_rangeError a s H ht hs
 have hx1 := fun k => hx1 [] k
 have hx2 := fun k => hx2 [] k
 simp only [List.append_nil, List.nil_append] at hx1 hx2
 have hif : ∀ n : Int, ifaceV Tryz.prog 187 (.int .i64 n) = some (.iface 187 (.int .i64 n)) := by intro n; simp only [ifaceV, tsh_187]
 have hip : ∀ n : Nat, ifaceV Tryz.prog 189 (.ptr n 0) = some (.iface 189 (.ptr n 0)) := by intro n; simp only [ifaceV, tsh_189]
 refine ⟨if n = 2 then x1 else x2, fun k => ?_⟩
 refine callK_eq (r := (.iface 189 (.ptr H.length 0), H ++ [if n = 2 then x1 else x2], z0)) ?_ k
 refine callK_start (n := 43) (rs := [.tmp 10]) Tryz.func109 rfl rfl rfl ?_
 intro σ hl ha
 have h0 := ha 0 (by simp)
 have h1 := ha 1 (by simp)
 have h2 := ha 2 (by simp)
 have h3 := ha 3 (by simp)
 have h4 := ha 4 (by simp)
 clear ha
 simp only [Option.getD_some, List.getElem?_cons_zero, List.getElem?_cons_succ] at h0 h1 h2 h3 h4
 rcases hn with rfl | rfl
 ·simp only [go_sem, simprocAttr, hl, h0, h1, h2, h3, h4, hx1, hx2, hif, hip]
 ·simp only [go_sem, simprocAttr, hl, h0, h1, h2, h3, h4, hx1, hx2, hif, hip]
set_option maxRecDepth 20000 in
theorem parse_uint_ok (s : List UInt8) (bits : Int) (mx : Nat) (hb : Bits bits mx) (H k) (hz : s ≠ []) (hs : s.length ≤ 1048576) (he : (puE mx s 0).2 = 0) : callK Tryz.prog 74 [.str s, .int .i64 10, .int .i64 bits] H k = k (.tuple [.int .u64 ((puE mx s 0).1 : Nat), .nili], H, z0) := by
 refine callK_eq (r := (.tuple [.int .u64 ((puE mx s 0).1 : Nat), .nili], H, z0)) ?_ k
 refine callK_start (n := 26) (rs := [.tmp 6, .tmp 7]) Tryz.func74 rfl rfl rfl ?_
 intro σ hl ha
 have h0 := ha 0 (by simp)
 have h1 := ha 1 (by simp)
 have h2 := ha 2 (by simp)
 clear ha
 simp only [Option.getD_some, List.getElem?_cons_zero, List.getElem?_cons_succ] at h0 h1 h2
 have hp := fun k => parse_uint_i s bits mx hb H k hz hs
 rw [he] at hp
 simp only [errP, if_true] at hp
 simp only [go_sem, simprocAttr, hl, h0, h1, h2, hp]
set_option maxRecDepth 20000 in
theorem parse_uint_bad (s : List UInt8) (bits : Int) (mx : Nat) (hb : Bits bits mx) (H) (ht : Te H) (hz : s ≠ []) (hs : s.length ≤ 1048576) (he : (puE mx s 0).2 = 1 ∨ (puE mx s 0).2 = 2) : ∃ x : ABlk, ∀ k, callK Tryz.prog 74 [.str s, .int .i64 10, .int .i64 bits] H k = k (.tuple [.int .u64 ((puE mx s 0).1 : Nat), .iface 189 (.ptr H.length 0)], H ++ [x], z0) := by
 obtain ⟨x, hx⟩ := sc_toError bits [80, 97, 114, 115, 101, 85, 105, 110, 116] s _ he H ht hs
 refine ⟨x, fun k => ?_⟩
 refine callK_eq (r := (.tuple [.int .u64 ((puE mx s 0).1 : Nat), .iface 189 (.ptr H.length 0)], H ++ [x], z0)) ?_ k
 refine callK_start (n := 26) (rs := [.tmp 6, .tmp 7]) Tryz.func74 rfl rfl rfl ?_
 intro σ hl ha
 have h0 := ha 0 (by simp)
 have h1 := ha 1 (by simp)
 have h2 := ha 2 (by simp)
 clear ha
 simp only [Option.getD_some, List.getElem?_cons_zero, List.getElem?_cons_succ] at h0 h1 h2
 have hp := fun k => parse_uint_i s bits mx hb H k hz hs
 have hne : (puE mx s 0).2 ≠ 0 := by omega
 simp only [errP, if_neg hne] at hp
 simp only [go_sem, simprocAttr, hl, h0, h1, h2, hp, hx]

set_option maxRecDepth 20000 in
theorem rdata_number (s : List UInt8) (bits : Int) (mx : Nat) (hb : Bits bits mx) (hmx : mx ≤ 4294967295) (H k) (ht : Te H) (hs : s.length ≤ 1048576) : callK Tryz.prog 77 [.str s, .int .i64 bits] H k = k (.tuple [.int .u32 (((numS s mx).getD 0 : Nat)), .bool (numS s mx).isSome], H, z0) := by
 refine callK_eq (r := (.tuple [.int .u32 (((numS s mx).getD 0 : Nat)), .bool (numS s mx).isSome], H, z0)) ?_ k
 refine callK_start (n := 35) (rs := [.tmp 4, .tmp 5]) Tryz.func77 rfl rfl rfl ?_
 intro σ hl ha
 have h0 := ha 0 (by simp)
 have h1 := ha 1 (by simp)
 clear ha
 simp only [Option.getD_some, List.getElem?_cons_zero, List.getElem?_cons_succ] at h0 h1
 by_cases hz : s = []
 ·rw [numS_bad (.inl hz)]
  subst hz
  simp only [go_sem, simprocAttr, hl, h0, h1, Option.getD_none, Option.isSome_none]
 have hpos : 0 < s.length := List.length_pos_iff.2 hz
 obtain ⟨c, hc⟩ : ∃ c, s[0]? = some c := ⟨_, List.getElem?_eq_getElem hpos⟩
 have e0 : (s == []) = false := by simpa using hz
 have hcl := c.toNat_lt
 by_cases hld : 1 < s.length ∧ c.toNat = 48
 ·rw [numS_bad (.inr (.inl ⟨hld.1, by rw [hc]; congr 1; exact UInt8.toNat.inj hld.2⟩))]
  have g1 : decide ((s.length : Int) > 1) = true := by simp; omega
  have g2 : ((c.toNat : Int) == 48) = true := by simp; omega
  simp only [go_sem, simprocAttr, hl, h0, h1, hc, hpos, g1, g2, e0, Option.getD_none, Option.isSome_none]
 have hcase : (decide ((s.length : Int) > 1) = true ∧ ((c.toNat : Int) == 48) = false) ∨ decide ((s.length : Int) > 1) = false := by
  by_cases h1 : 1 < s.length
  ·exact .inl ⟨by simp; omega, by simp; intro h; exact hld ⟨h1, by omega⟩⟩
  ·exact .inr (by simp; omega)
 by_cases hp : c.toNat = 43
 ·rw [numS_plus (by rw [hc]; congr 1; exact UInt8.toNat.inj hp)]
  have g3 : ((c.toNat : Int) == 43) = true := by simp; omega
  rcases hcase with ⟨g1, g2⟩ | g1
  ·simp only [go_sem, simprocAttr, hl, h0, h1, hc, hpos, g1, g2, g3, e0, Option.getD_none, Option.isSome_none]
  ·simp only [go_sem, simprocAttr, hl, h0, h1, hc, hpos, g1, g3, e0, Option.getD_none, Option.isSome_none]
 have g3 : ((c.toNat : Int) == 43) = false := by simp; omega
 have hnb : ¬ (1 < s.length ∧ s[0]? = some 48) := by
  rintro ⟨h1, h2⟩
  rw [hc] at h2
  cases h2
  exact hld ⟨h1, rfl⟩
 rw [numS_pu hmx hz hnb]
 by_cases he : (puE mx s 0).2 = 0
 ·have hpu := fun k => parse_uint_ok s bits mx hb H k hz hs he
  rw [if_pos he]
  have hle : (puE mx s 0).1 ≤ mx := by
   by_cases hg : s.all isD = true ∧ valF 0 s ≤ mx
   ·rw [(puE_spec (mx := mx) s 0).1 hg]; exact hg.2
   ·have := (puE_spec (mx := mx) s 0).2 hg (by omega); omega
  have w0 : IntKind.u32.wrap ((puE mx s 0).1 : Int) = ((puE mx s 0).1 : Int) := wrap_u32 (by omega)
  rcases hcase with ⟨g1, g2⟩ | g1
  ·simp only [go_sem, simprocAttr, hl, h0, h1, hc, hpos, g1, g2, g3, e0, hpu, w0, Option.getD_some, Option.isSome_some]
  ·simp only [go_sem, simprocAttr, hl, h0, h1, hc, hpos, g1, g3, e0, hpu, w0, Option.getD_some, Option.isSome_some]
 ·have hbd : (puE mx s 0).2 = 1 ∨ (puE mx s 0).2 = 2 := by
   by_cases hg : s.all isD = true ∧ valF 0 s ≤ mx
   ·exact absurd (by rw [(puE_spec (mx := mx) s 0).1 hg]) he
   ·exact (puE_spec (mx := mx) s 0).2 hg (by omega)
  obtain ⟨x, hpu⟩ := parse_uint_bad s bits mx hb H ht hz hs hbd
  rw [if_neg he]
  rcases hcase with ⟨g1, g2⟩ | g1
  ·simp only [go_sem, simprocAttr, hl, h0, h1, hc, hpos, g1, g2, g3, e0, hpu, Option.getD_none, Option.isSome_none]
   try exact leave_flat (by simp [flat, flats]) (by simp [clean, low, Ef.and, omin])
  ·simp only [go_sem, simprocAttr, hl, h0, h1, hc, hpos, g1, g3, e0, hpu, Option.getD_none, Option.isSome_none]
   try exact leave_flat (by simp [flat, flats]) (by simp [clean, low, Ef.and, omin])
end Go.Proofs.YtdppgaphcmhffaaGreatDoor.V
namespace Go.Proofs.YtdppgaphcmhffaaGreatDoor.V
open Go
attribute [local irreducible] go goOps goD opK callK callT stepK leaveTo nextK

def splitB (c : UInt8) : List UInt8 → List (List UInt8)
 | [] => [[]]
 | x :: r => if x = c then [] :: splitB c r else match splitB c r with
  | [] => [[x]]
  | h :: t => (x :: h) :: t
theorem splitB_len (c : UInt8) : ∀ s : List UInt8, (splitB c s).length = s.count c + 1
 | [] => rfl
 | x :: r => by
  have ih := splitB_len c r
  unfold splitB
  split
  ·rename_i h; subst h; simp [ih]
  ·rename_i h
   have e : (x :: r).count c = r.count c := List.count_cons_of_ne h
   rw [e]
   cases hs : splitB c r with
   | nil => rw [hs] at ih; simp at ih
   | cons a b => rw [hs] at ih; simpa using ih
theorem splitB_no (c : UInt8) : ∀ s : List UInt8, c ∉ s → splitB c s = [s]
 | [], _ => rfl
 | x :: r, h => by
  have h1 : x ≠ c := fun e => h (by simp [e])
  have h2 := splitB_no c r (fun e => h (by simp [e]))
  unfold splitB
  rw [if_neg h1, h2]
theorem splitB_at (c : UInt8) : ∀ (x r : List UInt8), c ∉ x → splitB c (x ++ c :: r) = x :: splitB c r
 | [], r, _ => by show splitB c (c :: r) = _; rw [splitB, if_pos rfl]
 | y :: x, r, h => by
  have h1 : y ≠ c := fun e => h (by simp [e])
  have h2 := splitB_at c x r (fun e => h (by simp [e]))
  show splitB c (y :: (x ++ c :: r)) = _
  rw [splitB, if_neg h1, h2]
theorem splitB_join (c : UInt8) : ∀ (x : List UInt8) (r : List (List UInt8)), c ∉ x → (∀ y ∈ r, c ∉ y) → splitB c (x ++ r.flatMap ([c] ++ ·)) = x :: r
 | x, [], h, _ => by rw [List.flatMap_nil, List.append_nil]; exact splitB_no c x h
 | x, y :: r, h, hr => by
  have e : (y :: r).flatMap ([c] ++ ·) = c :: (y ++ r.flatMap ([c] ++ ·)) := rfl
  rw [e, splitB_at c x _ h, splitB_join c y r (hr y (by simp)) (fun z hz => hr z (by simp [hz]))]
theorem idx_or (s : List UInt8) (c : UInt8) : (Lib.indexByte s c = -1 ∧ c ∉ s) ∨ ∃ o : Nat, Lib.indexByte s c = o ∧ o < s.length ∧ s = s.take o ++ c :: s.drop (o + 1) ∧ c ∉ s.take o := by
 have h1 := Lib.indexByte_ge s c
 by_cases h : Lib.indexByte s c = -1
 ·refine .inl ⟨h, fun hm => ?_⟩
  obtain ⟨k, hk⟩ := List.getElem?_of_mem hm
  exact Lib.indexByte_none h k hk
 ·obtain ⟨o, ho⟩ : ∃ o : Nat, Lib.indexByte s c = o := ⟨(Lib.indexByte s c).toNat, by omega⟩
  obtain ⟨h2, h3⟩ := Lib.indexByte_some ho
  have hlt := (List.getElem?_eq_some_iff.1 h2).1
  refine .inr ⟨o, ho, hlt, ?_, fun hm => ?_⟩
  ·rw [← drop_at h2, List.take_append_drop]
  ·obtain ⟨k, hk⟩ := List.getElem?_of_mem hm
   rw [List.getElem?_take] at hk
   split at hk
   ·rename_i hko; exact h3 k hko hk
   ·cases hk
theorem u8_back (c : UInt8) : c.toNat.toUInt8 = c := UInt8.ofNat_toNat
theorem sl_IndexByte (s : List UInt8) (c : UInt8) (H k) : callK Tryz.prog 155 [.str s, .int .u8 c.toNat] H k = k (.int .i64 (Lib.indexByte s c), H, z0) := by
 refine callK_eq (r := (.int .i64 (Lib.indexByte s c), H, z0)) ?_ k
 refine callK_start (n := 8) (rs := [.tmp 4]) Tryz.func155 rfl rfl rfl ?_
 intro σ hl ha
 have h0 := ha 0 (by simp)
 have h1 := ha 1 (by simp)
 clear ha
 simp only [Option.getD_some, List.getElem?_cons_zero, List.getElem?_cons_succ] at h0 h1
 simp only [go_sem, simprocAttr, hl, h0, h1, u8_back]
theorem sl_Index1 (s : List UInt8) (c : UInt8) (H k) : callK Tryz.prog 161 [.str s, .str [c]] H k = k (.int .i64 (Lib.indexByte s c), H, z0) := by
 refine callK_eq (r := (.int .i64 (Lib.indexByte s c), H, z0)) ?_ k
 refine callK_start (n := 143) (rs := [.tmp 4]) Tryz.func161 rfl rfl rfl ?_
 intro σ hl ha
 have h0 := ha 0 (by simp)
 have h1 := ha 1 (by simp)
 clear ha
 simp only [Option.getD_some, List.getElem?_cons_zero, List.getElem?_cons_succ] at h0 h1
 by_cases he : s = [c]
 ·have e0 : ([c] == s) = true := by rw [he]; exact beq_self_eq_true _
  have hi : Lib.indexByte s c = 0 := by rw [he]; simp [Lib.indexByte]
  rw [hi]
  simp only [go_sem, simprocAttr, hl, h0, h1, e0]
 ·have e0 : ([c] == s) = false := by rw [beq_eq_false_iff_ne]; exact fun h => he h.symm
  have hi := fun k => sl_IndexByte s c H k
  simp only [go_sem, simprocAttr, hl, h0, h1, e0, hi]
theorem s_Index1 (s : List UInt8) (c : UInt8) (H k) : callK Tryz.prog 160 [.str s, .str [c]] H k = k (.int .i64 (Lib.indexByte s c), H, z0) := by
 refine callK_eq (r := (.int .i64 (Lib.indexByte s c), H, z0)) ?_ k
 refine callK_start (n := 8) (rs := [.tmp 4]) Tryz.func160 rfl rfl rfl ?_
 intro σ hl ha
 have h0 := ha 0 (by simp)
 have h1 := ha 1 (by simp)
 clear ha
 simp only [Option.getD_some, List.getElem?_cons_zero, List.getElem?_cons_succ] at h0 h1
 have hi := fun k => sl_Index1 s c H k
 simp only [go_sem, simprocAttr, hl, h0, h1, hi]
theorem s_Count1 (s : List UInt8) (c : UInt8) (H k) : callK Tryz.prog 159 [.str s, .str [c]] H k = k (.int .i64 (s.count c : Nat), H, z0) := by
 refine callK_eq (r := (.int .i64 (s.count c : Nat), H, z0)) ?_ k
 refine callK_start (n := 34) (rs := [.tmp 4]) Tryz.func159 rfl rfl rfl ?_
 intro σ hl ha
 have h0 := ha 0 (by simp)
 have h1 := ha 1 (by simp)
 clear ha
 simp only [Option.getD_some, List.getElem?_cons_zero, List.getElem?_cons_succ] at h0 h1
 have hc : Lib.countByte s c = s.count c := rfl
 simp only [go_sem, simprocAttr, hl, h0, h1, u8_back, hc]
theorem mk_strs (n : Nat) (H : Hp) (hn : n ≤ 2000000) : evMake Tryz.prog 85 (.int .i64 (n : Nat)) (.int .i64 (n : Nat)) H = some (.slice H.length 0 n (.ex n), H ++ [.cells (List.replicate n (.str [])) 9 .rw]) := by
 have hr : ∀ n, rep [.str []] n = List.replicate n (AV.str []) := by
  intro n; induction n with
  | zero => rfl
  | succ n ih => rw [rep, ih]; rfl
 simp only [evMake, tsh_85, tzero_9, Option.bind_some]
 rw [if_pos (by omega)]
 simp [hr]
theorem min_l {a b : Nat} (h : a ≤ b) : evMin2 (.int .i64 (a : Nat)) (.int .i64 (b : Nat)) = some (.int .i64 (a : Nat)) := by
 have : ¬ ((b : Int) < (a : Int)) := by omega
 simp [evMin2, this]
set_option maxRecDepth 20000 in
set_option maxHeartbeats 2000000 in
theorem s_genSplit (s : List UInt8) (c : UInt8) (H k) (hs : s.length ≤ 1048576) : callK Tryz.prog 142 [.str s, .str [c], .int .i64 0, .int .i64 (-1)] H k = k (.slice H.length 0 (splitB c s).length (.ex (splitB c s).length), H ++ [.cells (strs (splitB c s)) 9 .rw], z0) := by
 refine callK_eq (r := (.slice H.length 0 (splitB c s).length (.ex (splitB c s).length), H ++ [.cells (strs (splitB c s)) 9 .rw], z0)) ?_ k
 refine callK_start (n := 66) (rs := [.tmp 8]) Tryz.func142 rfl rfl rfl ?_
 intro σ hl ha
 have h0 := ha 0 (by simp)
 have h1 := ha 1 (by simp)
 have h2 := ha 2 (by simp)
 have h3 := ha 3 (by simp)
 clear ha
 simp only [Option.getD_some, List.getElem?_cons_zero, List.getElem?_cons_succ] at h0 h1 h2 h3
 obtain ⟨S, hS⟩ : ∃ S, S = splitB c s := ⟨_, rfl⟩
 obtain ⟨m, hm⟩ : ∃ m, m = s.count c := ⟨_, rfl⟩
 have hSl : S.length = m + 1 := by rw [hS, splitB_len, hm]
 have hml : m ≤ s.length := by rw [hm]; exact List.count_le_length
 rw [← hS, hSl]
 have hcn := fun k => s_Count1 s c H k
 rw [← hm] at hcn
 have hr0 : rowS S (m + 1) 0 = List.replicate (m + 1) (.str []) := by simp [rowS, strs]
 have hmk := fun H' => mk_strs (m + 1) H' (by omega)
 rw [← hr0] at hmk
 have w1 : IntKind.i64.wrap ((m : Int) + 1) = ((m + 1 : Nat) : Int) := wrap_succ (by omega)
 have w2 : IntKind.i64.wrap ((s.length : Int) + 1) = ((s.length + 1 : Nat) : Int) := wrap_succ (by omega)
 have w3 : IntKind.i64.wrap (((m + 1 : Nat) : Int) - 1) = (m : Int) := by rw [wrap_i64 (by omega)]; omega
 have hc0 : ([c] == ([] : List UInt8)) = false := rfl
 have hmn := min_l (a := m + 1) (b := s.length + 1) (by omega)
 simp only [go_sem, simprocAttr, hl, h0, h1, h2, h3, hcn, w1, w2, hmn, hmk, w3, hc0]
 refine go_rounds (fun n st => ∃ σ i r e, n + i = m ∧ S = S.take i ++ splitB c r ∧ i + r.count c = m ∧ r.length ≤ s.length ∧ st = ⟨σ, H ++ [.cells (rowS S (m + 1) i) 9 .rw], e⟩ ∧ clean H.length e ∧ σ.length = 66 ∧ fr σ 0 = .str r ∧ fr σ 1 = .str [c] ∧ fr σ 2 = .int .i64 0 ∧ fr σ 3 = .int .i64 (m : Nat) ∧ fr σ 9 = .slice H.length 0 (m + 1) (.ex (m + 1)) ∧ fr σ 10 = .int .i64 (i : Nat)) m
  ⟨_, 0, s, _, rfl, by rw [List.take_zero, List.nil_append, hS], by omega, Nat.le_refl _, rfl, ⟨rfl, rfl⟩, by simp only [go_sem, simprocAttr, hl], by simp only [go_sem, simprocAttr, hl, h0], by simp only [go_sem, simprocAttr, hl, h1], by simp only [go_sem, simprocAttr, hl, h2], by simp only [go_sem, simprocAttr, hl, w3], by simp only [go_sem, simprocAttr, hl], by simp only [go_sem, simprocAttr, hl]⟩ ?_
 rintro n _ ⟨σ, i, r, e, hn, hSr, hcr, hrl, rfl, he, hl, h0, h1, h2, h3, h9, h10⟩
 have hrow := rowS_len (A := S) (n := m + 1) (j := i) hSl (by omega)
 have hw := wrap_succ (show i < 9223372036854775807 by omega)
 have b1 : (i : Int) < ((m + 1 : Nat) : Int) := by omega
 by_cases hlt : i < m
 ·rcases idx_or r c with ⟨_, hno⟩ | ⟨o, ho, hol, hre, hno⟩
  ·have := List.count_eq_zero.2 hno; omega
  have hix := fun H' k => s_Index1 r c H' k
  rw [ho] at hix
  have g0 : decide ((o : Int) < 0) = false := by simp
  have w4 : IntKind.i64.wrap ((o : Int) + 0) = (o : Int) := by rw [wrap_i64 (by omega)]; omega
  have w5 : IntKind.i64.wrap ((o : Int) + 1) = ((o + 1 : Nat) : Int) := wrap_succ (by omega)
  have b2 : o ≤ r.length := by omega
  have b3 : o + 1 ≤ r.length := by omega
  have hsp : splitB c r = r.take o :: splitB c (r.drop (o + 1)) := by
   conv => lhs; rw [hre]
   exact splitB_at c _ _ hno
  have hSi : S[i]? = some (r.take o) := by
   have hil : (S.take i).length = i := by rw [List.length_take, hSl]; omega
   rw [hSr, List.getElem?_append_right (by omega), hil, Nat.sub_self, hsp]; rfl
  have hput := rowS_put (n := m + 1) hSi (by omega)
  have e1 : (r.drop (o + 1)).take (r.length - (o + 1)) = r.drop (o + 1) := List.take_of_length_le (by rw [List.length_drop]; omega)
  have hcr' : r.count c = (r.drop (o + 1)).count c + 1 := by
   conv => lhs; rw [hre]
   rw [List.count_append, List.count_cons_self, List.count_eq_zero.2 hno]; omega
  simp only [go_sem, simprocAttr, hl, h0, h1, h2, h3, h9, h10, hlt, hix, g0, w4, w5, b1, b2, b3, hrow, hput, hw, e1]
  exact ⟨by omega, n - 1, by omega, _, i + 1, r.drop (o + 1), _, by omega, by rw [take_snoc hSi, List.append_assoc]; rw [hsp] at hSr; exact hSr, by omega, by rw [List.length_drop]; omega, rfl, by simp only [go_sem, simprocAttr, he], by simp only [go_sem, simprocAttr, hl], by simp only [go_sem, simprocAttr, hl], by simp only [go_sem, simprocAttr, hl, h1], by simp only [go_sem, simprocAttr, hl, h2], by simp only [go_sem, simprocAttr, hl, h3], by simp only [go_sem, simprocAttr, hl, h9], by simp only [go_sem, simprocAttr, hl]⟩
 ·have hi : i = m := by omega
  subst hi
  have hno : c ∉ r := List.count_eq_zero.1 (by omega)
  rw [splitB_no c r hno] at hSr
  have hSi : S[i]? = some r := by
   have hil : (S.take i).length = i := by rw [List.length_take, hSl]; omega
   rw [hSr, List.getElem?_append_right (by omega), hil, Nat.sub_self]; rfl
  have hput := rowS_put (n := i + 1) hSi (by omega)
  have hend := rowS_end hSl
  have b4 : ((i + 1 : Nat) : Int) ≤ ((i + 1 : Nat) : Int) := Int.le_refl _
  simp only [go_sem, simprocAttr, hl, h0, h1, h2, h3, h9, h10, hlt, b1, hrow, hput, hw, hend]
  exact leave_keep rfl (by simp only [go_sem, simprocAttr, he])
theorem s_Split (s : List UInt8) (c : UInt8) (H k) (hs : s.length ≤ 1048576) : callK Tryz.prog 116 [.str s, .str [c]] H k = k (.slice H.length 0 (splitB c s).length (.ex (splitB c s).length), H ++ [.cells (strs (splitB c s)) 9 .rw], z0) := by
 refine callK_eq (r := (.slice H.length 0 (splitB c s).length (.ex (splitB c s).length), H ++ [.cells (strs (splitB c s)) 9 .rw], z0)) ?_ k
 refine callK_start (n := 8) (rs := [.tmp 4]) Tryz.func116 rfl rfl rfl ?_
 intro σ hl ha
 have h0 := ha 0 (by simp)
 have h1 := ha 1 (by simp)
 clear ha
 simp only [Option.getD_some, List.getElem?_cons_zero, List.getElem?_cons_succ] at h0 h1
 have hi := fun k => s_genSplit s c H k hs
 simp only [go_sem, simprocAttr, hl, h0, h1, hi]
end Go.Proofs.YtdppgaphcmhffaaGreatDoor.V
namespace Go.Proofs.YtdppgaphcmhffaaGreatDoor.V
open Go
theorem k_makeMap {P : Program} {σ : List AV} {H : Hp} {t : TypeId} {kk : AV × Hp × Ef → Prop} (h : (match tsh P t with | some (.map _ _) => true | _ => false) = true) : opK P σ H (.makeMap t none) kk = kk (.map H.length, H ++ [.map []], z0) := by
 show stepK _ _ = _
 simp only [evOp]
 split at h
 ·rename_i e; rw [e]; rfl
 ·cases h
attribute [local irreducible] go goOps goD opK callK callT stepK leaveTo nextK

def Own (n : Nat) (T : Hp) (v : AV) (bs : List UInt8) : Prop := ∃ m, v = .slice (n + m) 0 bs.length (.op 0) ∧ T[m]? = some (.cells (u8s bs) 5 (.op 0 false))
theorem Own.rd {H T : Hp} {v : AV} {bs : List UInt8} (h : Own H.length T v bs) : Rd (H ++ T) v bs := by
 obtain ⟨m, rfl, hm⟩ := h
 exact .inr ⟨_, _, _, [], [], 5, .op 0 false, rfl, rfl, by rw [hp_new, hm]; simp, .inr ⟨rfl, rfl, 0, false, rfl⟩⟩

attribute [go_sem ↓] k_makeMap
theorem arg_nilf {P : Program} {σ : List AV} : evArg P σ (.const .nilFunc) = some .nilf := rfl
attribute [go_sem] arg_nilf
end Go.Proofs.YtdppgaphcmhffaaGreatDoor.V
namespace Go.Proofs.YtdppgaphcmhffaaGreatDoor.V
open Go

def lb (l : List UInt8) : List UInt8 := UInt8.ofNat l.length :: l
attribute [local irreducible] go goOps goD opK callK callT stepK leaveTo nextK
end Go.Proofs.YtdppgaphcmhffaaGreatDoor.V
namespace Go.Proofs.YtdppgaphcmhffaaGreatDoor.V
open Go

def RdF (H : Hp) (v : AV) (bs : List UInt8) : Prop := (v = .nils ∧ bs = []) ∨ ∃ b o pre post e k, v = .slice b o bs.length (.ex bs.length) ∧ pre.length = o ∧ H[b]? = some (.cells (pre ++ (u8s bs ++ post)) e k)
theorem Rd.full {H : Hp} {v : AV} {bs : List UInt8} (h : Rd H v bs) :
  ∃ y, (∀ l kk, slK Tryz.prog 71 v none (some (.int .i64 (bs.length : Nat))) (some (.int .i64 (bs.length : Nat))) (H ++ l) kk = kk (y, H ++ l, z0)) ∧ RdF H y bs := by
 obtain ⟨rfl, rfl⟩ | ⟨b, o, c, pre, post, e, k, rfl, ho, hb, hc⟩ := h
 ·refine ⟨.nils, fun l kk => ?_, .inl ⟨rfl, rfl⟩⟩
  simp only [go_sem, simprocAttr]
 ·refine ⟨.slice b o bs.length (.ex bs.length), fun l kk => ?_, .inr ⟨b, o, pre, post, e, k, rfl, ho, hb⟩⟩
  have hb' : (H ++ l)[b]? = some (.cells (pre ++ (u8s bs ++ post)) e k) := hp_old hb
  obtain ⟨n, rfl, hn⟩ | ⟨rfl, rfl, fz, st, rfl⟩ := hc
  ·simp only [go_sem, simprocAttr, hb']
   simp [hn]
  ·simp only [go_sem, simprocAttr, hb']
   have : bs.length ≤ (pre.length + (bs.length + post.length) - o) / 1 := by rw [Nat.div_one]; omega
   simp [this]
   intro _; omega
theorem RdF.rd {H : Hp} {v : AV} {bs : List UInt8} (h : RdF H v bs) : Rd H v bs := by
 obtain h | ⟨b, o, pre, post, e, k, h1, h2, h3⟩ := h
 ·exact .inl h
 ·exact .inr ⟨b, o, _, pre, post, e, k, h1, h2, h3, .inl ⟨_, rfl, Nat.le_refl _⟩⟩
theorem RdF.app {H : Hp} {v : AV} {bs : List UInt8} (h : RdF H v bs) (xs : List AV) (q : Nat) (hq : 0 < q) (hx : xs.length = q) (hf : fits (bs.length + q) 1 = true) (l : Hp) (kk) :
  stepK (appTo Tryz.prog (.slice 5 1 1) v (xs, q) (H ++ l)) kk = kk (.slice (H ++ l).length 0 (bs.length + q) (.op 0), H ++ (l ++ [.cells (u8s bs ++ xs) 5 (.op 0 false)]), z0) := by
 have zk := zok_71
 obtain ⟨rfl, rfl⟩ | ⟨b, o, pre, post, e, k, rfl, ho, hb⟩ := h
 ·rw [appTo_nils (by decide) zk]
  have hd : decide (q = 0) = false := by simp; omega
  have hf : fits q 1 = true := by simpa using hf
  simp only [hd, guardK_ft, hf, true_and, List.append_assoc]
  simp [u8s]
 ·have hb' : (H ++ l)[b]? = some (.cells (pre ++ (u8s bs ++ post)) e k) := hp_old hb
  rw [appTo_ex (by decide) zk]
  have hd : decide (bs.length + q ≤ bs.length) = false := by simp; omega
  have hr : V.rd (H ++ l) b o (bs.length * 1) = some (u8s bs) := by
   unfold V.rd
   rw [hb']
   simp only
   rw [if_pos (by rw [List.length_append, List.length_append, u8s_len]; omega)]
   rw [← ho, List.drop_left, Nat.mul_one, List.take_append_of_le_length (by rw [u8s_len]; omega), List.take_of_length_le (by rw [u8s_len]; omega)]
  simp only [hd, guardK_ft, hf, true_and, hr, bindK_some, List.append_assoc]

attribute [local irreducible] go goOps goD opK callK callT stepK leaveTo nextK

end Go.Proofs.YtdppgaphcmhffaaGreatDoor.V
namespace Go.Proofs.YtdppgaphcmhffaaGreatDoor.V
open Go

abbrev Tab := List (List UInt8 × Nat)
def tget : Tab → List UInt8 → Option Nat
 | [], _ => none
 | (k, p) :: r, s => if k = s then some p else tget r s
theorem low_ominI {n : Nat} {a b : Option Nat} : low n (omin a b) = none ↔ low n a = none ∧ low n b = none := by
 cases a <;> cases b <;> simp [omin, low]
 omega
theorem clean_andI {n : Nat} {a b : Ef} : clean n (a.and b) ↔ clean n a ∧ clean n b := by
 unfold clean Ef.and
 simp only [low_ominI]
 constructor
 ·rintro ⟨⟨h1, h2⟩, h3, h4⟩; exact ⟨⟨h1, h3⟩, h2, h4⟩
 ·rintro ⟨⟨h1, h3⟩, h2, h4⟩; exact ⟨⟨h1, h2⟩, h3, h4⟩
theorem clean_mk {n : Nat} {a b : Option Nat} : clean n ⟨a, b⟩ ↔ low n a = none ∧ low n b = none := Iff.rfl
theorem low_sI {n x : Nat} : low n (some x) = none ↔ n ≤ x := by simp [low]
theorem clean_z {n : Nat} : clean n z0 ↔ True := by simp [clean, z0, low]
theorem clean_leave {n m : Nat} {e : Ef} (h : clean n e) : clean n ⟨low m e.es, low m e.ws⟩ := ⟨low_low h.1, low_low h.2⟩
def Es (j : Nat) (e : Ef) : Prop := ∃ x, e.es = some x ∧ x ≤ j
theorem Es.l {j : Nat} {a b : Ef} (h : Es j a) : Es j (a.and b) := by
 obtain ⟨x, h1, h2⟩ := h
 unfold Es Ef.and
 cases hb : b.es with
 | none => exact ⟨x, by simp [h1, omin], h2⟩
 | some y => exact ⟨min x y, by simp [h1, omin], by omega⟩
theorem Es.r {j : Nat} {a b : Ef} (h : Es j b) : Es j (a.and b) := by
 obtain ⟨x, h1, h2⟩ := h
 unfold Es Ef.and
 cases hb : a.es with
 | none => exact ⟨x, by simp [h1, omin], h2⟩
 | some y => exact ⟨min y x, by simp [h1, omin], by omega⟩
theorem Es.leave {j m : Nat} {e : Ef} (h : Es j e) (hj : j < m) (v : AV) (H : Hp) : leave m v H e = (v, H, ⟨low m e.es, low m e.ws⟩) := by
 obtain ⟨x, h1, h2⟩ := h
 unfold V.leave
 rw [if_neg (by rw [h1, low_sm (by omega)]; simp)]
theorem Es.low {j m : Nat} {e : Ef} (h : Es j e) (hj : j < m) : Es j ⟨V.low m e.es, V.low m e.ws⟩ := by
 obtain ⟨x, h1, h2⟩ := h
 exact ⟨x, by show V.low m e.es = _; rw [h1, low_sm (by omega)], h2⟩
theorem clean_sn {n x : Nat} : clean n ⟨none, some x⟩ ↔ n ≤ x := by simp [clean, low]
theorem clean_ss {n x y : Nat} : clean n ⟨some y, some x⟩ ↔ n ≤ y ∧ n ≤ x := by simp [clean, low]
theorem flats_by : ∀ s : List UInt8, flats (u8s s) = true
 | [] => rfl
 | c :: s => by
  have := flats_by s
  unfold u8s at this ⊢
  rw [List.map_cons]
  simp only [flats, flat, this, Bool.and_self]
end Go.Proofs.YtdppgaphcmhffaaGreatDoor.V
namespace Go.Proofs.YtdppgaphcmhffaaGreatDoor.V
open Go

def bk : AV → Option Nat
 | .slice b _ _ _ => some b
 | _ => none
def Bf (mb : Nat) (H : Hp) (v : AV) (bs : List UInt8) : Prop := (v = .nils ∧ bs = []) ∨
 ∃ b c post k, mb < b ∧ v = .slice b 0 bs.length c ∧ H[b]? = some (.cells (u8s bs ++ post) 5 k) ∧
  ((∃ n, c = .ex n ∧ bs.length ≤ n ∧ n ≤ bs.length + post.length ∧ (k = .rw ∨ ∃ st, k = .op 0 st)) ∨ (c = .op 0 ∧ post = [] ∧ ∃ st, k = .op 0 st))
theorem Bf.rd {mb : Nat} {H : Hp} {v : AV} {bs : List UInt8} (h : Bf mb H v bs) : Rd H v bs := by
 obtain h | ⟨b, c, post, k, h1, h2, h3, h4⟩ := h
 ·exact .inl h
 ·obtain ⟨n, rfl, h5, h6, h7⟩ | ⟨rfl, rfl, st, rfl⟩ := h4
  ·exact .inr ⟨b, 0, _, [], post, _, k, h2, rfl, h3, .inl ⟨n, rfl, h5⟩⟩
  ·exact .inr ⟨b, 0, _, [], [], _, _, h2, rfl, h3, .inr ⟨rfl, rfl, 0, st, rfl⟩⟩
theorem Bf.keep {mb : Nat} {H H' : Hp} {v : AV} {bs : List UInt8} (h : Bf mb H v bs) (hk : ∀ i x, bk v = some i → H[i]? = some x → H'[i]? = some x) : Bf mb H' v bs := by
 obtain h | ⟨b, c, post, k, h1, rfl, h3, h4⟩ := h
 ·exact .inl h
 ·exact .inr ⟨b, c, post, k, h1, rfl, hk b _ rfl h3, h4⟩
theorem Bf.lt {mb : Nat} {H : Hp} {v : AV} {bs : List UInt8} (h : Bf mb H v bs) {i : Nat} (hi : bk v = some i) : mb < i ∧ i < H.length := by
 obtain ⟨rfl, _⟩ | ⟨b, c, post, k, h1, rfl, h3, h4⟩ := h
 ·cases hi
 ·cases hi; exact ⟨h1, lt_of_get h3⟩
theorem Bf.scl {mb : Nat} {H : Hp} {v : AV} {bs : List UInt8} (h : Bf mb H v bs) : scal v = true := by
 obtain ⟨rfl, _⟩ | ⟨b, c, post, k, h1, rfl, h3, h4⟩ := h <;> rfl
theorem Bf.mono {mb mb' : Nat} {H : Hp} {v : AV} {bs : List UInt8} (h : Bf mb H v bs) (hm : mb' ≤ mb) : Bf mb' H v bs := by
 obtain h | ⟨b, c, post, k, h1, h2⟩ := h
 ·exact .inl h
 ·exact .inr ⟨b, c, post, k, by omega, h2⟩
theorem splice_end {bs xs : List UInt8} {post : List AV} (h : xs.length ≤ post.length) : splice (u8s bs ++ post) bs.length (u8s xs) = u8s (bs ++ xs) ++ post.drop xs.length := by
 unfold splice
 rw [List.take_append_of_le_length (by rw [u8s_len]; exact Nat.le_refl _), List.take_of_length_le (by rw [u8s_len]; exact Nat.le_refl _), u8s_app, u8s_len, List.append_assoc, List.append_assoc, List.drop_append, u8s_len,
  List.drop_eq_nil_of_le (by rw [u8s_len]; omega), List.nil_append]
 congr 3; omega
theorem Bf.app {mb : Nat} {H : Hp} {v : AV} {bs : List UInt8} (h : Bf mb H v bs) (hm : mb < H.length) (xs : List UInt8) (hf : fits (bs.length + xs.length) 1 = true) :
  ∃ v' H' e', (∀ kk, stepK (appTo Tryz.prog (.slice 5 1 1) v (u8s xs, xs.length) H) kk = kk (v', H', e')) ∧ Bf mb H' v' (bs ++ xs) ∧ H.length ≤ H'.length ∧
   (∀ i x, bk v ≠ some i → H[i]? = some x → H'[i]? = some x) ∧ clean mb e' ∧ (bk v' = bk v ∨ ∃ j, bk v' = some j ∧ H.length ≤ j) := by
 have zk := zok_71
 obtain ⟨rfl, rfl⟩ | ⟨b, c, post, k, hb, rfl, hg, hc⟩ := h
 ·by_cases hx : xs = []
  ·subst hx
   refine ⟨.nils, H, z0, fun kk => ?_, .inl ⟨rfl, rfl⟩, Nat.le_refl _, fun i x _ hx => hx, by simp [clean, z0, low], .inl rfl⟩
   rw [appTo_nils (by decide) zk]
   simp [guardK_tt]
  ·have hp : 0 < xs.length := List.length_pos_iff.2 hx
   refine ⟨.slice H.length 0 xs.length (.op 0), H ++ [.cells (u8s xs) 5 (.op 0 false)], z0, fun kk => ?_, .inr ⟨H.length, .op 0, [], .op 0 false, hm, by simp, by simp, .inr ⟨rfl, rfl, false, rfl⟩⟩, by simp, fun i x _ hx => get_app hx, by simp [clean, z0, low], .inr ⟨_, rfl, Nat.le_refl _⟩⟩
   rw [appTo_nils (by decide) zk]
   have hd : decide (xs.length = 0) = false := by simp; exact hx
   have hf : fits xs.length 1 = true := by simpa using hf
   simp only [hd, guardK_ft, hf, true_and]
 ·have hlt := lt_of_get hg
  have hset : ∀ (y : ABlk) (i : Nat) (x : ABlk), bk (.slice b 0 bs.length c) ≠ some i → H[i]? = some x → (H.set b y)[i]? = some x := by
   intro y i x hi hx
   rw [List.getElem?_set_ne (by intro e; exact hi (by rw [e]; rfl))]; exact hx
  have hnew : ∀ (y : ABlk) (st : Bool), (∀ kk, stepK (appTo Tryz.prog (.slice 5 1 1) (.slice b 0 bs.length c) (u8s xs, xs.length) H) kk = kk (.slice H.length 0 (bs.length + xs.length) (.op 0), H.set b y ++ [.cells (u8s (bs ++ xs)) 5 (.op 0 st)], ⟨none, some b⟩)) →
    ∃ v' H' e', (∀ kk, stepK (appTo Tryz.prog (.slice 5 1 1) (.slice b 0 bs.length c) (u8s xs, xs.length) H) kk = kk (v', H', e')) ∧ Bf mb H' v' (bs ++ xs) ∧ H.length ≤ H'.length ∧
     (∀ i x, bk (.slice b 0 bs.length c) ≠ some i → H[i]? = some x → H'[i]? = some x) ∧ clean mb e' ∧ (bk v' = bk (.slice b 0 bs.length c) ∨ ∃ j, bk v' = some j ∧ H.length ≤ j) := by
   intro y st hy
   refine ⟨_, _, _, hy, .inr ⟨H.length, .op 0, [], .op 0 st, hm, by simp, ?_, .inr ⟨rfl, rfl, st, rfl⟩⟩, by simp, fun i x hi hx => get_app (hset y i x hi hx), by simp [clean, low]; omega, .inr ⟨_, rfl, Nat.le_refl _⟩⟩
   rw [List.getElem?_append_right (by simp)]; simp
  obtain ⟨n, rfl, h5, h6, h7⟩ | ⟨rfl, rfl, st, rfl⟩ := hc
  ·have hcan : canWr k bs.length = true := by
    rcases h7 with rfl | ⟨st, rfl⟩
    ·rfl
    ·simp [canWr]
   by_cases hroom : bs.length + xs.length ≤ n
   ·refine ⟨.slice b 0 (bs.length + xs.length) (.ex n), H.set b (.cells (u8s (bs ++ xs) ++ post.drop xs.length) 5 k), ⟨none, some b⟩, fun kk => ?_, .inr ⟨b, .ex n, post.drop xs.length, k, hb, by simp, by rw [List.getElem?_set_self hlt], .inl ⟨n, rfl, by simp; omega, by simp; omega, h7⟩⟩, by simp, hset _, by simp [clean, low]; omega, .inl rfl⟩
    rw [appTo_ex (by decide) zk]
    have hd : decide (bs.length + xs.length ≤ n) = true := by simpa using hroom
    have hw : wr H b (0 + bs.length * 1) (u8s xs) = some (H.set b (.cells (u8s (bs ++ xs) ++ post.drop xs.length) 5 k), ⟨none, some b⟩) := by
     unfold wr
     rw [hg]
     simp only [Nat.zero_add, Nat.mul_one]
     rw [if_pos ⟨by rw [List.length_append, u8s_len, u8s_len]; omega, hcan, u8s_scal⟩, splice_end (by omega), flats_by]
     rfl
    simp only [hd, guardK_tt, hw, bindK_some]
   ·refine ⟨.slice H.length 0 (bs.length + xs.length) (.op 0), H ++ [.cells (u8s (bs ++ xs)) 5 (.op 0 false)], z0, fun kk => ?_, .inr ⟨H.length, .op 0, [], .op 0 false, hm, by simp, by simp, .inr ⟨rfl, rfl, false, rfl⟩⟩, by simp, fun i x _ hx => get_app hx, by simp [clean, z0, low], .inr ⟨_, rfl, Nat.le_refl _⟩⟩
    rw [appTo_ex (by decide) zk]
    have hd : decide (bs.length + xs.length ≤ n) = false := by simpa using hroom
    have hr : V.rd H b 0 (bs.length * 1) = some (u8s bs) := by
     unfold V.rd
     rw [hg]
     simp only
     rw [if_pos (by rw [List.length_append, u8s_len]; omega)]
     rw [List.drop_zero, Nat.mul_one, List.take_append_of_le_length (by rw [u8s_len]; omega), List.take_of_length_le (by rw [u8s_len]; omega)]
    simp only [hd, guardK_ft, hf, true_and, hr, bindK_some, u8s_app]
  ·simp only [List.append_nil] at hg
   by_cases hx : xs = []
   ·subst hx
    refine ⟨.slice b 0 bs.length (.op 0), H, ⟨none, some b⟩, fun kk => ?_, .inr ⟨b, .op 0, [], .op 0 st, hb, by simp, by simpa using hg, .inr ⟨rfl, rfl, st, rfl⟩⟩, Nat.le_refl _, fun i x _ hx => hx, by simp [clean, low]; omega, .inl rfl⟩
    rw [appTo_op (by decide) zk, hg, bindK_some, appO_c]
    have hd : decide (0 + (bs.length + 0) * 1 ≤ (u8s bs).length) = true := by rw [u8s_len]; simp
    have hw : wr H b (0 + bs.length * 1) (u8s []) = some (H, ⟨none, some b⟩) := by
     unfold wr
     rw [hg]
     simp only [Nat.zero_add, Nat.mul_one]
     have hs : splice (u8s bs) bs.length (u8s []) = u8s bs := by have := splice_end (bs := bs) (xs := []) (post := []) (by simp); simpa using this
     rw [if_pos ⟨by rw [u8s_len, u8s_len]; simp, by simp [canWr], u8s_scal⟩, hs, set_get hg]
     rfl
    simp only [List.length_nil, hd, guardK_tt, hw, bindK_some]
    simp [u8s_len]
   ·have hp : 0 < xs.length := List.length_pos_iff.2 hx
    refine hnew .dead st fun kk => ?_
    rw [appTo_op (by decide) zk, hg, bindK_some, appO_c]
    have hd : decide (bs.length + xs.length ≤ bs.length) = false := by simp; omega
    have hz : bs.length * 1 = bs.length := Nat.mul_one _
    have hk : ((u8s bs).drop 0).take (bs.length * 1) ++ u8s xs = u8s (bs ++ xs) := by
     rw [List.drop_zero, Nat.mul_one, List.take_of_length_le (by rw [u8s_len]; omega), u8s_app]
    rw [Nat.mul_one] at hk
    simp only [u8s_len, Nat.zero_add, Nat.mul_one, hd, guardK_ft, hk, hf, u8s_scal]
    simp
theorem Bf.full {mb : Nat} {H : Hp} {v : AV} {bs : List UInt8} (h : Bf mb H v bs) :
  ∃ y, (∀ l kk, slK Tryz.prog 71 v none (some (.int .i64 (bs.length : Nat))) (some (.int .i64 (bs.length : Nat))) (H ++ l) kk = kk (y, H ++ l, z0)) ∧ Bf mb H y bs ∧ bk y = bk v ∧ (y = .nils ∨ ∃ b, y = .slice b 0 bs.length (.ex bs.length)) := by
 obtain ⟨rfl, rfl⟩ | ⟨b, c, post, k, hb, rfl, hg, hc⟩ := h
 ·refine ⟨.nils, fun l kk => ?_, .inl ⟨rfl, rfl⟩, rfl, .inl rfl⟩
  simp only [go_sem, simprocAttr]
 ·refine ⟨.slice b 0 bs.length (.ex bs.length), fun l kk => ?_, .inr ⟨b, .ex bs.length, post, k, hb, rfl, hg, .inl ⟨_, rfl, Nat.le_refl _, by omega, ?_⟩⟩, rfl, .inr ⟨b, rfl⟩⟩
  ·have hg' : (H ++ l)[b]? = some (.cells (u8s bs ++ post) 5 k) := hp_old hg
   obtain ⟨n, rfl, h5, h6, h7⟩ | ⟨rfl, rfl, st, rfl⟩ := hc
   ·simp only [go_sem, simprocAttr, hg']
    simp [h5]
   ·simp only [go_sem, simprocAttr, hg']
    simp
  ·obtain ⟨n, rfl, h5, h6, h7⟩ | ⟨rfl, rfl, st, rfl⟩ := hc
   ·exact h7
   ·exact .inr ⟨st, rfl⟩
end Go.Proofs.YtdppgaphcmhffaaGreatDoor.V
namespace Go.Proofs.YtdppgaphcmhffaaGreatDoor.V
open Go
attribute [local irreducible] go goOps goD opK callK callT stepK leaveTo nextK

theorem Rd.appd {H : Hp} {v : AV} {bs : List UInt8} (h : Rd H v bs) : appended H 1 v = some (u8s bs, bs.length) := by
 obtain ⟨rfl, rfl⟩ | ⟨b, o, c, pre, post, e, k, rfl, ho, hb, hc⟩ := h
 ·rfl
 ·have hr : V.rd H b o (bs.length * 1) = some (u8s bs) := by
   unfold V.rd
   rw [hb]
   simp only
   rw [if_pos (by rw [List.length_append, List.length_append, u8s_len]; omega)]
   rw [← ho, List.drop_left, Nat.mul_one, List.take_append_of_le_length (by rw [u8s_len]; omega), List.take_of_length_le (by rw [u8s_len]; omega)]
  simp only [appended, hr, Option.map_some]
theorem Rd.upd {H : Hp} {v : AV} {bs : List UInt8} {mb : Nat} {es : List (AV × AV)} (h : Rd (H.set mb (.map es)) v bs) (es' : List (AV × AV)) (l : Hp) : Rd (H.set mb (.map es') ++ l) v bs := by
 obtain h | ⟨b, o, c, pre, post, e, k, h1, h2, h3, h4⟩ := h
 ·exact .inl h
 ·refine .inr ⟨b, o, c, pre, post, e, k, h1, h2, get_app ?_, h4⟩
  rw [List.getElem?_set] at h3 ⊢
  split at h3
  ·split at h3 <;> cases h3
  ·rename_i hne
   rw [if_neg hne]; exact h3

end Go.Proofs.YtdppgaphcmhffaaGreatDoor.V
namespace Go.Proofs.YtdppgaphcmhffaaGreatDoor.V
open Go

theorem Bf.cells {mb : Nat} {H : Hp} {v : AV} {bs : List UInt8} (h : Bf mb H v bs) {i : Nat} (hi : bk v = some i) : ∃ post k, H[i]? = some (.cells (u8s bs ++ post) 5 k) := by
 obtain ⟨rfl, _⟩ | ⟨b, c, post, k, h1, rfl, h3, h4⟩ := h
 ·cases hi
 ·cases hi; exact ⟨_, _, h3⟩
attribute [local irreducible] go goOps goD opK callK callT stepK leaveTo nextK
end Go.Proofs.YtdppgaphcmhffaaGreatDoor.V
namespace Go.Proofs.YtdppgaphcmhffaaGreatDoor.V
open Go

def Og (n : Nat) (e : TypeId) (H : Hp) (v : AV) (cs : List AV) : Prop := (v = .nils ∧ cs = []) ∨ ∃ b, n ≤ b ∧ v = .slice b 0 cs.length (.op 0) ∧ H[b]? = some (.cells cs e (.op 0 false)) ∧ cs ≠ []
theorem Og.keep {n : Nat} {e : TypeId} {H H' : Hp} {v : AV} {cs : List AV} (h : Og n e H v cs) (hk : ∀ (i : Nat) (x : ABlk), bk v = some i → H[i]? = some x → H'[i]? = some x) : Og n e H' v cs := by
 obtain h | ⟨b, h1, rfl, h3, h4⟩ := h
 ·exact .inl h
 ·exact .inr ⟨b, h1, rfl, hk b _ rfl h3, h4⟩
theorem Og.cells {n : Nat} {e : TypeId} {H : Hp} {v : AV} {cs : List AV} (h : Og n e H v cs) {i : Nat} (hi : bk v = some i) : n ≤ i ∧ H[i]? = some (.cells cs e (.op 0 false)) := by
 obtain ⟨rfl, _⟩ | ⟨b, h1, rfl, h3, h4⟩ := h
 ·cases hi
 ·cases hi; exact ⟨h1, h3⟩
theorem Og.scl {n : Nat} {e : TypeId} {H : Hp} {v : AV} {cs : List AV} (h : Og n e H v cs) : scal v = true := by
 obtain ⟨rfl, _⟩ | ⟨b, h1, rfl, h3, h4⟩ := h <;> rfl
theorem Og.vc {n : Nat} {e : TypeId} {H : Hp} {v : AV} {cs : List AV} (h : Og n e H v cs) : vcells v = [v] := by
 obtain ⟨rfl, _⟩ | ⟨b, h1, rfl, h3, h4⟩ := h <;> rfl
theorem Og.appd {n : Nat} {e : TypeId} {H : Hp} {v : AV} {cs : List AV} (h : Og n e H v cs) : appended H 1 v = some (cs, cs.length) := by
 obtain ⟨rfl, rfl⟩ | ⟨b, h1, rfl, h3, h4⟩ := h
 ·rfl
 ·have hr : V.rd H b 0 (cs.length * 1) = some cs := by
   unfold V.rd
   rw [h3]
   simp
  simp only [appended, hr, Option.map_some]
theorem Og.len {n : Nat} {e t w : Nat} {H : Hp} {v : AV} {cs : List AV} (h : Og n e H v cs) (ht : tsh Tryz.prog t = some (.slice e 1 w)) (H' : Hp) : evLen Tryz.prog t v H' = some (.int .i64 cs.length) := by
 obtain ⟨rfl, rfl⟩ | ⟨b, h1, rfl, h3, h4⟩ := h <;> simp only [evLen, ht] <;> rfl
theorem Og.at {n : Nat} {e t w : Nat} {H : Hp} {v : AV} {cs : List AV} (h : Og n e H v cs) (ht : tsh Tryz.prog t = some (.slice e 1 w)) {i : Nat} {x : AV} (hx : cs[i]? = some x) :
  ∃ b, evIndexAddr Tryz.prog t v (.int .i64 (i : Nat)) = some (.ptr b i) ∧ H[b]? = some (.cells cs e (.op 0 false)) ∧ ∀ (e' : TypeId) (k : Kd), ldC i 1 false (.cells cs e' k) = some x := by
 have hi := (List.getElem?_eq_some_iff.1 hx).1
 obtain ⟨rfl, rfl⟩ | ⟨b, h1, rfl, h3, h4⟩ := h
 ·simp at hi
 ·refine ⟨b, ?_, h3, fun e' k => by rw [ldC_f]; exact hx⟩
  simp only [evIndexAddr, ht]
  rw [if_pos (by omega)]
  simp
theorem Og.app {n : Nat} {e w : Nat} {H : Hp} {v : AV} {cs : List AV} (h : Og n e H v cs) (hn : n ≤ H.length) (zk : zok Tryz.prog e 1 = true) (xs : List AV) (hsc : xs.all scal = true) (hf : fits (cs.length + xs.length) w = true) :
  ∃ (v' : AV) (H' : Hp) (e' : Ef), (∀ kk, stepK (appTo Tryz.prog (.slice e 1 w) v (xs, xs.length) H) kk = kk (v', H', e')) ∧ Og n e H' v' (cs ++ xs) ∧ H.length ≤ H'.length ∧
   (∀ (i : Nat) (x : ABlk), bk v ≠ some i → H[i]? = some x → H'[i]? = some x) ∧ clean n e' ∧ (bk v' = bk v ∨ ∃ j, bk v' = some j ∧ H.length ≤ j) ∧ (xs ≠ [] → flat v' = false) ∧ (xs = [] → v' = v ∧ H' = H) := by
 obtain ⟨rfl, rfl⟩ | ⟨b, hb, rfl, hg, hne⟩ := h
 ·by_cases hx : xs = []
  ·subst hx
   refine ⟨.nils, H, z0, fun kk => ?_, .inl ⟨rfl, rfl⟩, Nat.le_refl _, fun i x _ hx => hx, by simp [clean, z0, low], .inl rfl, fun h => absurd rfl h, fun _ => ⟨rfl, rfl⟩⟩
   rw [appTo_nils (by decide) zk]
   simp [guardK_tt]
  ·have hp : 0 < xs.length := List.length_pos_iff.2 hx
   refine ⟨.slice H.length 0 xs.length (.op 0), H ++ [.cells xs e (.op 0 false)], z0, fun kk => ?_, .inr ⟨H.length, hn, by simp, by simp, by simpa using hx⟩, by simp, fun i x _ hx => get_app hx, by simp [clean, z0, low], .inr ⟨_, rfl, Nat.le_refl _⟩, fun _ => rfl, fun h => absurd h hx⟩
   rw [appTo_nils (by decide) zk]
   have hd : decide (xs.length = 0) = false := by simp; exact hx
   have hf : fits xs.length w = true := by simpa using hf
   simp only [hd, guardK_ft, hf, true_and]
 ·have hlt := lt_of_get hg
  by_cases hx : xs = []
  ·subst hx
   refine ⟨.slice b 0 cs.length (.op 0), H, ⟨none, some b⟩, fun kk => ?_, .inr ⟨b, hb, by simp, by simpa using hg, by simpa using hne⟩, Nat.le_refl _, fun i x _ hx => hx, by simp [clean, low]; omega, .inl rfl, fun h => absurd rfl h, fun _ => ⟨rfl, rfl⟩⟩
   rw [appTo_op (by decide) zk, hg, bindK_some, appO_c]
   have hd : decide (0 + (cs.length + 0) * 1 ≤ cs.length) = true := by simp
   have hw : wr H b (0 + cs.length * 1) [] = some (H, ⟨none, some b⟩) := by
    unfold wr
    rw [hg]
    simp only [Nat.zero_add, Nat.mul_one]
    have hs : splice cs cs.length [] = cs := by simp [splice]
    rw [if_pos ⟨by simp, by simp [canWr], by simp⟩, hs, set_get hg]
    rfl
   simp only [List.length_nil, hd, guardK_tt, hw, bindK_some]
   simp
  ·have hp : 0 < xs.length := List.length_pos_iff.2 hx
   refine ⟨.slice H.length 0 (cs.length + xs.length) (.op 0), H.set b .dead ++ [.cells (cs ++ xs) e (.op 0 false)], ⟨none, some b⟩, fun kk => ?_, .inr ⟨H.length, hn, by simp, by rw [List.getElem?_append_right (by simp)]; simp, by simp [hne]⟩, by simp,
    fun i x hi hx => get_app (by rw [List.getElem?_set_ne (by rintro rfl; exact hi rfl)]; exact hx), by simp [clean, low]; omega, .inr ⟨_, rfl, Nat.le_refl _⟩, fun _ => rfl, fun h => absurd h hx⟩
   rw [appTo_op (by decide) zk, hg, bindK_some, appO_c]
   have hd : decide (cs.length + xs.length ≤ cs.length) = false := by simp; omega
   have hk : (cs.drop 0).take cs.length ++ xs = cs ++ xs := by simp
   simp only [Nat.zero_add, Nat.mul_one, hd, guardK_ft, hk, hf, hsc]
   simp
attribute [local irreducible] go goOps goD opK callK callT stepK leaveTo nextK

end Go.Proofs.YtdppgaphcmhffaaGreatDoor.V
namespace Go.Proofs.YtdppgaphcmhffaaGreatDoor.V
open Go
attribute [local irreducible] go goOps goD opK callK callT stepK leaveTo nextK
end Go.Proofs.YtdppgaphcmhffaaGreatDoor.V
namespace Go.Proofs.YtdppgaphcmhffaaGreatDoor.V
open Go

theorem Og.other {n n' : Nat} {e e' : TypeId} {H : Hp} {v v' : AV} {cs cs' : List AV} (h : Og n e H v cs) (h' : Og n' e' H v' cs') (hne : e ≠ e') {i : Nat} (hi : bk v = some i) : bk v' ≠ some i := by
 intro hh
 have h1 := (h.cells hi).2
 have h2 := (h'.cells hh).2
 rw [h1] at h2
 simp only [Option.some.injEq, ABlk.cells.injEq] at h2
 exact hne h2.2.1
structure Rw (H : Hp) (L : List (List UInt8)) (lk : Nat) (Hc : Hp) (nv pv ov : AV) (N P O : List AV) : Prop where
 le : H.length ≤ Hc.length
 N : Og H.length 24 Hc nv N
 P : Og H.length 3 Hc pv P
 O : Og H.length 5 Hc ov O
 lab : L ≠ [] → Hc[lk]? = some (.cells (strs L) 9 (.op 0 false))
 old : ∀ (i : Nat) (x : ABlk), H[i]? = some x → Hc[i]? = some x
section
variable {H Hc : Hp} {L : List (List UInt8)} {lk : Nat} {nv pv ov : AV} {N P O : List AV}
theorem Rw.more (h : Rw H L lk Hc nv pv ov N P O) (l : Hp) : Rw H L lk (Hc ++ l) nv pv ov N P O where
 le := by have := h.le; simp; omega
 N := h.N.keep (fun i x _ hx => get_app hx)
 P := h.P.keep (fun i x _ hx => get_app hx)
 O := h.O.keep (fun i x _ hx => get_app hx)
 lab := fun hL => get_app (h.lab hL)
 old := fun i x hx => get_app (h.old i x hx)
theorem Rw.appO (h : Rw H L lk Hc nv pv ov N P O) (xs : List AV) (hsc : xs.all scal = true) (hf : fits (O.length + xs.length) 1 = true) :
  ∃ (v' : AV) (H' : Hp) (e' : Ef), (∀ kk, stepK (appTo Tryz.prog (.slice 5 1 1) ov (xs, xs.length) Hc) kk = kk (v', H', e')) ∧ Rw H L lk H' nv pv v' N P (O ++ xs) ∧ clean H.length e' ∧ (xs ≠ [] → flat v' = false) := by
 obtain ⟨v', H', e', h1, h2, h3, h4, h5, _, h7, _⟩ := h.O.app (w := 1) h.le zok_71 xs hsc hf
 refine ⟨v', H', e', h1, ⟨by have := h.le; omega, h.N.keep (fun i x hi hx => h4 i x (h.N.other h.O (by decide) hi) hx), h.P.keep (fun i x hi hx => h4 i x (h.P.other h.O (by decide) hi) hx), h2, fun hL => h4 _ _ (fun hh => ?_) (h.lab hL), fun i x hx => h4 i x (fun hh => ?_) (h.old i x hx)⟩, h5, h7⟩
 ·have := (h.O.cells hh).2
  rw [h.lab hL] at this
  simp only [Option.some.injEq, ABlk.cells.injEq] at this
  exact absurd this.2.1 (by decide)
 ·have := (h.O.cells hh).1
  have := lt_of_get hx
  omega
end
end Go.Proofs.YtdppgaphcmhffaaGreatDoor.V
namespace Go.Proofs.YtdppgaphcmhffaaGreatDoor.V
open Go
theorem Og.mono {n m : Nat} {e : TypeId} {H : Hp} {v : AV} {cs : List AV} (h : Og n e H v cs) (hm : m ≤ n) : Og m e H v cs := by
 obtain h | ⟨b, h1, h2⟩ := h
 ·exact .inl h
 ·exact .inr ⟨b, by omega, h2⟩
attribute [local irreducible] go goOps goD opK callK callT stepK leaveTo nextK
end Go.Proofs.YtdppgaphcmhffaaGreatDoor.V
namespace Go.Proofs.YtdppgaphcmhffaaGreatDoor.V
open Go
attribute [local irreducible] go goOps goD opK callK callT stepK leaveTo nextK
end Go.Proofs.YtdppgaphcmhffaaGreatDoor.V
namespace Go.Proofs.YtdppgaphcmhffaaGreatDoor.V
open Go
theorem Og.rd {n : Nat} {H : Hp} {v : AV} {bs : List UInt8} (h : Og n 5 H v (u8s bs)) : Rd H v bs := by
 obtain ⟨rfl, h2⟩ | ⟨b, h1, rfl, h3, h4⟩ := h
 ·exact .inl ⟨rfl, by simpa [u8s] using h2⟩
 ·exact .inr ⟨b, 0, _, [], [], _, _, by rw [u8s_len], rfl, by simpa using h3, .inr ⟨rfl, rfl, 0, false, rfl⟩⟩
attribute [local irreducible] go goOps goD opK callK callT stepK leaveTo nextK
end Go.Proofs.YtdppgaphcmhffaaGreatDoor.V
namespace Go.Proofs.YtdppgaphcmhffaaGreatDoor.V
open Go
attribute [local irreducible] go goOps goD opK callK callT stepK leaveTo nextK

end Go.Proofs.YtdppgaphcmhffaaGreatDoor.V
namespace Go.Proofs.YtdppgaphcmhffaaGreatDoor.V
open Go
structure Itm where
 skip : Int
 ty : Int
 d : Dt
def Itm.cells (x : Itm) : List AV := .int .i64 x.skip :: .int .u16 x.ty :: x.d.cells
theorem Itm.len (x : Itm) : x.cells.length = 10 := rfl
theorem leave_abs {H Hc : Hp} {v : AV} {e : Ef} (hv : flat v = true) (he : clean H.length e) (hk : ∀ (i : Nat) (x : ABlk), H[i]? = some x → Hc[i]? = some x) : leave H.length v Hc e = (v, H, z0) := by
 have ht : Hc.take H.length = H := by
  apply List.ext_getElem?
  intro i
  by_cases hi : i < H.length
  ·rw [List.getElem?_take_of_lt hi]
   have := List.getElem?_eq_getElem hi
   rw [this]; exact hk i _ this
  ·rw [List.getElem?_eq_none (by rw [List.length_take]; omega), List.getElem?_eq_none (by omega)]
 unfold leave
 rw [if_pos ⟨hv, he.1⟩, ht, he.1, he.2]
 rfl
theorem Tk.old' {H H' : Hp} (h : Tk H) (hk : ∀ (i : Nat) (x : ABlk), H[i]? = some x → H'[i]? = some x) : Tk H' := by
 obtain ⟨e, k, h⟩ := h; exact ⟨e, k, hk _ _ h⟩
theorem Tb.old' {H H' : Hp} (h : Tb H) (hk : ∀ (i : Nat) (x : ABlk), H[i]? = some x → H'[i]? = some x) : Tb H' := by
 obtain ⟨e, k, h⟩ := h; exact ⟨e, k, hk _ _ h⟩
theorem Db.old' {H H' : Hp} (h : Db H) (hk : ∀ (i : Nat) (x : ABlk), H[i]? = some x → H'[i]? = some x) : Db H' := by
 obtain ⟨e, k, h⟩ := h; exact ⟨e, k, hk _ _ h⟩
attribute [local irreducible] go goOps goD opK callK callT stepK leaveTo nextK
end Go.Proofs.YtdppgaphcmhffaaGreatDoor.V
namespace Go.Proofs.YtdppgaphcmhffaaGreatDoor.V
open Go
attribute [local irreducible] go goOps goD opK callK callT stepK leaveTo nextK

theorem Rd.keep {H H' : Hp} {v : AV} {bs : List UInt8} (h : Rd H v bs) (hk : ∀ (i : Nat) (x : ABlk), H[i]? = some x → H'[i]? = some x) : Rd H' v bs := by
 obtain h | ⟨b, o, c, pre, post, e, k, h1, h2, h3, h4⟩ := h
 ·exact .inl h
 ·exact .inr ⟨b, o, c, pre, post, e, k, h1, h2, hk _ _ h3, h4⟩
theorem Rv.appd {H : Hp} {v : AV} {bs : List UInt8} (h : Rv H v bs) : appended H 1 v = some (u8s bs, bs.length) := by
 obtain h | ⟨b, rfl, hb, rfl⟩ := h
 ·exact h.appd
 ·have hr : V.rd H b 0 (0 * 1) = some [] := by
   unfold V.rd
   rw [hb]
   rfl
  simp only [appended, hr, Option.map_some]
  rfl

theorem Rv.nm {H : Hp} {v : AV} {bs : List UInt8} (h : Rv H v bs) : evConv Tryz.prog 71 24 v H = some (.str bs, H) := by
 obtain ⟨rfl, rfl⟩ | ⟨b, o, c, rfl, hr⟩ := h.rd
 ·exact conv_71_24n
 ·rw [conv_71_24, hr, Option.bind_some, bytesOf_u8s]; rfl

def ptrP (c d : UInt8) : Nat := (256 * c.toNat + d.toNat) % 16384
def Rn (bs : List UInt8) : Nat → Nat → Nat → List UInt8 → Nat → Prop
 | 0, _, a, n, nx => bs[a]? = some 0 ∧ n = [0] ∧ nx = a + 1
 | m + 1, row, a, n, nx =>
  (∃ c n', bs[a]? = some c ∧ 0 < c.toNat ∧ c.toNat ≤ 63 ∧ a + 1 + c.toNat ≤ bs.length ∧ n = (bs.drop a).take (1 + c.toNat) ++ n' ∧ Rn bs m row (a + 1 + c.toNat) n' nx) ∨
  (∃ c d nx', bs[a]? = some c ∧ 192 ≤ c.toNat ∧ bs[a + 1]? = some d ∧ nx = a + 2 ∧ ptrP c d < row ∧ Rn bs m (ptrP c d) (ptrP c d) n nx')
theorem Rn.pos {bs : List UInt8} : ∀ {m row a : Nat} {n : List UInt8} {nx : Nat}, Rn bs m row a n nx → 0 < n.length ∧ a < nx ∧ nx ≤ bs.length
 | 0, _, a, n, nx, h => by obtain ⟨h1, rfl, rfl⟩ := h; exact ⟨by simp, by omega, (List.getElem?_eq_some_iff.1 h1).1⟩
 | m + 1, row, a, n, nx, h => by
  obtain ⟨c, n', h1, h2, h3, h4, rfl, h5⟩ | ⟨c, d, nx', h1, h2, h3, rfl, h4, h5⟩ := h
  ·have := h5.pos; rw [List.length_append]; omega
  ·have := h5.pos; exact ⟨this.1, by omega, (List.getElem?_eq_some_iff.1 h3).1⟩
end Go.Proofs.YtdppgaphcmhffaaGreatDoor.V
namespace Go.Proofs.YtdppgaphcmhffaaGreatDoor.V
open Go
attribute [local irreducible] go goOps goD opK callK callT stepK leaveTo nextK

def RdC (v : AV) (a en : Nat) (d : Dt) (k : Nat) : List AV := [v, .int .i64 a, .int .i64 en, .str d.raw, .str d.host, .str d.mail, .int .u32 d.n0, .int .u32 d.n1, .int .u32 d.n2, .int .u32 d.n3, .int .u32 d.n4, .int .i64 k]
section
variable {v : AV} {a en : Nat} {d : Dt} {k : Nat} {e : TypeId} {kd : Kd}
theorem RdC.l0 : ldC 0 1 false (.cells (RdC v a en d k) e kd) = some v := rfl
theorem RdC.l1 : ldC 1 1 false (.cells (RdC v a en d k) e kd) = some (.int .i64 a) := rfl
theorem RdC.l2 : ldC 2 1 false (.cells (RdC v a en d k) e kd) = some (.int .i64 en) := rfl
theorem RdC.l3 : ldC 3 8 true (.cells (RdC v a en d k) e kd) = some (.agg d.cells) := rfl
theorem RdC.len : (RdC v a en d k).length = 12 := rfl
theorem RdC.s1 {x : Nat} : splice (RdC v a en d k) 1 [.int .i64 x] = RdC v x en d k := rfl
theorem RdC.s3 {x : List UInt8} : splice (RdC v a en d k) 3 [.str x] = RdC v a en { d with raw := x } k := rfl
theorem RdC.s4 {x : List UInt8} : splice (RdC v a en d k) 4 [.str x] = RdC v a en { d with host := x } k := rfl
theorem RdC.s5 {x : List UInt8} : splice (RdC v a en d k) 5 [.str x] = RdC v a en { d with mail := x } k := rfl
end
def Dt.setN (d : Dt) : Nat → Int → Dt
 | 0, x => { d with n0 := x }
 | 1, x => { d with n1 := x }
 | 2, x => { d with n2 := x }
 | 3, x => { d with n3 := x }
 | 4, x => { d with n4 := x }
 | _, _ => d
theorem RdC.sN {v : AV} {a en : Nat} {d : Dt} {k : Nat} {j : Nat} {x : Int} (hj : j < 5) : splice (RdC v a en d k) (6 + j) [.int .u32 x] = RdC v a en (d.setN j x) k := by
 have : j = 0 ∨ j = 1 ∨ j = 2 ∨ j = 3 ∨ j = 4 := by omega
 rcases this with rfl | rfl | rfl | rfl | rfl <;> rfl
theorem Dt.set_set {d : Dt} {j : Nat} {x y : Int} : (d.setN j x).setN j y = d.setN j y := by
 match j with
 | 0 => rfl
 | 1 => rfl
 | 2 => rfl
 | 3 => rfl
 | 4 => rfl
 | j + 5 => rfl
theorem RdC.no {H : Hp} {v : AV} {bs : List UInt8} (hv : Rd H v bs) {a en : Nat} {d : Dt} {k q : Nat} {x : Int} : (RdC v a en d k)[q]? ≠ some (.int .u8 x) := by
 have : v ≠ .int .u8 x := by
  obtain ⟨rfl, _⟩ | ⟨b, o, c, pre, post, e, k, rfl, _⟩ := hv <;> simp
 intro h
 match q, h with
 | 0, h => exact this (Option.some.inj h)
 | 1, h => simp [RdC] at h
 | 2, h => simp [RdC] at h
 | 3, h => simp [RdC] at h
 | 4, h => simp [RdC] at h
 | 5, h => simp [RdC] at h
 | 6, h => simp [RdC] at h
 | 7, h => simp [RdC] at h
 | 8, h => simp [RdC] at h
 | 9, h => simp [RdC] at h
 | 10, h => simp [RdC] at h
 | 11, h => simp [RdC] at h
 | q + 12, h => simp [RdC] at h
def Wr (rb : Nat) (e : Ef) : Prop := e = z0 ∨ e = ⟨none, some rb⟩
theorem Wr.and {rb : Nat} {e : Ef} (h : Wr rb e) : e.and ⟨none, some rb⟩ = ⟨none, some rb⟩ := by
 rcases h with rfl | rfl
 ·rw [Ef.z0_and]
 ·rw [and_ww]
theorem Wr.z {rb : Nat} {e : Ef} (h : Wr rb e) : Wr rb (e.and z0) := by rw [Ef.and_z0]; exact h
theorem Wr.w {rb : Nat} {e : Ef} (h : Wr rb e) : Wr rb (e.and ⟨none, some rb⟩) := .inr h.and
end Go.Proofs.YtdppgaphcmhffaaGreatDoor.V
namespace Go.Proofs.YtdppgaphcmhffaaGreatDoor.V
open Go

section
variable {P : Program} {Q : Ex → St → Prop} {k : List It} {σ : List AV} {H : Hp} {e : Ef} {ops : List Oper} {K KP : St → Prop} {l : List Oper} {kk kp : AV × Hp × Ef → Prop}

def isDef : Code → Bool
 | .region _ ⟨[o]⟩ false => match o.op, o.guard with
  | .defer _, none => true
  | _, _ => false
 | .region _ ⟨[p, o]⟩ false => match o.op, o.guard, p.guard with
  | .defer _, none, none => true
  | _, _, _ => false
 | _ => false
def cutOk (c : Code) : Bool :=
 match cutD c with
 | some (_, o, _) => (match o.op with | .defer k => (match k.callee with | .value _ => true | _ => false) | _ => false)
 | none => false
theorem cutD_seq {a b : Code} (h : isDef a = false) : cutD (.seq a b) = (cutD b).map fun r => (a :: r.1, r.2) := by
 rw [cutD.eq_def]
 split
 ·rename_i heq
  cases heq
  split
  ·rename_i h1 h2
   simp only [isDef, h1, h2] at h
   cases h
  ·rfl
 ·rename_i heq
  cases heq
  split
  ·rename_i h1 h2 h3
   simp only [isDef, h1, h2, h3] at h
   cases h
  ·rfl
 ·rename_i heq
  cases heq
  rfl
 ·rename_i hne
  exact absurd rfl (hne a b)
def goA (P : Program) (rs : List ResultVar) (m : Nat) (kk : AV × Hp × Ef → Prop) (c : Code) (s : St) (_ : Ph (kk, c) := ⟨⟩) : Prop :=
 match cutD c with
 | some (l, o, b) => (match o.op with | .defer d => (match d.callee with | .value fo => go P (endA P rs m fo d.args.toList o.dst b kk) (l.map It.code) s | _ => False) | _ => False)
 | none => False
def nextA (P : Program) (rs : List ResultVar) (m : Nat) (kk : AV × Hp × Ef → Prop) (b : Code) : Ex → St → Prop
 | .normal, s => goA P rs m kk b s
 | .ret, s => endR P rs m kk .ret s
 | _, _ => False
instance {rs : List ResultVar} {m : Nat} {b : Code} : Calm (nextA P rs m kk b) := ⟨fun _ h => h⟩
theorem nextA_n {rs : List ResultVar} {m : Nat} {b : Code} : nextA P rs m kk b .normal ⟨σ, H, e⟩ = goA P rs m kk b ⟨σ, H, e⟩ := rfl
theorem nextA_r {rs : List ResultVar} {m : Nat} {b : Code} : nextA P rs m kk b .ret ⟨σ, H, e⟩ = bindK (evRes P ⟨σ, H, e⟩ rs) fun vs => kk (leave m (pack vs) H e) := endR_r
attribute [go_sem ↓] nextA_n nextA_r
theorem goA_seq {rs : List ResultVar} {m : Nat} {a b : Code} {s : St} (ha : isDef a = false) (hb : cutOk b = true) (h : go P (nextA P rs m kk b) [.code a] s) : goA P rs m kk (.seq a b) s := by
 unfold goA
 rw [cutD_seq ha]
 unfold cutOk at hb
 cases hc : cutD b with
 | none => rw [hc] at hb; cases hb
 | some r =>
  obtain ⟨l, o, b'⟩ := r
  rw [hc] at hb
  simp only [Option.map_some] at hb ⊢
  split at hb
  ·rename_i d ho
   split at hb
   ·rename_i fo hfo
    obtain ⟨n, ex, s', h1, h2⟩ := h
    refine ⟨n, ex, s', h1, ?_⟩
    have gen : ∀ (Q : Ex → St → Prop) (l : List Code) (ex : Ex) (s : St), ex ≠ .normal → Q ex s → (∀ i, ex ≠ .exit i) → contQ P Q (l.map It.code) ex s := by
     intro Q l
     induction l with
     | nil => intro ex s _ h _; exact h
     | cons c l ih => intro ex s hn h he; cases ex <;> first | exact absurd rfl hn | exact ih _ _ hn h he
    cases ex with
    | normal =>
     have h2 : goA P rs m kk b s' := h2
     unfold goA at h2
     rw [hc] at h2
     simp only [ho, hfo] at h2
     exact h2
    | ret => exact gen _ l .ret s' (by simp) h2 (by simp)
    | exit i => exact h2.elim
    | goto l => exact h2.elim
    | pan => exact h2.elim
   ·cases hb
  ·cases hb
theorem goA_defer {rs : List ResultVar} {m : Nat} {id : Nat} {dst : Option Tmp} {fo : Operand} {dargs : Array Operand} {ts : Array TypeId} {ty : TypeId} {pos : String} {af : Array Edge} {b : Code} : goA P rs m kk (.seq (.region id ⟨[⟨dst, .defer ⟨.value fo, dargs, ts⟩, ty, pos, af, none⟩]⟩ false) b) ⟨σ, H, e⟩ =
  bindK (evArg P σ fo) fun f => bindK (evArgs P σ dargs.toList) fun az => go P (endD P rs m (f, az) kk) [.code b] ⟨put σ dst undefA, H, e⟩ := rfl
theorem k_insert {t : TypeId} {m x y : Operand} : opK P σ H (.insert t m x y) kk = bindK (evArg P σ m) fun u => bindK (evArg P σ x) fun v => bindK (evArg P σ y) fun w => bindK (evMapSet P t u v w H) fun r => kk (undefA, r.1, r.2) := by
 show stepK _ _ = _
 simp only [evOp]
 rw [stepK_bind]; refine bindK_ext fun c => ?_
 rw [stepK_bind]; refine bindK_ext fun c => ?_
 rw [stepK_bind]; refine bindK_ext fun c => ?_
 exact stepK_map
attribute [go_sem ↓] k_insert
theorem goA_def {rs : List ResultVar} {m : Nat} {id : Nat} {dst : Option Tmp} {fo : Operand} {dargs : Array Operand} {ts : Array TypeId} {ty : TypeId} {pos : String} {af : Array Edge} {b : Code} {fv : AV} {az : List AV} (hf : evArg P σ fo = some fv) (ha : evArgs P σ dargs.toList = some az) (h : go P (endD P rs m (fv, az) kk) [.code b] ⟨put σ dst undefA, H, e⟩) :
  goA P rs m kk (.seq (.region id ⟨[⟨dst, .defer ⟨.value fo, dargs, ts⟩, ty, pos, af, none⟩]⟩ false) b) ⟨σ, H, e⟩ := by
 rw [goA_defer, hf, bindK_some, ha, bindK_some]
 exact h
theorem goA_def2 {rs : List ResultVar} {m : Nat} {id : Nat} {pd dst : Option Tmp} {po : Op} {pt ty : TypeId} {pp pos : String} {pa af : Array Edge} {fo : Operand} {dargs : Array Operand} {ts : Array TypeId} {b : Code}
  (h : go P (endA P rs m fo dargs.toList dst b kk) [.code (.region id ⟨[⟨pd, po, pt, pp, pa, none⟩]⟩ false)] ⟨σ, H, e⟩) :
  goA P rs m kk (.seq (.region id ⟨[⟨pd, po, pt, pp, pa, none⟩, ⟨dst, .defer ⟨.value fo, dargs, ts⟩, ty, pos, af, none⟩]⟩ false) b) ⟨σ, H, e⟩ := h
theorem callK_startD {f : FuncId} {fn : Func} {c : Code} {args : List AV} {rs : List ResultVar} {n : Nat} (hf : P.funcs[f]? = some fn) (hb : fn.body = some c) (hr : fn.results.toList = rs) (hn : args.length + (fn.ntmps - args.length) = n)
  (h : ∀ σ : List AV, σ.length = n → (∀ i : Nat, i < args.length → fr σ i = (args[i]?).getD undefA) → goA P rs H.length kk c ⟨σ, H, z0⟩) : callK P f args H kk := by
 have h1 : ∀ (l0 : List Code) (o : Oper) (b : Code), cutD c = some (l0, o, b) → callK P f args H kk := by
  intro l0 o b hd
  have hex : ∃ fo dargs ts, o.op = .defer ⟨.value fo, dargs, ts⟩ := by
   subst hn
   have h0 := h (args ++ List.replicate (fn.ntmps - args.length) undefA) (by simp) (fun i hi => by unfold fr; rw [List.getElem?_append_left hi])
   unfold goA at h0
   rw [hd] at h0
   simp only at h0
   split at h0
   ·rename_i d ho
    split at h0
    ·rename_i fo hfo
     obtain ⟨ca, ar, ts⟩ := d
     simp only at hfo
     subst hfo
     exact ⟨fo, ar, ts, ho⟩
    ·exact h0.elim
   ·exact h0.elim
  obtain ⟨fo, dargs, ts, ho⟩ := hex
  refine callK_defer hf hb hd ho hr hn (fun σ hl ha => ?_)
  have h2 := h σ hl ha
  unfold goA at h2
  rw [hd] at h2
  simp only [ho] at h2
  exact h2
 cases hd : cutD c with
 | none =>
  subst hn
  have h0 := h (args ++ List.replicate (fn.ntmps - args.length) undefA) (by simp) (fun i hi => by unfold fr; rw [List.getElem?_append_left hi])
  unfold goA at h0
  rw [hd] at h0
  exact h0.elim
 | some r => exact h1 r.1 r.2.1 r.2.2 hd
end
attribute [irreducible] goA
end Go.Proofs.YtdppgaphcmhffaaGreatDoor.V
namespace Go.Proofs.YtdppgaphcmhffaaGreatDoor.V
open Go
attribute [local irreducible] go goOps goD opK callK callT stepK leaveTo nextK

theorem isk_t {n : Tmp} : evOp.isConst (.tmp n) = false := rfl
theorem isk_c {v : Value} : evOp.isConst (.const v) = true := rfl
theorem neAA : binV Tryz.prog .neq 20 .nili .nili true = some (.bool false) := by
 simp only [binV, if_true, tsh_20]
theorem caught0 {p q : AV} {H : Hp} {K : Hp × Ef → Prop} (h : K (H, z0)) : defK Tryz.prog (.func (.func 78) [] [], [p, q]) none H K := by
 refine defK_start (n := 24) Tryz.func78 rfl rfl rfl rfl rfl rfl ?_
 intro σ hl ha
 have h0 := ha 0 (by simp)
 have h1 := ha 1 (by simp)
 clear ha
 simp only [go_sem, simprocAttr, hl, Option.getD_none, isk_t, isk_c, neAA]
 exact h
end Go.Proofs.YtdppgaphcmhffaaGreatDoor.V
namespace Go.Proofs.YtdppgaphcmhffaaGreatDoor.V
open Go

theorem geta {α : Type} {l xs : List α} {i : Nat} {x : α} (h : l[i]? = some x) : (l ++ xs)[i]? = some x := by
 rw [List.getElem?_append_left (List.getElem?_eq_some_iff.1 h).1]; exact h
theorem Rn.app {bs : List UInt8} (xs : List UInt8) : ∀ {m row a : Nat} {n : List UInt8} {nx : Nat}, Rn bs m row a n nx → Rn (bs ++ xs) m row a n nx
 | 0, _, a, n, nx, h => by
  obtain ⟨h1, h2, h3⟩ := h
  exact ⟨geta h1, h2, h3⟩
 | m + 1, row, a, n, nx, h => by
  obtain ⟨c, n', h1, h2, h3, h4, h5, h6⟩ | ⟨c, d, nx', h1, h2, h3, h4, h5, h6⟩ := h
  ·refine .inl ⟨c, n', geta h1, h2, h3, by rw [List.length_append]; omega, ?_, h6.app xs⟩
   rw [h5, List.drop_append_of_le_length (by omega), List.take_append_of_le_length (by rw [List.length_drop]; omega)]
  ·exact .inr ⟨c, d, nx', geta h1, h2, geta h3, h4, h5, h6.app xs⟩
def GoodT (out : List UInt8) (tab : Tab) : Prop := ∀ n p, tget tab n = some p → p < out.length ∧ p ≤ 16383 ∧ ∃ m nx, Rn out m p p n nx
theorem GoodT.app {out : List UInt8} {tab : Tab} (h : GoodT out tab) (xs : List UInt8) : GoodT (out ++ xs) tab := fun n p hp => by
 obtain ⟨h1, h2, m, nx, h3⟩ := h n p hp
 exact ⟨by rw [List.length_append]; omega, h2, m, nx, h3.app xs⟩
end Go.Proofs.YtdppgaphcmhffaaGreatDoor.V
namespace Go.Proofs.YtdppgaphcmhffaaGreatDoor.V
open Go
attribute [local irreducible] go goOps goD opK callK callT stepK leaveTo nextK

theorem and_ew {b : Nat} : (⟨some b, some b⟩ : Ef).and ⟨none, some b⟩ = ⟨some b, some b⟩ := by simp [Ef.and, omin]
theorem omin_lo {b n : Nat} {o : Option Nat} (h : low n o = none) (hb : b < n) : omin (some b) o = some b := by
 cases o with
 | none => rfl
 | some x =>
  rw [low_w] at h
  show some (min b x) = some b
  congr 1; omega
theorem and_ec {b n : Nat} {e : Ef} (h : clean n e) (hb : b < n) : (⟨some b, some b⟩ : Ef).and e = ⟨some b, some b⟩ := by
 unfold Ef.and
 rw [omin_lo h.1 hb, omin_lo h.2 hb]
theorem and_ce {b n : Nat} {e : Ef} (h : clean n e) (hb : b < n) : e.and ⟨some b, some b⟩ = ⟨some b, some b⟩ := by
 unfold Ef.and
 simp only [omin_comm e.es, omin_comm e.ws]
 rw [omin_lo h.1 hb, omin_lo h.2 hb]
theorem leave_ee {n b : Nat} {v : AV} {H : Hp} (hb : b < n) : leave n v H ⟨some b, some b⟩ = (v, H, ⟨some b, some b⟩) := by
 have := leave_st (n := n) (v := v) (H := H) (e := ⟨some b, some b⟩) (low_sm hb)
 rw [this]
 have h : low n (some b) = some b := low_sm hb
 simp [h]

structure Wd where
 t : List UInt8
 q : Bool
 ln : Int
 cl : Int
def Wd.cells (w : Wd) : List AV := [.str w.t, .bool w.q, .int .i64 w.ln, .int .i64 w.cl]
def wcells (ws : List Wd) : List AV := ws.flatMap Wd.cells
theorem wcells_len (ws : List Wd) : (wcells ws).length = ws.length * 4 := by
 induction ws with
 | nil => rfl
 | cons w ws ih =>
  have e : wcells (w :: ws) = w.cells ++ wcells ws := rfl
  rw [e, List.length_append, ih, List.length_cons]; simp [Wd.cells]; omega
def Wv (H : Hp) (v : AV) (ws : List Wd) : Prop := (v = .nils ∧ ws = []) ∨
 (∃ b k pre fz st, v = .slice b (k * 4) ws.length (.op k) ∧ pre.length = k * 4 ∧ H[b]? = some (.cells (pre ++ wcells ws) 63 (.op fz st))) ∨
 ∃ b, v = .slice b 0 0 (.op 0) ∧ H[b]? = some .void ∧ ws = []
theorem Wv.old {H : Hp} {v : AV} {ws : List Wd} (h : Wv H v ws) (l : Hp) : Wv (H ++ l) v ws := by
 obtain h | ⟨b, k, pre, fz, st, h1, h2, h3⟩ | ⟨b, h1, h2, h3⟩ := h
 ·exact .inl h
 ·exact .inr (.inl ⟨b, k, pre, fz, st, h1, h2, get_app h3⟩)
 ·exact .inr (.inr ⟨b, h1, get_app h2, h3⟩)
theorem Wv.set {H : Hp} {v : AV} {ws : List Wd} (h : Wv H v ws) {rb : Nat} {c : List AV} {e : TypeId} {x : ABlk} (hb : H[rb]? = some (.cells c e .rw)) : Wv (H.set rb x) v ws := by
 obtain h | ⟨b, k, pre, fz, st, h1, h2, h3⟩ | ⟨b, h1, h2, h3⟩ := h
 ·exact .inl h
 ·have hne : rb ≠ b := by
   rintro rfl
   rw [hb] at h3; injection h3 with h3; injection h3 with _ _ h3; cases h3
  exact .inr (.inl ⟨b, k, pre, fz, st, h1, h2, by rw [List.getElem?_set_ne hne]; exact h3⟩)
 ·have hne : rb ≠ b := by
   rintro rfl
   rw [hb] at h2; cases h2
  exact .inr (.inr ⟨b, h1, by rw [List.getElem?_set_ne hne]; exact h2, h3⟩)
theorem Wv.len {H : Hp} {v : AV} {ws : List Wd} (h : Wv H v ws) (H' : Hp) : evLen Tryz.prog 59 v H' = some (.int .i64 ws.length) := by
 obtain ⟨rfl, rfl⟩ | ⟨b, k, pre, fz, st, rfl, _, _⟩ | ⟨b, rfl, _, rfl⟩ := h
 ·simp only [evLen, tsh_59]; rfl
 ·simp only [evLen, tsh_59]
 ·simp only [evLen, tsh_59]; rfl
theorem Wv.scl {H : Hp} {v : AV} {ws : List Wd} (h : Wv H v ws) : scal v = true ∧ vcells v = [v] := by
 obtain ⟨rfl, _⟩ | ⟨b, k, pre, fz, st, rfl, _⟩ | ⟨b, rfl, _⟩ := h <;> exact ⟨rfl, rfl⟩
theorem Wv.hd {H : Hp} {v : AV} {w : Wd} {ws : List Wd} (h : Wv H v (w :: ws)) : ∃ b q row e k, evIndexAddr Tryz.prog 59 v (.int .i64 0) = some (.ptr b q) ∧ H[b]? = some (.cells row e k) ∧ ldC q 1 false (.cells row e k) = some (.str w.t) ∧ ldC (q + 1) 1 false (.cells row e k) = some (.bool w.q) := by
 obtain ⟨_, h⟩ | ⟨b, k, pre, fz, st, rfl, h2, h3⟩ | ⟨b, _, _, h⟩ := h
 ·cases h
 ·have e : wcells (w :: ws) = .str w.t :: .bool w.q :: .int .i64 w.ln :: .int .i64 w.cl :: wcells ws := rfl
  refine ⟨b, k * 4, _, _, _, ?_, h3, ?_, ?_⟩
  ·simp only [evIndexAddr, tsh_59]
   rw [if_pos ⟨by decide, by simp only [List.length_cons]; omega⟩]
   simp
  ·rw [ldC_f, e, List.getElem?_append_right (by omega), h2, Nat.sub_self]; rfl
  ·rw [ldC_f, e, List.getElem?_append_right (by omega), h2, Nat.add_sub_cancel_left]; rfl
 ·cases h
theorem Wv.tl {H : Hp} {v : AV} {w : Wd} {ws : List Wd} (h : Wv H v (w :: ws)) : ∃ v' L, (∀ kk, slK Tryz.prog 59 v (some (.int .i64 1)) none none H kk = kk (v', H ++ L, z0)) ∧ Wv (H ++ L) v' ws ∧ (L = [] ∨ L = [.void]) ∧ flat v' = false := by
 obtain ⟨_, h⟩ | ⟨b, k, pre, fz, st, rfl, h2, h3⟩ | ⟨b, _, _, h⟩ := h
 ·cases h
 ·have e : wcells (w :: ws) = w.cells ++ wcells ws := rfl
  have hl : (pre ++ wcells (w :: ws)).length = k * 4 + (ws.length + 1) * 4 := by rw [List.length_append, h2, wcells_len]; rfl
  have hrule : ∀ kk, slK Tryz.prog 59 (.slice b (k * 4) (ws.length + 1) (.op k)) (some (.int .i64 1)) none none H kk = guardK (.bool (decide (1 = 0 ∨ 1 < ws.length + 1))) true (kk (.slice b ((k + 1) * 4) ws.length (.op (k + 1)), H, z0)) (1 = ws.length + 1 ∧ kk (.slice H.length 0 0 (.op 0), H ++ [.void], z0)) := by
   intro kk
   rw [slK_op (by rw [tsh_59]; rfl), tsh_59, bindK_some, h3, bindK_some, knC_c, if_pos ⟨rfl, by decide, rfl⟩, bindK_some, bnd_ln, hl, Nat.add_sub_cancel_left, Nat.mul_div_cancel _ (by decide)]
   simp only [shZ_s]
   have q1 : ((0 : Int) ≤ 1 ∧ (1 : Int) ≤ ((ws.length + 1 : Nat) : Int)) = True := eq_true ⟨by decide, by omega⟩
   have e1 : (1 : Int).toNat = 1 := rfl
   rw [q1, true_and, e1, show k * 4 + 1 * 4 = (k + 1) * 4 by omega, Nat.add_sub_cancel]
  cases ws with
  | cons x xs =>
   refine ⟨.slice b ((k + 1) * 4) (xs.length + 1) (.op (k + 1)), [], fun kk => ?_, ?_, .inl rfl, rfl⟩
   ·have := hrule kk
    rw [List.length_cons] at this ⊢
    rw [List.length_cons, this, decide_eq_true (by right; omega), guardK_tt, List.append_nil]
   ·rw [List.append_nil]
    exact .inr (.inl ⟨b, k + 1, pre ++ w.cells, fz, st, rfl, by simp [h2, Wd.cells]; omega, by rw [List.append_assoc, ← e]; exact h3⟩)
  | nil =>
   refine ⟨.slice H.length 0 0 (.op 0), [.void], fun kk => ?_, .inr (.inr ⟨H.length, rfl, by rw [hp_new0]; rfl, rfl⟩), .inr rfl, rfl⟩
   have := hrule kk
   have e0 : ([w] : List Wd).length = ([] : List Wd).length + 1 := rfl
   rw [e0, this]
   have d0 : decide ((1 : Nat) = 0 ∨ 1 < ([] : List Wd).length + 1) = false := by decide
   rw [d0, guardK_ft]
   simp
 ·cases h

theorem wcells_at : ∀ (ws : List Wd) (i : Nat) (w : Wd), ws[i]? = some w → ((wcells ws).drop (i * 4)).take 4 = w.cells ∧ i * 4 + 4 ≤ (wcells ws).length
 | [], i, w, h => by simp at h
 | x :: ws, 0, w, h => by
  simp only [List.getElem?_cons_zero, Option.some.injEq] at h
  subst h
  exact ⟨rfl, by rw [wcells_len, List.length_cons]; omega⟩
 | x :: ws, i + 1, w, h => by
  obtain ⟨h1, h2⟩ := wcells_at ws i w (by simpa using h)
  have e : wcells (x :: ws) = x.cells ++ wcells ws := rfl
  have e2 : (i + 1) * 4 = x.cells.length + i * 4 := by simp [Wd.cells]; omega
  refine ⟨?_, by rw [wcells_len] at h2 ⊢; simp; omega⟩
  rw [e, e2, ← List.drop_drop, List.drop_left]; exact h1
theorem Wv.at {H : Hp} {v : AV} {ws : List Wd} (h : Wv H v ws) {i : Nat} {w : Wd} (hi : ws[i]? = some w) : ∃ b q row e k, evIndexAddr Tryz.prog 59 v (.int .i64 (i : Nat)) = some (.ptr b q) ∧ H[b]? = some (.cells row e k) ∧ ldC q 4 true (.cells row e k) = some (.agg w.cells) := by
 have hlt := (List.getElem?_eq_some_iff.1 hi).1
 obtain ⟨_, rfl⟩ | ⟨b, k, pre, fz, st, rfl, h2, h3⟩ | ⟨b, _, _, rfl⟩ := h
 ·simp at hlt
 ·obtain ⟨h4, h5⟩ := wcells_at ws i w hi
  refine ⟨b, k * 4 + i * 4, _, _, _, ?_, h3, ?_⟩
  ·simp only [evIndexAddr, tsh_59]
   rw [if_pos ⟨by omega, by omega⟩]
   simp
  ·unfold ldC
   simp only [if_true]
   rw [if_pos (by rw [List.length_append, h2]; omega), ← List.drop_drop, ← h2, List.drop_left, h4]
 ·simp at hlt
def WdC (v : AV) (o : List UInt8) (d : Dt) (k : Nat) : List AV := [v, .str o, .str d.raw, .str d.host, .str d.mail, .int .u32 d.n0, .int .u32 d.n1, .int .u32 d.n2, .int .u32 d.n3, .int .u32 d.n4, .int .i64 k]
section
variable {v : AV} {o : List UInt8} {d : Dt} {k : Nat} {e : TypeId} {kd : Kd}
theorem WdC.l0 : ldC 0 1 false (.cells (WdC v o d k) e kd) = some v := rfl
theorem WdC.l1 : ldC 1 1 false (.cells (WdC v o d k) e kd) = some (.str o) := rfl
theorem WdC.l2 : ldC 2 1 false (.cells (WdC v o d k) e kd) = some (.str d.raw) := rfl
theorem WdC.ld : ldC 2 8 true (.cells (WdC v o d k) e kd) = some (.agg d.cells) := rfl
theorem WdC.len : (WdC v o d k).length = 11 := rfl
theorem WdC.s0 {x : AV} : splice (WdC v o d k) 0 [x] = WdC x o d k := rfl
theorem WdC.s2 {x : List UInt8} : splice (WdC v o d k) 2 [.str x] = WdC v o { d with raw := x } k := rfl
theorem WdC.s3 {x : List UInt8} : splice (WdC v o d k) 3 [.str x] = WdC v o { d with host := x } k := rfl
theorem WdC.s4 {x : List UInt8} : splice (WdC v o d k) 4 [.str x] = WdC v o { d with mail := x } k := rfl
theorem WdC.s10 {x : Nat} : splice (WdC v o d k) 10 [.int .i64 x] = WdC v o d x := rfl
theorem WdC.sN {j : Nat} {x : Int} (hj : j < 5) : splice (WdC v o d k) (5 + j) [.int .u32 x] = WdC v o (d.setN j x) k := by
 have : j = 0 ∨ j = 1 ∨ j = 2 ∨ j = 3 ∨ j = 4 := by omega
 rcases this with rfl | rfl | rfl | rfl | rfl <;> rfl
end
set_option maxRecDepth 20000 in
theorem wd_next (H) (rb : Nat) (v : AV) (o : List UInt8) (d : Dt) (j : Nat) (w : Wd) (ws : List Wd) (hq : w.q = false) (hb : H[rb]? = some (.cells (WdC v o d j) 144 .rw)) (hv : Wv H v (w :: ws)) :
  ∃ v' L, Wv (H ++ L) v' ws ∧ ∀ k, callK Tryz.prog 111 [.ptr rb 0] H k = k (.str w.t, H.set rb (.cells (WdC v' o d j) 144 .rw) ++ L, ⟨some rb, some rb⟩) := by
 obtain ⟨v', L, hsl, hv', hL, hfl⟩ := hv.tl
 obtain ⟨b, q, row, e, kd, hi, hg, hl1, hl2⟩ := hv.hd
 refine ⟨v', L, hv', fun k => ?_⟩
 obtain ⟨hsc, hvc⟩ := hv'.scl
 have hlt := lt_of_get hb
 have hlen := hv.len
 have hgL : (H ++ L)[rb]? = some (.cells (WdC v o d j) 144 .rw) := get_app hb
 have hsL : ∀ y, (H ++ L).set rb y = H.set rb y ++ L := fun y => List.set_append_left _ _ hlt
 have hlv : ∀ (x : AV) (H' : Hp), leave H.length x H' ⟨some rb, some rb⟩ = (x, H', ⟨some rb, some rb⟩) := fun x H' => leave_ee hlt
 refine callK_eq ?_ k
 refine callK_start (n := 36) (rs := [.tmp 2]) Tryz.func111 rfl rfl rfl ?_
 intro σ hl ha
 have h0 := ha 0 (by simp)
 clear ha
 simp only [Option.getD_some, List.getElem?_cons_zero, List.getElem?_cons_succ] at h0
 rw [hq] at hl2
 have hz : (((ws.length + 1 : Nat) : Int) == 0) = false := by rw [beq_eq_false_iff_ne]; omega
 simp only [go_sem, simprocAttr, hl, h0, hb, WdC.l0, WdC.len, WdC.s0, hlen, hz, hi, hg, hl1, hl2, hsl, hgL, hsc, hvc, hfl, hsL, hlv, flats]
theorem Te.set {H : Hp} (h : Te H) {rb : Nat} {v : AV} {o : List UInt8} {d : Dt} {j : Nat} {x : ABlk} (hb : H[rb]? = some (.cells (WdC v o d j) 144 .rw)) : Te (H.set rb x) := by
 obtain ⟨⟨e, k, u, b, h1⟩, ⟨e', k', u', b', h2⟩⟩ := h
 have g1 : rb ≠ 4 := by rintro rfl; rw [hb] at h1; simp [WdC] at h1
 have g2 : rb ≠ 5 := by rintro rfl; rw [hb] at h2; simp [WdC] at h2
 exact ⟨⟨e, k, u, b, by rw [List.getElem?_set_ne g1]; exact h1⟩, ⟨e', k', u', b', by rw [List.getElem?_set_ne g2]; exact h2⟩⟩
section
variable (H : Hp) (rb : Nat) (v : AV) (o : List UInt8) (d : Dt) (j : Nat) (w : Wd) (ws : List Wd) (hq : w.q = false) (hb : H[rb]? = some (.cells (WdC v o d j) 144 .rw)) (hv : Wv H v (w :: ws)) (hw : w.t.length ≤ 1048576)
include hq hb hv hw
set_option maxRecDepth 20000 in
theorem wd_name (n : List UInt8) (ho : o.length ≤ 1048576) (hn : nameS w.t o = (n, 0)) (h64 : w.t ≠ [64]) :
  ∃ v' L, Wv (H ++ L) v' ws ∧ ∀ k, callK Tryz.prog 114 [.ptr rb 0] H k = k (.str n, H.set rb (.cells (WdC v' o d j) 144 .rw) ++ L, ⟨some rb, some rb⟩) := by
 obtain ⟨v', L, hv', hnx⟩ := wd_next H rb v o d j w ws hq hb hv
 refine ⟨v', L, hv', fun k => ?_⟩
 have hlt := lt_of_get hb
 have hg : ∀ y, (H.set rb y ++ L)[rb]? = some y := fun y => get_app (by rw [List.getElem?_set_self hlt])
 have hlv : ∀ (x : AV) (H' : Hp), leave H.length x H' ⟨some rb, some rb⟩ = (x, H', ⟨some rb, some rb⟩) := fun x H' => leave_ee hlt
 have hp := fun H' k => name_Parse w.t o H' k hw ho
 rw [hn] at hp
 have hp : ∀ H' k, callK Tryz.prog 73 [.str w.t, .str o] H' k = k (.tuple [.str n, .int .i64 0], H', z0) := hp
 have h0' : (w.t == [64]) = false := by rw [beq_eq_false_iff_ne]; exact h64
 refine callK_eq ?_ k
 refine callK_start (n := 27) (rs := [.tmp 2]) Tryz.func114 rfl rfl rfl ?_
 intro σ hl ha
 have h0 := ha 0 (by simp)
 clear ha
 simp only [Option.getD_some, List.getElem?_cons_zero, List.getElem?_cons_succ] at h0
 simp only [go_sem, simprocAttr, hl, h0, hnx, h0', hg, WdC.l1, hp, hlv]
theorem wd_host (n : List UInt8) (ho : o.length ≤ 1048576) (hn : nameS w.t o = (n, 0)) (h64 : w.t ≠ [64]) :
  ∃ v' L, Wv (H ++ L) v' ws ∧ ∀ k, callK Tryz.prog 80 [.ptr rb 0] H k = k (.tuple [], H.set rb (.cells (WdC v' o { d with host := n } j) 144 .rw) ++ L, ⟨some rb, some rb⟩) := by
 obtain ⟨v', L, hv', hnx⟩ := wd_name H rb v o d j w ws hq hb hv hw n ho hn h64
 refine ⟨v', L, hv', fun k => ?_⟩
 have hlt := lt_of_get hb
 have hg : ∀ y, (H.set rb y ++ L)[rb]? = some y := fun y => get_app (by rw [List.getElem?_set_self hlt])
 have hs : ∀ y z, (H.set rb y ++ L).set rb z = H.set rb z ++ L := fun y z => by rw [List.set_append_left _ _ (by simpa using hlt), List.set_set]
 have hlv : ∀ (x : AV) (H' : Hp), leave H.length x H' ⟨some rb, some rb⟩ = (x, H', ⟨some rb, some rb⟩) := fun x H' => leave_ee hlt
 refine callK_eq ?_ k
 refine callK_start (n := 8) (rs := []) Tryz.func80 rfl rfl rfl ?_
 intro σ hl ha
 have h0 := ha 0 (by simp)
 clear ha
 simp only [Option.getD_some, List.getElem?_cons_zero, List.getElem?_cons_succ] at h0
 simp only [go_sem, simprocAttr, hl, h0, hnx, hg, hs, WdC.len, WdC.s3, and_ew, hlv]
end
end Go.Proofs.YtdppgaphcmhffaaGreatDoor.V
namespace Go.Proofs.YtdppgaphcmhffaaGreatDoor.V
open Go

def isBl (c : UInt8) : Bool := c == 32 || c == 9 || c == 13
def isSt (c : UInt8) : Bool := isBl c || c == 10 || c == 59 || c == 40 || c == 41 || c == 34
def bareS : List UInt8 → List UInt8 × List UInt8
 | [] => ([], [])
 | c :: r =>
  if isSt c then ([], c :: r)
  else if c = 92 then
   match r with
   | [] => ([c], [])
   | d :: r' => if d = 10 then (c :: (bareS (d :: r')).1, (bareS (d :: r')).2) else (c :: d :: (bareS r').1, (bareS r').2)
  else (c :: (bareS r).1, (bareS r).2)
def quoS : List UInt8 → Option (List UInt8 × List UInt8)
 | [] => none
 | c :: r =>
  if c = 10 then none
  else if c = 34 then some ([], r)
  else if c = 92 then
   match r with
   | [] => none
   | d :: r' => if d = 10 then none else (quoS r').map fun x => (c :: d :: x.1, x.2)
  else (quoS r).map fun x => (c :: x.1, x.2)
def remS : List UInt8 → List UInt8
 | [] => []
 | c :: r => if c = 10 then c :: r else remS r

structure En where
 bl : Bool
 ln : Nat
 ws : List Wd

inductive TR where
 | bad (ln cl e : Nat)
 | ok (es : List En)

def shut (cur : Option En) (out : List En) : List En :=
 match cur with
 | some x => if x.ws = [] then out else out ++ [x]
 | none => out

def rdT : Nat → List UInt8 → Nat → Nat → List (Nat × Nat) → Option En → List En → TR
 | _, [], _, _, op, cur, out =>
  match op with
  | (l, c) :: _ => .bad l c 81
  | [] => .ok (shut cur out)
 | 0, _ :: _, _, _, _, _, _ => .ok []
 | n + 1, c :: r, ln, cl, op, cur, out =>
  let x := cur.getD ⟨isBl c, ln, []⟩
  if isBl c then rdT n r ln (cl + 1) op (some x) out
  else if c = 10 then (if op = [] then rdT n r (ln + 1) 1 op none (shut (some x) out) else rdT n r (ln + 1) 1 op (some x) out)
  else if c = 59 then rdT n (remS r) ln (cl + 1 + (r.length - (remS r).length)) op (some x) out
  else if c = 40 then rdT n r ln (cl + 1) (op ++ [(ln, cl)]) (some x) out
  else if c = 41 then (if op = [] then .bad ln cl 81 else rdT n r ln (cl + 1) op.dropLast (some x) out)
  else if c = 34 then
   match quoS r with
   | none => .bad ln cl 80
   | some q => rdT n q.2 ln (cl + 2 + q.1.length) op (some { x with ws := x.ws ++ [⟨q.1, true, ln, cl⟩] }) out
  else rdT n (bareS (c :: r)).2 ln (cl + (bareS (c :: r)).1.length) op (some { x with ws := x.ws ++ [⟨(bareS (c :: r)).1, false, ln, cl⟩] }) out

def tokS (t : List UInt8) : TR := rdT t.length t 1 1 [] none []
end Go.Proofs.YtdppgaphcmhffaaGreatDoor.V
namespace Go.Proofs.YtdppgaphcmhffaaGreatDoor.V
open Go

theorem remS_le : ∀ r : List UInt8, (remS r).length ≤ r.length
 | [] => Nat.le_refl _
 | c :: r => by
  unfold remS
  split
  ·exact Nat.le_refl _
  ·have := remS_le r; simp only [List.length_cons]; omega
theorem quoS_lt : ∀ (n : Nat) (r : List UInt8), r.length ≤ n → ∀ q, quoS r = some q → q.2.length < r.length
 | n, [], _, q, h => by rw [quoS.eq_def] at h; cases h
 | 0, c :: r, hn, q, h => by simp at hn
 | n + 1, c :: r, hn, q, h => by
  rw [quoS.eq_def] at h
  simp only [] at h
  simp only [List.length_cons] at hn
  split at h
  ·cases h
  split at h
  ·cases h; simp
  split at h
  ·split at h
   ·cases h
   ·rename_i d r'
    split at h
    ·cases h
    ·rw [Option.map_eq_some_iff] at h
     obtain ⟨x, hx, rfl⟩ := h
     have := quoS_lt n r' (by simp only [List.length_cons] at hn; omega) x hx
     simp only [List.length_cons]; omega
  ·rw [Option.map_eq_some_iff] at h
   obtain ⟨x, hx, rfl⟩ := h
   have := quoS_lt n r (by omega) x hx
   simp only [List.length_cons]; omega
theorem bareS_le : ∀ (n : Nat) (r : List UInt8), r.length ≤ n → (bareS r).2.length ≤ r.length
 | n, [], _ => by rw [bareS.eq_def]; exact Nat.le_refl _
 | 0, c :: r, hn => by simp at hn
 | n + 1, c :: r, hn => by
  rw [bareS.eq_def]
  simp only [List.length_cons] at hn
  simp only []
  split
  ·exact Nat.le_refl _
  split
  ·split
   ·simp
   ·rename_i d r'
    simp only [List.length_cons] at hn
    split
    ·have := bareS_le n (d :: r') (by simp only [List.length_cons]; omega)
     simp only [List.length_cons] at this ⊢; omega
    ·have := bareS_le n r' (by omega)
     simp only [List.length_cons] at this ⊢; omega
  ·have := bareS_le n r (by omega)
   simp only [List.length_cons]; omega
theorem bareS_lt {c : UInt8} {r : List UInt8} (h : isSt c = false) : (bareS (c :: r)).2.length ≤ r.length := by
 rw [bareS.eq_def]
 simp only [h, Bool.false_eq_true, if_false]
 split
 ·split
  ·exact Nat.le_refl _
  ·rename_i d r'
   split
   ·exact bareS_le _ _ (Nat.le_refl _)
   ·have := bareS_le _ r' (Nat.le_refl _)
    simp only [List.length_cons]; omega
 ·exact bareS_le _ _ (Nat.le_refl _)
theorem rdT_more : ∀ (n : Nat) (r : List UInt8) (m : Nat), r.length ≤ n → r.length ≤ m → ∀ ln cl op cur out, rdT n r ln cl op cur out = rdT m r ln cl op cur out
 | n, [], m, _, _, ln, cl, op, cur, out => by cases n <;> cases m <;> (unfold rdT; rfl)
 | 0, c :: r, m, h, _, ln, cl, op, cur, out => by simp at h
 | n + 1, c :: r, 0, _, h, ln, cl, op, cur, out => by simp at h
 | n + 1, c :: r, m + 1, h, h', ln, cl, op, cur, out => by
  simp only [List.length_cons] at h h'
  have ih := fun (x : List UInt8) (hx : x.length ≤ r.length) => rdT_more n x m (by omega) (by omega)
  simp only [rdT]
  split
  ·exact ih r (Nat.le_refl _) _ _ _ _ _
  rename_i h1
  split
  ·split <;> exact ih r (Nat.le_refl _) _ _ _ _ _
  rename_i h2
  split
  ·exact ih _ (remS_le r) _ _ _ _ _
  rename_i h3
  split
  ·exact ih r (Nat.le_refl _) _ _ _ _ _
  rename_i h4
  split
  ·split
   ·rfl
   ·exact ih r (Nat.le_refl _) _ _ _ _ _
  rename_i h5
  split
  ·cases hq : quoS r with
   | none => rfl
   | some q => exact ih _ (Nat.le_of_lt (quoS_lt _ r (Nat.le_refl _) q hq)) _ _ _ _ _
  ·rename_i h6
   refine ih _ (bareS_lt ?_) _ _ _ _ _
   unfold isSt
   have e : ∀ k : UInt8, ¬ c = k → (c == k) = false := fun k hk => by rw [beq_eq_false_iff_ne]; exact hk
   have h1' : isBl c = false := by simpa using h1
   rw [h1', e 10 h2, e 59 h3, e 40 h4, e 41 h5, e 34 h6]; rfl

def tk (r : List UInt8) (ln cl : Nat) (op : List (Nat × Nat)) (cur : Option En) (out : List En) : TR := rdT r.length r ln cl op cur out
theorem tk_of {n : Nat} {r : List UInt8} (h : r.length ≤ n) (ln cl : Nat) (op : List (Nat × Nat)) (cur : Option En) (out : List En) : rdT n r ln cl op cur out = tk r ln cl op cur out := rdT_more n r _ h (Nat.le_refl _) _ _ _ _ _
section
variable (c : UInt8) (r : List UInt8) (ln cl : Nat) (op : List (Nat × Nat)) (cur : Option En) (out : List En)
theorem tk_bl (h : isBl c = true) : tk (c :: r) ln cl op cur out = tk r ln (cl + 1) op (some (cur.getD ⟨true, ln, []⟩)) out := by
 unfold tk
 simp only [List.length_cons, rdT]
 rw [if_pos h, h]
theorem tk_nl0 : tk (10 :: r) ln cl [] cur out = tk r (ln + 1) 1 [] none (shut (some (cur.getD ⟨false, ln, []⟩)) out) := by
 unfold tk
 simp only [List.length_cons, rdT]
 rfl
theorem tk_nl1 (h : op ≠ []) : tk (10 :: r) ln cl op cur out = tk r (ln + 1) 1 op (some (cur.getD ⟨false, ln, []⟩)) out := by
 unfold tk
 simp only [List.length_cons, rdT]
 rw [if_neg (by decide), if_pos trivial, if_neg h]
 rfl
theorem tk_rem : tk (59 :: r) ln cl op cur out = tk (remS r) ln (cl + 1 + (r.length - (remS r).length)) op (some (cur.getD ⟨false, ln, []⟩)) out := by
 conv => lhs; unfold tk
 simp only [List.length_cons, rdT]
 rw [if_neg (by decide), if_neg (by decide), if_pos trivial, tk_of (remS_le r)]
 rfl
theorem tk_op : tk (40 :: r) ln cl op cur out = tk r ln (cl + 1) (op ++ [(ln, cl)]) (some (cur.getD ⟨false, ln, []⟩)) out := by
 unfold tk
 simp only [List.length_cons, rdT]
 rfl
theorem tk_cl (h : op ≠ []) : tk (41 :: r) ln cl op cur out = tk r ln (cl + 1) op.dropLast (some (cur.getD ⟨false, ln, []⟩)) out := by
 unfold tk
 simp only [List.length_cons, rdT]
 rw [if_neg (by decide), if_neg (by decide), if_neg (by decide), if_neg (by decide), if_pos trivial, if_neg h]
 rfl
end
def plainW (w : List UInt8) : Bool := w.all fun c => !isSt c && !(c == 92)
theorem bareS_w : ∀ (w : List UInt8) (r : List UInt8), plainW w = true → (∀ c, r.head? = some c → isSt c = true) → bareS (w ++ r) = (w, r)
 | [], r, _, hr => by
  cases r with
  | nil => rw [List.append_nil, bareS.eq_def]
  | cons c r => rw [List.nil_append, bareS.eq_def]; simp only [hr c rfl, if_true]
 | c :: w, r, hw, hr => by
  simp only [plainW, List.all_cons, Bool.and_eq_true, Bool.not_eq_true', beq_eq_false_iff_ne] at hw
  rw [List.cons_append, bareS.eq_def]
  simp only [hw.1.1, Bool.false_eq_true, if_false, if_neg hw.1.2]
  rw [bareS_w w r hw.2 hr]
theorem tk_word (c : UInt8) (w r : List UInt8) (ln cl : Nat) (op : List (Nat × Nat)) (cur : Option En) (out : List En) (hw : plainW (c :: w) = true) (hr : ∀ c, r.head? = some c → isSt c = true) :
  tk (c :: (w ++ r)) ln cl op cur out = tk r ln (cl + (w.length + 1)) op (some { cur.getD ⟨false, ln, []⟩ with ws := (cur.getD ⟨false, ln, []⟩).ws ++ [⟨c :: w, false, ln, cl⟩] }) out := by
 have hb := bareS_w (c :: w) r hw hr
 rw [List.cons_append] at hb
 have hc : isSt c = false ∧ c ≠ 92 := by
  simp only [plainW, List.all_cons, Bool.and_eq_true, Bool.not_eq_true', beq_eq_false_iff_ne] at hw
  exact hw.1
 have hs := hc.1
 unfold isSt at hs
 simp only [Bool.or_eq_false_iff, beq_eq_false_iff_ne] at hs
 conv => lhs; unfold tk
 simp only [List.length_cons, rdT]
 rw [if_neg (by simp [hs]), if_neg (by simp [hs]), if_neg (by simp [hs]), if_neg (by simp [hs]), if_neg (by simp [hs]), if_neg (by simp [hs]), hb, hs.1.1.1.1.1, tk_of (by simp)]
 rfl
end Go.Proofs.YtdppgaphcmhffaaGreatDoor.V
