/- Package strings' Builder, as 'V' runs it: what a builder in new memory holds, and what its writers make of it. No conditions. -/
import Derived.Test.YtgkpgpdkolpfkaaDoorWText
namespace Go.Proofs.YtgkpgpdkolpfkaaDoor.V
open Go
set_option linter.unusedSimpArgs false
set_option linter.unusedVariables false
attribute [local irreducible] go goOps goD opK callK callT stepK leaveTo nextK

/-- What a builder's row is: nothing, or a row of its own. -/
def Buf (n : Nat) (T : Hp) (v : AV) (bs : List UInt8) : Prop := (v = .nils ∧ bs = []) ∨ (0 < bs.length ∧ ∃ m, v = .slice (n + m) 0 bs.length (.op 0) ∧ T[m]? = some (.cells (u8s bs) 5 (.op 0 false)))
/-- A builder in the j-th new block that holds bs. -/
def Bld (n : Nat) (T : Hp) (j : Nat) (bs : List UInt8) : Prop :=
  ∃ p v, T[j]? = some (.cells [p, v] 78 .rw) ∧ (p = .nilp ∨ p = .ptr (n + j) 0) ∧ Buf n T v bs
theorem und_Bp : Tryd.prog.underlying 76 = some (.pointer 78) := by kernel_rfl
theorem lies_B : liesAt Tryd.prog Tryd.prog.depth 78 (2 / Tryd.prog.cellsOf 78) 0 78 1 = true := by kernel_rfl
theorem info_B : ∃ j, Tryd.prog.info? 78 = some j ∧ j.size = 2 := by
  have := tsize_78
  unfold tsize at this
  simpa using this
theorem conv_76_146 {b : Nat} {p v : AV} {k : Kd} {H : Hp} (h : H[b]? = some (.cells [p, v] 78 k)) : evConv Tryd.prog 76 146 (.ptr b 0) H = some (.ptr b 0, H) := by
  obtain ⟨j, hj, hz⟩ := info_B
  simp [evConv, tsh_76, tsh_146, h, hj, hz]
theorem conv_146_76 {b : Nat} {p v : AV} {H : Hp} (h : H[b]? = some (.cells [p, v] 78 .rw)) : evConv Tryd.prog 146 76 (.ptr b 0) H = some (.ptr b 0, H) := by
  obtain ⟨j, hj, hz⟩ := info_B
  have := lies_B
  simp only [evConv, tsh_76, tsh_146, h, hj]
  exact if_pos this
theorem eqBn {c : Bool} : binV Tryd.prog .eql 76 .nilp .nilp c = some (.bool true) := by simp [binV, evBin, evEq, und_Bp]
theorem eqBp {b o : Nat} {c : Bool} : binV Tryd.prog .eql 76 (.ptr b o) .nilp c = some (.bool false) := by simp [binV, evBin, evEq, und_Bp]
theorem neB {b o : Nat} {c : Bool} : binV Tryd.prog .neq 76 (.ptr b o) (.ptr b o) c = some (.bool false) := by
  obtain ⟨j, hj, _⟩ := info_B
  simp [binV, evBin, evEq, und_Bp, hj]
attribute [go_sem] eqBn eqBp neB

set_option maxRecDepth 20000 in
theorem b_check (H T : Hp) (j : Nat) (p v : AV) (hj : T[j]? = some (.cells [p, v] 78 .rw)) (hp : p = .nilp ∨ p = .ptr (H.length + j) 0) (hv : scal v = true) :
    ∃ e, (e = z0 ∨ Cl H.length j e) ∧ ∀ k, callK Tryd.prog 75 [.ptr (H.length + j) 0] (H ++ T) k = k (.tuple [], H ++ T.set j (.cells [.ptr (H.length + j) 0, v] 78 .rw), e) := by
  have hlt := lt_of_get hj
  have hd : decide (j < T.length) = true := by simpa using hlt
  refine (fun h : ∃ r : {e : Ef // e = z0 ∨ Cl H.length j e}, ∀ k, callK Tryd.prog 75 [.ptr (H.length + j) 0] (H ++ T) k = k (.tuple [], H ++ T.set j (.cells [.ptr (H.length + j) 0, v] 78 .rw), r.1) => ?_) (callK_ex (fun r : {e : Ef // e = z0 ∨ Cl H.length j e} => (.tuple [], H ++ T.set j (.cells [.ptr (H.length + j) 0, v] 78 .rw), r.1)) ?_)
  · obtain ⟨r, hr⟩ := h
    exact ⟨r.1, r.2, hr⟩
  refine callK_start (n := 20) (rs := []) Tryd.func75 rfl rfl rfl ?_
  intro σ hl ha
  have h0 := ha 0 (by simp)
  clear ha
  simp only [Option.getD_some, List.getElem?_cons_zero, List.getElem?_cons_succ] at h0
  have hb : (H ++ T)[H.length + j]? = some (.cells [p, v] 78 .rw) := by rw [hp_new, hj]
  have c1 := conv_76_146 hb
  have c2 := conv_146_76 hb
  obtain rfl | rfl := hp
  · simp only [go_sem, simprocAttr, hl, h0, hj, hd, hv, c1, c2]
    have hcl : Cl H.length j ⟨some (H.length + j), some (H.length + j)⟩ := ⟨_, rfl, by omega, by omega, by simp [low]⟩
    obtain ⟨e', h1, h2⟩ := hcl.leave (m := H.length + T.length) (by omega)
    exact ⟨⟨e', .inr h1⟩, h2 _ _⟩
  · simp only [go_sem, simprocAttr, hl, h0, hj, hd, hv]
    rw [set_get hj]
    refine ⟨⟨z0, .inl rfl⟩, ?_⟩
    rw [← List.length_append]
    exact leave_flat0 rfl (by rw [clean_z0]; trivial)

theorem Buf.scl {n : Nat} {T : Hp} {v : AV} {bs : List UInt8} (h : Buf n T v bs) : scal v = true := by
  obtain ⟨rfl, _⟩ | ⟨_, m, rfl, _⟩ := h <;> rfl
theorem Buf.len {n : Nat} {T : Hp} {v : AV} {bs : List UInt8} (h : Buf n T v bs) (H : Hp) : evLen Tryd.prog 31 v H = some (.int .i64 bs.length) := by
  obtain ⟨rfl, rfl⟩ | ⟨_, m, rfl, _⟩ := h
  · simp only [evLen, tsh_31]; rfl
  · simp only [evLen, tsh_31]
/-- Bytes appended to it. -/
theorem Buf.app {H T : Hp} {v : AV} {bs : List UInt8} (h : Buf H.length T v bs) (s : List UInt8) (hf : fits (bs.length + s.length) 1 = true) :
    ∃ v' T2 e2, (∀ kk, stepK (appTo Tryd.prog (.slice 5 1 1) v (u8s s, s.length) (H ++ T)) kk = kk (v', H ++ T2, e2)) ∧ T.length ≤ T2.length ∧ clean H.length e2 ∧ (∀ (i : Nat) x, T[i]? = some x → fixd x = true → T2[i]? = some x) ∧ Buf H.length T2 v' (bs ++ s) := by
  obtain ⟨rfl, rfl⟩ | ⟨hpos, m, rfl, hm⟩ := h
  · by_cases hs : s = []
    · subst hs
      refine ⟨.nils, T, z0, fun kk => ?_, Nat.le_refl _, ⟨rfl, rfl⟩, fun i x hx _ => hx, .inl ⟨rfl, rfl⟩⟩
      rw [appTo_nils (by decide) zok_31]
      have hd : decide (([] : List UInt8).length = 0) = true := rfl
      rw [hd, guardK_tt]
    · have hl : 0 < s.length := by cases s <;> simp_all
      refine ⟨.slice (H.length + T.length) 0 s.length (.op 0), T ++ [.cells (u8s s) 5 (.op 0 false)], z0, fun kk => ?_, by simp, ⟨rfl, rfl⟩, fun i x hx _ => get_app hx, .inr ⟨by simpa using hl, T.length, by simp, by simp⟩⟩
      rw [appTo_nils (by decide) zok_31]
      have hd : decide (s.length = 0) = false := by simp; omega
      have hf : fits s.length 1 = true := by simpa using hf
      simp only [hd, guardK_ft, hf, true_and, List.length_append, List.append_assoc]
  · have hlt := lt_of_get hm
    have hg : (H ++ T)[H.length + m]? = some (.cells (u8s bs) 5 (.op 0 false)) := by rw [hp_new, hm]
    by_cases hs : s = []
    · subst hs
      refine ⟨.slice (H.length + m) 0 bs.length (.op 0), T, ⟨none, some (H.length + m)⟩, fun kk => ?_, Nat.le_refl _, by simp [clean, low], fun i x hx _ => hx, .inr ⟨by simpa using hpos, m, by simp, by simpa using hm⟩⟩
      have hsp : splice (u8s bs) (bs.length) [] = u8s bs := by
        unfold splice
        simp
      rw [appTo_op (by decide) zok_31, hg]
      have hset : (H ++ T).set (H.length + m) (.cells (u8s bs) 5 (.op 0 false)) = H ++ T := set_get hg
      have hd : decide (0 + (bs.length + ([] : List UInt8).length) * 1 ≤ (u8s bs).length) = true := by rw [u8s_len]; simp
      have e1 : (0 + bs.length * 1 + (u8s []).length ≤ (u8s bs).length ∧ canWr (Kd.op 0 false) (0 + bs.length * 1) = true ∧ (u8s []).all scal = true) := ⟨by simp [u8s_len], rfl, rfl⟩
      have e2 : splice (u8s bs) (0 + bs.length * 1) (u8s []) = u8s bs := by rw [Nat.zero_add, Nat.mul_one]; exact hsp
      have hwr : wr (H ++ T) (H.length + m) (0 + bs.length * 1) (u8s []) = some (H ++ T, ⟨none, some (H.length + m)⟩) := by
        unfold wr
        rw [hg]
        show (if _ then _ else _) = _
        rw [if_pos e1, e2, hset, u8s_flat, if_pos rfl]
      simp only [bindK_some, appO_c, hwr]
      rw [hd, guardK_tt]
      rw [hwr]
      simp only [bindK_some, u8s_len, Nat.zero_add, Nat.mul_one, Nat.le_refl, and_self, true_and, List.length_nil, Nat.add_zero]
    · have hl : 0 < s.length := by cases s <;> simp_all
      refine ⟨.slice (H.length + T.length) 0 (bs ++ s).length (.op 0), T.set m .dead ++ [.cells (u8s (bs ++ s)) 5 (.op 0 false)], ⟨none, some (H.length + m)⟩, fun kk => ?_, by simp, by simp [clean, low], fun i x hx hf => ?_, .inr ⟨by simp; omega, T.length, rfl, by simp⟩⟩
      · rw [appTo_op (by decide) zok_31, hg]
        simp only [bindK_some, appO_c]
        have hd : decide (0 + (bs.length + s.length) * 1 ≤ (u8s bs).length) = false := by
          rw [u8s_len]; simp; omega
        have ht : (List.drop 0 (u8s bs)).take bs.length ++ u8s s = u8s (bs ++ s) := by
          rw [List.drop_zero, List.take_of_length_le (by rw [u8s_len]; exact Nat.le_refl _), u8s_app]
        rw [hd, guardK_ft]
        simp only [ht, hf, u8s_scal, hp_set, List.length_append, List.append_assoc, u8s_len, Nat.sub_self, Nat.zero_le, true_and, and_true, Nat.mul_one, Nat.zero_add, Nat.le_refl]
      · have hne : m ≠ i := by
          rintro rfl
          rw [hm] at hx; cases hx; cases hf
        rw [get_app (x := x)]
        rw [List.getElem?_set_ne hne]; exact hx

theorem Buf.set {n : Nat} {T : Hp} {v : AV} {bs : List UInt8} {j : Nat} {c : List AV} {e : TypeId} {x : ABlk} (h : Buf n T v bs) (hj : T[j]? = some (.cells c e .rw)) : Buf n (T.set j x) v bs := by
  obtain h | ⟨hp, m, rfl, hm⟩ := h
  · exact .inl h
  · refine .inr ⟨hp, m, rfl, ?_⟩
    have : j ≠ m := by rintro rfl; rw [hj] at hm; cases hm
    rw [List.getElem?_set_ne this]; exact hm
theorem Buf.pos {n : Nat} {T : Hp} {v : AV} {bs : List UInt8} (h : Buf n T v bs) (hp : 0 < bs.length) : ∃ m, v = .slice (n + m) 0 bs.length (.op 0) ∧ T[m]? = some (.cells (u8s bs) 5 (.op 0 false)) := by
  obtain ⟨_, rfl⟩ | ⟨_, h⟩ := h
  · cases hp
  · exact h

set_option maxRecDepth 20000 in
theorem b_wstr (H T : Hp) (j : Nat) (bs s : List UInt8) (hb : Bld H.length T j bs) (hs : 0 < s.length) (hf : fits (bs.length + s.length) 1 = true) :
    ∃ T' e, Bld H.length T' j (bs ++ s) ∧ Keep T j T' ∧ Cl H.length j e ∧ ∀ k, callK Tryd.prog 69 [.ptr (H.length + j) 0, .str s] (H ++ T) k = k (.tuple [.int .i64 s.length, .nili], H ++ T', e) := by
  obtain ⟨p, v, hj, hp, hv⟩ := hb
  have hlt := lt_of_get hj
  obtain ⟨e1, he1, hck⟩ := b_check H T j p v hj hp hv.scl
  have hj1 : (T.set j (.cells [.ptr (H.length + j) 0, v] 78 .rw))[j]? = some (.cells [.ptr (H.length + j) 0, v] 78 .rw) := by rw [List.getElem?_set_self hlt]
  have hv1 := hv.set (x := .cells [.ptr (H.length + j) 0, v] 78 .rw) hj
  obtain ⟨v', T2, e2, happ, hlen, hcl, hkeep, hbuf⟩ := hv1.app s hf
  obtain ⟨m, hvm, hm⟩ := hbuf.pos (by simp; omega)
  have hj2 := hkeep j _ hj1 rfl
  have hlt2 := lt_of_get hj2
  have hfl : flat v' = false := by rw [hvm]; simp only [flat]
  have hsc := hbuf.scl
  have hvc : vcells v' = [v'] := by rw [hvm]; rfl
  have hc0 : clean H.length e1 := by
    obtain rfl | h := he1
    · exact ⟨rfl, rfl⟩
    · exact h.cln
  have hcl3 : Cl H.length j ((e1.and e2).and ⟨some (H.length + j), some (H.length + j)⟩) := .andr (clean_and hc0 hcl) ⟨_, rfl, by omega, by omega, by simp [low]⟩
  obtain ⟨e', hE, hleave⟩ := hcl3.leave (m := H.length + T.length) (by omega)
  refine ⟨T2.set j (.cells [.ptr (H.length + j) 0, v'] 78 .rw), e', ⟨_, v', by rw [List.getElem?_set_self hlt2], .inr rfl, hbuf.set hj2⟩, ⟨by simp at hlen ⊢; omega, fun i x hi hx hf => ?_⟩, hE, fun k => ?_⟩
  · rw [List.getElem?_set_ne (Ne.symm hi)]
    exact hkeep i x (by rw [List.getElem?_set_ne (Ne.symm hi)]; exact hx) hf
  simp only [u8s] at happ
  refine callK_eq ?_ k
  refine callK_start (n := 19) (rs := [.tmp 4, .tmp 5]) Tryd.func69 rfl rfl rfl ?_
  intro σ hl ha
  have h0 := ha 0 (by simp)
  have h1 := ha 1 (by simp)
  clear ha
  simp only [Option.getD_some, List.getElem?_cons_zero, List.getElem?_cons_succ] at h0 h1
  have d1 : decide (j < T.length) = true := by simpa using hlt
  have d2 : decide (j < T2.length) = true := by simpa using hlt2
  simp only [go_sem, simprocAttr, hl, h0, h1, hck, d1, d2, hj1, hj2, happ, hvc, hsc, hfl]
  exact hleave _ _

set_option maxRecDepth 20000 in
theorem b_wbyte (H T : Hp) (j : Nat) (bs : List UInt8) (c : UInt8) (hb : Bld H.length T j bs) (hf : fits (bs.length + 1) 1 = true) :
    ∃ T' e, Bld H.length T' j (bs ++ [c]) ∧ Keep T j T' ∧ Cl H.length j e ∧ ∀ k, callK Tryd.prog 37 [.ptr (H.length + j) 0, .int .u8 c.toNat] (H ++ T) k = k (.nili, H ++ T', e) := by
  obtain ⟨p, v, hj, hp, hv⟩ := hb
  have hlt := lt_of_get hj
  obtain ⟨e1, he1, hck⟩ := b_check H T j p v hj hp hv.scl
  have hj1 : (T.set j (.cells [.ptr (H.length + j) 0, v] 78 .rw))[j]? = some (.cells [.ptr (H.length + j) 0, v] 78 .rw) := by rw [List.getElem?_set_self hlt]
  have hj1' : (T.set j (.cells [.ptr (H.length + j) 0, v] 78 .rw) ++ [.cells [.int .u8 c.toNat] 5 .rw])[j]? = some (.cells [.ptr (H.length + j) 0, v] 78 .rw) := get_app hj1
  have hv1 : Buf H.length (T.set j (.cells [.ptr (H.length + j) 0, v] 78 .rw) ++ [.cells [.int .u8 c.toNat] 5 .rw]) v bs := by
    obtain h | ⟨hp, m, rfl, hm⟩ := hv.set (x := .cells [.ptr (H.length + j) 0, v] 78 .rw) hj
    · exact .inl h
    · exact .inr ⟨hp, m, rfl, get_app hm⟩
  obtain ⟨v', T2, e2, happ, hlen, hcl, hkeep, hbuf⟩ := hv1.app [c] hf
  obtain ⟨m, hvm, hm⟩ := hbuf.pos (by simp)
  have hj2 := hkeep j _ hj1' rfl
  have hlt2 := lt_of_get hj2
  have hfl : flat v' = false := by rw [hvm]; simp only [flat]
  have hsc := hbuf.scl
  have hvc : vcells v' = [v'] := by rw [hvm]; rfl
  have hc0 : clean H.length e1 := by
    obtain rfl | h := he1
    · exact ⟨rfl, rfl⟩
    · exact h.cln
  have hcl3 : Cl H.length j ((e1.and e2).and ⟨some (H.length + j), some (H.length + j)⟩) := .andr (clean_and hc0 hcl) ⟨_, rfl, by omega, by omega, by simp [low]⟩
  obtain ⟨e', hE, hleave⟩ := hcl3.leave (m := H.length + T.length) (by omega)
  refine ⟨T2.set j (.cells [.ptr (H.length + j) 0, v'] 78 .rw), e', ⟨_, v', by rw [List.getElem?_set_self hlt2], .inr rfl, hbuf.set hj2⟩, ⟨by simp at hlen ⊢; omega, fun i x hi hx hf => ?_⟩, hE, fun k => ?_⟩
  · rw [List.getElem?_set_ne (Ne.symm hi)]
    exact hkeep i x (get_app (by rw [List.getElem?_set_ne (Ne.symm hi)]; exact hx)) hf
  simp only [u8s, List.map_cons, List.map_nil, List.length_cons, List.length_nil, Nat.zero_add] at happ
  refine callK_eq ?_ k
  refine callK_start (n := 17) (rs := [.tmp 4]) Tryd.func37 rfl rfl rfl ?_
  intro σ hl ha
  have h0 := ha 0 (by simp)
  have h1 := ha 1 (by simp)
  clear ha
  simp only [Option.getD_some, List.getElem?_cons_zero, List.getElem?_cons_succ] at h0 h1
  have d1 : decide (j < T.length) = true := by simpa using hlt
  have d2 : decide (j < T2.length) = true := by simpa using hlt2
  have hbs : ∀ H, evBuildSlice Tryd.prog 31 1 [(0, .int .u8 c.toNat)] H = some (.slice H.length 0 1 (.ex 1), H ++ [.cells [.int .u8 c.toNat] 5 .rw]) := by
    intro H
    simp only [evBuildSlice, tsh_31, tzero_5, Option.bind_some]
    rfl
  simp only [go_sem, simprocAttr, hl, h0, h1, hck, d1, d2, hj1, hj2, hbs, happ, hvc, hsc, hfl]
  exact hleave _ _

/-- What it holds, read: its row is not written again. -/
theorem b_stringK (H T : Hp) (j : Nat) (bs : List UInt8) (hb : Bld H.length T j bs) (hn : bs.length ≤ 9223372036854775807) :
    ∃ T' e, Keep T j T' ∧ clean H.length e ∧ ∀ k, callK Tryd.prog 38 [.ptr (H.length + j) 0] (H ++ T) k = k (.str bs, H ++ T', e) := by
  obtain ⟨p, v, hj, hp, hv⟩ := hb
  have hlt := lt_of_get hj
  have hlen := hv.len
  obtain ⟨rfl, rfl⟩ | ⟨hpos, m, rfl, hm⟩ := hv
  · refine ⟨T, z0, Keep.refl T j, ⟨rfl, rfl⟩, fun k => ?_⟩
    refine callK_eq ?_ k
    refine callK_start (n := 14) (rs := [.tmp 2]) Tryd.func38 rfl rfl rfl ?_
    intro σ hl ha
    have h0 := ha 0 (by simp)
    clear ha
    simp only [Option.getD_some, List.getElem?_cons_zero, List.getElem?_cons_succ] at h0
    have hsd : evSliceData Tryd.prog .nils (H ++ T) = some .nilp := rfl
    have hst : evString Tryd.prog 121 .nilp (.int .i64 0) (H ++ T) = some (.str [], H ++ T, z0) := rfl
    have d1 : decide (j < T.length) = true := by simpa using hlt
    simp only [go_sem, simprocAttr, hl, h0]
    refine go_drawZ tFollows (by kernel_rfl) ?_
    simp only [go_sem, simprocAttr, hl, h0, hj, d1, hsd, hst, hlen]
    rw [← List.length_append]
    exact leave_flat0 rfl (by rw [clean_z0]; trivial)
  · have hlm := lt_of_get hm
    have hg : (H ++ T)[H.length + m]? = some (.cells (u8s bs) 5 (.op 0 false)) := by rw [hp_new, hm]
    have hsd : evSliceData Tryd.prog (.slice (H.length + m) 0 bs.length (.op 0)) (H ++ T) = some (.ptr (H.length + m) 0) := by
      simp only [evSliceData, hg, tsize_5, Option.bind_some]
      rw [if_pos ⟨by decide, trivial, hpos, by rw [u8s_len]; omega⟩]
    have hst : evString Tryd.prog 121 (.ptr (H.length + m) 0) (.int .i64 bs.length) (H ++ T) = some (.str bs, (H ++ T).set (H.length + m) (.cells (u8s bs) 5 (.op bs.length false)), ⟨none, some (H.length + m)⟩) := by
      have c1 : ¬ ((bs.length : Int) = 0) := by omega
      have c2 : 0 < (bs.length : Int) ∧ (bs.length : Int) ≤ 9223372036854775807 := by omega
      have c3 : Tryd.prog.cellsOf 5 = 1 := by kernel_rfl
      have c5 : ((u8s bs).drop 0).take (bs.length : Int).toNat = u8s bs := by
        rw [List.drop_zero, List.take_of_length_le (by rw [u8s_len]; simp)]
      simp only [evString, tsh_121, hg]
      rw [if_neg c1, if_pos c2, if_pos ⟨trivial, tsize_5, c3, by rw [u8s_len]; simp⟩, c5, bytes_u8s]
      simp
    refine ⟨T.set m (.cells (u8s bs) 5 (.op bs.length false)), ⟨none, low (H.length + T.length) (some (H.length + m))⟩, ⟨by simp, fun i x hi hx hf => by
      have hne : m ≠ i := by
        rintro rfl
        rw [hm] at hx; cases hx; cases hf
      rw [List.getElem?_set_ne hne]; exact hx⟩, ⟨rfl, low_low (m := H.length + T.length) (by simp [low] : low H.length (some (H.length + m)) = none)⟩, fun k => ?_⟩
    refine callK_eq ?_ k
    refine callK_start (n := 14) (rs := [.tmp 2]) Tryd.func38 rfl rfl rfl ?_
    intro σ hl ha
    have h0 := ha 0 (by simp)
    clear ha
    simp only [Option.getD_some, List.getElem?_cons_zero, List.getElem?_cons_succ] at h0
    have d1 : decide (j < T.length) = true := by simpa using hlt
    simp only [go_sem, simprocAttr, hl, h0]
    refine go_drawZ tFollows (by kernel_rfl) ?_
    simp only [go_sem, simprocAttr, hl, h0, hj, d1, hsd, hst, hlen]
    refine ⟨(by kernel_rfl : effOk _ _ _ = true), ?_⟩
    unfold leave
    have hlo : low (H.length + T.length) none = none := rfl
    simp only [hlo, flat, and_self, if_true]
    rw [List.take_of_length_le (by simp)]
/-- What it holds, read. -/
theorem b_string (H T : Hp) (j : Nat) (bs : List UInt8) (hb : Bld H.length T j bs) (hn : bs.length ≤ 9223372036854775807) :
    ∃ T' e, clean H.length e ∧ ∀ k, callK Tryd.prog 38 [.ptr (H.length + j) 0] (H ++ T) k = k (.str bs, H ++ T', e) := by
  obtain ⟨T', e, _, h1, h2⟩ := b_stringK H T j bs hb hn
  exact ⟨T', e, h1, h2⟩
end Go.Proofs.YtgkpgpdkolpfkaaDoor.V
