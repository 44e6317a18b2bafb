/- Package strings' Builder, as 'V' runs it: what a builder in new memory holds, and what its writers make of it. No conditions. -/
import Derived.Test.YtjemmehgfheflaaDoorSWalkC
namespace Go.Proofs.YtjemmehgfheflaaDoor.V
open Go
set_option linter.unusedSimpArgs false
set_option linter.unusedVariables false
attribute [local irreducible] go goOps goD opK callK callT stepK leaveTo nextK

/-- What a builder's row is: nothing, or a row of its own. -/
def Buf (n : Nat) (T : Hp) (v : AV) (bs : List UInt8) : Prop := (v = .nils ∧ bs = []) ∨ (0 < bs.length ∧ ∃ m, v = .slice (n + m) 0 bs.length (.op 0) ∧ T[m]? = some (.cells (u8s bs) 5 (.op 0 false)))
/-- A builder in the j-th new block that holds bs. -/
def Bld (n : Nat) (T : Hp) (j : Nat) (bs : List UInt8) : Prop :=
  ∃ p v, T[j]? = some (.cells [p, v] 61 .rw) ∧ (p = .nilp ∨ p = .ptr (n + j) 0) ∧ Buf n T v bs
/-- What no builder grows. -/
def fixd : ABlk → Bool
  | .cells _ _ (.op _ _) => false
  | .dead => false
  | _ => true
def Keep (T : Hp) (j : Nat) (T' : Hp) : Prop := T.length ≤ T'.length ∧ ∀ (i : Nat) x, i ≠ j → T[i]? = some x → fixd x = true → T'[i]? = some x
theorem Keep.refl (T : Hp) (j : Nat) : Keep T j T := ⟨Nat.le_refl _, fun i x _ h _ => h⟩
theorem Keep.trans {T T' T'' : Hp} {j : Nat} (h : Keep T j T') (h' : Keep T' j T'') : Keep T j T'' :=
  ⟨Nat.le_trans h.1 h'.1, fun i x hi hx hf => h'.2 i x hi (h.2 i x hi hx hf) hf⟩
/-- What was written: an address at the j-th new block or below, all of it new. -/
def Cl (n j : Nat) (e : Ef) : Prop := ∃ x, e.es = some x ∧ n ≤ x ∧ x ≤ n + j ∧ low n e.ws = none
theorem Cl.cln {n j : Nat} {e : Ef} (h : Cl n j e) : clean n e := by
  obtain ⟨x, h1, h2, h3, h4⟩ := h
  exact ⟨by rw [h1]; simp [low, h2], h4⟩
theorem omin_some {x : Nat} {o : Option Nat} {n : Nat} (hx : n ≤ x) (ho : low n o = none) : ∃ y, omin (some x) o = some y ∧ n ≤ y ∧ y ≤ x := by
  cases o with
  | none => exact ⟨x, rfl, hx, Nat.le_refl _⟩
  | some z =>
    refine ⟨min x z, rfl, ?_, Nat.min_le_left _ _⟩
    have : n ≤ z := by rw [low_w] at ho; exact ho
    omega
theorem omin_comm (a b : Option Nat) : omin a b = omin b a := by
  cases a <;> cases b <;> simp [omin, Nat.min_comm]
theorem Cl.andl {n j : Nat} {a b : Ef} (h : Cl n j a) (h' : clean n b) : Cl n j (a.and b) := by
  obtain ⟨x, h1, h2, h3, h4⟩ := h
  obtain ⟨y, y1, y2, y3⟩ := omin_some (o := b.es) h2 h'.1
  exact ⟨y, by show omin a.es b.es = _; rw [h1, y1], y2, by omega, low_omin h4 h'.2⟩
theorem Cl.andr {n j : Nat} {a b : Ef} (h : clean n a) (h' : Cl n j b) : Cl n j (a.and b) := by
  obtain ⟨x, h1, h2, h3, h4⟩ := h'
  obtain ⟨y, y1, y2, y3⟩ := omin_some (o := a.es) h2 h.1
  exact ⟨y, by show omin a.es b.es = _; rw [omin_comm, h1, y1], y2, by omega, low_omin h.2 h4⟩
theorem low_low {n m : Nat} {o : Option Nat} (h : low n o = none) : low n (low m o) = none := by
  cases o with
  | none => rfl
  | some x =>
    rw [low_w] at h
    by_cases hm : m ≤ x
    · simp [low, hm]
    · simp [low, hm, h]
/-- What is written there stays when the call is left. -/
theorem Cl.leave {n j m : Nat} {e : Ef} (h : Cl n j e) (hj : n + j < m) : ∃ e', Cl n j e' ∧ ∀ v H, leave m v H e = (v, H, e') := by
  obtain ⟨x, h1, h2, h3, h4⟩ := h
  have h5 : low m e.es = some x := by
    have : ¬ m ≤ x := by omega
    rw [h1]; simp [low, this]
  refine ⟨⟨low m e.es, low m e.ws⟩, ⟨x, h5, h2, h3, low_low h4⟩, fun v H => ?_⟩
  unfold V.leave
  rw [if_neg (by rw [h5]; simp)]

theorem und58 : Tryd.prog.underlying 58 = some (.pointer 61) := by kernel_rfl
theorem lies61 : liesAt Tryd.prog Tryd.prog.depth 61 (2 / Tryd.prog.cellsOf 61) 0 61 1 = true := by kernel_rfl
theorem info61 : ∃ j, Tryd.prog.info? 61 = some j ∧ j.size = 2 := by
  have := tsize_61
  unfold tsize at this
  simpa using this
theorem conv_58_81 {b : Nat} {p v : AV} {k : Kd} {H : Hp} (h : H[b]? = some (.cells [p, v] 61 k)) : evConv Tryd.prog 58 81 (.ptr b 0) H = some (.ptr b 0, H) := by
  obtain ⟨j, hj, hz⟩ := info61
  simp [evConv, tsh_58, tsh_81, h, hj, hz]
theorem conv_81_58 {b : Nat} {p v : AV} {H : Hp} (h : H[b]? = some (.cells [p, v] 61 .rw)) : evConv Tryd.prog 81 58 (.ptr b 0) H = some (.ptr b 0, H) := by
  obtain ⟨j, hj, hz⟩ := info61
  have := lies61
  simp only [evConv, tsh_58, tsh_81, h, hj]
  exact if_pos this
theorem eq58n {c : Bool} : binV Tryd.prog .eql 58 .nilp .nilp c = some (.bool true) := by simp [binV, evBin, evEq, und58]
theorem eq58p {b o : Nat} {c : Bool} : binV Tryd.prog .eql 58 (.ptr b o) .nilp c = some (.bool false) := by simp [binV, evBin, evEq, und58]
theorem ne58 {b o : Nat} {c : Bool} : binV Tryd.prog .neq 58 (.ptr b o) (.ptr b o) c = some (.bool false) := by
  obtain ⟨j, hj, _⟩ := info61
  simp [binV, evBin, evEq, und58, hj]
attribute [go_sem] eq58n eq58p ne58

theorem lt_of_get {T : Hp} {j : Nat} {x : ABlk} (h : T[j]? = some x) : j < T.length := (List.getElem?_eq_some_iff.1 h).1
theorem set_get {T : Hp} {j : Nat} {x : ABlk} (h : T[j]? = some x) : T.set j x = T := by
  apply List.ext_getElem?
  intro i
  by_cases hi : j = i
  · subst hi; rw [List.getElem?_set_self (lt_of_get h), h]
  · rw [List.getElem?_set_ne hi]
theorem lse {T l : Hp} {j : Nat} {v : ABlk} : (T.set j v ++ l)[T.length]? = l[0]? := by
  rw [List.getElem?_append_right (by simp)]; simp
attribute [go_sem] lse
theorem low_sm {n m : Nat} (h : m < n) : low n (some m) = some m := by
  have : ¬ n ≤ m := by omega
  simp [low, this]
theorem leave_st {n : Nat} {v : AV} {H : Hp} {e : Ef} {x : Nat} (h : low n e.es = some x) : leave n v H e = (v, H, ⟨some x, low n e.ws⟩) := by
  unfold leave; rw [if_neg (by rw [h]; simp), h]

set_option maxRecDepth 20000 in
theorem check52 (H T : Hp) (j : Nat) (p v : AV) (hj : T[j]? = some (.cells [p, v] 61 .rw)) (hp : p = .nilp ∨ p = .ptr (H.length + j) 0) (hv : scal v = true) :
    ∃ e, (e = z0 ∨ Cl H.length j e) ∧ ∀ k, callK Tryd.prog 52 [.ptr (H.length + j) 0] (H ++ T) k = k (.tuple [], H ++ T.set j (.cells [.ptr (H.length + j) 0, v] 61 .rw), e) := by
  have hlt := lt_of_get hj
  have hd : decide (j < T.length) = true := by simpa using hlt
  refine (fun h : ∃ r : {e : Ef // e = z0 ∨ Cl H.length j e}, ∀ k, callK Tryd.prog 52 [.ptr (H.length + j) 0] (H ++ T) k = k (.tuple [], H ++ T.set j (.cells [.ptr (H.length + j) 0, v] 61 .rw), r.1) => ?_) (callK_ex (fun r : {e : Ef // e = z0 ∨ Cl H.length j e} => (.tuple [], H ++ T.set j (.cells [.ptr (H.length + j) 0, v] 61 .rw), r.1)) ?_)
  · obtain ⟨r, hr⟩ := h
    exact ⟨r.1, r.2, hr⟩
  refine callK_start (n := 20) (rs := []) Tryd.func52 rfl rfl rfl ?_
  intro σ hl ha
  have h0 := ha 0 (by simp)
  clear ha
  simp only [Option.getD_some, List.getElem?_cons_zero, List.getElem?_cons_succ] at h0
  have hb : (H ++ T)[H.length + j]? = some (.cells [p, v] 61 .rw) := by rw [hp_new, hj]
  have c1 := conv_58_81 hb
  have c2 := conv_81_58 hb
  obtain rfl | rfl := hp
  · simp only [go_sem, simprocAttr, hl, h0, hj, hd, hv, c1, c2]
    have hcl : Cl H.length j ⟨some (H.length + j), some (H.length + j)⟩ := ⟨_, rfl, by omega, by omega, by simp [low]⟩
    obtain ⟨e', h1, h2⟩ := hcl.leave (m := H.length + T.length) (by omega)
    exact ⟨⟨e', .inr h1⟩, h2 _ _⟩
  · simp only [go_sem, simprocAttr, hl, h0, hj, hd, hv]
    rw [set_get hj]
    refine ⟨⟨z0, .inl rfl⟩, ?_⟩
    rw [← List.length_append]
    exact leave_flat0 rfl (by rw [clean_z0]; trivial)

theorem Buf.scl {n : Nat} {T : Hp} {v : AV} {bs : List UInt8} (h : Buf n T v bs) : scal v = true := by
  obtain ⟨rfl, _⟩ | ⟨_, m, rfl, _⟩ := h <;> rfl
theorem Buf.len {n : Nat} {T : Hp} {v : AV} {bs : List UInt8} (h : Buf n T v bs) (H : Hp) : evLen Tryd.prog 59 v H = some (.int .i64 bs.length) := by
  obtain ⟨rfl, rfl⟩ | ⟨_, m, rfl, _⟩ := h
  · simp only [evLen, tsh_59]; rfl
  · simp only [evLen, tsh_59]
theorem get_app {T l : Hp} {i : Nat} {x : ABlk} (h : T[i]? = some x) : (T ++ l)[i]? = some x := hp_old h
/-- Bytes appended to it. -/
theorem Buf.app {H T : Hp} {v : AV} {bs : List UInt8} (h : Buf H.length T v bs) (s : List UInt8) (hf : fits (bs.length + s.length) 1 = true) :
    ∃ v' T2 e2, (∀ kk, stepK (appTo Tryd.prog (.slice 5 1 1) v (u8s s, s.length) (H ++ T)) kk = kk (v', H ++ T2, e2)) ∧ T.length ≤ T2.length ∧ clean H.length e2 ∧ (∀ (i : Nat) x, T[i]? = some x → fixd x = true → T2[i]? = some x) ∧ Buf H.length T2 v' (bs ++ s) := by
  obtain ⟨rfl, rfl⟩ | ⟨hpos, m, rfl, hm⟩ := h
  · by_cases hs : s = []
    · subst hs
      refine ⟨.nils, T, z0, fun kk => ?_, Nat.le_refl _, ⟨rfl, rfl⟩, fun i x hx _ => hx, .inl ⟨rfl, rfl⟩⟩
      rw [appTo_nils (by decide) zok_59]
      have hd : decide (([] : List UInt8).length = 0) = true := rfl
      rw [hd, guardK_tt]
    · have hl : 0 < s.length := by cases s <;> simp_all
      refine ⟨.slice (H.length + T.length) 0 s.length (.op 0), T ++ [.cells (u8s s) 5 (.op 0 false)], z0, fun kk => ?_, by simp, ⟨rfl, rfl⟩, fun i x hx _ => get_app hx, .inr ⟨by simpa using hl, T.length, by simp, by simp⟩⟩
      rw [appTo_nils (by decide) zok_59]
      have hd : decide (s.length = 0) = false := by simp; omega
      have hf : fits s.length 1 = true := by simpa using hf
      simp only [hd, guardK_ft, hf, true_and, List.length_append, List.append_assoc]
  · have hlt := lt_of_get hm
    have hg : (H ++ T)[H.length + m]? = some (.cells (u8s bs) 5 (.op 0 false)) := by rw [hp_new, hm]
    by_cases hs : s = []
    · subst hs
      refine ⟨.slice (H.length + m) 0 bs.length (.op 0), T, ⟨none, some (H.length + m)⟩, fun kk => ?_, Nat.le_refl _, by simp [clean, low], fun i x hx _ => hx, .inr ⟨by simpa using hpos, m, by simp, by simpa using hm⟩⟩
      have hsp : splice (u8s bs) (bs.length) [] = u8s bs := by
        unfold splice
        simp
      rw [appTo_op (by decide) zok_59, hg]
      have hset : (H ++ T).set (H.length + m) (.cells (u8s bs) 5 (.op 0 false)) = H ++ T := set_get hg
      have hd : decide (0 + (bs.length + ([] : List UInt8).length) * 1 ≤ (u8s bs).length) = true := by rw [u8s_len]; simp
      have e1 : (0 + bs.length * 1 + (u8s []).length ≤ (u8s bs).length ∧ canWr (Kd.op 0 false) (0 + bs.length * 1) = true ∧ (u8s []).all scal = true) := ⟨by simp [u8s_len], rfl, rfl⟩
      have e2 : splice (u8s bs) (0 + bs.length * 1) (u8s []) = u8s bs := by rw [Nat.zero_add, Nat.mul_one]; exact hsp
      have hwr : wr (H ++ T) (H.length + m) (0 + bs.length * 1) (u8s []) = some (H ++ T, ⟨none, some (H.length + m)⟩) := by
        unfold wr
        rw [hg]
        show (if _ then _ else _) = _
        rw [if_pos e1, e2, hset, u8s_flat, if_pos rfl]
      simp only [bindK_some, appO_c, hwr]
      rw [hd, guardK_tt]
      rw [hwr]
      simp only [bindK_some, u8s_len, Nat.zero_add, Nat.mul_one, Nat.le_refl, and_self, true_and, List.length_nil, Nat.add_zero]
    · have hl : 0 < s.length := by cases s <;> simp_all
      refine ⟨.slice (H.length + T.length) 0 (bs ++ s).length (.op 0), T.set m .dead ++ [.cells (u8s (bs ++ s)) 5 (.op 0 false)], ⟨none, some (H.length + m)⟩, fun kk => ?_, by simp, by simp [clean, low], fun i x hx hf => ?_, .inr ⟨by simp; omega, T.length, rfl, by simp⟩⟩
      · rw [appTo_op (by decide) zok_59, hg]
        simp only [bindK_some, appO_c]
        have hd : decide (0 + (bs.length + s.length) * 1 ≤ (u8s bs).length) = false := by
          rw [u8s_len]; simp; omega
        have ht : (List.drop 0 (u8s bs)).take bs.length ++ u8s s = u8s (bs ++ s) := by
          rw [List.drop_zero, List.take_of_length_le (by rw [u8s_len]; exact Nat.le_refl _), u8s_app]
        rw [hd, guardK_ft]
        simp only [ht, hf, u8s_scal, hp_set, List.length_append, List.append_assoc, u8s_len, Nat.sub_self, Nat.zero_le, true_and, and_true, Nat.mul_one, Nat.zero_add, Nat.le_refl]
      · have hne : m ≠ i := by
          rintro rfl
          rw [hm] at hx; cases hx; cases hf
        rw [get_app (x := x)]
        rw [List.getElem?_set_ne hne]; exact hx

theorem Buf.set {n : Nat} {T : Hp} {v : AV} {bs : List UInt8} {j : Nat} {c : List AV} {e : TypeId} {x : ABlk} (h : Buf n T v bs) (hj : T[j]? = some (.cells c e .rw)) : Buf n (T.set j x) v bs := by
  obtain h | ⟨hp, m, rfl, hm⟩ := h
  · exact .inl h
  · refine .inr ⟨hp, m, rfl, ?_⟩
    have : j ≠ m := by rintro rfl; rw [hj] at hm; cases hm
    rw [List.getElem?_set_ne this]; exact hm
theorem Buf.pos {n : Nat} {T : Hp} {v : AV} {bs : List UInt8} (h : Buf n T v bs) (hp : 0 < bs.length) : ∃ m, v = .slice (n + m) 0 bs.length (.op 0) ∧ T[m]? = some (.cells (u8s bs) 5 (.op 0 false)) := by
  obtain ⟨_, rfl⟩ | ⟨_, h⟩ := h
  · cases hp
  · exact h

set_option maxRecDepth 20000 in
theorem wstr34 (H T : Hp) (j : Nat) (bs s : List UInt8) (hb : Bld H.length T j bs) (hs : 0 < s.length) (hf : fits (bs.length + s.length) 1 = true) :
    ∃ T' e, Bld H.length T' j (bs ++ s) ∧ Keep T j T' ∧ Cl H.length j e ∧ ∀ k, callK Tryd.prog 34 [.ptr (H.length + j) 0, .str s] (H ++ T) k = k (.tuple [.int .i64 s.length, .nili], H ++ T', e) := by
  obtain ⟨p, v, hj, hp, hv⟩ := hb
  have hlt := lt_of_get hj
  obtain ⟨e1, he1, hck⟩ := check52 H T j p v hj hp hv.scl
  have hj1 : (T.set j (.cells [.ptr (H.length + j) 0, v] 61 .rw))[j]? = some (.cells [.ptr (H.length + j) 0, v] 61 .rw) := by rw [List.getElem?_set_self hlt]
  have hv1 := hv.set (x := .cells [.ptr (H.length + j) 0, v] 61 .rw) hj
  obtain ⟨v', T2, e2, happ, hlen, hcl, hkeep, hbuf⟩ := hv1.app s hf
  obtain ⟨m, hvm, hm⟩ := hbuf.pos (by simp; omega)
  have hj2 := hkeep j _ hj1 rfl
  have hlt2 := lt_of_get hj2
  have hfl : flat v' = false := by rw [hvm]; simp only [flat]
  have hsc := hbuf.scl
  have hvc : vcells v' = [v'] := by rw [hvm]; rfl
  have hc0 : clean H.length e1 := by
    obtain rfl | h := he1
    · exact ⟨rfl, rfl⟩
    · exact h.cln
  have hcl3 : Cl H.length j ((e1.and e2).and ⟨some (H.length + j), some (H.length + j)⟩) := .andr (clean_and hc0 hcl) ⟨_, rfl, by omega, by omega, by simp [low]⟩
  obtain ⟨e', hE, hleave⟩ := hcl3.leave (m := H.length + T.length) (by omega)
  refine ⟨T2.set j (.cells [.ptr (H.length + j) 0, v'] 61 .rw), e', ⟨_, v', by rw [List.getElem?_set_self hlt2], .inr rfl, hbuf.set hj2⟩, ⟨by simp at hlen ⊢; omega, fun i x hi hx hf => ?_⟩, hE, fun k => ?_⟩
  · rw [List.getElem?_set_ne (Ne.symm hi)]
    exact hkeep i x (by rw [List.getElem?_set_ne (Ne.symm hi)]; exact hx) hf
  simp only [u8s] at happ
  refine callK_eq ?_ k
  refine callK_start (n := 19) (rs := [.tmp 4, .tmp 5]) Tryd.func34 rfl rfl rfl ?_
  intro σ hl ha
  have h0 := ha 0 (by simp)
  have h1 := ha 1 (by simp)
  clear ha
  simp only [Option.getD_some, List.getElem?_cons_zero, List.getElem?_cons_succ] at h0 h1
  have d1 : decide (j < T.length) = true := by simpa using hlt
  have d2 : decide (j < T2.length) = true := by simpa using hlt2
  simp only [go_sem, simprocAttr, hl, h0, h1, hck, d1, d2, hj1, hj2, happ, hvc, hsc, hfl]
  exact hleave _ _

set_option maxRecDepth 20000 in
theorem wbyte36 (H T : Hp) (j : Nat) (bs : List UInt8) (c : UInt8) (hb : Bld H.length T j bs) (hf : fits (bs.length + 1) 1 = true) :
    ∃ T' e, Bld H.length T' j (bs ++ [c]) ∧ Keep T j T' ∧ Cl H.length j e ∧ ∀ k, callK Tryd.prog 36 [.ptr (H.length + j) 0, .int .u8 c.toNat] (H ++ T) k = k (.nili, H ++ T', e) := by
  obtain ⟨p, v, hj, hp, hv⟩ := hb
  have hlt := lt_of_get hj
  obtain ⟨e1, he1, hck⟩ := check52 H T j p v hj hp hv.scl
  have hj1 : (T.set j (.cells [.ptr (H.length + j) 0, v] 61 .rw))[j]? = some (.cells [.ptr (H.length + j) 0, v] 61 .rw) := by rw [List.getElem?_set_self hlt]
  have hj1' : (T.set j (.cells [.ptr (H.length + j) 0, v] 61 .rw) ++ [.cells [.int .u8 c.toNat] 5 .rw])[j]? = some (.cells [.ptr (H.length + j) 0, v] 61 .rw) := get_app hj1
  have hv1 : Buf H.length (T.set j (.cells [.ptr (H.length + j) 0, v] 61 .rw) ++ [.cells [.int .u8 c.toNat] 5 .rw]) v bs := by
    obtain h | ⟨hp, m, rfl, hm⟩ := hv.set (x := .cells [.ptr (H.length + j) 0, v] 61 .rw) hj
    · exact .inl h
    · exact .inr ⟨hp, m, rfl, get_app hm⟩
  obtain ⟨v', T2, e2, happ, hlen, hcl, hkeep, hbuf⟩ := hv1.app [c] hf
  obtain ⟨m, hvm, hm⟩ := hbuf.pos (by simp)
  have hj2 := hkeep j _ hj1' rfl
  have hlt2 := lt_of_get hj2
  have hfl : flat v' = false := by rw [hvm]; simp only [flat]
  have hsc := hbuf.scl
  have hvc : vcells v' = [v'] := by rw [hvm]; rfl
  have hc0 : clean H.length e1 := by
    obtain rfl | h := he1
    · exact ⟨rfl, rfl⟩
    · exact h.cln
  have hcl3 : Cl H.length j ((e1.and e2).and ⟨some (H.length + j), some (H.length + j)⟩) := .andr (clean_and hc0 hcl) ⟨_, rfl, by omega, by omega, by simp [low]⟩
  obtain ⟨e', hE, hleave⟩ := hcl3.leave (m := H.length + T.length) (by omega)
  refine ⟨T2.set j (.cells [.ptr (H.length + j) 0, v'] 61 .rw), e', ⟨_, v', by rw [List.getElem?_set_self hlt2], .inr rfl, hbuf.set hj2⟩, ⟨by simp at hlen ⊢; omega, fun i x hi hx hf => ?_⟩, hE, fun k => ?_⟩
  · rw [List.getElem?_set_ne (Ne.symm hi)]
    exact hkeep i x (get_app (by rw [List.getElem?_set_ne (Ne.symm hi)]; exact hx)) hf
  simp only [u8s, List.map_cons, List.map_nil, List.length_cons, List.length_nil, Nat.zero_add] at happ
  refine callK_eq ?_ k
  refine callK_start (n := 17) (rs := [.tmp 4]) Tryd.func36 rfl rfl rfl ?_
  intro σ hl ha
  have h0 := ha 0 (by simp)
  have h1 := ha 1 (by simp)
  clear ha
  simp only [Option.getD_some, List.getElem?_cons_zero, List.getElem?_cons_succ] at h0 h1
  have d1 : decide (j < T.length) = true := by simpa using hlt
  have d2 : decide (j < T2.length) = true := by simpa using hlt2
  have hbs : ∀ H, evBuildSlice Tryd.prog 59 1 [(0, .int .u8 c.toNat)] H = some (.slice H.length 0 1 (.ex 1), H ++ [.cells [.int .u8 c.toNat] 5 .rw]) := by
    intro H
    simp only [evBuildSlice, tsh_59, tzero_5, Option.bind_some]
    rfl
  simp only [go_sem, simprocAttr, hl, h0, h1, hck, d1, d2, hj1, hj2, hbs, happ, hvc, hsc, hfl]
  exact hleave _ _

/-- What it holds, read: its row is not written again. -/
theorem string39 (H T : Hp) (j : Nat) (bs : List UInt8) (hb : Bld H.length T j bs) (hn : bs.length ≤ 9223372036854775807) :
    ∃ T' e, clean H.length e ∧ ∀ k, callK Tryd.prog 39 [.ptr (H.length + j) 0] (H ++ T) k = k (.str bs, H ++ T', e) := by
  obtain ⟨p, v, hj, hp, hv⟩ := hb
  have hlt := lt_of_get hj
  have hlen := hv.len
  obtain ⟨rfl, rfl⟩ | ⟨hpos, m, rfl, hm⟩ := hv
  · refine ⟨T, z0, ⟨rfl, rfl⟩, fun k => ?_⟩
    refine callK_eq ?_ k
    refine callK_start (n := 14) (rs := [.tmp 2]) Tryd.func39 rfl rfl rfl ?_
    intro σ hl ha
    have h0 := ha 0 (by simp)
    clear ha
    simp only [Option.getD_some, List.getElem?_cons_zero, List.getElem?_cons_succ] at h0
    have hsd : evSliceData Tryd.prog .nils (H ++ T) = some .nilp := rfl
    have hst : evString Tryd.prog 78 .nilp (.int .i64 0) (H ++ T) = some (.str [], H ++ T, z0) := rfl
    have d1 : decide (j < T.length) = true := by simpa using hlt
    simp only [go_sem, simprocAttr, hl, h0]
    refine go_drawZ tFollows (by kernel_rfl) ?_
    simp only [go_sem, simprocAttr, hl, h0, hj, d1, hsd, hst, hlen]
    rw [← List.length_append]
    exact leave_flat0 rfl (by rw [clean_z0]; trivial)
  · have hlm := lt_of_get hm
    have hg : (H ++ T)[H.length + m]? = some (.cells (u8s bs) 5 (.op 0 false)) := by rw [hp_new, hm]
    have hsd : evSliceData Tryd.prog (.slice (H.length + m) 0 bs.length (.op 0)) (H ++ T) = some (.ptr (H.length + m) 0) := by
      simp only [evSliceData, hg, tsize_5, Option.bind_some]
      rw [if_pos ⟨by decide, trivial, hpos, by rw [u8s_len]; omega⟩]
    have hst : evString Tryd.prog 78 (.ptr (H.length + m) 0) (.int .i64 bs.length) (H ++ T) = some (.str bs, (H ++ T).set (H.length + m) (.cells (u8s bs) 5 (.op bs.length false)), ⟨none, some (H.length + m)⟩) := by
      have c1 : ¬ ((bs.length : Int) = 0) := by omega
      have c2 : 0 < (bs.length : Int) ∧ (bs.length : Int) ≤ 9223372036854775807 := by omega
      have c3 : Tryd.prog.cellsOf 5 = 1 := by kernel_rfl
      have c5 : ((u8s bs).drop 0).take (bs.length : Int).toNat = u8s bs := by
        rw [List.drop_zero, List.take_of_length_le (by rw [u8s_len]; simp)]
      simp only [evString, tsh_78, hg]
      rw [if_neg c1, if_pos c2, if_pos ⟨trivial, tsize_5, c3, by rw [u8s_len]; simp⟩, c5, bytes_u8s]
      simp
    refine ⟨T.set m (.cells (u8s bs) 5 (.op bs.length false)), ⟨none, low (H.length + T.length) (some (H.length + m))⟩, ⟨rfl, low_low (m := H.length + T.length) (by simp [low] : low H.length (some (H.length + m)) = none)⟩, fun k => ?_⟩
    refine callK_eq ?_ k
    refine callK_start (n := 14) (rs := [.tmp 2]) Tryd.func39 rfl rfl rfl ?_
    intro σ hl ha
    have h0 := ha 0 (by simp)
    clear ha
    simp only [Option.getD_some, List.getElem?_cons_zero, List.getElem?_cons_succ] at h0
    have d1 : decide (j < T.length) = true := by simpa using hlt
    simp only [go_sem, simprocAttr, hl, h0]
    refine go_drawZ tFollows (by kernel_rfl) ?_
    simp only [go_sem, simprocAttr, hl, h0, hj, d1, hsd, hst, hlen]
    refine ⟨(by kernel_rfl : effOk _ _ = true), ?_⟩
    unfold leave
    have hlo : low (H.length + T.length) none = none := rfl
    simp only [hlo, flat, and_self, if_true]
    rw [List.take_of_length_le (by simp)]
end Go.Proofs.YtjemmehgfheflaaDoor.V
