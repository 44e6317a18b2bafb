/- The rules by which a run of 'V' is stepped through. No conditions. -/
import Derived.Test.YtgkpgpdkolpfkaaDoorVGo
import Derived.KernelRfl
import Derived.Laws.RangeString
namespace Go.Proofs.YtgkpgpdkolpfkaaDoor.V
open Go
set_option linter.unusedSimpArgs false
set_option linter.unusedVariables false

/-- What an optional value is handed on to. -/
def bindK {α : Type} (o : Option α) (f : α → Prop) (_ : Ph f := ⟨⟩) : Prop :=
  match o with
  | some a => f a
  | none => False
theorem bindK_some {α : Type} {a : α} {f : α → Prop} : bindK (some a) f = f a := rfl
/-- A frame's slot. -/
def fr (σ : List AV) (t : Nat) : AV := (σ[t]?).getD undefA
/-- A guard. -/
def guardK (v : AV) (w : Bool) (A B : Prop) (_ : Ph (A, B) := ⟨⟩) : Prop :=
  match v with
  | .bool b => if (b == w) = true then A else B
  | _ => B
theorem guardK_tt {A B : Prop} : guardK (.bool true) true A B = A := rfl
theorem guardK_tf {A B : Prop} : guardK (.bool true) false A B = B := rfl
theorem guardK_ft {A B : Prop} : guardK (.bool false) true A B = B := rfl
theorem guardK_ff {A B : Prop} : guardK (.bool false) false A B = A := rfl
theorem guardK_u {w : Bool} {A B : Prop} : guardK undefA w A B = B := rfl
attribute [go_sem ↓] guardK_u
theorem guardK_split {b w : Bool} {A B : Prop} (h1 : b = w → A) (h2 : b = !w → B) : guardK (.bool b) w A B := by
  cases b <;> cases w <;> first | exact h1 rfl | exact h2 rfl
def condK (v : Option AV) (A B : Prop) (_ : Ph (A, B) := ⟨⟩) : Prop :=
  match v with
  | some (.bool true) => A
  | some (.bool false) => B
  | _ => False
theorem condK_t {A B : Prop} : condK (some (.bool true)) A B = A := rfl
theorem condK_f {A B : Prop} : condK (some (.bool false)) A B = B := rfl
theorem condK_split {b : Bool} {A B : Prop} (h1 : b = true → A) (h2 : b = false → B) : condK (some (.bool b)) A B := by
  cases b <;> first | exact h1 rfl | exact h2 rfl

section
variable {P : Program} {Q : Ex → St → Prop} {k : List It} {σ : List AV} {H : Hp} {e : Ef} {ops : List Oper} {K : St → Prop} {l : List Oper}

theorem leaveTo_ne {id j : Nat} (h : (id == j) = false) : leaveTo P Q id (.inBlock j :: k) ⟨σ, H, e⟩ = leaveTo P Q id k ⟨σ, H, e⟩ := leaveTo_other (by simpa using h)
attribute [go_sem ↓] go_nil go_skip go_label go_seq go_block go_inBlock go_exit leaveTo_code leaveTo_this leaveTo_ne go_ret go_region goOps_nil goD_nil
attribute [go_sem] Ef.and_z0 Ef.z0_and

theorem leaveTo_nil {id : Nat} : leaveTo P Q id [] ⟨σ, H, e⟩ = Q (.exit id) ⟨σ, H, e⟩ := rfl
theorem fr_ne {d t : Nat} {v : AV} (h : (d == t) = false) : fr (σ.set d v) t = fr σ t := by
  unfold fr; rw [List.getElem?_set_ne (by simpa using h)]
theorem fr_eq {d : Nat} {v : AV} (h : decide (d < σ.length) = true) : fr (σ.set d v) d = v := by
  unfold fr; rw [List.getElem?_set_self (by simpa using h)]; rfl
attribute [go_sem] fr_ne fr_eq List.length_set bindK_some guardK_tt guardK_tf guardK_ft guardK_ff condK_t condK_f
attribute [go_sem ↓] leaveTo_nil bindK_some guardK_tt guardK_tf guardK_ft guardK_ff condK_t condK_f

theorem go_if {c : Operand} {a b : Code} : go P Q (.code (.cond c a b) :: k) ⟨σ, H, e⟩ = condK (evArg P σ c) (go P Q (.code a :: k) ⟨σ, H, e⟩) (go P Q (.code b :: k) ⟨σ, H, e⟩) := by
  by_cases ht : evArg P σ c = some (.bool true)
  · rw [go_true ht, ht]; rfl
  by_cases hf : evArg P σ c = some (.bool false)
  · rw [go_false hf, hf]; rfl
  apply propext
  constructor
  · rintro ⟨n, ex, s', hs, hq⟩
    have : evCode P (evN P n) n (.cond c a b) ⟨σ, H, e⟩ = none := by
      show (match evArg P σ c with | some (.bool true) => _ | some (.bool false) => _ | _ => none) = none
      split
      · exact absurd ‹_› ht
      · exact absurd ‹_› hf
      · rfl
    rw [this] at hs; cases hs
  · intro h
    unfold condK at h
    split at h
    · exact absurd ‹_› ht
    · exact absurd ‹_› hf
    · exact h.elim

theorem go_op {dst : Option Tmp} {op : Op} {ty : TypeId} {pos : String} {af : Array Edge} : goOps P ops K (⟨dst, op, ty, pos, af, none⟩ :: l) ⟨σ, H, e⟩ = opK P σ H op (nextK P ops K l σ e dst) := goOps_want rfl
/-- A guard's slot. -/
def gdst (ops : List Oper) (j : Nat) : Option Nat := (ops[j]?).bind (·.dst)
theorem gdst_z {o : Oper} {l : List Oper} : gdst (o :: l) 0 = o.dst := rfl
theorem gdst_s {o : Oper} {l : List Oper} {j : Nat} : gdst (o :: l) (j + 1) = gdst l j := rfl
def gvalO (σ : List AV) : Option Nat → AV
  | some d => fr σ d
  | none => undefA
theorem gvalO_s {d : Nat} : gvalO σ (some d) = fr σ d := rfl
theorem go_opg {dst : Option Tmp} {op : Op} {ty : TypeId} {pos : String} {af : Array Edge} {j : Nat} {w : Bool} :
    goOps P ops K (⟨dst, op, ty, pos, af, some (j, w)⟩ :: l) ⟨σ, H, e⟩ = guardK (gvalO σ (gdst ops j)) w (opK P σ H op (nextK P ops K l σ e dst)) (goOps P ops K l ⟨put σ dst undefA, H, e⟩) := by
  cases hw : wantedA ops σ ⟨dst, op, ty, pos, af, some (j, w)⟩ with
  | true =>
    rw [goOps_want hw]
    unfold wantedA at hw
    simp only at hw
    unfold gvalO gdst
    split at hw
    · rename_i d hd
      rw [hd]
      split at hw
      · rename_i b hb
        unfold fr; simp only [hb, Option.getD_some, guardK]; rw [if_pos hw]
      · cases hw
    · cases hw
  | false =>
    rw [goOps_skip hw]
    unfold wantedA at hw
    simp only at hw
    unfold gvalO gdst
    split at hw
    · rename_i d hd
      rw [hd]
      split at hw
      · rename_i b hb
        unfold fr; simp only [hb, Option.getD_some, guardK]; rw [if_neg (by rw [hw]; exact Bool.false_ne_true)]
      · rename_i hne
        simp only
        unfold fr guardK
        split
        · rename_i b hb
          cases hd2 : σ[d]? with
          | none => rw [hd2] at hb; cases hb
          | some v => rw [hd2] at hb; simp only [Option.getD_some] at hb; rw [hb] at hd2; exact absurd hd2 (hne b)
        · rfl
    · rename_i hd
      rw [hd]; rfl

theorem goD_op {K : St → List Nat → Prop} {l : List (Nat × Oper)} {i : Nat} {dst : Option Tmp} {op : Op} {ty : TypeId} {pos : String} {af : Array Edge} : goD P ops K ((i, ⟨dst, op, ty, pos, af, none⟩) :: l) ⟨σ, H, e⟩ = opK P σ H op (nextD P ops K l σ H e i ⟨dst, op, ty, pos, af, none⟩) := goD_want rfl
theorem nextK_ap {dst : Option Tmp} {v : AV} {H' : Hp} {e' : Ef} : nextK P ops K l σ e dst (v, H', e') = goOps P ops K l ⟨put σ dst v, H', e.and e'⟩ := rfl
theorem stepK_some {r : AV × Hp × Ef} {kk : AV × Hp × Ef → Prop} : stepK (some r) kk = kk r := rfl
theorem callX_f {g : FuncId} {as : List AV} {kk : AV × Hp × Ef → Prop} (hb : hasBody P g = true) : callX P g as H kk = callK P g as H kk := if_pos hb
theorem callX_x {g : FuncId} {as : List AV} {kk : AV × Hp × Ef → Prop} (hb : hasBody P g = false) (hz : isNZ P g = none) : callX P g as H kk = bindK (isExt P g) fun x => bindK (evExt x as) fun v => kk (v, H, z0) := by
  unfold callX evX
  rw [if_neg (by rw [hb]; exact Bool.false_ne_true), hz]
  cases isExt P g with
  | none => rfl
  | some x => cases h : evExt x as <;> simp [stepK, ret, bindK, h]
theorem callX_z {g : FuncId} {n : Int} {kk : AV × Hp × Ef → Prop} (hb : hasBody P g = false) (hz : (isNZ P g).isSome = true) : callX P g [.int .i64 n] H kk = bindK (isNZ P g) fun e => ((0 ≤ n ∧ n ≤ 281474976710656) ∧ kk (.slice H.length 0 n.toNat (.op 0), H ++ [.cells [] e (.op 0 false)], z0)) := by
  obtain ⟨e, he⟩ := Option.isSome_iff_exists.1 hz
  unfold callX evX
  rw [if_neg (by rw [hb]; exact Bool.false_ne_true), he]
  simp only [evNZ, bindK]
  by_cases h : 0 ≤ n ∧ n ≤ 281474976710656
  · rw [if_pos h]; simp [stepK, h]
  · rw [if_neg h]; simp [stepK, h]
attribute [go_sem] Option.isSome_some
theorem callT_some {g : FuncId} {as : List AV} {kk : AV × Hp × Ef → Prop} : callT P (some (.fn g as)) H kk = callX P g as H kk := rfl
theorem callT_y {b : Nat} {as : List AV} {kk : AV × Hp × Ef → Prop} : callT P (some (.yl b as)) H kk = callK P (P.funcs.size + b) as H kk := rfl
theorem ext_same {x : AV} : evExt .same [x] = some x := rfl
theorem ext_idxB {s : List UInt8} {c : Int} : evExt .idxB [.str s, .int .u8 c] = some (.int .i64 (Lib.indexByte s c.toNat.toUInt8)) := rfl
theorem ext_cntB {s : List UInt8} {c : Int} : evExt .cntB [.str s, .int .u8 c] = some (.int .i64 (Lib.countByte s c.toNat.toUInt8)) := rfl
theorem ext_cmp {a b : List UInt8} : evExt .cmp [.str a, .str b] = some (.int .i64 (Lib.compareBytes a b)) := rfl
attribute [go_sem] ext_same ext_idxB ext_cntB ext_cmp
attribute [go_sem ↓] callX_f callX_x callX_z
theorem put_t {d : Tmp} {v : AV} : put σ (some d) v = σ.set d v := rfl
theorem put_n {v : AV} : put σ none v = σ := rfl
attribute [go_sem] gdst_z gdst_s gvalO_s put_t put_n stepK_some
attribute [go_sem ↓] go_if go_op go_opg nextK_ap stepK_some callT_some callT_y goD_op

theorem ret_s {v : AV} : ret H (some v) = some (v, H, z0) := rfl
theorem ret2_s {v : AV × Hp} : ret2 (some v) = some (v.1, v.2, z0) := rfl
attribute [go_sem] ret_s ret2_s

theorem arg_t {t : Nat} : evArg P σ (.tmp t) = some (fr σ t) := rfl
theorem arg_f {f : FuncId} : evArg P σ (.func f) = some (.func (.func f) [] []) := rfl
theorem arg_i {kk : IntKind} {n : Int} : evArg P σ (.const (.int kk n)) = some (.int kk n) := rfl
theorem arg_b {b : Bool} : evArg P σ (.const (.bool b)) = some (.bool b) := rfl
theorem arg_s {s : Array UInt8} : evArg P σ (.const (.string ⟨s⟩)) = some (.str s.toList) := rfl
theorem arg_nilp : evArg P σ (.const (.pointer none)) = some .nilp := rfl
theorem arg_nils : evArg P σ (.const (.slice none 0 0)) = some .nils := rfl
theorem arg_nilm : evArg P σ (.const (.map none)) = some .nilm := rfl
theorem arg_nili : evArg P σ (.const .nilIface) = some .nili := rfl
theorem args_nil : evArgs P σ [] = some [] := rfl
theorem args_cons {x : Operand} {xs : List Operand} : evArgs P σ (x :: xs) = (evArg P σ x).bind fun a => (evArgs P σ xs).map (a :: ·) := rfl
theorem parts_nil : evParts P σ [] = some [] := rfl
theorem parts_cons {i : Nat} {x : Operand} {xs : List (Nat × Operand)} : evParts P σ ((i, x) :: xs) = (evArg P σ x).bind fun a => (evParts P σ xs).map ((i, a) :: ·) := rfl
theorem opt_n : evOpt P σ none = some none := rfl
theorem opt_s {x : Operand} : evOpt P σ (some x) = (evArg P σ x).map some := rfl
attribute [go_sem] arg_t arg_f arg_i arg_b arg_s arg_nilp arg_nils arg_nilm arg_nili args_nil args_cons parts_nil parts_cons opt_n opt_s Option.bind_some Option.map_some

/-! operations -/
section
variable {kk : AV × Hp × Ef → Prop}
theorem bindK_ext {α : Type} {o : Option α} {f g : α → Prop} (h : ∀ a, f a = g a) : bindK o f = bindK o g := by
  cases o
  · rfl
  · exact h _
theorem stepK_ret {v : Option AV} : stepK (ret H v) kk = bindK v fun v => kk (v, H, z0) := by cases v <;> rfl
theorem stepK_ret2 {v : Option (AV × Hp)} : stepK (ret2 v) kk = bindK v fun v => kk (v.1, v.2, z0) := by cases v <;> rfl
theorem stepK_bind {α : Type} {o : Option α} {f : α → Rs} : stepK (o.bind f) kk = bindK o fun a => stepK (f a) kk := by cases o <;> rfl
theorem stepK_map {α : Type} {o : Option α} {f : α → AV × Hp × Ef} : stepK (o.map f) kk = bindK o fun a => kk (f a) := by cases o <;> rfl
theorem bindK_bind {α β : Type} {o : Option α} {f : α → Option β} {g : β → Prop} : bindK (o.bind f) g = bindK o fun a => bindK (f a) g := by cases o <;> rfl
theorem bindK_map {α β : Type} {o : Option α} {f : α → β} {g : β → Prop} : bindK (o.map f) g = bindK o fun a => g (f a) := by cases o <;> rfl
theorem bindK_ite {α : Type} {c : Prop} [Decidable c] {o : Option α} {g : α → Prop} : bindK (if c then o else none) g = (c ∧ bindK o g) := by
  split
  · rename_i h; simp [h]
  · rename_i h; simp [h, bindK]
attribute [go_sem] bindK_bind bindK_map bindK_ite
attribute [go_sem ↓] bindK_bind bindK_map

theorem k_move {x : Operand} : opK P σ H (.move x) kk = bindK (evArg P σ x) fun v => kk (v, H, z0) := stepK_ret
theorem k_assign {x : Operand} : opK P σ H (.assign x) kk = bindK (evArg P σ x) fun v => kk (v, H, z0) := stepK_ret
/-- A choice. -/
def pickV : AV → AV → AV → Option AV
  | .bool t, a, b => some (if t then a else b)
  | _, _, _ => none
theorem pickV_t {a b : AV} : pickV (.bool true) a b = some a := rfl
theorem pickV_f {a b : AV} : pickV (.bool false) a b = some b := rfl
theorem k_pick {c x y : Operand} : opK P σ H (.pick c x y) kk = bindK (evArg P σ c) fun c => bindK (match c with | .bool t => if t then evArg P σ x else evArg P σ y | _ => none) fun v => kk (v, H, z0) := by
  show stepK _ _ = _
  simp only [evOp]
  rw [stepK_bind]
  refine bindK_ext fun c => ?_; cases c <;> first | rfl | exact stepK_ret
theorem k_alloc {t : TypeId} : opK P σ H (.alloc t) kk = bindK (tzero P t) fun z => kk (.ptr H.length 0, H ++ [.cells z t .rw], z0) := stepK_map
theorem k_box {t : TypeId} {x : Operand} : opK P σ H (.box t x) kk = bindK (evArg P σ x) fun v => kk (.ptr H.length 0, H ++ [.cells (vcells v) t .rw], z0) := stepK_map
def asPtr : AV → Option (Nat × Nat)
  | .ptr b o => some (b, o)
  | _ => none
theorem asPtr_p {b o : Nat} : asPtr (.ptr b o) = some (b, o) := rfl
theorem k_load {t : TypeId} {x : Operand} : opK P σ H (.load t x) kk = bindK (evArg P σ x) fun v => bindK (asPtr v) fun p => bindK (evLoad P H t p.1 p.2) fun v => kk (v, H, z0) := by
  show stepK _ _ = _
  simp only [evOp]
  rw [stepK_bind]
  refine bindK_ext fun c => ?_; cases c <;> first | rfl | exact stepK_ret
theorem k_store {t : TypeId} {x y : Operand} : opK P σ H (.store t x y) kk = bindK (evArg P σ x) fun p => bindK (evArg P σ y) fun v => bindK (asPtr p) fun p => bindK (evStore P H t p.1 p.2 v) fun r => kk (undefA, r.1, r.2) := by
  show stepK _ _ = _
  simp only [evOp]
  rw [stepK_bind]
  refine bindK_ext fun c => ?_
  rw [stepK_bind]
  refine bindK_ext fun v => ?_; cases c <;> first | rfl | exact stepK_map
def chkV : AV → Option AV
  | .ptr b o => some (.ptr b o)
  | .func (.func f) a b => some (.func (.func f) a b)
  | _ => none
theorem chkV_p {b o : Nat} : chkV (.ptr b o) = some (.ptr b o) := rfl
theorem chkV_f {f : FuncId} {a b : List AV} : chkV (.func (.func f) a b) = some (.func (.func f) a b) := rfl
theorem k_nilCheck {x : Operand} : opK P σ H (.nilCheck x) kk = bindK (evArg P σ x) fun v => bindK (chkV v) fun v => kk (v, H, z0) := by
  show stepK _ _ = _
  simp only [evOp]
  rw [stepK_bind]
  refine bindK_ext fun c => ?_
  cases c <;> try rfl
  rename_i f _ _
  cases f <;> rfl
theorem k_un {op : UnOp} {t : TypeId} {x : Operand} : opK P σ H (.unOp op t x) kk = bindK (evArg P σ x) fun v => bindK (evUn op v) fun v => kk (v, H, z0) := by
  show stepK _ _ = _
  simp only [evOp]
  rw [stepK_bind]
  refine bindK_ext fun c => ?_; exact stepK_ret
theorem k_conv {s d : TypeId} {x : Operand} : opK P σ H (.convert s d x) kk = bindK (evArg P σ x) fun v => bindK (evConv P s d v H) fun r => kk (r.1, r.2, z0) := by
  show stepK _ _ = _
  simp only [evOp]
  rw [stepK_bind]
  refine bindK_ext fun c => ?_; exact stepK_ret2
def fldA (b o : Nat) (x : Nat × Nat × Bool) : Option AV := if (x.2.1 == 0) = true then none else some (.ptr b (o + x.1))
theorem fldA_s {b o p n : Nat} {g : Bool} (h : (n == 0) = false) : fldA b o (p, n, g) = some (.ptr b (o + p)) := by simp [fldA, h]
theorem k_fieldAddr {t : TypeId} {x : Operand} {f : Nat} : opK P σ H (.fieldAddr t x f) kk = bindK (evArg P σ x) fun v => bindK (asPtr v) fun p => bindK (tfield P t f) fun x => bindK (fldA p.1 p.2 x) fun v => kk (v, H, z0) := by
  show stepK _ _ = _
  simp only [evOp]
  rw [stepK_bind]
  refine bindK_ext fun c => ?_
  cases c <;> try rfl
  show stepK (Option.bind _ _) _ = _
  rw [stepK_bind]
  show _ = bindK _ _
  refine bindK_ext fun x => ?_
  unfold fldA
  by_cases hx : x.2.1 = 0
  · simp [hx, stepK, bindK, asPtr]
  · simp [hx, stepK, bindK, asPtr]
/-- A struct's field. -/
def fldV (cs : List AV) (x : Nat × Nat × Bool) : Option AV := if x.2.2 = true then (if x.1 + x.2.1 ≤ cs.length then some (.agg ((cs.drop x.1).take x.2.1)) else none) else cs[x.1]?
theorem fldV_f {cs : List AV} {p n : Nat} : fldV cs (p, n, false) = cs[p]? := rfl
theorem fldV_t {cs : List AV} {p n : Nat} : fldV cs (p, n, true) = if p + n ≤ cs.length then some (.agg ((cs.drop p).take n)) else none := rfl
def asAgg : AV → Option (List AV)
  | .agg cs => some cs
  | _ => none
theorem asAgg_a {cs : List AV} : asAgg (.agg cs) = some cs := rfl
theorem k_field {t : TypeId} {x : Operand} {f : Nat} : opK P σ H (.field t x f) kk = bindK (evArg P σ x) fun v => bindK (asAgg v) fun cs => bindK (tfield P t f) fun x => bindK (fldV cs x) fun v => kk (v, H, z0) := by
  show stepK _ _ = _
  simp only [evOp]
  rw [stepK_bind]
  refine bindK_ext fun c => ?_
  cases c <;> try rfl
  show stepK (Option.bind _ _) _ = _
  rw [stepK_bind]
  show _ = bindK _ _
  refine bindK_ext fun x => ?_
  exact stepK_ret
theorem k_indexAddr {t : TypeId} {x i : Operand} : opK P σ H (.indexAddr t x i) kk = bindK (evArg P σ x) fun v => bindK (evArg P σ i) fun w => bindK (evIndexAddr P t v w) fun v => kk (v, H, z0) := by
  show stepK _ _ = _
  simp only [evOp]
  rw [stepK_bind]; refine bindK_ext fun c => ?_
  rw [stepK_bind]; refine bindK_ext fun c => ?_
  exact stepK_ret
theorem k_index {t : TypeId} {x i : Operand} : opK P σ H (.index t x i) kk = bindK (evArg P σ x) fun v => bindK (evArg P σ i) fun w => bindK (evIndex P t v w) fun v => kk (v, H, z0) := by
  show stepK _ _ = _
  simp only [evOp]
  rw [stepK_bind]; refine bindK_ext fun c => ?_
  rw [stepK_bind]; refine bindK_ext fun c => ?_
  exact stepK_ret
def asTup : AV → Option (List AV)
  | .tuple cs => some cs
  | _ => none
theorem asTup_a {cs : List AV} : asTup (.tuple cs) = some cs := rfl
theorem k_extract {x : Operand} {i : Nat} : opK P σ H (.extract x i) kk = bindK (evArg P σ x) fun v => bindK (asTup v) fun vs => bindK (vs[i]?) fun v => kk (v, H, z0) := by
  show stepK _ _ = _
  simp only [evOp]
  rw [stepK_bind]; refine bindK_ext fun c => ?_
  cases c <;> first | rfl | exact stepK_ret
theorem k_makeFunc {fn : Fn} {f c : Array Operand} : opK P σ H (.makeFunc fn f c) kk = bindK (evArgs P σ f.toList) fun fs => bindK (evArgs P σ c.toList) fun cs => kk (.func fn fs cs, H, z0) := by
  show stepK _ _ = _
  simp only [evOp]
  rw [stepK_bind]; refine bindK_ext fun c => ?_
  rw [stepK_bind]; rfl
/-- A slice of a slice, of a string, of an array. -/
def slK (P : Program) (t : TypeId) (v : AV) (lo hi mx : Option AV) (H : Hp) (kk : AV × Hp × Ef → Prop) (_ : Ph kk := ⟨⟩) : Prop :=
  match evSlice P t v lo hi mx H with
  | some v => kk (v, H, z0)
  | none => bindK (evSliceX P t v lo hi mx H) fun r => kk (r.1, r.2, z0)
theorem slK_of {t : TypeId} {v : AV} {lo hi mx : Option AV} (h : evSliceX P t v lo hi mx H = none) : slK P t v lo hi mx H kk = bindK (evSlice P t v lo hi mx H) fun v => kk (v, H, z0) := by
  unfold slK
  cases evSlice P t v lo hi mx H with
  | none => rw [h]; rfl
  | some v => rfl
theorem k_slice {t : TypeId} {x : Operand} {lo hi mx : Option Operand} : opK P σ H (.slice t x lo hi mx) kk = bindK (evArg P σ x) fun v => bindK (evOpt P σ lo) fun a => bindK (evOpt P σ hi) fun b => bindK (evOpt P σ mx) fun c => slK P t v a b c H kk := by
  show stepK _ _ = _
  simp only [evOp]
  rw [stepK_bind]; refine bindK_ext fun c => ?_
  rw [stepK_bind]; refine bindK_ext fun c => ?_
  rw [stepK_bind]; refine bindK_ext fun c => ?_
  rw [stepK_bind]; refine bindK_ext fun c => ?_
  unfold slK
  cases evSlice P t _ _ _ _ H with
  | some v => rfl
  | none => exact stepK_map
theorem k_build {t : TypeId} {ps : Array (Nat × Operand)} : opK P σ H (.build t ps) kk = bindK (evParts P σ ps.toList) fun vs => bindK (evBuild P t vs) fun v => kk (v, H, z0) := by
  show stepK _ _ = _
  simp only [evOp]
  rw [stepK_bind]; refine bindK_ext fun c => ?_
  exact stepK_ret
theorem k_buildSlice {t : TypeId} {n : Nat} {ps : Array (Nat × Operand)} : opK P σ H (.buildSlice t n ps) kk = bindK (evParts P σ ps.toList) fun vs => bindK (evBuildSlice P t n vs H) fun r => kk (r.1, r.2, z0) := by
  show stepK _ _ = _
  simp only [evOp]
  rw [stepK_bind]; refine bindK_ext fun c => ?_
  exact stepK_ret2
/-- An interface's value. -/
def ifaceV (P : Program) (t : TypeId) (v : AV) : Option AV :=
  match tsh P t with
  | some .iface => none
  | some _ => some (.iface t v)
  | none => none
theorem k_iface {t : TypeId} {x : Operand} : opK P σ H (.makeInterface t x) kk = bindK (evArg P σ x) fun v => bindK (ifaceV P t v) fun v => kk (v, H, z0) := by
  show stepK _ _ = _
  simp only [evOp]
  rw [stepK_bind]; refine bindK_ext fun c => ?_
  unfold ifaceV
  cases tsh P t with
  | none => rfl
  | some s => cases s <;> rfl
theorem k_make {t : TypeId} {x y : Operand} : opK P σ H (.makeSlice t x y) kk = bindK (evArg P σ x) fun v => bindK (evArg P σ y) fun w => bindK (evMake P t v w H) fun r => kk (r.1, r.2, z0) := by
  show stepK _ _ = _
  simp only [evOp]
  rw [stepK_bind]; refine bindK_ext fun c => ?_
  rw [stepK_bind]; refine bindK_ext fun c => ?_
  exact stepK_ret2
theorem k_lookup {t : TypeId} {x i : Operand} {ok : Bool} : opK P σ H (.lookup t x i ok) kk = bindK (evArg P σ x) fun v => bindK (evArg P σ i) fun w => bindK (evLookup P t v w ok H) fun v => kk (v, H, z0) := by
  show stepK _ _ = _
  simp only [evOp]
  rw [stepK_bind]; refine bindK_ext fun c => ?_
  rw [stepK_bind]; refine bindK_ext fun c => ?_
  exact stepK_ret
theorem k_mapSet {t : TypeId} {m x y : Operand} : opK P σ H (.mapUpdate t m x y) kk = bindK (evArg P σ m) fun u => bindK (evArg P σ x) fun v => bindK (evArg P σ y) fun w => bindK (evMapSet P t u v w H) fun r => kk (undefA, r.1, r.2) := by
  show stepK _ _ = _
  simp only [evOp]
  rw [stepK_bind]; refine bindK_ext fun c => ?_
  rw [stepK_bind]; refine bindK_ext fun c => ?_
  rw [stepK_bind]; refine bindK_ext fun c => ?_
  exact stepK_map
/-- Two values under an operator. -/
def binV (P : Program) (op : BinOp) (t : TypeId) (a b : AV) (cst : Bool) : Option AV :=
  match a, b with
  | .nili, .nili => if cst = true then (match op with | .eql => (if (tsh P t matches some .iface) then some (.bool true) else none) | .neq => (if (tsh P t matches some .iface) then some (.bool false) else none) | _ => none) else none
  | a, b => evBin P op t a b
theorem k_bin {op : BinOp} {t u : TypeId} {x y : Operand} : opK P σ H (.binOp op t x y u) kk = bindK (evArg P σ x) fun a => bindK (evArg P σ y) fun b => bindK (binV P op t a b (evOp.isConst x || evOp.isConst y)) fun v => kk (v, H, z0) := by
  show stepK _ _ = _
  simp only [evOp]
  rw [stepK_bind]; refine bindK_ext fun a => ?_
  rw [stepK_bind]; refine bindK_ext fun b => ?_
  rw [← stepK_ret]
  unfold binV
  split
  · split
    · cases op <;> rfl
    · rfl
  · split
    · rename_i h; exact (h rfl rfl).elim
    · rfl
theorem k_call {f : Operand} {args : Array Operand} {ts : Array TypeId} : opK P σ H (.call ⟨.value f, args, ts⟩) kk = callT P (target P σ f args.toList) H kk := rfl
theorem k_callf {g : FuncId} {args : Array Operand} {ts : Array TypeId} : opK P σ H (.call ⟨.value (.func g), args, ts⟩) kk = bindK (evArgs P σ args.toList) fun as => callX P g as H kk := by
  rw [k_call]
  unfold target
  rw [arg_f]
  simp only [Option.bind_some, List.nil_append, List.append_nil]
  cases evArgs P σ args.toList <;> rfl
def apV (v : AV) (as : List AV) : Option Tg :=
  match v with
  | .func (.func g) first captured => some (.fn g (first ++ as ++ captured))
  | .yld b => some (.yl b as)
  | _ => none
theorem apV_s {g : FuncId} {as fs cs : List AV} : apV (.func (.func g) fs cs) as = some (.fn g (fs ++ as ++ cs)) := rfl
theorem apV_y {b : Nat} {as : List AV} : apV (.yld b) as = some (.yl b as) := rfl
theorem k_callv {t : Nat} {args : Array Operand} {ts : Array TypeId} : opK P σ H (.call ⟨.value (.tmp t), args, ts⟩) kk = bindK (evArgs P σ args.toList) fun as => callT P (apV (fr σ t) as) H kk := by
  rw [k_call]
  unfold target
  rw [arg_t]
  simp only [Option.bind_some]
  cases evArgs P σ args.toList with
  | none => rfl
  | some as => rfl
theorem k_len {t : TypeId} {ts : List TypeId} {x : Operand} : opK P σ H (.call ⟨.builtin .len, ⟨[x]⟩, ⟨t :: ts⟩⟩) kk = bindK (evArg P σ x) fun v => bindK (evLen P t v H) fun v => kk (v, H, z0) := by
  show stepK _ _ = _
  simp only [evOp, evCall, evArgs]
  cases evArg P σ x with
  | none => rfl
  | some v => exact stepK_ret
theorem k_append {t u : TypeId} {x y : Operand} (hu : srcOk P u = true) : opK P σ H (.call ⟨.builtin .append, ⟨[x, y]⟩, ⟨[t, u]⟩⟩) kk = bindK (evArg P σ x) fun v => bindK (evArg P σ y) fun w => stepK (evAppend P t v w H) kk := by
  show stepK _ _ = _
  simp only [evOp, evCall, evArgs]
  cases evArg P σ x with
  | none => rfl
  | some v =>
    cases evArg P σ y with
    | none => rfl
    | some w => show stepK (if srcOk P u = true then _ else _) kk = _; rw [if_pos hu]; rfl
theorem k_copy {t : TypeId} {ts : List TypeId} {x y : Operand} : opK P σ H (.call ⟨.builtin .copy, ⟨[x, y]⟩, ⟨t :: ts⟩⟩) kk = bindK (evArg P σ x) fun v => bindK (evArg P σ y) fun w => stepK (evCopy P t v w H) kk := by
  show stepK _ _ = _
  simp only [evOp, evCall, evArgs]
  cases evArg P σ x with
  | none => rfl
  | some v =>
    cases evArg P σ y with
    | none => rfl
    | some w => rfl
end
attribute [go_sem] asPtr_p chkV_p chkV_f fldA_s fldV_f fldV_t asAgg_a asTup_a apV_s apV_y
attribute [go_sem ↓] k_move k_assign k_pick k_alloc k_box k_load k_store k_nilCheck k_un k_conv k_fieldAddr k_field k_indexAddr k_index k_extract k_makeFunc k_slice k_build k_buildSlice k_iface k_make k_lookup k_mapSet k_bin k_callf k_callv k_len k_append k_copy

/-! numbers and strings -/
theorem b_int {op : BinOp} {t : TypeId} {kd : IntKind} {a b : Int} {c : Bool} (h1 : (match op with | .shl => true | .shr => true | _ => false) = false) : binV P op t (.int kd a) (.int kd b) c = evInt op kd a b := by
  cases op <;> first | (cases h1; done) | simp [binV, evBin]
theorem b_shl {t : TypeId} {kd kd' : IntKind} {a b : Int} {c : Bool} : binV P .shl t (.int kd a) (.int kd' b) c = evShift .shl kd a b := rfl
theorem b_shr {t : TypeId} {kd kd' : IntKind} {a b : Int} {c : Bool} : binV P .shr t (.int kd a) (.int kd' b) c = evShift .shr kd a b := rfl
theorem b_str {op : BinOp} {t : TypeId} {a b : List UInt8} {c : Bool} : binV P op t (.str a) (.str b) c = evStr op a b := by
  cases op <;> rfl
theorem b_eqb {t : TypeId} {a b : Bool} {c : Bool} (ht : P.underlying t = some .bool) : binV P .eql t (.bool a) (.bool b) c = some (.bool (a == b)) := by simp [binV, evBin, evEq, ht]
theorem b_neb {t : TypeId} {a b : Bool} {c : Bool} (ht : P.underlying t = some .bool) : binV P .neq t (.bool a) (.bool b) c = some (.bool (!(a == b))) := by simp [binV, evBin, evEq, ht]
theorem b_eqa {t : TypeId} {a b : List AV} {c : Bool} : binV P .eql t (.agg a) (.agg b) c = if (P.eqGuardType P.depth t) = true then none else (evEq P 20 t (.agg a) (.agg b)).map .bool := rfl
theorem b_nea {t : TypeId} {a b : List AV} {c : Bool} : binV P .neq t (.agg a) (.agg b) c = if (P.eqGuardType P.depth t) = true then none else (evEq P 20 t (.agg a) (.agg b)).map fun r => .bool !r := rfl
theorem i_add {kd : IntKind} {a b : Int} : evInt .add kd a b = some (.int kd (kd.wrap (a + b))) := rfl
theorem i_sub {kd : IntKind} {a b : Int} : evInt .sub kd a b = some (.int kd (kd.wrap (a - b))) := rfl
theorem i_mul {kd : IntKind} {a b : Int} : evInt .mul kd a b = some (.int kd (kd.wrap (a * b))) := rfl
theorem i_eql {kd : IntKind} {a b : Int} : evInt .eql kd a b = some (.bool (a == b)) := rfl
theorem i_neq {kd : IntKind} {a b : Int} : evInt .neq kd a b = some (.bool (a != b)) := rfl
theorem i_lss {kd : IntKind} {a b : Int} : evInt .lss kd a b = some (.bool (decide (a < b))) := rfl
theorem i_leq {kd : IntKind} {a b : Int} : evInt .leq kd a b = some (.bool (decide (a ≤ b))) := rfl
theorem i_gtr {kd : IntKind} {a b : Int} : evInt .gtr kd a b = some (.bool (decide (a > b))) := rfl
theorem i_geq {kd : IntKind} {a b : Int} : evInt .geq kd a b = some (.bool (decide (a ≥ b))) := rfl
theorem s_eql {a b : List UInt8} : evStr .eql a b = some (.bool (a == b)) := rfl
theorem s_neq {a b : List UInt8} : evStr .neq a b = some (.bool !(a == b)) := rfl
theorem s_add {a b : List UInt8} : evStr .add a b = if a.length + b.length ≤ maxI then some (.str (a ++ b)) else none := rfl
theorem u_not {b : Bool} : evUn .not (.bool b) = some (.bool !b) := rfl
theorem len_str {t : TypeId} {s : List UInt8} (h : tsh P t = some .str) : evLen P t (.str s) H = some (.int .i64 s.length) := by simp [evLen, h]
theorem len_sl {t : TypeId} {x o n : Nat} {c : Cap} (h : (match tsh P t with | some (.slice _ _ _) => true | _ => false) = true) : evLen P t (.slice x o n c) H = some (.int .i64 n) := by
  unfold evLen; split at h
  · rename_i ht; rw [ht]
  · cases h
theorem len_nils {t : TypeId} (h : (match tsh P t with | some (.slice _ _ _) => true | _ => false) = true) : evLen P t .nils H = some (.int .i64 0) := by
  unfold evLen; split at h
  · rename_i ht; rw [ht]
  · cases h
attribute [go_sem] b_int b_shl b_shr b_str b_eqb b_neb b_eqa b_nea i_add i_sub i_mul i_eql i_neq i_lss i_leq i_gtr i_geq s_eql s_neq s_add u_not len_str len_sl len_nils

theorem fl_b {b : Bool} : flat (.bool b) = true := by simp only [flat]
theorem fl_i {k : IntKind} {n : Int} : flat (.int k n) = true := by simp only [flat]
theorem fl_f {k : FloatKind} {n : Nat} : flat (.float k n) = true := by simp only [flat]
theorem fl_s {s : List UInt8} : flat (.str s) = true := by simp only [flat]
theorem fl_np : flat .nilp = true := by simp only [flat]
theorem fl_ns : flat .nils = true := by simp only [flat]
theorem fl_nm : flat .nilm = true := by simp only [flat]
theorem fl_nf : flat .nilf = true := by simp only [flat]
theorem fl_ni : flat .nili = true := by simp only [flat]
theorem fl_p {b o : Nat} : flat (.ptr b o) = false := by simp only [flat]
theorem fl_sl {b o n : Nat} {c : Cap} : flat (.slice b o n c) = false := by simp only [flat]
theorem fl_m {r : Nat} : flat (.map r) = false := by simp only [flat]
theorem fl_if {t : TypeId} {v : AV} : flat (.iface t v) = flat v := by simp only [flat]
theorem fl_a {cs : List AV} : flat (.agg cs) = flats cs := by simp only [flat]
theorem fl_t {cs : List AV} : flat (.tuple cs) = flats cs := by simp only [flat]
theorem fl_fn {f : Fn} {a b : List AV} : flat (.func f a b) = (flats a && flats b) := by simp only [flat]
theorem fls_n : flats [] = true := by simp only [flats]
theorem fls_c {v : AV} {vs : List AV} : flats (v :: vs) = (flat v && flats vs) := by simp only [flats]
theorem sc_b {b : Bool} : scal (.bool b) = true := by simp only [scal]
theorem sc_i {k : IntKind} {n : Int} : scal (.int k n) = true := by simp only [scal]
theorem sc_f {k : FloatKind} {n : Nat} : scal (.float k n) = true := by simp only [scal]
theorem sc_s {s : List UInt8} : scal (.str s) = true := by simp only [scal]
theorem sc_np : scal .nilp = true := by simp only [scal]
theorem sc_ns : scal .nils = true := by simp only [scal]
theorem sc_nm : scal .nilm = true := by simp only [scal]
theorem sc_nf : scal .nilf = true := by simp only [scal]
theorem sc_ni : scal .nili = true := by simp only [scal]
theorem sc_p {b o : Nat} : scal (.ptr b o) = true := by simp only [scal]
theorem sc_sl {b o n : Nat} {c : Cap} : scal (.slice b o n c) = true := by simp only [scal]
theorem sc_m {r : Nat} : scal (.map r) = true := by simp only [scal]
theorem sc_if {t : TypeId} {v : AV} : scal (.iface t v) = true := by simp only [scal]
theorem sc_fn {f : Fn} {a b : List AV} : scal (.func f a b) = true := by simp only [scal]
attribute [go_sem] fl_b fl_i fl_f fl_s fl_np fl_ns fl_nm fl_nf fl_ni fl_p fl_sl fl_m fl_if fl_a fl_t fl_fn fls_n fls_c sc_b sc_i sc_f sc_s sc_np sc_ns sc_nm sc_nf sc_ni sc_p sc_sl sc_m sc_if sc_fn

/-! memory: what is new stands behind what was -/
theorem hp_new {l : Hp} {i : Nat} : (H ++ l)[H.length + i]? = l[i]? := by rw [List.getElem?_append_right (by omega)]; congr 1; omega
theorem hp_new0 {l : Hp} : (H ++ l)[H.length]? = l[0]? := by rw [List.getElem?_append_right (by omega)]; congr 1; omega
theorem hp_old {l : Hp} {b : Nat} {x : ABlk} (h : H[b]? = some x) : (H ++ l)[b]? = some x := by rw [List.getElem?_append_left (List.getElem?_eq_some_iff.1 h).1]; exact h
theorem hp_set {l : Hp} {i : Nat} {v : ABlk} : (H ++ l).set (H.length + i) v = H ++ l.set i v := by
  rw [List.set_append_right _ _ (by omega)]; congr 2; omega
theorem hp_set0 {l : Hp} {v : ABlk} : (H ++ l).set H.length v = H ++ l.set 0 v := by
  rw [List.set_append_right _ _ (by omega)]; congr 2; omega
def ldC (o n : Nat) (g : Bool) : ABlk → Option AV
  | .cells c _ _ => if g = true then (if o + n ≤ c.length then some (.agg ((c.drop o).take n)) else none) else c[o]?
  | .void => if g = true then (if n = 0 then some (.agg []) else none) else none
  | _ => none
theorem ldC_f {c : List AV} {e : TypeId} {kd : Kd} {o n : Nat} : ldC o n false (.cells c e kd) = c[o]? := rfl
theorem ldC_t {c : List AV} {e : TypeId} {kd : Kd} {o n : Nat} : ldC o n true (.cells c e kd) = if o + n ≤ c.length then some (.agg ((c.drop o).take n)) else none := rfl
theorem ev_load {t b o : Nat} : evLoad P H t b o = (tagg P t).bind fun g => (if g = true then tsize P t else some 1).bind fun n => (H[b]?).bind (ldC o n g) := by
  unfold evLoad
  cases tagg P t with
  | none => rfl
  | some g =>
    cases g with
    | true =>
      simp only [Option.bind_some, if_true]
      congr 1; funext n
      unfold rd
      cases H[b]? with
      | none => rfl
      | some x =>
        cases x <;> try rfl
        all_goals
          show Option.map AV.agg (if _ then _ else _) = if _ then _ else _
          split <;> rfl
    | false =>
      simp only [Option.bind_some, Bool.false_eq_true, if_false]
      unfold rd
      cases H[b]? with
      | none => rfl
      | some x =>
        cases x <;> try rfl
        rename_i c e kd
        show Option.bind (if _ then _ else _) one = c[o]?
        split
        · rename_i h
          have : o < c.length := by omega
          rw [List.getElem?_eq_getElem this, List.drop_eq_getElem_cons this]
          rfl
        · rename_i h
          rw [List.getElem?_eq_none (by omega)]
          rfl
def szT (P : Program) (t : TypeId) (g : Bool) : Option Nat := if g = true then tsize P t else some 1
theorem szT_t {t : TypeId} : szT P t true = tsize P t := rfl
theorem szT_f {t : TypeId} : szT P t false = some 1 := rfl
theorem bind_load {t b o : Nat} {f : AV → Prop} : bindK (evLoad P H t b o) f = bindK (tagg P t) fun g => bindK (szT P t g) fun n => bindK (H[b]?) fun x => bindK (ldC o n g x) f := by
  rw [ev_load, bindK_bind]
  refine bindK_ext fun g => ?_
  rw [bindK_bind]
  refine bindK_ext fun n => ?_
  rw [bindK_bind]
/-- A row stored. -/
def wrC (H : Hp) (b o : Nat) (xs : List AV) : ABlk → Option (Hp × Ef)
  | .cells c e k => if o + xs.length ≤ c.length ∧ canWr k o = true ∧ xs.all scal = true then some (H.set b (.cells (splice c o xs) e k), ⟨if flats xs = true then none else some b, some b⟩) else none
  | _ => none
theorem wrC_s {b o : Nat} {xs c : List AV} {e : TypeId} {k : Kd} : wrC H b o xs (.cells c e k) = if o + xs.length ≤ c.length ∧ canWr k o = true ∧ xs.all scal = true then some (H.set b (.cells (splice c o xs) e k), ⟨if flats xs = true then none else some b, some b⟩) else none := rfl
theorem ev_wr {b o : Nat} {xs : List AV} : wr H b o xs = (H[b]?).bind (wrC H b o xs) := by
  unfold wr
  cases H[b]? with
  | none => rfl
  | some x => cases x <;> rfl
theorem ev_store {t b o : Nat} {v : AV} : evStore P H t b o v = (tsize P t).bind fun n => if (vcells v).length = n then (H[b]?).bind (wrC H b o (vcells v)) else none := by
  unfold evStore
  cases tsize P t with
  | none => rfl
  | some n => simp only [Option.bind_some, ev_wr]
theorem bind_store {t b o : Nat} {v : AV} {f : Hp × Ef → Prop} : bindK (evStore P H t b o v) f = bindK (tsize P t) fun n => (vcells v).length = n ∧ bindK (H[b]?) fun x => bindK (wrC H b o (vcells v) x) f := by
  rw [ev_store, bindK_bind]
  refine bindK_ext fun n => ?_
  rw [bindK_ite, bindK_bind]
theorem vcells_a {cs : List AV} : vcells (.agg cs) = cs := rfl
theorem vcells_s {s : List UInt8} : vcells (.str s) = [.str s] := rfl
theorem vcells_i {kd : IntKind} {n : Int} : vcells (.int kd n) = [.int kd n] := rfl
theorem vcells_b {b : Bool} : vcells (.bool b) = [.bool b] := rfl
theorem vcells_p {b o : Nat} : vcells (.ptr b o) = [.ptr b o] := rfl
theorem vcells_np : vcells .nilp = [.nilp] := rfl
theorem vcells_sl {b o n : Nat} {c : Cap} : vcells (.slice b o n c) = [.slice b o n c] := rfl
theorem vcells_ns : vcells .nils = [.nils] := rfl
theorem vcells_m {r : Nat} : vcells (.map r) = [.map r] := rfl
theorem vcells_if {t : TypeId} {v : AV} : vcells (.iface t v) = [.iface t v] := rfl
theorem vcells_ni : vcells .nili = [.nili] := rfl
theorem splice_d {a x : AV} {c xs : List AV} {o : Nat} : splice (a :: c) o (x :: xs) = (a :: c).take o ++ (x :: xs) ++ (a :: c).drop (o + (x :: xs).length) := rfl
theorem ldC_fc {v : AV} {c : List AV} {e : TypeId} {kd : Kd} {o n : Nat} : ldC o n false (.cells (v :: c) e kd) = (v :: c)[o]? := rfl
theorem ldC_tc {v : AV} {c : List AV} {e : TypeId} {kd : Kd} {o n : Nat} : ldC o n true (.cells (v :: c) e kd) = if o + n ≤ (v :: c).length then some (.agg (((v :: c).drop o).take n)) else none := rfl
attribute [go_sem] ldC_fc ldC_tc splice_d
attribute [go_sem ↓] bind_load bind_store
attribute [go_sem] hp_new hp_new0 hp_set hp_set0 szT_t szT_f wrC_s ev_wr vcells_a vcells_s vcells_i vcells_b vcells_p vcells_np vcells_sl vcells_ns vcells_m vcells_if vcells_ni
attribute [go_sem] List.append_assoc List.cons_append List.nil_append List.length_append List.length_cons List.length_nil List.getElem?_cons_zero List.getElem?_cons_succ List.drop_zero List.drop_succ_cons List.take_zero List.take_succ_cons List.take_nil List.drop_nil List.set_cons_zero List.set_cons_succ Nat.zero_add Nat.add_zero if_true canWr List.all_cons List.all_nil Bool.and_true Bool.true_and Bool.and_self decide_true decide_false Nat.add_assoc true_and and_true eq_self Option.getD_some Bool.false_eq_true if_false Bool.or_false Bool.or_true Bool.false_or Bool.true_or
attribute [go_sem] Int.toNat_natCast Int.natCast_nonneg Int.ofNat_lt beq_self_eq_true bne_self_eq_false Bool.not_true Bool.not_false
attribute [go_sem] Nat.sub_zero true_or or_true Nat.zero_le

/-! what append does -/
def rdC (o n : Nat) : ABlk → Option (List AV)
  | .cells c _ _ => if o + n ≤ c.length then some ((c.drop o).take n) else none
  | .void => if n = 0 then some [] else none
  | _ => none
theorem rdC_v {o : Nat} : rdC o 0 .void = some [] := rfl
attribute [go_sem] rdC_v
theorem rdC_c {o n : Nat} {c : List AV} {e : TypeId} {k : Kd} : rdC o n (.cells c e k) = if o + n ≤ c.length then some ((c.drop o).take n) else none := rfl
theorem bind_rd {b o n : Nat} {f : List AV → Prop} : bindK (rd H b o n) f = bindK (H[b]?) fun x => bindK (rdC o n x) f := by
  have : rd H b o n = (H[b]?).bind (rdC o n) := by
    unfold rd
    cases H[b]? with
    | none => rfl
    | some x => cases x <;> rfl
  rw [this, bindK_bind]
theorem ap_nils {z : Nat} {f : List AV × Nat → Prop} : bindK (appended H z .nils) f = f ([], 0) := rfl
theorem ap_sl {z b o n : Nat} {c : Cap} {f : List AV × Nat → Prop} : bindK (appended H z (.slice b o n c)) f = bindK (H[b]?) fun x => bindK (rdC o (n * z) x) fun l => f (l, n) := by
  show bindK ((rd H b o (n * z)).map _) f = _
  rw [bindK_map, bind_rd]
theorem ap_str {z : Nat} {s : List UInt8} {f : List AV × Nat → Prop} (h : (z == 1) = true) : bindK (appended H z (.str s)) f = f (s.map fun b => .int .u8 b.toNat, s.length) := by
  have : z = 1 := by simpa using h
  subst this; rfl
def shZ : Sh → Nat
  | .slice _ z _ => z
  | _ => 0
theorem shZ_s {e z b : Nat} : shZ (.slice e z b) = z := rfl
def appTo (P : Program) (sh : Sh) (s : AV) (a : List AV × Nat) (H : Hp) : Rs :=
  match sh with
  | .slice e z b =>
    if 0 < z ∧ zok P e z = true then
      match s with
      | .nils => if a.2 = 0 then some (.nils, H, z0) else
        if fits a.2 b = true then some (.slice H.length 0 a.2 (.op 0), H ++ [.cells a.1 e (.op 0 false)], z0) else none
      | .slice bl o n (.ex c) =>
        if n + a.2 ≤ c then (wr H bl (o + n * z) a.1).map fun r => (.slice bl o (n + a.2) (.ex c), r.1, r.2)
        else if fits (n + a.2) b = true then
          (rd H bl o (n * z)).map fun old => (.slice H.length 0 (n + a.2) (.op 0), H ++ [.cells (old ++ a.1) e (.op 0 false)], z0)
        else none
      | .slice bl o n (.op k) =>
        match H[bl]? with
        | some (.cells c e' (.op fz st)) =>
          if e' = e ∧ o = k * z ∧ o + n * z ≤ c.length then
            if o + (n + a.2) * z ≤ c.length then (wr H bl (o + n * z) a.1).map fun r => (.slice bl o (n + a.2) (.op k), r.1, r.2)
            else if fits (n + a.2) b = true ∧ fz ≤ o + n * z ∧ a.1.all scal = true then
              some (.slice H.length 0 (n + a.2) (.op 0), H.set bl .dead ++ [.cells ((c.drop o).take (n * z) ++ a.1) e (.op (fz - o) st)], ⟨none, some bl⟩)
            else none
          else none
        | _ => none
      | _ => none
    else none
  | _ => none
theorem ev_append {t : TypeId} {s x : AV} {kk : AV × Hp × Ef → Prop} : stepK (evAppend P t s x H) kk = bindK (tsh P t) fun sh => bindK (appended H (shZ sh) x) fun a => stepK (appTo P sh s a H) kk := by
  unfold evAppend
  cases tsh P t with
  | none => rfl
  | some sh =>
    cases sh <;> try (rw [bindK_some]; generalize appended H _ x = q; cases q <;> rfl)
    rename_i e z b
    simp only [bindK_some, shZ]
    by_cases hz : 0 < z ∧ zok P e z = true
    · rw [if_pos hz, stepK_bind]
      refine bindK_ext fun a => ?_
      simp only [appTo]
      rw [if_pos hz]
      cases s <;> rfl
    · rw [if_neg hz]
      cases appended H z x with
      | none => rfl
      | some a =>
        rw [bindK_some]
        simp only [appTo]
        rw [if_neg hz]
theorem stepK_if {p : Prop} [Decidable p] {r : Rs} {kk : AV × Hp × Ef → Prop} : stepK (if p then r else none) kk = (p ∧ stepK r kk) := by
  by_cases h : p
  · rw [if_pos h]; simp [h]
  · rw [if_neg h]; simp [h, stepK]
theorem stepK_ite {p : Prop} [Decidable p] {r q : Rs} {kk : AV × Hp × Ef → Prop} : stepK (if p then r else q) kk = guardK (.bool (decide p)) true (stepK r kk) (stepK q kk) := by
  by_cases h : p
  · rw [if_pos h]
    have : decide p = true := by simpa using h
    rw [this]; rfl
  · rw [if_neg h]
    have : decide p = false := by simpa using h
    rw [this]; rfl
theorem appTo_nils {e z b n : Nat} {cs : List AV} {kk : AV × Hp × Ef → Prop} (hz : decide (0 < z) = true) (hk : zok P e z = true) :
    stepK (appTo P (.slice e z b) .nils (cs, n) H) kk = guardK (.bool (decide (n = 0))) true (kk (.nils, H, z0)) (fits n b = true ∧ kk (.slice H.length 0 n (.op 0), H ++ [.cells cs e (.op 0 false)], z0)) := by
  simp only [appTo]
  rw [if_pos ⟨by simpa using hz, hk⟩, stepK_ite, stepK_if]
  rfl
/-- Appended to what append made. -/
def appO (H : Hp) (e z b bl o n k : Nat) (a : List AV × Nat) (kk : AV × Hp × Ef → Prop) : ABlk → Prop
  | .cells c e' (.op fz st) =>
    (e' = e ∧ o = k * z ∧ o + n * z ≤ c.length) ∧ guardK (.bool (decide (o + (n + a.2) * z ≤ c.length))) true
      (bindK (wr H bl (o + n * z) a.1) fun r => kk (.slice bl o (n + a.2) (.op k), r.1, r.2))
      ((fits (n + a.2) b = true ∧ fz ≤ o + n * z ∧ a.1.all scal = true) ∧
        kk (.slice H.length 0 (n + a.2) (.op 0), H.set bl .dead ++ [.cells ((c.drop o).take (n * z) ++ a.1) e (.op (fz - o) st)], ⟨none, some bl⟩))
  | _ => False
theorem appTo_op {e z b bl o n k : Nat} {a : List AV × Nat} {kk : AV × Hp × Ef → Prop} (hz : decide (0 < z) = true) (hk : zok P e z = true) :
    stepK (appTo P (.slice e z b) (.slice bl o n (.op k)) a H) kk = bindK (H[bl]?) (appO H e z b bl o n k a kk) := by
  simp only [appTo]
  rw [if_pos ⟨by simpa using hz, hk⟩]
  cases H[bl]? with
  | none => rfl
  | some x =>
    rw [bindK_some]
    cases x <;> try rfl
    rename_i c e' kd
    cases kd <;> try rfl
    rename_i fz st
    simp only [appO]
    rw [stepK_if, stepK_ite, stepK_if, stepK_map]
    rfl
theorem appO_c {e z b bl o n k fz : Nat} {st : Bool} {c : List AV} {e' : TypeId} {a : List AV × Nat} {kk : AV × Hp × Ef → Prop} :
    appO H e z b bl o n k a kk (.cells c e' (.op fz st)) = ((e' = e ∧ o = k * z ∧ o + n * z ≤ c.length) ∧ guardK (.bool (decide (o + (n + a.2) * z ≤ c.length))) true
      (bindK (wr H bl (o + n * z) a.1) fun r => kk (.slice bl o (n + a.2) (.op k), r.1, r.2))
      ((fits (n + a.2) b = true ∧ fz ≤ o + n * z ∧ a.1.all scal = true) ∧
        kk (.slice H.length 0 (n + a.2) (.op 0), H.set bl .dead ++ [.cells ((c.drop o).take (n * z) ++ a.1) e (.op (fz - o) st)], ⟨none, some bl⟩))) := rfl
/-- Appended to a slice whose capacity is known. -/
theorem appTo_ex {e z b bl o n c : Nat} {a : List AV × Nat} {kk : AV × Hp × Ef → Prop} (hz : decide (0 < z) = true) (hk : zok P e z = true) :
    stepK (appTo P (.slice e z b) (.slice bl o n (.ex c)) a H) kk = guardK (.bool (decide (n + a.2 ≤ c))) true (bindK (wr H bl (o + n * z) a.1) fun r => kk (.slice bl o (n + a.2) (.ex c), r.1, r.2))
      (fits (n + a.2) b = true ∧ bindK (rd H bl o (n * z)) fun old => kk (.slice H.length 0 (n + a.2) (.op 0), H ++ [.cells (old ++ a.1) e (.op 0 false)], z0)) := by
  simp only [appTo]
  rw [if_pos ⟨by simpa using hz, hk⟩]
  rw [stepK_ite, stepK_if, stepK_map, stepK_map]
attribute [go_sem ↓] bind_rd ap_nils ap_sl ap_str ev_append appTo_nils appTo_op appTo_ex
attribute [go_sem] shZ_s appO_c
theorem rdC_cc {o n : Nat} {v : AV} {c : List AV} {e : TypeId} {k : Kd} : rdC o n (.cells (v :: c) e k) = if o + n ≤ (v :: c).length then some (((v :: c).drop o).take n) else none := rfl
attribute [go_sem] rdC_cc

/-! slices of slices and strings -/
def knC (o k : Nat) (sh : Sh) : ABlk → Option Nat
  | .cells c e' (.op _ _) => match sh with
    | .slice e z _ => if e' = e ∧ 0 < z ∧ o = k * z then some ((c.length - o) / z) else none
    | _ => none
  | _ => none
theorem knC_c {o k e z b fz : Nat} {st : Bool} {c : List AV} {e' : TypeId} : knC o k (.slice e z b) (.cells c e' (.op fz st)) = if e' = e ∧ 0 < z ∧ o = k * z then some ((c.length - o) / z) else none := rfl
theorem bnd_nn {l c : Nat} {f : Nat × Nat → Prop} : bindK (bnd none none l c) f = f (0, l) := rfl
theorem bnd_nh {l c : Nat} {k : IntKind} {h : Int} {f : Nat × Nat → Prop} : bindK (bnd none (some (.int k h)) l c) f = ((0 ≤ h ∧ h ≤ c) ∧ f (0, h.toNat)) := by
  simp only [bnd, bindK_ite, bindK_some]
theorem bnd_ln {l c : Nat} {k : IntKind} {a : Int} {f : Nat × Nat → Prop} : bindK (bnd (some (.int k a)) none l c) f = ((0 ≤ a ∧ a ≤ l) ∧ f (a.toNat, l)) := by
  simp only [bnd, bindK_ite, bindK_some]
theorem bnd_lh {l c : Nat} {k k' : IntKind} {a h : Int} {f : Nat × Nat → Prop} : bindK (bnd (some (.int k a)) (some (.int k' h)) l c) f = ((0 ≤ h ∧ h ≤ c) ∧ (0 ≤ a ∧ a ≤ h) ∧ f (a.toNat, h.toNat)) := by
  simp only [bnd, bindK_ite, bindK_some]
section
variable {kk : AV × Hp × Ef → Prop}
theorem known_knC {b o k e z bb : Nat} : known H b o k z e = (H[b]?).bind (knC o k (.slice e z bb)) := by
  unfold known
  cases H[b]? with
  | none => rfl
  | some x =>
    cases x <;> try rfl
    rename_i c e' kd
    cases kd <;> rfl
def isSl : Option Sh → Bool
  | some (.slice _ _ _) => true
  | _ => false
theorem isSl_t {e z b : Nat} : isSl (some (.slice e z b)) = true := rfl
theorem isSl_ex {x : Option Sh} (h : isSl x = true) : ∃ e z b, x = some (.slice e z b) := by
  unfold isSl at h
  split at h
  · exact ⟨_, _, _, rfl⟩
  · cases h
theorem slK_op {t : TypeId} {b o n k : Nat} {lo hi : Option AV} (ht : isSl (tsh P t) = true) : slK P t (.slice b o n (.op k)) lo hi none H kk = bindK (tsh P t) fun sh => bindK (H[b]?) fun x => bindK (knC o k sh x) fun q => bindK (bnd lo hi n q) fun r =>
    guardK (.bool (decide (r.1 = 0 ∨ r.1 < q))) true (kk (.slice b (o + r.1 * shZ sh) (r.2 - r.1) (.op (k + r.1)), H, z0)) (r.1 = r.2 ∧ kk (.slice H.length 0 0 (.op 0), H ++ [.void], z0)) := by
  obtain ⟨e, z, bb, he⟩ := isSl_ex ht
  unfold slK
  simp only [evSlice, evSliceX, he, known_knC (bb := bb), bindK_some]
  cases hx : H[b]? with
  | none => rfl
  | some x =>
    simp only [Option.bind_some, bindK_some]
    cases hq : knC o k (.slice e z bb) x with
    | none => rfl
    | some q =>
      simp only [Option.bind_some, bindK_some]
      cases hr : bnd lo hi n q with
      | none => rfl
      | some r =>
        simp only [Option.bind_some, bindK_some, shZ]
        by_cases hc : r.1 = 0 ∨ r.1 < q
        · rw [if_pos hc, decide_eq_true hc]; rfl
        · rw [if_neg hc, decide_eq_false hc, guardK_ft]
          by_cases h2 : r.1 = r.2
          · rw [if_pos h2]; simp [h2, bindK_some]
          · rw [if_neg h2]; simp [h2]; exact fun h => h
theorem slK_op3 {t : TypeId} {b o n k : Nat} {lo hi : Option AV} {km : IntKind} {m : Int} (ht : isSl (tsh P t) = true) : slK P t (.slice b o n (.op k)) lo hi (some (.int km m)) H kk = bindK (tsh P t) fun sh => bindK (H[b]?) fun x => bindK (knC o k sh x) fun q =>
    (0 ≤ m ∧ m ≤ q ∧ hi.isSome = true) ∧ bindK (bnd lo hi n m.toNat) fun r => kk (.slice b (if m.toNat = r.1 then o else o + r.1 * shZ sh) (r.2 - r.1) (.ex (m.toNat - r.1)), H, z0) := by
  obtain ⟨e, z, bb, he⟩ := isSl_ex ht
  rw [slK_of (by simp [evSliceX])]
  simp only [evSlice, he, known_knC (bb := bb), bindK_some, bindK_bind]
  refine bindK_ext fun x => bindK_ext fun q => ?_
  rw [bindK_ite, bindK_map]
  rfl
theorem slK_ex {t : TypeId} {b o n c : Nat} {lo hi : Option AV} (ht : isSl (tsh P t) = true) : slK P t (.slice b o n (.ex c)) lo hi none H kk = bindK (tsh P t) fun sh => bindK (bnd lo hi n c) fun r => kk (.slice b (if c = r.1 then o else o + r.1 * shZ sh) (r.2 - r.1) (.ex (c - r.1)), H, z0) := by
  obtain ⟨e, z, bb, he⟩ := isSl_ex ht
  rw [slK_of (by simp [evSliceX])]
  simp only [evSlice, he, bindK_map, bindK_some, shZ]
theorem slK_ex3 {t : TypeId} {b o n c : Nat} {lo hi : Option AV} {km : IntKind} {m : Int} (ht : isSl (tsh P t) = true) : slK P t (.slice b o n (.ex c)) lo hi (some (.int km m)) H kk = bindK (tsh P t) fun sh =>
    (0 ≤ m ∧ m ≤ c ∧ hi.isSome = true) ∧ bindK (bnd lo hi n m.toNat) fun r => kk (.slice b (if m.toNat = r.1 then o else o + r.1 * shZ sh) (r.2 - r.1) (.ex (m.toNat - r.1)), H, z0) := by
  obtain ⟨e, z, bb, he⟩ := isSl_ex ht
  rw [slK_of (by simp [evSliceX])]
  simp only [evSlice, he, bindK_map, bindK_some, bindK_ite, shZ]
theorem slK_nils {t : TypeId} {lo hi : Option AV} (ht : isSl (tsh P t) = true) : slK P t .nils lo hi none H kk = bindK (bnd lo hi 0 0) fun _ => kk (.nils, H, z0) := by
  obtain ⟨e, z, bb, he⟩ := isSl_ex ht
  rw [slK_of (by simp [evSliceX])]
  simp only [evSlice, he, bindK_map]
theorem slK_nils3 {t : TypeId} {lo hi : Option AV} {km : IntKind} {m : Int} (ht : isSl (tsh P t) = true) : slK P t .nils lo hi (some (.int km m)) H kk = ((m = 0 ∧ hi.isSome = true) ∧ bindK (bnd lo hi 0 0) fun _ => kk (.nils, H, z0)) := by
  obtain ⟨e, z, bb, he⟩ := isSl_ex ht
  rw [slK_of (by simp [evSliceX])]
  simp only [evSlice, he, bindK_map, bindK_ite]
def isStr : Option Sh → Bool
  | some .str => true
  | _ => false
theorem slK_str {t : TypeId} {s : List UInt8} {lo hi : Option AV} (ht : isStr (tsh P t) = true) : slK P t (.str s) lo hi none H kk = bindK (bnd lo hi s.length s.length) fun r => kk (.str ((s.drop r.1).take (r.2 - r.1)), H, z0) := by
  have he : tsh P t = some .str := by
    unfold isStr at ht
    split at ht
    · assumption
    · cases ht
  rw [slK_of (by simp [evSliceX])]
  simp only [evSlice, he, bindK_map]
def shA : Sh → Nat × Nat
  | .array l _ z => (l, z)
  | _ => (0, 0)
theorem shA_a {l e z : Nat} : shA (.array l e z) = (l, z) := rfl
def isArr : Option Sh → Bool
  | some (.array _ _ _) => true
  | _ => false
theorem slK_arr {t : TypeId} {b o : Nat} {lo hi : Option AV} (ht : isArr (tsh P t) = true) :
    slK P t (.ptr b o) lo hi none H kk = bindK (tsh P t) fun sh => bindK (bnd lo hi (shA sh).1 (shA sh).1) fun r => kk (.slice b (if (shA sh).1 = r.1 then o else o + r.1 * (shA sh).2) (r.2 - r.1) (.ex ((shA sh).1 - r.1)), H, z0) := by
  unfold isArr at ht
  split at ht
  · rename_i e z w he
    rw [slK_of (by simp [evSliceX])]
    simp only [evSlice, he, bindK_map, bindK_some, shA]
    rfl
  · cases ht
end
theorem isStr_t : isStr (some .str) = true := rfl
theorem isArr_t {l e z : Nat} : isArr (some (.array l e z)) = true := rfl
attribute [go_sem] isSl_t isStr_t isArr_t shA_a
attribute [go_sem ↓] bnd_nn bnd_nh bnd_ln bnd_lh slK_op slK_op3 slK_ex slK_ex3 slK_nils slK_nils3 slK_str slK_arr
attribute [go_sem] knC_c
attribute [go_sem] Int.ofNat_le

/-! a function's begin and end -/
/-- What was written lies at n or above. -/
def clean (n : Nat) (e : Ef) : Prop := low n e.es = none ∧ low n e.ws = none
theorem low_omin {n : Nat} {a b : Option Nat} (ha : low n a = none) (hb : low n b = none) : low n (omin a b) = none := by
  cases a with
  | none => cases b <;> exact hb
  | some a =>
    cases b with
    | none => exact ha
    | some b =>
      simp only [low, omin] at *
      split at ha
      · split at hb
        · rw [if_pos (by omega)]
        · cases hb
      · cases ha
theorem clean_z0 {n : Nat} : clean n z0 = True := eq_true ⟨rfl, rfl⟩
theorem clean_and {n : Nat} {a b : Ef} (ha : clean n a) (hb : clean n b) : clean n (a.and b) := ⟨low_omin ha.1 hb.1, low_omin ha.2 hb.2⟩
theorem clean_w {n b : Nat} (h : n ≤ b) : clean n ⟨none, some b⟩ := ⟨rfl, by simp [low, h]⟩
theorem clean_ew {n b c : Nat} (h : n ≤ b) (h' : n ≤ c) : clean n ⟨some c, some b⟩ := ⟨by simp [low, h'], by simp [low, h]⟩
theorem low_w {n b : Nat} : (low n (some b) = none) = (n ≤ b) := by simp [low]
theorem low_oT {n : Nat} {a b : Option Nat} : (low n (omin a b) = none) = (low n a = none ∧ low n b = none) := by
  cases a with
  | none => cases b <;> simp [omin, low]
  | some a =>
    cases b with
    | none => simp [omin, low]
    | some b =>
      apply propext
      simp only [omin, low_w]
      omega
theorem clean_andT {n : Nat} {a b : Ef} : clean n (a.and b) = (clean n a ∧ clean n b) := by
  show (low n (omin a.es b.es) = none ∧ low n (omin a.ws b.ws) = none) = ((_ ∧ _) ∧ (_ ∧ _))
  rw [low_oT, low_oT]
  apply propext; constructor
  · rintro ⟨⟨p, q⟩, r, s⟩; exact ⟨⟨p, r⟩, q, s⟩
  · rintro ⟨⟨p, r⟩, q, s⟩; exact ⟨⟨p, q⟩, r, s⟩
theorem clean_wT {n b : Nat} : clean n ⟨none, some b⟩ = (n ≤ b) := by
  show (low n none = none ∧ low n (some b) = none) = _
  rw [low_w]; simp [low]
theorem clean_ewT {n b c : Nat} : clean n ⟨some c, some b⟩ = (n ≤ c ∧ n ≤ b) := by
  show (low n (some c) = none ∧ low n (some b) = none) = _
  rw [low_w, low_w]
theorem clean_ifT {n b : Nat} {c : Prop} [Decidable c] (h : n ≤ b) : clean n ⟨if c then none else some b, some b⟩ = True := by
  split
  · rw [clean_wT]; exact eq_true h
  · rw [clean_ewT]; exact eq_true ⟨h, h⟩
theorem le_self_add {n k : Nat} : (n ≤ n + k) = True := eq_true (Nat.le_add_right n k)
theorem le_self {n : Nat} : (n ≤ n) = True := eq_true (Nat.le_refl n)
attribute [go_sem] clean_z0 clean_andT clean_wT clean_ewT clean_ifT le_self_add le_self

def endR (P : Program) (rs : List ResultVar) (n : Nat) (k : AV × Hp × Ef → Prop) : Ex → St → Prop := fun ex s =>
  (ex = .normal ∨ ex = .ret) ∧ match evRes P s rs with
    | some vs => k (leave n (pack vs) s.H s.ef)
    | none => False
theorem endR_n {rs : List ResultVar} {n : Nat} {k : AV × Hp × Ef → Prop} : endR P rs n k .normal ⟨σ, H, e⟩ = bindK (evRes P ⟨σ, H, e⟩ rs) fun vs => k (leave n (pack vs) H e) := by
  apply propext
  constructor
  · rintro ⟨_, h⟩; unfold bindK; split at h <;> simp_all
  · intro h; refine ⟨.inl rfl, ?_⟩; unfold bindK at h; split at h <;> simp_all
theorem endR_r {rs : List ResultVar} {n : Nat} {k : AV × Hp × Ef → Prop} : endR P rs n k .ret ⟨σ, H, e⟩ = bindK (evRes P ⟨σ, H, e⟩ rs) fun vs => k (leave n (pack vs) H e) := by
  apply propext
  constructor
  · rintro ⟨_, h⟩; unfold bindK; split at h <;> simp_all
  · intro h; refine ⟨.inr rfl, ?_⟩; unfold bindK at h; split at h <;> simp_all
theorem res_nil : evRes P ⟨σ, H, e⟩ [] = some [] := rfl
theorem res_tmp {t : Nat} {r : List ResultVar} : evRes P ⟨σ, H, e⟩ (.tmp t :: r) = (evRes P ⟨σ, H, e⟩ r).map (fr σ t :: ·) := rfl
theorem res_cell {a : Nat} {t : TypeId} {r : List ResultVar} : evRes P ⟨σ, H, e⟩ (.cell a t :: r) = (asPtr (fr σ a)).bind fun p => (evLoad P H t p.1 p.2).bind fun v => (evRes P ⟨σ, H, e⟩ r).map (v :: ·) := by
  simp only [evRes]
  unfold fr
  cases (σ[a]?).getD undefA <;> rfl
theorem bind_res_tmp {t : Nat} {r : List ResultVar} {f : List AV → Prop} : bindK (evRes P ⟨σ, H, e⟩ (.tmp t :: r)) f = bindK (evRes P ⟨σ, H, e⟩ r) fun vs => f (fr σ t :: vs) := by
  rw [res_tmp, bindK_map]
theorem bind_res_cell {a : Nat} {t : TypeId} {r : List ResultVar} {f : List AV → Prop} : bindK (evRes P ⟨σ, H, e⟩ (.cell a t :: r)) f = bindK (asPtr (fr σ a)) fun p => bindK (evLoad P H t p.1 p.2) fun v => bindK (evRes P ⟨σ, H, e⟩ r) fun vs => f (v :: vs) := by
  rw [res_cell, bindK_bind]
  refine bindK_ext fun p => ?_
  rw [bindK_bind]
  refine bindK_ext fun v => ?_
  rw [bindK_map]
theorem bind_res_nil {f : List AV → Prop} : bindK (evRes P ⟨σ, H, e⟩ []) f = f [] := rfl
theorem pack_one {v : AV} : pack [v] = v := rfl
theorem pack_nil : pack [] = .tuple [] := rfl
theorem pack_two {v w : AV} {vs : List AV} : pack (v :: w :: vs) = .tuple (v :: w :: vs) := rfl
attribute [go_sem ↓] endR_n endR_r
attribute [go_sem ↓] bind_res_tmp bind_res_cell bind_res_nil
attribute [go_sem] pack_one pack_nil pack_two

theorem leave_flat {v : AV} {l : Hp} (hv : flat v = true) (h : clean H.length e) : leave H.length v (H ++ l) e = (v, H, z0) := by
  unfold leave
  rw [h.1, h.2, if_pos ⟨hv, rfl⟩, List.take_left]; rfl
theorem leave_flat0 {v : AV} (hv : flat v = true) (h : clean H.length e) : leave H.length v H e = (v, H, z0) := by
  unfold leave
  rw [h.1, h.2, if_pos ⟨hv, rfl⟩, List.take_length]; rfl
theorem leave_keep {n : Nat} {v : AV} (hv : flat v = false) (h : clean n e) : leave n v H e = (v, H, z0) := by
  unfold leave
  rw [h.1, h.2, if_neg (by simp [hv])]; rfl

attribute [go_sem] leave_flat leave_flat0 leave_keep

theorem callK_start {f : FuncId} {fn : Func} {c : Code} {args : List AV} {kk : AV × Hp × Ef → Prop} {rs : List ResultVar} {n : Nat} (hf : P.funcs[f]? = some fn) (hb : fn.body = some c) (hr : fn.results.toList = rs) (hn : args.length + (fn.ntmps - args.length) = n)
    (h : ∀ σ : List AV, σ.length = n → (∀ i : Nat, i < args.length → fr σ i = (args[i]?).getD undefA) → go P (endR P rs H.length kk) [.code c] ⟨σ, H, z0⟩) : callK P f args H kk := by
  rw [callK_body hf hb]
  subst hr; subst hn
  refine h _ (by simp) (fun i hi => ?_)
  unfold fr
  rw [List.getElem?_append_left hi]

/-! a region whose order is open, with no allocation to draw ahead -/
def goZ (P : Program) (ops : List Oper) (K : St → List Nat → Prop) (i : Nat) (l : List Oper) (s : St) (_ : Ph (ops, K, l) := ⟨⟩) : Prop := goD P ops K ((l.zipIdx i).map fun (o, i) => (i, o)) s
def nextZ (P : Program) (ops : List Oper) (K : St → List Nat → Prop) (l : List Oper) (σ : List AV) (H : Hp) (e : Ef) (i : Nat) (dst : Option Tmp) : AV × Hp × Ef → Prop :=
  fun r => goZ P ops (fun s es => K s (if quiet r H = true then es else tg i r.2.2 :: es)) (i + 1) l ⟨put σ dst r.1, r.2.1, e.and r.2.2⟩
theorem quiet_z {v : AV} : quiet (v, H, z0) H = true := by simp [quiet, z0]
theorem goZ_K {K K' : St → List Nat → Prop} {i : Nat} {s : St} (h : K = K') : goZ P ops K i l s = goZ P ops K' i l s := by subst h; rfl
theorem opK_k {op : Op} {kk kk' : AV × Hp × Ef → Prop} (h : kk = kk') : opK P σ H op kk = opK P σ H op kk' := by subst h; rfl
theorem nextZ_q {K : St → List Nat → Prop} {dst : Option Tmp} {i : Nat} {v : AV} {σ : List AV} : nextZ P ops K l σ H e i dst (v, H, z0) = goZ P ops K (i + 1) l ⟨put σ dst v, H, e⟩ := by
  show goZ P ops (fun s es => K s (if quiet (v, H, z0) H = true then es else tg i z0 :: es)) (i + 1) l ⟨put σ dst v, H, e.and z0⟩ = _
  rw [Ef.and_z0]
  refine goZ_K ?_
  funext s es
  rw [quiet_z]; rfl
theorem nextZ_w {K : St → List Nat → Prop} {dst : Option Tmp} {i : Nat} {v : AV} {H' : Hp} {e' : Ef} (h : quiet (v, H', e') H = false) : nextZ P ops K l σ H e i dst (v, H', e') = goZ P ops (fun s es => K s (tg i e' :: es)) (i + 1) l ⟨put σ dst v, H', e.and e'⟩ := by
  refine goZ_K ?_
  funext s es
  rw [h]; rfl
theorem goZ_nil {K : St → List Nat → Prop} {i : Nat} : goZ P ops K i [] ⟨σ, H, e⟩ = K ⟨σ, H, e⟩ [] := goD_nil
@[reducible] def notFree : Op → Bool
  | .alloc _ => false
  | _ => true
theorem goZ_op {K : St → List Nat → Prop} {i : Nat} {dst : Option Tmp} {op : Op} {ty : TypeId} {pos : String} {af : Array Edge} (hf : notFree op = true) :
    goZ P ops K i (⟨dst, op, ty, pos, af, none⟩ :: l) ⟨σ, H, e⟩ = opK P σ H op (nextZ P ops K l σ H e i dst) := by
  show goD P ops K ((i, _) :: (l.zipIdx (i + 1)).map fun (o, i) => (i, o)) _ = _
  rw [goD_op]
  have : isFree ⟨dst, op, ty, pos, af, none⟩ = false := by cases op <;> first | rfl | cases hf
  refine opK_k ?_
  funext r
  unfold nextD nextZ goZ
  rw [this]
  rfl
theorem goZ_opg {K : St → List Nat → Prop} {i : Nat} {dst : Option Tmp} {op : Op} {ty : TypeId} {pos : String} {af : Array Edge} {j : Nat} {w : Bool} :
    goZ P ops K i (⟨dst, op, ty, pos, af, some (j, w)⟩ :: l) ⟨σ, H, e⟩ = guardK (gvalO σ (gdst ops j)) w (opK P σ H op (nextZ P ops K l σ H e i dst)) (goZ P ops K (i + 1) l ⟨put σ dst undefA, H, e⟩) := by
  have hfr : isFree ⟨dst, op, ty, pos, af, some (j, w)⟩ = false := by cases op <;> simp [isFree]
  show goD P ops K ((i, _) :: (l.zipIdx (i + 1)).map fun (o, i) => (i, o)) _ = guardK _ _ _ (goD P ops K ((l.zipIdx (i + 1)).map fun (o, i) => (i, o)) _)
  cases hw : wantedA ops σ ⟨dst, op, ty, pos, af, some (j, w)⟩ with
  | true =>
    rw [goD_want hw]
    have e1 : nextD P ops K (List.map (fun x => (x.snd, x.fst)) (l.zipIdx (i + 1))) σ H e i ⟨dst, op, ty, pos, af, some (j, w)⟩ = nextZ P ops K l σ H e i dst := by
      funext r; unfold nextD nextZ goZ; rw [hfr]; rfl
    unfold wantedA at hw
    simp only at hw
    unfold gvalO gdst
    split at hw
    · rename_i d hd
      rw [hd]
      split at hw
      · rename_i b hb
        unfold fr; simp only [hb, Option.getD_some, guardK]; rw [if_pos hw]; show opK _ _ _ _ _ = _; rw [← e1]
      · cases hw
    · cases hw
  | false =>
    rw [goD_skip hw]
    unfold wantedA at hw
    simp only at hw
    unfold gvalO gdst
    split at hw
    · rename_i d hd
      rw [hd]
      split at hw
      · rename_i b hb
        unfold fr; simp only [hb, Option.getD_some, guardK]; rw [if_neg (by rw [hw]; exact Bool.false_ne_true)]
      · rename_i hne
        simp only
        unfold fr guardK
        split
        · rename_i b hb
          cases hd2 : σ[d]? with
          | none => rw [hd2] at hb; cases hb
          | some v => rw [hd2] at hb; simp only [Option.getD_some] at hb; rw [hb] at hd2; exact absurd hd2 (hne b)
        · rfl
    · rename_i hd
      rw [hd]; rfl
theorem order_z {l : List Oper} (h : l.all (fun o => !isFree o) = true) : order l = (l.zipIdx 0).map fun (o, i) => (i, o) := by
  have hz : ∀ p ∈ num l, isFree p.2 = false := by
    intro p hp
    unfold num at hp
    simp only [List.mem_map] at hp
    obtain ⟨q, hq, rfl⟩ := hp
    have := List.all_eq_true.1 h q.1 (List.fst_mem_of_mem_zipIdx hq)
    simpa using this
  unfold order
  have h1 : (num l).filter (fun p => isFree p.2) = [] := List.filter_eq_nil_iff.2 fun p hp => by rw [hz p hp]; exact Bool.false_ne_true
  have h2 : (num l).filter (fun p => !isFree p.2) = num l := List.filter_eq_self.2 fun p hp => by rw [hz p hp]; rfl
  rw [h1, h2]; rfl
theorem go_drawZ {id : Nat} {ops : Array Oper} (hm : P.follows .mixedOrders = true) (hs : (statOk ops.toList && ops.toList.all (fun o => !isFree o)) = true)
    (h : goZ P ops.toList (fun s es => effOk P ops.toList es = true ∧ go P Q k s) 0 ops.toList ⟨σ, H, e⟩) : go P Q (.code (.region id ops true) :: k) ⟨σ, H, e⟩ := by
  rw [Bool.and_eq_true] at hs
  rw [go_draw hm hs.1, order_z hs.2]
  exact h
theorem tg_z {i : Nat} : tg i z0 = 2 * i + 1 := rfl
theorem tg_w {i x : Nat} {o : Option Nat} : tg i ⟨o, some x⟩ = 2 * i := by unfold tg; simp
theorem tg_s {i x : Nat} {o : Option Nat} : tg i ⟨some x, o⟩ = 2 * i := by unfold tg; simp
theorem tg_or (i : Nat) (e : Ef) : tg i e = 2 * i ∨ tg i e = 2 * i + 1 := by unfold tg; split <;> simp
attribute [go_sem] tg_z tg_w tg_s
theorem effOk_nil {ops : List Oper} : effOk P ops [] = true := rfl
theorem callK_ex {α : Type} {f : FuncId} {args : List AV} (g : α → AV × Hp × Ef) (h : callK P f args H (fun q => ∃ b, q = g b)) : ∃ b, ∀ k, callK P f args H k = k (g b) := by
  obtain ⟨n, r, hn, b, rfl⟩ := h
  exact ⟨b, fun k => propext (callK_iff_of hn)⟩
/-! whole numbers -/
theorem wrap_u8 {n : Int} (h : 0 ≤ n ∧ n < 256) : IntKind.u8.wrap n = n := by
  simp only [IntKind.wrap, IntKind.bits, IntKind.signed, Bool.false_and, Bool.true_and, Bool.false_eq_true, if_false, decide_eq_true_eq, Nat.reduceSub, Int.reducePow, ge_iff_le]; first | omega | (split <;> omega)
theorem wrap_u16 {n : Int} (h : 0 ≤ n ∧ n < 65536) : IntKind.u16.wrap n = n := by
  simp only [IntKind.wrap, IntKind.bits, IntKind.signed, Bool.false_and, Bool.true_and, Bool.false_eq_true, if_false, decide_eq_true_eq, Nat.reduceSub, Int.reducePow, ge_iff_le]; first | omega | (split <;> omega)
theorem wrap_u32 {n : Int} (h : 0 ≤ n ∧ n < 4294967296) : IntKind.u32.wrap n = n := by
  simp only [IntKind.wrap, IntKind.bits, IntKind.signed, Bool.false_and, Bool.true_and, Bool.false_eq_true, if_false, decide_eq_true_eq, Nat.reduceSub, Int.reducePow, ge_iff_le]; first | omega | (split <;> omega)
theorem wrap_u64 {n : Int} (h : 0 ≤ n ∧ n < 18446744073709551616) : IntKind.u64.wrap n = n := by
  simp only [IntKind.wrap, IntKind.bits, IntKind.signed, Bool.false_and, Bool.true_and, Bool.false_eq_true, if_false, decide_eq_true_eq, Nat.reduceSub, Int.reducePow, ge_iff_le]; first | omega | (split <;> omega)
theorem wrap_i64 {n : Int} (h : -9223372036854775808 ≤ n ∧ n < 9223372036854775808) : IntKind.i64.wrap n = n := by
  simp only [IntKind.wrap, IntKind.bits, IntKind.signed, Bool.false_and, Bool.true_and, Bool.false_eq_true, if_false, decide_eq_true_eq, Nat.reduceSub, Int.reducePow, ge_iff_le]; first | omega | (split <;> omega)
theorem wrap_i32 {n : Int} (h : -2147483648 ≤ n ∧ n < 2147483648) : IntKind.i32.wrap n = n := by
  simp only [IntKind.wrap, IntKind.bits, IntKind.signed, Bool.false_and, Bool.true_and, Bool.false_eq_true, if_false, decide_eq_true_eq, Nat.reduceSub, Int.reducePow, ge_iff_le]; first | omega | (split <;> omega)
theorem wrap_succ {n : Nat} (h : n < 9223372036854775807) : IntKind.i64.wrap ((n : Int) + 1) = ((n + 1 : Nat) : Int) := by
  rw [wrap_i64 (by omega)]; rfl
theorem wrap_pred {n : Nat} (h : n < 9223372036854775807) : IntKind.i64.wrap (((n + 1 : Nat) : Int) - 1) = (n : Int) := by
  rw [wrap_i64 (by omega)]; omega
attribute [go_sem ↓] nextZ_q nextZ_w goZ_nil goZ_op goZ_opg
attribute [go_sem] effOk_nil notFree

/-! ranges over strings -/
def asS : AV → Option (List UInt8)
  | .str s => some s
  | _ => none
theorem asS_s {s : List UInt8} : asS (.str s) = some s := rfl
theorem k_range {kk : AV × Hp × Ef → Prop} {t : TypeId} {x : Operand} (ht : isStr (tsh P t) = true) : opK P σ H (.range t x) kk = bindK (evArg P σ x) fun v => bindK (asS v) fun s => kk (.ptr H.length 0, H ++ [.iter s 0], z0) := by
  have he : tsh P t = some .str := by
    unfold isStr at ht
    split at ht
    · assumption
    · cases ht
  show stepK _ _ = _
  simp only [evOp, he]
  rw [stepK_bind]; refine bindK_ext fun c => ?_
  cases c <;> rfl
def itC : ABlk → Option (List UInt8 × Nat)
  | .iter s p => some (s, p)
  | _ => none
theorem itC_i {s : List UInt8} {p : Nat} : itC (.iter s p) = some (s, p) := rfl
def asPtr0 : AV → Option Nat
  | .ptr b 0 => some b
  | _ => none
theorem asPtr0_p {b : Nat} : asPtr0 (.ptr b 0) = some b := rfl
theorem k_next {kk : AV × Hp × Ef → Prop} {it : Operand} : opK P σ H (.next it true) kk = bindK (evArg P σ it) fun v => bindK (asPtr0 v) fun b => bindK (H[b]?) fun x => bindK (itC x) fun q => kk ((strIter q.1 q.2).1, H.set b (.iter q.1 (strIter q.1 q.2).2), ⟨none, some b⟩) := by
  show stepK _ _ = _
  simp only [evOp]
  rw [stepK_bind]; refine bindK_ext fun c => ?_
  cases c <;> try rfl
  rename_i b o
  cases o with
  | succ o => rfl
  | zero =>
    show stepK _ _ = bindK (some b) _
    rw [bindK_some]
    cases hx : H[b]? with
    | none => simp only [hx]; rfl
    | some x => simp only [hx]; cases x <;> rfl
/-- One round over a text without letters beyond ASCII. -/
def itN (s : List UInt8) (p : Nat) : AV × Nat :=
  match s[p]? with
  | some c => (.tuple [.bool true, .int .i64 (p : Nat), .int .i32 c.toNat], p + 1)
  | none => (.tuple [.bool false], p)
theorem strIter_a {s : List UInt8} {p : Nat} (h : s.all (fun c => decide (c.toNat < 128)) = true) : strIter s p = itN s p := by
  unfold strIter itN
  by_cases hp : p < s.length
  · rw [if_pos hp, List.getElem?_eq_getElem hp]
    have hc : s[p].toNat < 128 := by
      have := List.all_eq_true.1 h s[p] (List.getElem_mem hp)
      simpa using this
    have hs : (⟨s.toArray⟩ : ByteArray).size = s.length := by simp [ByteArray.size]
    have hg : ((⟨s.toArray⟩ : ByteArray)[p]'(by rw [hs]; exact hp)) = s[p] := by
      show (s.toArray)[p] = s[p]
      simp
    have := decode_ascii ⟨s.toArray⟩ p (by rw [hs]; exact hp) (by rw [hg]; exact hc)
    rw [hg] at this
    simp only [this]
  · rw [if_neg hp, List.getElem?_eq_none (by omega)]
theorem itN_s {s : List UInt8} {p : Nat} {c : UInt8} (h : s[p]? = some c) : itN s p = (.tuple [.bool true, .int .i64 (p : Nat), .int .i32 c.toNat], p + 1) := by unfold itN; rw [h]
theorem itN_n {s : List UInt8} {p : Nat} (h : s[p]? = none) : itN s p = (.tuple [.bool false], p) := by unfold itN; rw [h]
attribute [go_sem ↓] k_range k_next
attribute [go_sem] asS_s itC_i asPtr0_p

/-! ranges over functions -/
theorem asFun_s {g : FuncId} {a b : List AV} : asFun (.func (.func g) a b) = some (g, a, b) := rfl
theorem asEnd_n {τ : List AV} {ps : List Tmp} {as bd : Code} : asEnd (some (.loop τ ps as bd .ready)) = some .normal := rfl
theorem asEnd_d {τ : List AV} {ps : List Tmp} {as bd : Code} {x : Ex} : asEnd (some (.loop τ ps as bd (.done x))) = some x := rfl
theorem asReady_s {τ : List AV} {ps : List Tmp} {as bd : Code} : asReady (some (.loop τ ps as bd .ready)) = some ⟨τ, ps, as, bd⟩ := rfl
theorem asBusy_s {τ : List AV} {ps : List Tmp} {as bd : Code} : asBusy (some (.loop τ ps as bd .busy)) = some ⟨τ, ps, as, bd⟩ := rfl
def rangeK (P : Program) (Q : Ex → St → Prop) (k : List It) (x : Option (FuncId × List AV × List AV)) (ps : List Tmp) (as bd : Code) (σ : List AV) (H : Hp) (e : Ef) (_ : Ph (Q, k, as, bd) := ⟨⟩) : Prop :=
  match x with
  | some x => hasBody P x.1 = true ∧ callK P x.1 (x.2.1 ++ [.yld H.length] ++ x.2.2) (H ++ [.loop σ ps as bd .ready]) (rngK P Q k σ H.length e)
  | none => False
theorem go_rangeK {f : Operand} {ps : Array Tmp} {as bd : Code} : go P Q (.code (.rangeFunc f ps as bd) :: k) ⟨σ, H, e⟩ = bindK (evArg P σ f) fun v => rangeK P Q k (asFun v) ps.toList as bd σ H e := by
  cases hf : evArg P σ f with
  | none =>
    refine propext ⟨?_, fun h => h.elim⟩
    rintro ⟨n, ex, s', hc, _⟩
    simp only [evCode, evRange_eq, hf, Option.bind_none] at hc
    cases hc
  | some v =>
    show _ = rangeK P Q k (asFun v) ps.toList as bd σ H e
    cases hv : asFun v with
    | none =>
      refine propext ⟨?_, fun h => h.elim⟩
      rintro ⟨n, ex, s', hc, _⟩
      simp only [evCode, evRange_eq, hf, hv, Option.bind_some, Option.bind_none] at hc
      cases hc
    | some x =>
      show _ = (hasBody P x.1 = true ∧ _)
      by_cases hb : hasBody P x.1 = true
      · rw [go_range hf hv hb]
        simp [hb]
      · refine propext ⟨?_, fun h => absurd h.1 hb⟩
        rintro ⟨n, ex, s', hc, _⟩
        simp only [evCode, evRange_eq, hf, hv, Option.bind_some, if_neg hb] at hc
        cases hc
theorem rangeK_s {g : FuncId} {a b : List AV} {ps : List Tmp} {as bd : Code} (hb : hasBody P g = true) : rangeK P Q k (some (g, a, b)) ps as bd σ H e = callK P g (a ++ [.yld H.length] ++ b) (H ++ [.loop σ ps as bd .ready]) (rngK P Q k σ H.length e) := by
  show (_ ∧ _) = _
  simp [hb]
def endK (P : Program) (Q : Ex → St → Prop) (k : List It) (x : Option Ex) (s : St) (_ : Ph (Q, k) := ⟨⟩) : Prop :=
  match x with
  | some ex => contQ P Q k ex s
  | none => False
theorem rngK_ap {τ : List AV} {n : Nat} {v : AV} {H' : Hp} {e' : Ef} : rngK P Q k τ n e (v, H', e') = endK P Q k (asEnd (H'[n]?)) ⟨τ, H'.set n .dead, e.and (e'.and ⟨none, some n⟩)⟩ := rfl
theorem endK_n : endK P Q k (some .normal) ⟨σ, H, e⟩ = go P Q k ⟨σ, H, e⟩ := rfl
theorem endK_e {i : Nat} : endK P Q k (some (.exit i)) ⟨σ, H, e⟩ = leaveTo P Q i k ⟨σ, H, e⟩ := rfl
theorem endK_r : endK P Q k (some .ret) ⟨σ, H, e⟩ = Q .ret ⟨σ, H, e⟩ := contQ_ret k _
theorem rdQ_n {b n : Nat} {bd : Code} {kk : AV × Hp × Ef → Prop} : rdQ P b n bd kk .normal ⟨σ, H, e⟩ = bindK (asReady (H[b]?)) fun L => go P (reQ b n kk) [.code bd] ⟨σ, H.set b (.loop L.σ L.ps L.as L.bd .busy), e.and ⟨none, some b⟩⟩ := by
  unfold rdQ
  simp only [true_and]
  cases asReady (H[b]?) <;> rfl
theorem reQ_n {b n : Nat} {kk : AV × Hp × Ef → Prop} : reQ b n kk .normal ⟨σ, H, e⟩ = bindK (asBusy (H[b]?)) fun L => kk (leave n (.bool true) (H.set b (.loop L.σ L.ps L.as L.bd .ready)) (e.and ⟨none, some b⟩)) := by
  unfold reQ
  simp only
  cases asBusy (H[b]?) <;> rfl
theorem reQ_e {b n i : Nat} {kk : AV × Hp × Ef → Prop} : reQ b n kk (.exit i) ⟨σ, H, e⟩ = bindK (asBusy (H[b]?)) fun L => kk (leave n (.bool false) (H.set b (.loop L.σ L.ps L.as L.bd (.done (.exit i)))) (e.and ⟨none, some b⟩)) := by
  unfold reQ
  simp only
  cases asBusy (H[b]?) <;> rfl
theorem reQ_r {b n : Nat} {kk : AV × Hp × Ef → Prop} : reQ b n kk .ret ⟨σ, H, e⟩ = bindK (asBusy (H[b]?)) fun L => kk (leave n (.bool false) (H.set b (.loop L.σ L.ps L.as L.bd (.done .ret))) (e.and ⟨none, some b⟩)) := by
  unfold reQ
  simp only
  cases asBusy (H[b]?) <;> rfl
theorem putAll_nil {as : List AV} : putAll σ [] as = σ := by cases as <;> rfl
theorem putAll_cons {p : Tmp} {ps : List Tmp} {v : AV} {vs : List AV} : putAll σ (p :: ps) (v :: vs) = putAll (σ.set p v) ps vs := rfl
attribute [go_sem ↓] go_rangeK rangeK_s rngK_ap endK_n endK_e endK_r rdQ_n reQ_n reQ_e reQ_r
attribute [go_sem] asFun_s asEnd_n asEnd_d asReady_s asBusy_s putAll_nil putAll_cons

/-- What holds at a round's end. -/
def roundQ (P : Program) (Q : Ex → St → Prop) (k : List It) (I : Nat → St → Prop) (n : Nat) : Ex → St → Prop
  | .normal, s => ∃ m, m < n ∧ I m s
  | .exit i, s => leaveTo P Q i k s
  | ex, s => contQ P Q k ex s
theorem roundQ_n {I : Nat → St → Prop} {n : Nat} : roundQ P Q k I n .normal ⟨σ, H, e⟩ = ∃ m, m < n ∧ I m ⟨σ, H, e⟩ := rfl
theorem roundQ_e {I : Nat → St → Prop} {n i : Nat} : roundQ P Q k I n (.exit i) ⟨σ, H, e⟩ = leaveTo P Q i k ⟨σ, H, e⟩ := rfl
theorem roundQ_r {I : Nat → St → Prop} {n : Nat} : roundQ P Q k I n .ret ⟨σ, H, e⟩ = Q .ret ⟨σ, H, e⟩ := contQ_ret k _
attribute [go_sem ↓] roundQ_n roundQ_e roundQ_r
theorem go_rounds {c : Code} (I : Nat → St → Prop) (n : Nat) {s : St} (h0 : I n s) (round : ∀ n s, I n s → go P (roundQ P Q k I n) [.code c] s) : go P Q (.code (.loop c) :: k) s := by
  refine go_while I n h0 (fun n s hs => ?_)
  have := round n s hs
  refine goCode_mono (Q := roundQ P Q k I n) this (fun ex s hq => ?_)
  cases ex <;> exact hq
end
section
variable {P : Program} {Q : Ex → St → Prop} {k : List It} {σ : List AV} {H : Hp} {e : Ef} {ops : List Oper} {l : List Oper} {kk : AV × Hp × Ef → Prop}

theorem arg_g {g : Nat} (h : decide (g < P.globals.size) = true) : evArg P σ (.global g) = some (.ptr g 0) := by
  simp only [evArg]; rw [if_pos (by simpa using h)]
theorem arg_u {n : Nat} {s : Array Value} : evArg P σ (.const (.agg s)) = absV (.agg s) := rfl
attribute [go_sem] arg_g

/-! operations that were not there -/
theorem k_slData {ts : Array TypeId} {x : Operand} : opK P σ H (.call ⟨.builtin .unsafeSliceData, ⟨[x]⟩, ts⟩) kk = bindK (evArg P σ x) fun v => bindK (evSliceData P v H) fun v => kk (v, H, z0) := by
  show stepK _ _ = _
  simp only [evOp, evCall, evArgs]
  cases evArg P σ x with
  | none => rfl
  | some v => exact stepK_ret
theorem k_string {pt it : TypeId} {x y : Operand} : opK P σ H (.call ⟨.builtin .unsafeString, ⟨[x, y]⟩, ⟨[pt, it]⟩⟩) kk = bindK (evArg P σ x) fun v => bindK (evArg P σ y) fun w => stepK (evString P pt v w H) kk := by
  show stepK _ _ = _
  simp only [evOp, evCall, evArgs]
  cases evArg P σ x with
  | none => rfl
  | some v =>
    cases evArg P σ y with
    | none => rfl
    | some w => rfl
theorem k_cap {t : TypeId} {ts : List TypeId} {x : Operand} : opK P σ H (.call ⟨.builtin .cap, ⟨[x]⟩, ⟨t :: ts⟩⟩) kk = bindK (evArg P σ x) fun v => bindK (evCap P t v) fun v => kk (v, H, z0) := by
  show stepK _ _ = _
  simp only [evOp, evCall, evArgs]
  cases evArg P σ x with
  | none => rfl
  | some v => exact stepK_ret
theorem k_min {ts : Array TypeId} {x y : Operand} : opK P σ H (.call ⟨.builtin .min, ⟨[x, y]⟩, ts⟩) kk = bindK (evArg P σ x) fun v => bindK (evArg P σ y) fun w => bindK (evMin2 v w) fun v => kk (v, H, z0) := by
  show stepK _ _ = _
  simp only [evOp, evCall, evArgs]
  cases evArg P σ x with
  | none => rfl
  | some v =>
    cases evArg P σ y with
    | none => rfl
    | some w => exact stepK_ret
theorem k_max {ts : Array TypeId} {x y : Operand} : opK P σ H (.call ⟨.builtin .max, ⟨[x, y]⟩, ts⟩) kk = bindK (evArg P σ x) fun v => bindK (evArg P σ y) fun w => bindK (evMax2 v w) fun v => kk (v, H, z0) := by
  show stepK _ _ = _
  simp only [evOp, evCall, evArgs]
  cases evArg P σ x with
  | none => rfl
  | some v =>
    cases evArg P σ y with
    | none => rfl
    | some w => exact stepK_ret
attribute [go_sem ↓] k_slData k_string k_cap k_min k_max

/-! numbers -/
theorem i_quo {kd : IntKind} {a b : Int} (h : (b == 0) = false) : evInt .quo kd a b = some (.int kd (kd.wrap (a.tdiv b))) := by
  have : ¬ b = 0 := by simpa using h
  simp [evInt, this]
theorem i_rem {kd : IntKind} {a b : Int} (h : (b == 0) = false) : evInt .rem kd a b = some (.int kd (a.tmod b)) := by
  have : ¬ b = 0 := by simpa using h
  simp [evInt, this]
theorem i_and {kd : IntKind} {a b : Int} : evInt .and kd a b = some (.int kd (kd.wrap (BitVec.ofInt kd.bits a &&& BitVec.ofInt kd.bits b).toNat)) := rfl
theorem i_or {kd : IntKind} {a b : Int} : evInt .or kd a b = some (.int kd (kd.wrap (BitVec.ofInt kd.bits a ||| BitVec.ofInt kd.bits b).toNat)) := rfl
theorem i_shr {kd : IntKind} {a : Int} {n : Nat} : evShift .shr kd a (n : Nat) = some (.int kd (a.fdiv (2 ^ (min n kd.bits)))) := by
  simp only [evShift]; rw [if_neg (by omega)]; simp
theorem i_shl {kd : IntKind} {a : Int} {n : Nat} : evShift .shl kd a (n : Nat) = some (.int kd (kd.wrap (a * 2 ^ (min n kd.bits)))) := by
  simp only [evShift]; rw [if_neg (by omega)]; simp
theorem u_neg {kd : IntKind} {n : Int} : evUn .neg (.int kd n) = some (.int kd (kd.wrap (0 - n))) := rfl
attribute [go_sem] i_quo i_rem u_neg

/-! a text's bytes -/
theorem bind_idx {t : TypeId} {s : List UInt8} {kd : IntKind} {i : Int} {f : AV → Prop} (ht : (match tsh P t with | some .str => true | _ => false) = true) : bindK (evIndex P t (.str s) (.int kd i)) f = (0 ≤ i ∧ bindK (s[i.toNat]?) fun b => f (.int .u8 b.toNat)) := by
  split at ht
  · rename_i he
    simp only [evIndex, he]
    rw [bindK_ite, bindK_map]
  · cases ht
attribute [go_sem ↓] bind_idx

/-! what stands in new memory -/
theorem lg_s {T : Hp} {j : Nat} {v : ABlk} (h : decide (j < T.length) = true) : (T.set j v)[j]? = some v := by
  rw [List.getElem?_set_self (by simpa using h)]
theorem lg_n {T : Hp} {i j : Nat} {v : ABlk} (h : (i == j) = false) : (T.set i v)[j]? = T[j]? := by
  rw [List.getElem?_set_ne (by simpa using h)]
theorem la_l {T l : Hp} {j : Nat} (h : decide (j < T.length) = true) : (T ++ l)[j]? = T[j]? := by
  rw [List.getElem?_append_left (by simpa using h)]
theorem ls_l {T l : Hp} {j : Nat} {v : ABlk} (h : decide (j < T.length) = true) : (T ++ l).set j v = T.set j v ++ l := by
  rw [List.set_append_left _ _ (by simpa using h)]
attribute [go_sem] lg_s lg_n ls_l

/-- Bytes as cells. -/
def u8s (s : List UInt8) : List AV := s.map fun b => .int .u8 b.toNat
theorem u8s_len {s : List UInt8} : (u8s s).length = s.length := by simp [u8s]
theorem u8s_app {s t : List UInt8} : u8s (s ++ t) = u8s s ++ u8s t := by simp [u8s]
theorem u8s_scal : ∀ {s : List UInt8}, (u8s s).all scal = true
  | [] => rfl
  | b :: s => by show (scal _ && (u8s s).all scal) = true; rw [u8s_scal]; rfl
theorem u8s_flat : ∀ {s : List UInt8}, flats (u8s s) = true
  | [] => by simp only [u8s, List.map_nil, flats]
  | b :: s => by
    show flats (_ :: u8s s) = true
    simp only [flats, flat, u8s_flat, Bool.and_self]
theorem u8s_one {b : UInt8} : u8s [b] = [.int .u8 b.toNat] := rfl
theorem bytes_u8s : ∀ (s : List UInt8), evBytes (u8s s) = some s
  | [] => rfl
  | b :: s => by
    show evBytes (.int .u8 b.toNat :: u8s s) = _
    unfold evBytes
    have := b.toNat_lt
    rw [if_pos ⟨by omega, by omega⟩, bytes_u8s s]
    simp
theorem conv_u8s : ∀ (s : List UInt8), evConv.bytesOf (u8s s) = some s
  | [] => rfl
  | b :: s => by
    show evConv.bytesOf (.int .u8 b.toNat :: u8s s) = _
    unfold evConv.bytesOf
    rw [conv_u8s s]
    simp
theorem take_u8s {s : List UInt8} {n : Nat} : (u8s s).take n = u8s (s.take n) := by simp [u8s, List.map_take]
theorem drop_u8s {s : List UInt8} {n : Nat} : (u8s s).drop n = u8s (s.drop n) := by simp [u8s, List.map_drop]
attribute [go_sem] u8s_len u8s_scal u8s_flat

/-! regions whose order is open, with allocations that may stand anywhere -/
def frees : List Oper → Nat → List (Nat × Oper)
  | [], _ => []
  | o :: l, i => if isFree o = true then (i, o) :: frees l (i + 1) else frees l (i + 1)
def others : List Oper → Nat → List (Nat × Oper)
  | [], _ => []
  | o :: l, i => if isFree o = true then others l (i + 1) else (i, o) :: others l (i + 1)
theorem frees_eq : ∀ (l : List Oper) (i : Nat), ((l.zipIdx i).map fun (o, i) => (i, o)).filter (fun p => isFree p.2) = frees l i
  | [], i => rfl
  | o :: l, i => by
    simp only [List.zipIdx_cons, List.map_cons, List.filter_cons, frees, frees_eq l (i + 1)]
theorem others_eq : ∀ (l : List Oper) (i : Nat), ((l.zipIdx i).map fun (o, i) => (i, o)).filter (fun p => !isFree p.2) = others l i
  | [], i => rfl
  | o :: l, i => by
    simp only [List.zipIdx_cons, List.map_cons, List.filter_cons, others, others_eq l (i + 1)]
    cases isFree o <;> rfl
theorem order_y {l : List Oper} : order l = frees l 0 ++ others l 0 := by
  unfold order num
  rw [frees_eq, others_eq]
def goF (P : Program) (ops : List Oper) (K : St → List Nat → Prop) (i : Nat) (l : List Oper) (s : St) (_ : Ph (ops, K, l) := ⟨⟩) : Prop := goD P ops K (frees l i ++ others ops 0) s
def goN (P : Program) (ops : List Oper) (K : St → List Nat → Prop) (i : Nat) (l : List Oper) (s : St) (_ : Ph (ops, K, l) := ⟨⟩) : Prop := goD P ops K (others l i) s
def nextN (P : Program) (ops : List Oper) (K : St → List Nat → Prop) (l : List Oper) (σ : List AV) (H : Hp) (e : Ef) (i : Nat) (dst : Option Tmp) : AV × Hp × Ef → Prop :=
  fun r => goN P ops (fun s es => K s (if quiet r H = true then es else tg i r.2.2 :: es)) (i + 1) l ⟨put σ dst r.1, r.2.1, e.and r.2.2⟩
theorem goN_K {K K' : St → List Nat → Prop} {i : Nat} {s : St} (h : K = K') : goN P ops K i l s = goN P ops K' i l s := by subst h; rfl
theorem nextN_q {K : St → List Nat → Prop} {dst : Option Tmp} {i : Nat} {v : AV} {σ : List AV} : nextN P ops K l σ H e i dst (v, H, z0) = goN P ops K (i + 1) l ⟨put σ dst v, H, e⟩ := by
  show goN P ops (fun s es => K s (if quiet (v, H, z0) H = true then es else tg i z0 :: es)) (i + 1) l ⟨put σ dst v, H, e.and z0⟩ = _
  rw [Ef.and_z0]
  refine goN_K ?_
  funext s es
  rw [quiet_z]; rfl
theorem nextN_w {K : St → List Nat → Prop} {dst : Option Tmp} {i : Nat} {v : AV} {H' : Hp} {e' : Ef} (h : quiet (v, H', e') H = false) : nextN P ops K l σ H e i dst (v, H', e') = goN P ops (fun s es => K s (tg i e' :: es)) (i + 1) l ⟨put σ dst v, H', e.and e'⟩ := by
  refine goN_K ?_
  funext s es
  rw [h]; rfl
theorem quiet_w {v : AV} {H' : Hp} {x : Option Nat} {b : Nat} : quiet (v, H', ⟨x, some b⟩) H = false := by simp [quiet]
theorem goN_nil {K : St → List Nat → Prop} {i : Nat} : goN P ops K i [] ⟨σ, H, e⟩ = K ⟨σ, H, e⟩ [] := goD_nil
theorem goF_nil {K : St → List Nat → Prop} {i : Nat} : goF P ops K i [] ⟨σ, H, e⟩ = goN P ops K 0 ops ⟨σ, H, e⟩ := rfl
theorem free_t {dst : Option Tmp} {t ty : TypeId} {pos : String} : isFree ⟨dst, .alloc t, ty, pos, ⟨[]⟩, none⟩ = true := rfl
theorem goF_free {K : St → List Nat → Prop} {i : Nat} {dst : Option Tmp} {t ty : TypeId} {pos : String} :
    goF P ops K i (⟨dst, .alloc t, ty, pos, ⟨[]⟩, none⟩ :: l) ⟨σ, H, e⟩ = bindK (tzero P t) fun z => goF P ops K (i + 1) l ⟨put σ dst (.ptr H.length 0), H ++ [.cells z t .rw], e⟩ := by
  show goD P ops K (frees (_ :: l) i ++ others ops 0) _ = _
  have : frees (⟨dst, .alloc t, ty, pos, ⟨[]⟩, none⟩ :: l) i = (i, ⟨dst, .alloc t, ty, pos, ⟨[]⟩, none⟩) :: frees l (i + 1) := by simp only [frees, free_t, if_true]
  rw [this, List.cons_append, goD_op, k_alloc]
  refine bindK_ext fun z => ?_
  show goD P ops (fun s es => K s (if isFree ⟨dst, .alloc t, ty, pos, ⟨[]⟩, none⟩ || quiet _ H then es else tg i _ :: es)) _ _ = _
  rw [free_t, Ef.and_z0]
  rfl
theorem goF_skip {K : St → List Nat → Prop} {i : Nat} {o : Oper} (h : isFree o = false) : goF P ops K i (o :: l) ⟨σ, H, e⟩ = goF P ops K (i + 1) l ⟨σ, H, e⟩ := by
  show goD P ops K (frees (o :: l) i ++ others ops 0) _ = _
  have : frees (o :: l) i = frees l (i + 1) := by simp only [frees, h, Bool.false_eq_true, if_false]
  rw [this]; rfl
theorem free_f {o : Oper} (h : notFree o.op = true) : isFree o = false := by
  obtain ⟨d, op, ty, pos, af, g⟩ := o
  cases op <;> first | rfl | cases h
theorem goF_not {K : St → List Nat → Prop} {i : Nat} {dst : Option Tmp} {op : Op} {ty : TypeId} {pos : String} {af : Array Edge} {g : Option (Nat × Bool)} (h : notFree op = true) : goF P ops K i (⟨dst, op, ty, pos, af, g⟩ :: l) ⟨σ, H, e⟩ = goF P ops K (i + 1) l ⟨σ, H, e⟩ :=
  goF_skip (free_f h)
theorem goN_free {K : St → List Nat → Prop} {i : Nat} {dst : Option Tmp} {t ty : TypeId} {pos : String} :
    goN P ops K i (⟨dst, .alloc t, ty, pos, ⟨[]⟩, none⟩ :: l) ⟨σ, H, e⟩ = goN P ops K (i + 1) l ⟨σ, H, e⟩ := by
  show goD P ops K (others (_ :: l) i) _ = _
  have : others (⟨dst, .alloc t, ty, pos, ⟨[]⟩, none⟩ :: l) i = others l (i + 1) := by simp only [others, free_t, if_true]
  rw [this]; rfl
theorem goN_op {K : St → List Nat → Prop} {i : Nat} {dst : Option Tmp} {op : Op} {ty : TypeId} {pos : String} {af : Array Edge} (hf : notFree op = true) :
    goN P ops K i (⟨dst, op, ty, pos, af, none⟩ :: l) ⟨σ, H, e⟩ = opK P σ H op (nextN P ops K l σ H e i dst) := by
  have hfr : isFree ⟨dst, op, ty, pos, af, none⟩ = false := free_f hf
  show goD P ops K (others (_ :: l) i) _ = _
  have : others (⟨dst, op, ty, pos, af, none⟩ :: l) i = (i, ⟨dst, op, ty, pos, af, none⟩) :: others l (i + 1) := by simp only [others, hfr, Bool.false_eq_true, if_false]
  rw [this, goD_op]
  refine opK_k ?_
  funext r
  unfold nextD nextN goN
  rw [hfr]
  rfl
theorem goN_opg {K : St → List Nat → Prop} {i : Nat} {dst : Option Tmp} {op : Op} {ty : TypeId} {pos : String} {af : Array Edge} {j : Nat} {w : Bool} :
    goN P ops K i (⟨dst, op, ty, pos, af, some (j, w)⟩ :: l) ⟨σ, H, e⟩ = guardK (gvalO σ (gdst ops j)) w (opK P σ H op (nextN P ops K l σ H e i dst)) (goN P ops K (i + 1) l ⟨put σ dst undefA, H, e⟩) := by
  have hfr : isFree ⟨dst, op, ty, pos, af, some (j, w)⟩ = false := by cases op <;> simp [isFree]
  have e0 : others (⟨dst, op, ty, pos, af, some (j, w)⟩ :: l) i = (i, ⟨dst, op, ty, pos, af, some (j, w)⟩) :: others l (i + 1) := by simp only [others, hfr, Bool.false_eq_true, if_false]
  show goD P ops K (others (_ :: l) i) _ = guardK _ _ _ (goD P ops K (others l (i + 1)) _)
  rw [e0]
  cases hw : wantedA ops σ ⟨dst, op, ty, pos, af, some (j, w)⟩ with
  | true =>
    rw [goD_want hw]
    have e1 : nextD P ops K (others l (i + 1)) σ H e i ⟨dst, op, ty, pos, af, some (j, w)⟩ = nextN P ops K l σ H e i dst := by
      funext r; unfold nextD nextN goN; rw [hfr]; rfl
    rw [e1]
    unfold wantedA at hw
    simp only at hw
    unfold gvalO gdst
    split at hw
    · rename_i d hd
      rw [hd]
      split at hw
      · rename_i b hb
        unfold fr; simp only [hb, Option.getD_some]; unfold guardK; simp only; rw [if_pos hw]
      · cases hw
    · cases hw
  | false =>
    rw [goD_skip hw]
    unfold wantedA at hw
    simp only at hw
    unfold gvalO gdst
    split at hw
    · rename_i d hd
      rw [hd]
      split at hw
      · rename_i b hb
        unfold fr; simp only [hb, Option.getD_some]; unfold guardK; simp only; rw [if_neg (by rw [hw]; exact Bool.false_ne_true)]
      · rename_i hne
        simp only
        unfold fr guardK
        split
        · rename_i b hb
          cases hd2 : σ[d]? with
          | none => rw [hd2] at hb; cases hb
          | some v => rw [hd2] at hb; simp only [Option.getD_some] at hb; rw [hb] at hd2; exact absurd hd2 (hne b)
        · rfl
    · rename_i hd
      rw [hd]; unfold guardK; rfl
theorem go_drawF {id : Nat} {ops : Array Oper} (hm : P.follows .mixedOrders = true) (hs : statOk ops.toList = true)
    (h : goF P ops.toList (fun s es => effOk P ops.toList es = true ∧ go P Q k s) 0 ops.toList ⟨σ, H, e⟩) : go P Q (.code (.region id ops true) :: k) ⟨σ, H, e⟩ := by
  rw [go_draw hm hs, order_y]
  exact h
attribute [go_sem ↓] nextN_q nextN_w goF_nil goF_free goF_not goN_nil goN_free goN_op goN_opg
attribute [go_sem] quiet_w
/-- Two answers are the same. -/
theorem ret_b {a b : Bool} (h : a = true ↔ b = true) : (AV.bool a, H, z0) = (AV.bool b, H, z0) := by
  rw [Bool.eq_iff_iff.2 h]
theorem lit_nn {n : Nat} : (0 : Int) ≤ (OfNat.ofNat n : Int) := by
  exact Int.natCast_nonneg n
end
attribute [irreducible] guardK condK bindK roundQ endR goZ nextZ goF goN nextN rangeK endK slK
end Go.Proofs.YtgkpgpdkolpfkaaDoor.V
