/- Joined by mkclaim.py: VSim VTab VOpen VLaid WLib. No conditions. -/
import Derived.Test.YtgkpgpdkolpfkaaDoorJ1
import Derived.KernelRfl
import Derived.Laws.RangeString
import Derived.Test.YtgkpgpdkolpfkaaDoorProg
import Derived.ProofKit
import Derived.OpenShut
import Derived.LaidMore
import Derived.Handed
namespace Go.Proofs.YtgkpgpdkolpfkaaDoor.V
open Go
set_option linter.unusedSimpArgs false
set_option linter.unusedVariables false

/-- What an optional value is handed on to. -/
def bindK {α : Type} (o : Option α) (f : α → Prop) (_ : Ph f := ⟨⟩) : Prop :=
  match o with
  | some a => f a
  | none => False
theorem bindK_some {α : Type} {a : α} {f : α → Prop} : bindK (some a) f = f a := rfl
/-- A frame's slot. -/
def fr (σ : List AV) (t : Nat) : AV := (σ[t]?).getD undefA
/-- A guard. -/
def guardK (v : AV) (w : Bool) (A B : Prop) (_ : Ph (A, B) := ⟨⟩) : Prop :=
  match v with
  | .bool b => if (b == w) = true then A else B
  | _ => B
theorem guardK_tt {A B : Prop} : guardK (.bool true) true A B = A := rfl
theorem guardK_tf {A B : Prop} : guardK (.bool true) false A B = B := rfl
theorem guardK_ft {A B : Prop} : guardK (.bool false) true A B = B := rfl
theorem guardK_ff {A B : Prop} : guardK (.bool false) false A B = A := rfl
theorem guardK_u {w : Bool} {A B : Prop} : guardK undefA w A B = B := rfl
attribute [go_sem ↓] guardK_u
theorem guardK_split {b w : Bool} {A B : Prop} (h1 : b = w → A) (h2 : b = !w → B) : guardK (.bool b) w A B := by
  cases b <;> cases w <;> first | exact h1 rfl | exact h2 rfl
def condK (v : Option AV) (A B : Prop) (_ : Ph (A, B) := ⟨⟩) : Prop :=
  match v with
  | some (.bool true) => A
  | some (.bool false) => B
  | _ => False
theorem condK_t {A B : Prop} : condK (some (.bool true)) A B = A := rfl
theorem condK_f {A B : Prop} : condK (some (.bool false)) A B = B := rfl
theorem condK_split {b : Bool} {A B : Prop} (h1 : b = true → A) (h2 : b = false → B) : condK (some (.bool b)) A B := by
  cases b <;> first | exact h1 rfl | exact h2 rfl

section
variable {P : Program} {Q : Ex → St → Prop} {k : List It} {σ : List AV} {H : Hp} {e : Ef} {ops : List Oper} {K : St → Prop} {l : List Oper}

theorem leaveTo_ne {id j : Nat} (h : (id == j) = false) : leaveTo P Q id (.inBlock j :: k) ⟨σ, H, e⟩ = leaveTo P Q id k ⟨σ, H, e⟩ := leaveTo_other (by simpa using h)
attribute [go_sem ↓] go_nil go_skip go_label go_seq go_block go_inBlock go_exit leaveTo_code leaveTo_this leaveTo_ne go_ret go_region goOps_nil goD_nil
attribute [go_sem] Ef.and_z0 Ef.z0_and

theorem leaveTo_nil {id : Nat} : leaveTo P Q id [] ⟨σ, H, e⟩ = Q (.exit id) ⟨σ, H, e⟩ := rfl
theorem fr_ne {d t : Nat} {v : AV} (h : (d == t) = false) : fr (σ.set d v) t = fr σ t := by
  unfold fr; rw [List.getElem?_set_ne (by simpa using h)]
theorem fr_eq {d : Nat} {v : AV} (h : decide (d < σ.length) = true) : fr (σ.set d v) d = v := by
  unfold fr; rw [List.getElem?_set_self (by simpa using h)]; rfl
attribute [go_sem] fr_ne fr_eq List.length_set bindK_some guardK_tt guardK_tf guardK_ft guardK_ff condK_t condK_f
attribute [go_sem ↓] leaveTo_nil bindK_some guardK_tt guardK_tf guardK_ft guardK_ff condK_t condK_f

theorem go_if {c : Operand} {a b : Code} : go P Q (.code (.cond c a b) :: k) ⟨σ, H, e⟩ = condK (evArg P σ c) (go P Q (.code a :: k) ⟨σ, H, e⟩) (go P Q (.code b :: k) ⟨σ, H, e⟩) := by
  by_cases ht : evArg P σ c = some (.bool true)
  · rw [go_true ht, ht]; rfl
  by_cases hf : evArg P σ c = some (.bool false)
  · rw [go_false hf, hf]; rfl
  apply propext
  constructor
  · rintro ⟨n, ex, s', hs, hq⟩
    have : evCode P (evN P n) n (.cond c a b) ⟨σ, H, e⟩ = none := by
      show (match evArg P σ c with | some (.bool true) => _ | some (.bool false) => _ | _ => none) = none
      split
      · exact absurd ‹_› ht
      · exact absurd ‹_› hf
      · rfl
    rw [this] at hs; cases hs
  · intro h
    unfold condK at h
    split at h
    · exact absurd ‹_› ht
    · exact absurd ‹_› hf
    · exact h.elim

theorem go_op {dst : Option Tmp} {op : Op} {ty : TypeId} {pos : String} {af : Array Edge} : goOps P ops K (⟨dst, op, ty, pos, af, none⟩ :: l) ⟨σ, H, e⟩ = opK P σ H op (nextK P ops K l σ e dst) := goOps_want rfl
/-- A guard's slot. -/
def gdst (ops : List Oper) (j : Nat) : Option Nat := (ops[j]?).bind (·.dst)
theorem gdst_z {o : Oper} {l : List Oper} : gdst (o :: l) 0 = o.dst := rfl
theorem gdst_s {o : Oper} {l : List Oper} {j : Nat} : gdst (o :: l) (j + 1) = gdst l j := rfl
def gvalO (σ : List AV) : Option Nat → AV
  | some d => fr σ d
  | none => undefA
theorem gvalO_s {d : Nat} : gvalO σ (some d) = fr σ d := rfl
theorem go_opg {dst : Option Tmp} {op : Op} {ty : TypeId} {pos : String} {af : Array Edge} {j : Nat} {w : Bool} :
    goOps P ops K (⟨dst, op, ty, pos, af, some (j, w)⟩ :: l) ⟨σ, H, e⟩ = guardK (gvalO σ (gdst ops j)) w (opK P σ H op (nextK P ops K l σ e dst)) (goOps P ops K l ⟨put σ dst undefA, H, e⟩) := by
  cases hw : wantedA ops σ ⟨dst, op, ty, pos, af, some (j, w)⟩ with
  | true =>
    rw [goOps_want hw]
    unfold wantedA at hw
    simp only at hw
    unfold gvalO gdst
    split at hw
    · rename_i d hd
      rw [hd]
      split at hw
      · rename_i b hb
        unfold fr; simp only [hb, Option.getD_some, guardK]; rw [if_pos hw]
      · cases hw
    · cases hw
  | false =>
    rw [goOps_skip hw]
    unfold wantedA at hw
    simp only at hw
    unfold gvalO gdst
    split at hw
    · rename_i d hd
      rw [hd]
      split at hw
      · rename_i b hb
        unfold fr; simp only [hb, Option.getD_some, guardK]; rw [if_neg (by rw [hw]; exact Bool.false_ne_true)]
      · rename_i hne
        simp only
        unfold fr guardK
        split
        · rename_i b hb
          cases hd2 : σ[d]? with
          | none => rw [hd2] at hb; cases hb
          | some v => rw [hd2] at hb; simp only [Option.getD_some] at hb; rw [hb] at hd2; exact absurd hd2 (hne b)
        · rfl
    · rename_i hd
      rw [hd]; rfl

theorem goD_op {K : St → List Nat → Prop} {l : List (Nat × Oper)} {i : Nat} {dst : Option Tmp} {op : Op} {ty : TypeId} {pos : String} {af : Array Edge} : goD P ops K ((i, ⟨dst, op, ty, pos, af, none⟩) :: l) ⟨σ, H, e⟩ = opK P σ H op (nextD P ops K l σ H e i ⟨dst, op, ty, pos, af, none⟩) := goD_want rfl
theorem nextK_ap {dst : Option Tmp} {v : AV} {H' : Hp} {e' : Ef} : nextK P ops K l σ e dst (v, H', e') = goOps P ops K l ⟨put σ dst v, H', e.and e'⟩ := rfl
theorem stepK_some {r : AV × Hp × Ef} {kk : AV × Hp × Ef → Prop} : stepK (some r) kk = kk r := rfl
theorem callX_f {g : FuncId} {az : List AV} {kk : AV × Hp × Ef → Prop} (hb : hasBody P g = true) : callX P g az H kk = callK P g az H kk := if_pos hb
theorem callX_x {g : FuncId} {az : List AV} {kk : AV × Hp × Ef → Prop} (hb : hasBody P g = false) (hz : isNZ P g = none) : callX P g az H kk = bindK (isExt P g) fun x => bindK (evExt x az) fun v => kk (v, H, z0) := by
  unfold callX evX
  rw [if_neg (by rw [hb]; exact Bool.false_ne_true), hz]
  cases isExt P g with
  | none => rfl
  | some x => cases h : evExt x az <;> simp [stepK, ret, bindK, h]
theorem callX_z {g : FuncId} {n : Int} {kk : AV × Hp × Ef → Prop} (hb : hasBody P g = false) (hz : (isNZ P g).isSome = true) : callX P g [.int .i64 n] H kk = bindK (isNZ P g) fun e => ((0 ≤ n ∧ n ≤ 281474976710656) ∧ kk (.slice H.length 0 n.toNat (.op 0), H ++ [.cells [] e (.op 0 false)], z0)) := by
  obtain ⟨e, he⟩ := Option.isSome_iff_exists.1 hz
  unfold callX evX
  rw [if_neg (by rw [hb]; exact Bool.false_ne_true), he]
  simp only [evNZ, bindK]
  by_cases h : 0 ≤ n ∧ n ≤ 281474976710656
  · rw [if_pos h]; simp [stepK, h]
  · rw [if_neg h]; simp [stepK, h]
attribute [go_sem] Option.isSome_some
theorem callT_some {g : FuncId} {az : List AV} {kk : AV × Hp × Ef → Prop} : callT P (some (.fn g az)) H kk = callX P g az H kk := rfl
theorem callT_y {b : Nat} {az : List AV} {kk : AV × Hp × Ef → Prop} : callT P (some (.yl b az)) H kk = callK P (P.funcs.size + b) az H kk := rfl
theorem ext_same {x : AV} : evExt .same [x] = some x := rfl
theorem ext_idxB {s : List UInt8} {c : Int} : evExt .idxB [.str s, .int .u8 c] = some (.int .i64 (Lib.indexByte s c.toNat.toUInt8)) := rfl
theorem ext_cntB {s : List UInt8} {c : Int} : evExt .cntB [.str s, .int .u8 c] = some (.int .i64 (Lib.countByte s c.toNat.toUInt8)) := rfl
theorem ext_cmp {a b : List UInt8} : evExt .cmp [.str a, .str b] = some (.int .i64 (Lib.compareBytes a b)) := rfl
attribute [go_sem] ext_same ext_idxB ext_cntB ext_cmp
attribute [go_sem ↓] callX_f callX_x callX_z
theorem put_t {d : Tmp} {v : AV} : put σ (some d) v = σ.set d v := rfl
theorem put_n {v : AV} : put σ none v = σ := rfl
attribute [go_sem] gdst_z gdst_s gvalO_s put_t put_n stepK_some
attribute [go_sem ↓] go_if go_op go_opg nextK_ap stepK_some callT_some callT_y goD_op

theorem ret_s {v : AV} : ret H (some v) = some (v, H, z0) := rfl
theorem ret2_s {v : AV × Hp} : ret2 (some v) = some (v.1, v.2, z0) := rfl
attribute [go_sem] ret_s ret2_s

theorem arg_t {t : Nat} : evArg P σ (.tmp t) = some (fr σ t) := rfl
theorem arg_f {f : FuncId} : evArg P σ (.func f) = some (.func (.func f) [] []) := rfl
theorem arg_i {kk : IntKind} {n : Int} : evArg P σ (.const (.int kk n)) = some (.int kk n) := rfl
theorem arg_b {b : Bool} : evArg P σ (.const (.bool b)) = some (.bool b) := rfl
theorem arg_s {s : Array UInt8} : evArg P σ (.const (.string ⟨s⟩)) = some (.str s.toList) := rfl
theorem arg_nilp : evArg P σ (.const (.pointer none)) = some .nilp := rfl
theorem arg_nils : evArg P σ (.const (.slice none 0 0)) = some .nils := rfl
theorem arg_nilm : evArg P σ (.const (.map none)) = some .nilm := rfl
theorem arg_nili : evArg P σ (.const .nilIface) = some .nili := rfl
theorem args_nil : evArgs P σ [] = some [] := rfl
theorem args_cons {x : Operand} {xs : List Operand} : evArgs P σ (x :: xs) = (evArg P σ x).bind fun a => (evArgs P σ xs).map (a :: ·) := rfl
theorem parts_nil : evParts P σ [] = some [] := rfl
theorem parts_cons {i : Nat} {x : Operand} {xs : List (Nat × Operand)} : evParts P σ ((i, x) :: xs) = (evArg P σ x).bind fun a => (evParts P σ xs).map ((i, a) :: ·) := rfl
theorem opt_n : evOpt P σ none = some none := rfl
theorem opt_s {x : Operand} : evOpt P σ (some x) = (evArg P σ x).map some := rfl
attribute [go_sem] arg_t arg_f arg_i arg_b arg_s arg_nilp arg_nils arg_nilm arg_nili args_nil args_cons parts_nil parts_cons opt_n opt_s Option.bind_some Option.map_some

/-! operations -/
section
variable {kk : AV × Hp × Ef → Prop}
theorem bindK_ext {α : Type} {o : Option α} {f g : α → Prop} (h : ∀ a, f a = g a) : bindK o f = bindK o g := by
  cases o
  · rfl
  · exact h _
theorem stepK_ret {v : Option AV} : stepK (ret H v) kk = bindK v fun v => kk (v, H, z0) := by cases v <;> rfl
theorem stepK_ret2 {v : Option (AV × Hp)} : stepK (ret2 v) kk = bindK v fun v => kk (v.1, v.2, z0) := by cases v <;> rfl
theorem stepK_bind {α : Type} {o : Option α} {f : α → Rs} : stepK (o.bind f) kk = bindK o fun a => stepK (f a) kk := by cases o <;> rfl
theorem stepK_map {α : Type} {o : Option α} {f : α → AV × Hp × Ef} : stepK (o.map f) kk = bindK o fun a => kk (f a) := by cases o <;> rfl
theorem bindK_bind {α β : Type} {o : Option α} {f : α → Option β} {g : β → Prop} : bindK (o.bind f) g = bindK o fun a => bindK (f a) g := by cases o <;> rfl
theorem bindK_map {α β : Type} {o : Option α} {f : α → β} {g : β → Prop} : bindK (o.map f) g = bindK o fun a => g (f a) := by cases o <;> rfl
theorem bindK_ite {α : Type} {c : Prop} [Decidable c] {o : Option α} {g : α → Prop} : bindK (if c then o else none) g = (c ∧ bindK o g) := by
  split
  · rename_i h; simp [h]
  · rename_i h; simp [h, bindK]
attribute [go_sem] bindK_bind bindK_map bindK_ite
attribute [go_sem ↓] bindK_bind bindK_map

theorem k_move {x : Operand} : opK P σ H (.move x) kk = bindK (evArg P σ x) fun v => kk (v, H, z0) := stepK_ret
theorem k_assign {x : Operand} : opK P σ H (.assign x) kk = bindK (evArg P σ x) fun v => kk (v, H, z0) := stepK_ret
/-- A choice. -/
def pickV : AV → AV → AV → Option AV
  | .bool t, a, b => some (if t then a else b)
  | _, _, _ => none
theorem pickV_t {a b : AV} : pickV (.bool true) a b = some a := rfl
theorem pickV_f {a b : AV} : pickV (.bool false) a b = some b := rfl
theorem k_pick {c x y : Operand} : opK P σ H (.pick c x y) kk = bindK (evArg P σ c) fun c => bindK (match c with | .bool t => if t then evArg P σ x else evArg P σ y | _ => none) fun v => kk (v, H, z0) := by
  show stepK _ _ = _
  simp only [evOp]
  rw [stepK_bind]
  refine bindK_ext fun c => ?_; cases c <;> first | rfl | exact stepK_ret
theorem k_alloc {t : TypeId} : opK P σ H (.alloc t) kk = bindK (tzero P t) fun z => kk (.ptr H.length 0, H ++ [.cells z t .rw], z0) := stepK_map
theorem k_box {t : TypeId} {x : Operand} : opK P σ H (.box t x) kk = bindK (evArg P σ x) fun v => kk (.ptr H.length 0, H ++ [.cells (vcells v) t .rw], z0) := stepK_map
def asPtr : AV → Option (Nat × Nat)
  | .ptr b o => some (b, o)
  | _ => none
theorem asPtr_p {b o : Nat} : asPtr (.ptr b o) = some (b, o) := rfl
theorem k_load {t : TypeId} {x : Operand} : opK P σ H (.load t x) kk = bindK (evArg P σ x) fun v => bindK (asPtr v) fun p => bindK (evLoad P H t p.1 p.2) fun v => kk (v, H, z0) := by
  show stepK _ _ = _
  simp only [evOp]
  rw [stepK_bind]
  refine bindK_ext fun c => ?_; cases c <;> first | rfl | exact stepK_ret
theorem k_store {t : TypeId} {x y : Operand} : opK P σ H (.store t x y) kk = bindK (evArg P σ x) fun p => bindK (evArg P σ y) fun v => bindK (asPtr p) fun p => bindK (evStore P H t p.1 p.2 v) fun r => kk (undefA, r.1, r.2) := by
  show stepK _ _ = _
  simp only [evOp]
  rw [stepK_bind]
  refine bindK_ext fun c => ?_
  rw [stepK_bind]
  refine bindK_ext fun v => ?_; cases c <;> first | rfl | exact stepK_map
def chkV : AV → Option AV
  | .ptr b o => some (.ptr b o)
  | .func (.func f) a b => some (.func (.func f) a b)
  | _ => none
theorem chkV_p {b o : Nat} : chkV (.ptr b o) = some (.ptr b o) := rfl
theorem chkV_f {f : FuncId} {a b : List AV} : chkV (.func (.func f) a b) = some (.func (.func f) a b) := rfl
theorem k_nilCheck {x : Operand} : opK P σ H (.nilCheck x) kk = bindK (evArg P σ x) fun v => bindK (chkV v) fun v => kk (v, H, z0) := by
  show stepK _ _ = _
  simp only [evOp]
  rw [stepK_bind]
  refine bindK_ext fun c => ?_
  cases c <;> try rfl
  rename_i f _ _
  cases f <;> rfl
theorem k_un {op : UnOp} {t : TypeId} {x : Operand} : opK P σ H (.unOp op t x) kk = bindK (evArg P σ x) fun v => bindK (evUn op v) fun v => kk (v, H, z0) := by
  show stepK _ _ = _
  simp only [evOp]
  rw [stepK_bind]
  refine bindK_ext fun c => ?_; exact stepK_ret
theorem k_conv {s d : TypeId} {x : Operand} : opK P σ H (.convert s d x) kk = bindK (evArg P σ x) fun v => bindK (evConv P s d v H) fun r => kk (r.1, r.2, z0) := by
  show stepK _ _ = _
  simp only [evOp]
  rw [stepK_bind]
  refine bindK_ext fun c => ?_; exact stepK_ret2
def fldA (b o : Nat) (x : Nat × Nat × Bool) : Option AV := if (x.2.1 == 0) = true then none else some (.ptr b (o + x.1))
theorem fldA_s {b o p n : Nat} {g : Bool} (h : (n == 0) = false) : fldA b o (p, n, g) = some (.ptr b (o + p)) := by simp [fldA, h]
theorem k_fieldAddr {t : TypeId} {x : Operand} {f : Nat} : opK P σ H (.fieldAddr t x f) kk = bindK (evArg P σ x) fun v => bindK (asPtr v) fun p => bindK (tfield P t f) fun x => bindK (fldA p.1 p.2 x) fun v => kk (v, H, z0) := by
  show stepK _ _ = _
  simp only [evOp]
  rw [stepK_bind]
  refine bindK_ext fun c => ?_
  cases c <;> try rfl
  show stepK (Option.bind _ _) _ = _
  rw [stepK_bind]
  show _ = bindK _ _
  refine bindK_ext fun x => ?_
  unfold fldA
  by_cases hx : x.2.1 = 0
  · simp [hx, stepK, bindK, asPtr]
  · simp [hx, stepK, bindK, asPtr]
/-- A struct's field. -/
def fldV (cs : List AV) (x : Nat × Nat × Bool) : Option AV := if x.2.2 = true then (if x.1 + x.2.1 ≤ cs.length then some (.agg ((cs.drop x.1).take x.2.1)) else none) else cs[x.1]?
theorem fldV_f {cs : List AV} {p n : Nat} : fldV cs (p, n, false) = cs[p]? := rfl
theorem fldV_t {cs : List AV} {p n : Nat} : fldV cs (p, n, true) = if p + n ≤ cs.length then some (.agg ((cs.drop p).take n)) else none := rfl
def asAgg : AV → Option (List AV)
  | .agg cs => some cs
  | _ => none
theorem asAgg_a {cs : List AV} : asAgg (.agg cs) = some cs := rfl
theorem k_field {t : TypeId} {x : Operand} {f : Nat} : opK P σ H (.field t x f) kk = bindK (evArg P σ x) fun v => bindK (asAgg v) fun cs => bindK (tfield P t f) fun x => bindK (fldV cs x) fun v => kk (v, H, z0) := by
  show stepK _ _ = _
  simp only [evOp]
  rw [stepK_bind]
  refine bindK_ext fun c => ?_
  cases c <;> try rfl
  show stepK (Option.bind _ _) _ = _
  rw [stepK_bind]
  show _ = bindK _ _
  refine bindK_ext fun x => ?_
  exact stepK_ret
theorem k_indexAddr {t : TypeId} {x i : Operand} : opK P σ H (.indexAddr t x i) kk = bindK (evArg P σ x) fun v => bindK (evArg P σ i) fun w => bindK (evIndexAddr P t v w) fun v => kk (v, H, z0) := by
  show stepK _ _ = _
  simp only [evOp]
  rw [stepK_bind]; refine bindK_ext fun c => ?_
  rw [stepK_bind]; refine bindK_ext fun c => ?_
  exact stepK_ret
theorem k_index {t : TypeId} {x i : Operand} : opK P σ H (.index t x i) kk = bindK (evArg P σ x) fun v => bindK (evArg P σ i) fun w => bindK (evIndex P t v w) fun v => kk (v, H, z0) := by
  show stepK _ _ = _
  simp only [evOp]
  rw [stepK_bind]; refine bindK_ext fun c => ?_
  rw [stepK_bind]; refine bindK_ext fun c => ?_
  exact stepK_ret
def asTup : AV → Option (List AV)
  | .tuple cs => some cs
  | _ => none
theorem asTup_a {cs : List AV} : asTup (.tuple cs) = some cs := rfl
theorem k_extract {x : Operand} {i : Nat} : opK P σ H (.extract x i) kk = bindK (evArg P σ x) fun v => bindK (asTup v) fun vs => bindK (vs[i]?) fun v => kk (v, H, z0) := by
  show stepK _ _ = _
  simp only [evOp]
  rw [stepK_bind]; refine bindK_ext fun c => ?_
  cases c <;> first | rfl | exact stepK_ret
theorem k_makeFunc {fn : Fn} {f c : Array Operand} : opK P σ H (.makeFunc fn f c) kk = bindK (evArgs P σ f.toList) fun fs => bindK (evArgs P σ c.toList) fun cs => kk (.func fn fs cs, H, z0) := by
  show stepK _ _ = _
  simp only [evOp]
  rw [stepK_bind]; refine bindK_ext fun c => ?_
  rw [stepK_bind]; rfl
/-- A slice of a slice, of a string, of an array. -/
def slK (P : Program) (t : TypeId) (v : AV) (lo hi mx : Option AV) (H : Hp) (kk : AV × Hp × Ef → Prop) (_ : Ph kk := ⟨⟩) : Prop :=
  match evSlice P t v lo hi mx H with
  | some v => kk (v, H, z0)
  | none => bindK (evSliceX P t v lo hi mx H) fun r => kk (r.1, r.2, z0)
theorem slK_of {t : TypeId} {v : AV} {lo hi mx : Option AV} (h : evSliceX P t v lo hi mx H = none) : slK P t v lo hi mx H kk = bindK (evSlice P t v lo hi mx H) fun v => kk (v, H, z0) := by
  unfold slK
  cases evSlice P t v lo hi mx H with
  | none => rw [h]; rfl
  | some v => rfl
theorem k_slice {t : TypeId} {x : Operand} {lo hi mx : Option Operand} : opK P σ H (.slice t x lo hi mx) kk = bindK (evArg P σ x) fun v => bindK (evOpt P σ lo) fun a => bindK (evOpt P σ hi) fun b => bindK (evOpt P σ mx) fun c => slK P t v a b c H kk := by
  show stepK _ _ = _
  simp only [evOp]
  rw [stepK_bind]; refine bindK_ext fun c => ?_
  rw [stepK_bind]; refine bindK_ext fun c => ?_
  rw [stepK_bind]; refine bindK_ext fun c => ?_
  rw [stepK_bind]; refine bindK_ext fun c => ?_
  unfold slK
  cases evSlice P t _ _ _ _ H with
  | some v => rfl
  | none => exact stepK_map
theorem k_build {t : TypeId} {ps : Array (Nat × Operand)} : opK P σ H (.build t ps) kk = bindK (evParts P σ ps.toList) fun vs => bindK (evBuild P t vs) fun v => kk (v, H, z0) := by
  show stepK _ _ = _
  simp only [evOp]
  rw [stepK_bind]; refine bindK_ext fun c => ?_
  exact stepK_ret
theorem k_buildSlice {t : TypeId} {n : Nat} {ps : Array (Nat × Operand)} : opK P σ H (.buildSlice t n ps) kk = bindK (evParts P σ ps.toList) fun vs => bindK (evBuildSlice P t n vs H) fun r => kk (r.1, r.2, z0) := by
  show stepK _ _ = _
  simp only [evOp]
  rw [stepK_bind]; refine bindK_ext fun c => ?_
  exact stepK_ret2
/-- An interface's value. -/
def ifaceV (P : Program) (t : TypeId) (v : AV) : Option AV :=
  match tsh P t with
  | some .iface => none
  | some _ => some (.iface t v)
  | none => none
theorem k_iface {t : TypeId} {x : Operand} : opK P σ H (.makeInterface t x) kk = bindK (evArg P σ x) fun v => bindK (ifaceV P t v) fun v => kk (v, H, z0) := by
  show stepK _ _ = _
  simp only [evOp]
  rw [stepK_bind]; refine bindK_ext fun c => ?_
  unfold ifaceV
  cases tsh P t with
  | none => rfl
  | some s => cases s <;> rfl
theorem k_make {t : TypeId} {x y : Operand} : opK P σ H (.makeSlice t x y) kk = bindK (evArg P σ x) fun v => bindK (evArg P σ y) fun w => bindK (evMake P t v w H) fun r => kk (r.1, r.2, z0) := by
  show stepK _ _ = _
  simp only [evOp]
  rw [stepK_bind]; refine bindK_ext fun c => ?_
  rw [stepK_bind]; refine bindK_ext fun c => ?_
  exact stepK_ret2
theorem k_lookup {t : TypeId} {x i : Operand} {ok : Bool} : opK P σ H (.lookup t x i ok) kk = bindK (evArg P σ x) fun v => bindK (evArg P σ i) fun w => bindK (evLookup P t v w ok H) fun v => kk (v, H, z0) := by
  show stepK _ _ = _
  simp only [evOp]
  rw [stepK_bind]; refine bindK_ext fun c => ?_
  rw [stepK_bind]; refine bindK_ext fun c => ?_
  exact stepK_ret
theorem k_mapSet {t : TypeId} {m x y : Operand} : opK P σ H (.mapUpdate t m x y) kk = bindK (evArg P σ m) fun u => bindK (evArg P σ x) fun v => bindK (evArg P σ y) fun w => bindK (evMapSet P t u v w H) fun r => kk (undefA, r.1, r.2) := by
  show stepK _ _ = _
  simp only [evOp]
  rw [stepK_bind]; refine bindK_ext fun c => ?_
  rw [stepK_bind]; refine bindK_ext fun c => ?_
  rw [stepK_bind]; refine bindK_ext fun c => ?_
  exact stepK_map
/-- Two values under an operator. -/
def binV (P : Program) (op : BinOp) (t : TypeId) (a b : AV) (cst : Bool) : Option AV :=
  match a, b with
  | .nili, .nili => if cst = true then (match op with | .eql => (if (tsh P t matches some .iface) then some (.bool true) else none) | .neq => (if (tsh P t matches some .iface) then some (.bool false) else none) | _ => none) else none
  | a, b => evBin P op t a b
theorem k_bin {op : BinOp} {t u : TypeId} {x y : Operand} : opK P σ H (.binOp op t x y u) kk = bindK (evArg P σ x) fun a => bindK (evArg P σ y) fun b => bindK (binV P op t a b (evOp.isConst x || evOp.isConst y)) fun v => kk (v, H, z0) := by
  show stepK _ _ = _
  simp only [evOp]
  rw [stepK_bind]; refine bindK_ext fun a => ?_
  rw [stepK_bind]; refine bindK_ext fun b => ?_
  rw [← stepK_ret]
  unfold binV
  split
  · split
    · cases op <;> rfl
    · rfl
  · split
    · rename_i h; exact (h rfl rfl).elim
    · rfl
theorem k_call {f : Operand} {args : Array Operand} {ts : Array TypeId} : opK P σ H (.call ⟨.value f, args, ts⟩) kk = callT P (target P σ f args.toList) H kk := rfl
theorem k_callf {g : FuncId} {args : Array Operand} {ts : Array TypeId} : opK P σ H (.call ⟨.value (.func g), args, ts⟩) kk = bindK (evArgs P σ args.toList) fun az => callX P g az H kk := by
  rw [k_call]
  unfold target
  rw [arg_f]
  simp only [Option.bind_some, List.nil_append, List.append_nil]
  cases evArgs P σ args.toList <;> rfl
def apV (v : AV) (az : List AV) : Option Tg :=
  match v with
  | .func (.func g) first captured => some (.fn g (first ++ az ++ captured))
  | .yld b => some (.yl b az)
  | _ => none
theorem apV_s {g : FuncId} {az fs cs : List AV} : apV (.func (.func g) fs cs) az = some (.fn g (fs ++ az ++ cs)) := rfl
theorem apV_y {b : Nat} {az : List AV} : apV (.yld b) az = some (.yl b az) := rfl
theorem k_callv {t : Nat} {args : Array Operand} {ts : Array TypeId} : opK P σ H (.call ⟨.value (.tmp t), args, ts⟩) kk = bindK (evArgs P σ args.toList) fun az => callT P (apV (fr σ t) az) H kk := by
  rw [k_call]
  unfold target
  rw [arg_t]
  simp only [Option.bind_some]
  cases evArgs P σ args.toList with
  | none => rfl
  | some az => rfl
theorem k_len {t : TypeId} {ts : List TypeId} {x : Operand} : opK P σ H (.call ⟨.builtin .len, ⟨[x]⟩, ⟨t :: ts⟩⟩) kk = bindK (evArg P σ x) fun v => bindK (evLen P t v H) fun v => kk (v, H, z0) := by
  show stepK _ _ = _
  simp only [evOp, evCall, evArgs]
  cases evArg P σ x with
  | none => rfl
  | some v => exact stepK_ret
theorem k_append {t u : TypeId} {x y : Operand} (hu : srcOk P u = true) : opK P σ H (.call ⟨.builtin .append, ⟨[x, y]⟩, ⟨[t, u]⟩⟩) kk = bindK (evArg P σ x) fun v => bindK (evArg P σ y) fun w => stepK (evAppend P t v w H) kk := by
  show stepK _ _ = _
  simp only [evOp, evCall, evArgs]
  cases evArg P σ x with
  | none => rfl
  | some v =>
    cases evArg P σ y with
    | none => rfl
    | some w => show stepK (if srcOk P u = true then _ else _) kk = _; rw [if_pos hu]; rfl
theorem k_appendZ {t u : TypeId} {x y : Operand} (hu : srcOk P u = false) (hi : (match tsh P u with | some (.int _) => true | _ => false) = true) : opK P σ H (.call ⟨.builtin .append, ⟨[x, y]⟩, ⟨[t, u]⟩⟩) kk = bindK (evArg P σ x) fun v => bindK (evArg P σ y) fun w => stepK (evAppZ P t v w H) kk := by
  have hi : isIntT P u = true := hi
  show stepK _ _ = _
  simp only [evOp, evCall, evArgs]
  cases evArg P σ x with
  | none => rfl
  | some v =>
    cases evArg P σ y with
    | none => rfl
    | some w => show stepK (if srcOk P u = true then _ else _) kk = _; rw [if_neg (by rw [hu]; simp), if_pos hi]; rfl
theorem k_copy {t : TypeId} {ts : List TypeId} {x y : Operand} : opK P σ H (.call ⟨.builtin .copy, ⟨[x, y]⟩, ⟨t :: ts⟩⟩) kk = bindK (evArg P σ x) fun v => bindK (evArg P σ y) fun w => stepK (evCopy P t v w H) kk := by
  show stepK _ _ = _
  simp only [evOp, evCall, evArgs]
  cases evArg P σ x with
  | none => rfl
  | some v =>
    cases evArg P σ y with
    | none => rfl
    | some w => rfl
end
attribute [go_sem] asPtr_p chkV_p chkV_f fldA_s fldV_f fldV_t asAgg_a asTup_a apV_s apV_y
attribute [go_sem ↓] k_move k_assign k_pick k_alloc k_box k_load k_store k_nilCheck k_un k_conv k_fieldAddr k_field k_indexAddr k_index k_extract k_makeFunc k_slice k_build k_buildSlice k_iface k_make k_lookup k_mapSet k_bin k_callf k_callv k_len k_append k_appendZ k_copy

/-! numbers and strings -/
theorem b_int {op : BinOp} {t : TypeId} {kd : IntKind} {a b : Int} {c : Bool} (h1 : (match op with | .shl => true | .shr => true | _ => false) = false) : binV P op t (.int kd a) (.int kd b) c = evInt op kd a b := by
  cases op <;> first | (cases h1; done) | simp [binV, evBin]
theorem b_shl {t : TypeId} {kd kd' : IntKind} {a b : Int} {c : Bool} : binV P .shl t (.int kd a) (.int kd' b) c = evShift .shl kd a b := rfl
theorem b_shr {t : TypeId} {kd kd' : IntKind} {a b : Int} {c : Bool} : binV P .shr t (.int kd a) (.int kd' b) c = evShift .shr kd a b := rfl
theorem b_str {op : BinOp} {t : TypeId} {a b : List UInt8} {c : Bool} : binV P op t (.str a) (.str b) c = evStr op a b := by
  cases op <;> rfl
theorem b_eqb {t : TypeId} {a b : Bool} {c : Bool} (ht : P.underlying t = some .bool) : binV P .eql t (.bool a) (.bool b) c = some (.bool (a == b)) := by simp [binV, evBin, evEq, ht]
theorem b_neb {t : TypeId} {a b : Bool} {c : Bool} (ht : P.underlying t = some .bool) : binV P .neq t (.bool a) (.bool b) c = some (.bool (!(a == b))) := by simp [binV, evBin, evEq, ht]
theorem b_eqa {t : TypeId} {a b : List AV} {c : Bool} : binV P .eql t (.agg a) (.agg b) c = if (P.eqGuardType P.depth t) = true then none else (evEq P 20 t (.agg a) (.agg b)).map .bool := rfl
theorem b_nea {t : TypeId} {a b : List AV} {c : Bool} : binV P .neq t (.agg a) (.agg b) c = if (P.eqGuardType P.depth t) = true then none else (evEq P 20 t (.agg a) (.agg b)).map fun r => .bool !r := rfl
theorem i_add {kd : IntKind} {a b : Int} : evInt .add kd a b = some (.int kd (kd.wrap (a + b))) := rfl
theorem i_sub {kd : IntKind} {a b : Int} : evInt .sub kd a b = some (.int kd (kd.wrap (a - b))) := rfl
theorem i_mul {kd : IntKind} {a b : Int} : evInt .mul kd a b = some (.int kd (kd.wrap (a * b))) := rfl
theorem i_eql {kd : IntKind} {a b : Int} : evInt .eql kd a b = some (.bool (a == b)) := rfl
theorem i_neq {kd : IntKind} {a b : Int} : evInt .neq kd a b = some (.bool (a != b)) := rfl
theorem i_lss {kd : IntKind} {a b : Int} : evInt .lss kd a b = some (.bool (decide (a < b))) := rfl
theorem i_leq {kd : IntKind} {a b : Int} : evInt .leq kd a b = some (.bool (decide (a ≤ b))) := rfl
theorem i_gtr {kd : IntKind} {a b : Int} : evInt .gtr kd a b = some (.bool (decide (a > b))) := rfl
theorem i_geq {kd : IntKind} {a b : Int} : evInt .geq kd a b = some (.bool (decide (a ≥ b))) := rfl
theorem s_eql {a b : List UInt8} : evStr .eql a b = some (.bool (a == b)) := rfl
theorem s_neq {a b : List UInt8} : evStr .neq a b = some (.bool !(a == b)) := rfl
theorem s_add {a b : List UInt8} : evStr .add a b = if a.length + b.length ≤ maxI then some (.str (a ++ b)) else none := rfl
theorem u_not {b : Bool} : evUn .not (.bool b) = some (.bool !b) := rfl
theorem len_str {t : TypeId} {s : List UInt8} (h : tsh P t = some .str) : evLen P t (.str s) H = some (.int .i64 s.length) := by simp [evLen, h]
theorem len_sl {t : TypeId} {x o n : Nat} {c : Cap} (h : (match tsh P t with | some (.slice _ _ _) => true | _ => false) = true) : evLen P t (.slice x o n c) H = some (.int .i64 n) := by
  unfold evLen; split at h
  · rename_i ht; rw [ht]
  · cases h
theorem len_nils {t : TypeId} (h : (match tsh P t with | some (.slice _ _ _) => true | _ => false) = true) : evLen P t .nils H = some (.int .i64 0) := by
  unfold evLen; split at h
  · rename_i ht; rw [ht]
  · cases h
attribute [go_sem] b_int b_shl b_shr b_str b_eqb b_neb b_eqa b_nea i_add i_sub i_mul i_eql i_neq i_lss i_leq i_gtr i_geq s_eql s_neq s_add u_not len_str len_sl len_nils

theorem fl_b {b : Bool} : flat (.bool b) = true := by simp only [flat]
theorem fl_i {k : IntKind} {n : Int} : flat (.int k n) = true := by simp only [flat]
theorem fl_f {k : FloatKind} {n : Nat} : flat (.float k n) = true := by simp only [flat]
theorem fl_s {s : List UInt8} : flat (.str s) = true := by simp only [flat]
theorem fl_np : flat .nilp = true := by simp only [flat]
theorem fl_ns : flat .nils = true := by simp only [flat]
theorem fl_nm : flat .nilm = true := by simp only [flat]
theorem fl_nf : flat .nilf = true := by simp only [flat]
theorem fl_ni : flat .nili = true := by simp only [flat]
theorem fl_p {b o : Nat} : flat (.ptr b o) = false := by simp only [flat]
theorem fl_sl {b o n : Nat} {c : Cap} : flat (.slice b o n c) = false := by simp only [flat]
theorem fl_m {r : Nat} : flat (.map r) = false := by simp only [flat]
theorem fl_if {t : TypeId} {v : AV} : flat (.iface t v) = flat v := by simp only [flat]
theorem fl_a {cs : List AV} : flat (.agg cs) = flats cs := by simp only [flat]
theorem fl_t {cs : List AV} : flat (.tuple cs) = flats cs := by simp only [flat]
theorem fl_fn {f : Fn} {a b : List AV} : flat (.func f a b) = (flats a && flats b) := by simp only [flat]
theorem fls_n : flats [] = true := by simp only [flats]
theorem fls_c {v : AV} {vs : List AV} : flats (v :: vs) = (flat v && flats vs) := by simp only [flats]
theorem sc_b {b : Bool} : scal (.bool b) = true := by simp only [scal]
theorem sc_i {k : IntKind} {n : Int} : scal (.int k n) = true := by simp only [scal]
theorem sc_f {k : FloatKind} {n : Nat} : scal (.float k n) = true := by simp only [scal]
theorem sc_s {s : List UInt8} : scal (.str s) = true := by simp only [scal]
theorem sc_np : scal .nilp = true := by simp only [scal]
theorem sc_ns : scal .nils = true := by simp only [scal]
theorem sc_nm : scal .nilm = true := by simp only [scal]
theorem sc_nf : scal .nilf = true := by simp only [scal]
theorem sc_ni : scal .nili = true := by simp only [scal]
theorem sc_p {b o : Nat} : scal (.ptr b o) = true := by simp only [scal]
theorem sc_sl {b o n : Nat} {c : Cap} : scal (.slice b o n c) = true := by simp only [scal]
theorem sc_m {r : Nat} : scal (.map r) = true := by simp only [scal]
theorem sc_if {t : TypeId} {v : AV} : scal (.iface t v) = true := by simp only [scal]
theorem sc_fn {f : Fn} {a b : List AV} : scal (.func f a b) = true := by simp only [scal]
attribute [go_sem] fl_b fl_i fl_f fl_s fl_np fl_ns fl_nm fl_nf fl_ni fl_p fl_sl fl_m fl_if fl_a fl_t fl_fn fls_n fls_c sc_b sc_i sc_f sc_s sc_np sc_ns sc_nm sc_nf sc_ni sc_p sc_sl sc_m sc_if sc_fn

/-! memory: what is new stands behind what was -/
theorem hp_new {l : Hp} {i : Nat} : (H ++ l)[H.length + i]? = l[i]? := by rw [List.getElem?_append_right (by omega)]; congr 1; omega
theorem hp_new0 {l : Hp} : (H ++ l)[H.length]? = l[0]? := by rw [List.getElem?_append_right (by omega)]; congr 1; omega
theorem hp_old {l : Hp} {b : Nat} {x : ABlk} (h : H[b]? = some x) : (H ++ l)[b]? = some x := by rw [List.getElem?_append_left (List.getElem?_eq_some_iff.1 h).1]; exact h
theorem hp_set {l : Hp} {i : Nat} {v : ABlk} : (H ++ l).set (H.length + i) v = H ++ l.set i v := by
  rw [List.set_append_right _ _ (by omega)]; congr 2; omega
theorem hp_set0 {l : Hp} {v : ABlk} : (H ++ l).set H.length v = H ++ l.set 0 v := by
  rw [List.set_append_right _ _ (by omega)]; congr 2; omega
def ldC (o n : Nat) (g : Bool) : ABlk → Option AV
  | .cells c _ _ => if g = true then (if o + n ≤ c.length then some (.agg ((c.drop o).take n)) else none) else c[o]?
  | .void => if g = true then (if n = 0 then some (.agg []) else none) else none
  | _ => none
theorem ldC_f {c : List AV} {e : TypeId} {kd : Kd} {o n : Nat} : ldC o n false (.cells c e kd) = c[o]? := rfl
theorem ldC_t {c : List AV} {e : TypeId} {kd : Kd} {o n : Nat} : ldC o n true (.cells c e kd) = if o + n ≤ c.length then some (.agg ((c.drop o).take n)) else none := rfl
theorem ev_load {t b o : Nat} : evLoad P H t b o = (tagg P t).bind fun g => (if g = true then tsize P t else some 1).bind fun n => (H[b]?).bind (ldC o n g) := by
  unfold evLoad
  cases tagg P t with
  | none => rfl
  | some g =>
    cases g with
    | true =>
      simp only [Option.bind_some, if_true]
      congr 1; funext n
      unfold rd
      cases H[b]? with
      | none => rfl
      | some x =>
        cases x <;> try rfl
        all_goals
          show Option.map AV.agg (if _ then _ else _) = if _ then _ else _
          split <;> rfl
    | false =>
      simp only [Option.bind_some, Bool.false_eq_true, if_false]
      unfold rd
      cases H[b]? with
      | none => rfl
      | some x =>
        cases x <;> try rfl
        rename_i c e kd
        show Option.bind (if _ then _ else _) one = c[o]?
        split
        · rename_i h
          have : o < c.length := by omega
          rw [List.getElem?_eq_getElem this, List.drop_eq_getElem_cons this]
          rfl
        · rename_i h
          rw [List.getElem?_eq_none (by omega)]
          rfl
def szT (P : Program) (t : TypeId) (g : Bool) : Option Nat := if g = true then tsize P t else some 1
theorem szT_t {t : TypeId} : szT P t true = tsize P t := rfl
theorem szT_f {t : TypeId} : szT P t false = some 1 := rfl
theorem bind_load {t b o : Nat} {f : AV → Prop} : bindK (evLoad P H t b o) f = bindK (tagg P t) fun g => bindK (szT P t g) fun n => bindK (H[b]?) fun x => bindK (ldC o n g x) f := by
  rw [ev_load, bindK_bind]
  refine bindK_ext fun g => ?_
  rw [bindK_bind]
  refine bindK_ext fun n => ?_
  rw [bindK_bind]
/-- A row stored. -/
def wrC (H : Hp) (b o : Nat) (xs : List AV) : ABlk → Option (Hp × Ef)
  | .cells c e k => if o + xs.length ≤ c.length ∧ canWr k o = true ∧ xs.all scal = true then some (H.set b (.cells (splice c o xs) e k), ⟨if flats xs = true then none else some b, some b⟩) else none
  | _ => none
theorem wrC_s {b o : Nat} {xs c : List AV} {e : TypeId} {k : Kd} : wrC H b o xs (.cells c e k) = if o + xs.length ≤ c.length ∧ canWr k o = true ∧ xs.all scal = true then some (H.set b (.cells (splice c o xs) e k), ⟨if flats xs = true then none else some b, some b⟩) else none := rfl
theorem ev_wr {b o : Nat} {xs : List AV} : wr H b o xs = (H[b]?).bind (wrC H b o xs) := by
  unfold wr
  cases H[b]? with
  | none => rfl
  | some x => cases x <;> rfl
theorem ev_store {t b o : Nat} {v : AV} : evStore P H t b o v = (tsize P t).bind fun n => if (vcells v).length = n then (H[b]?).bind (wrC H b o (vcells v)) else none := by
  unfold evStore
  cases tsize P t with
  | none => rfl
  | some n => simp only [Option.bind_some, ev_wr]
theorem bind_store {t b o : Nat} {v : AV} {f : Hp × Ef → Prop} : bindK (evStore P H t b o v) f = bindK (tsize P t) fun n => (vcells v).length = n ∧ bindK (H[b]?) fun x => bindK (wrC H b o (vcells v) x) f := by
  rw [ev_store, bindK_bind]
  refine bindK_ext fun n => ?_
  rw [bindK_ite, bindK_bind]
theorem vcells_a {cs : List AV} : vcells (.agg cs) = cs := rfl
theorem vcells_s {s : List UInt8} : vcells (.str s) = [.str s] := rfl
theorem vcells_i {kd : IntKind} {n : Int} : vcells (.int kd n) = [.int kd n] := rfl
theorem vcells_b {b : Bool} : vcells (.bool b) = [.bool b] := rfl
theorem vcells_p {b o : Nat} : vcells (.ptr b o) = [.ptr b o] := rfl
theorem vcells_np : vcells .nilp = [.nilp] := rfl
theorem vcells_sl {b o n : Nat} {c : Cap} : vcells (.slice b o n c) = [.slice b o n c] := rfl
theorem vcells_ns : vcells .nils = [.nils] := rfl
theorem vcells_m {r : Nat} : vcells (.map r) = [.map r] := rfl
theorem vcells_if {t : TypeId} {v : AV} : vcells (.iface t v) = [.iface t v] := rfl
theorem vcells_ni : vcells .nili = [.nili] := rfl
theorem splice_d {a x : AV} {c xs : List AV} {o : Nat} : splice (a :: c) o (x :: xs) = (a :: c).take o ++ (x :: xs) ++ (a :: c).drop (o + (x :: xs).length) := rfl
theorem ldC_fc {v : AV} {c : List AV} {e : TypeId} {kd : Kd} {o n : Nat} : ldC o n false (.cells (v :: c) e kd) = (v :: c)[o]? := rfl
theorem ldC_tc {v : AV} {c : List AV} {e : TypeId} {kd : Kd} {o n : Nat} : ldC o n true (.cells (v :: c) e kd) = if o + n ≤ (v :: c).length then some (.agg (((v :: c).drop o).take n)) else none := rfl
attribute [go_sem] ldC_fc ldC_tc splice_d
attribute [go_sem ↓] bind_load bind_store
attribute [go_sem] hp_new hp_new0 hp_set hp_set0 szT_t szT_f wrC_s ev_wr vcells_a vcells_s vcells_i vcells_b vcells_p vcells_np vcells_sl vcells_ns vcells_m vcells_if vcells_ni
attribute [go_sem] List.append_assoc List.cons_append List.nil_append List.length_append List.length_cons List.length_nil List.getElem?_cons_zero List.getElem?_cons_succ List.drop_zero List.drop_succ_cons List.take_zero List.take_succ_cons List.take_nil List.drop_nil List.set_cons_zero List.set_cons_succ Nat.zero_add Nat.add_zero if_true canWr List.all_cons List.all_nil Bool.and_true Bool.true_and Bool.and_self decide_true decide_false Nat.add_assoc true_and and_true eq_self Option.getD_some Bool.false_eq_true if_false Bool.or_false Bool.or_true Bool.false_or Bool.true_or
attribute [go_sem] Int.toNat_natCast Int.natCast_nonneg Int.ofNat_lt beq_self_eq_true bne_self_eq_false Bool.not_true Bool.not_false
attribute [go_sem] Nat.sub_zero true_or or_true Nat.zero_le

/-! what append does -/
def rdC (o n : Nat) : ABlk → Option (List AV)
  | .cells c _ _ => if o + n ≤ c.length then some ((c.drop o).take n) else none
  | .void => if n = 0 then some [] else none
  | _ => none
theorem rdC_v {o : Nat} : rdC o 0 .void = some [] := rfl
attribute [go_sem] rdC_v
theorem rdC_c {o n : Nat} {c : List AV} {e : TypeId} {k : Kd} : rdC o n (.cells c e k) = if o + n ≤ c.length then some ((c.drop o).take n) else none := rfl
theorem bind_rd {b o n : Nat} {f : List AV → Prop} : bindK (rd H b o n) f = bindK (H[b]?) fun x => bindK (rdC o n x) f := by
  have : rd H b o n = (H[b]?).bind (rdC o n) := by
    unfold rd
    cases H[b]? with
    | none => rfl
    | some x => cases x <;> rfl
  rw [this, bindK_bind]
theorem ap_nils {z : Nat} {f : List AV × Nat → Prop} : bindK (appended H z .nils) f = f ([], 0) := rfl
theorem ap_sl {z b o n : Nat} {c : Cap} {f : List AV × Nat → Prop} : bindK (appended H z (.slice b o n c)) f = bindK (H[b]?) fun x => bindK (rdC o (n * z) x) fun l => f (l, n) := by
  show bindK ((rd H b o (n * z)).map _) f = _
  rw [bindK_map, bind_rd]
theorem ap_str {z : Nat} {s : List UInt8} {f : List AV × Nat → Prop} (h : (z == 1) = true) : bindK (appended H z (.str s)) f = f (s.map fun b => .int .u8 b.toNat, s.length) := by
  have : z = 1 := by simpa using h
  subst this; rfl
theorem shZ_s {e z b : Nat} : shZ (.slice e z b) = z := rfl
theorem ev_append {t : TypeId} {s x : AV} {kk : AV × Hp × Ef → Prop} : stepK (evAppend P t s x H) kk = bindK (tsh P t) fun sh => bindK (appended H (shZ sh) x) fun a => stepK (appTo P sh s a H) kk := by
  unfold evAppend
  cases tsh P t with
  | none => rfl
  | some sh =>
    cases sh <;> try (rw [bindK_some]; generalize appended H _ x = q; cases q <;> rfl)
    rename_i e z b
    simp only [bindK_some, shZ]
    by_cases hz : 0 < z ∧ zok P e z = true
    · rw [if_pos hz, stepK_bind]
      refine bindK_ext fun a => ?_
      simp only [appTo]
      rw [if_pos hz]
      try (cases s <;> rfl)
    · rw [if_neg hz]
      cases appended H z x with
      | none => rfl
      | some a =>
        rw [bindK_some]
        simp only [appTo]
        rw [if_neg hz]
def shB : Sh → Nat
  | .slice _ _ b => b
  | _ => 0
def shE : Sh → TypeId
  | .slice e _ _ => e
  | _ => 0
theorem shB_s {e z b : Nat} : shB (.slice e z b) = b := rfl
theorem shE_s {e z b : Nat} : shE (.slice e z b) = e := rfl
theorem ev_appz {t : TypeId} {s : AV} {k : IntKind} {n : Int} {kk : AV × Hp × Ef → Prop} : stepK (evAppZ P t s (.int k n) H) kk = bindK (tsh P t) fun sh => (0 ≤ n ∧ fits n.toNat (shB sh) = true) ∧ bindK (tzero P (shE sh)) fun zs => zs.length = shZ sh ∧ stepK (appTo P sh s (rep zs n.toNat, n.toNat) H) kk := by
  unfold evAppZ
  cases ht : tsh P t with
  | none => rfl
  | some sh =>
    cases sh with
    | slice e z b =>
      simp only [bindK_some, shB, shE, shZ]
      by_cases hc : 0 ≤ n ∧ fits n.toNat b = true
      · rw [if_pos hc]
        cases tzero P e with
        | none => simp [stepK, bindK]
        | some zs =>
          by_cases hz : zs.length = z
          · simp [hz, hc, bindK]
          · simp [hz, bindK, stepK]
      · rw [if_neg hc]; simp [hc, stepK]
    | _ => simp only [bindK_some]; simp [stepK, appTo, bindK]; intros; cases tzero P _ <;> simp
theorem stepK_if {p : Prop} [Decidable p] {r : Rs} {kk : AV × Hp × Ef → Prop} : stepK (if p then r else none) kk = (p ∧ stepK r kk) := by
  by_cases h : p
  · rw [if_pos h]; simp [h]
  · rw [if_neg h]; simp [h, stepK]
theorem stepK_ite {p : Prop} [Decidable p] {r q : Rs} {kk : AV × Hp × Ef → Prop} : stepK (if p then r else q) kk = guardK (.bool (decide p)) true (stepK r kk) (stepK q kk) := by
  by_cases h : p
  · rw [if_pos h]
    have : decide p = true := by simpa using h
    rw [this]; rfl
  · rw [if_neg h]
    have : decide p = false := by simpa using h
    rw [this]; rfl
theorem appTo_nils {e z b n : Nat} {cs : List AV} {kk : AV × Hp × Ef → Prop} (hz : decide (0 < z) = true) (hk : zok P e z = true) :
    stepK (appTo P (.slice e z b) .nils (cs, n) H) kk = guardK (.bool (decide (n = 0))) true (kk (.nils, H, z0)) (fits n b = true ∧ kk (.slice H.length 0 n (.op 0), H ++ [.cells cs e (.op 0 false)], z0)) := by
  simp only [appTo]
  rw [if_pos ⟨by simpa using hz, hk⟩, stepK_ite, stepK_if]
  rfl
/-- Appended to what append made. -/
def appO (H : Hp) (e z b bl o n k : Nat) (a : List AV × Nat) (kk : AV × Hp × Ef → Prop) : ABlk → Prop
  | .cells c e' (.op fz st) =>
    (e' = e ∧ o = k * z ∧ o + n * z ≤ c.length) ∧ guardK (.bool (decide (o + (n + a.2) * z ≤ c.length))) true
      (bindK (wr H bl (o + n * z) a.1) fun r => kk (.slice bl o (n + a.2) (.op k), r.1, r.2))
      ((fits (n + a.2) b = true ∧ fz ≤ o + n * z ∧ a.1.all scal = true) ∧
        kk (.slice H.length 0 (n + a.2) (.op 0), H.set bl .dead ++ [.cells ((c.drop o).take (n * z) ++ a.1) e (.op (fz - o) st)], ⟨none, some bl⟩))
  | _ => False
theorem appTo_op {e z b bl o n k : Nat} {a : List AV × Nat} {kk : AV × Hp × Ef → Prop} (hz : decide (0 < z) = true) (hk : zok P e z = true) :
    stepK (appTo P (.slice e z b) (.slice bl o n (.op k)) a H) kk = bindK (H[bl]?) (appO H e z b bl o n k a kk) := by
  simp only [appTo]
  rw [if_pos ⟨by simpa using hz, hk⟩]
  cases H[bl]? with
  | none => rfl
  | some x =>
    rw [bindK_some]
    cases x <;> try rfl
    rename_i c e' kd
    cases kd <;> try rfl
    rename_i fz st
    simp only [appO]
    rw [stepK_if, stepK_ite, stepK_if, stepK_map]
    rfl
theorem appO_c {e z b bl o n k fz : Nat} {st : Bool} {c : List AV} {e' : TypeId} {a : List AV × Nat} {kk : AV × Hp × Ef → Prop} :
    appO H e z b bl o n k a kk (.cells c e' (.op fz st)) = ((e' = e ∧ o = k * z ∧ o + n * z ≤ c.length) ∧ guardK (.bool (decide (o + (n + a.2) * z ≤ c.length))) true
      (bindK (wr H bl (o + n * z) a.1) fun r => kk (.slice bl o (n + a.2) (.op k), r.1, r.2))
      ((fits (n + a.2) b = true ∧ fz ≤ o + n * z ∧ a.1.all scal = true) ∧
        kk (.slice H.length 0 (n + a.2) (.op 0), H.set bl .dead ++ [.cells ((c.drop o).take (n * z) ++ a.1) e (.op (fz - o) st)], ⟨none, some bl⟩))) := rfl
/-- Appended to a slice whose capacity is known. -/
theorem appTo_ex {e z b bl o n c : Nat} {a : List AV × Nat} {kk : AV × Hp × Ef → Prop} (hz : decide (0 < z) = true) (hk : zok P e z = true) :
    stepK (appTo P (.slice e z b) (.slice bl o n (.ex c)) a H) kk = guardK (.bool (decide (n + a.2 ≤ c))) true (bindK (wr H bl (o + n * z) a.1) fun r => kk (.slice bl o (n + a.2) (.ex c), r.1, r.2))
      (fits (n + a.2) b = true ∧ bindK (rd H bl o (n * z)) fun old => kk (.slice H.length 0 (n + a.2) (.op 0), H ++ [.cells (old ++ a.1) e (.op 0 false)], z0)) := by
  simp only [appTo]
  rw [if_pos ⟨by simpa using hz, hk⟩]
  rw [stepK_ite, stepK_if, stepK_map, stepK_map]
attribute [go_sem ↓] bind_rd ap_nils ap_sl ap_str ev_append ev_appz appTo_nils appTo_op appTo_ex
attribute [go_sem] shZ_s shB_s shE_s appO_c
theorem rdC_cc {o n : Nat} {v : AV} {c : List AV} {e : TypeId} {k : Kd} : rdC o n (.cells (v :: c) e k) = if o + n ≤ (v :: c).length then some (((v :: c).drop o).take n) else none := rfl
attribute [go_sem] rdC_cc

/-! slices of slices and strings -/
def knC (o k : Nat) (sh : Sh) : ABlk → Option Nat
  | .cells c e' (.op _ _) => match sh with
    | .slice e z _ => if e' = e ∧ 0 < z ∧ o = k * z then some ((c.length - o) / z) else none
    | _ => none
  | _ => none
theorem knC_c {o k e z b fz : Nat} {st : Bool} {c : List AV} {e' : TypeId} : knC o k (.slice e z b) (.cells c e' (.op fz st)) = if e' = e ∧ 0 < z ∧ o = k * z then some ((c.length - o) / z) else none := rfl
theorem bnd_nn {l c : Nat} {f : Nat × Nat → Prop} : bindK (bnd none none l c) f = f (0, l) := rfl
theorem bnd_nh {l c : Nat} {k : IntKind} {h : Int} {f : Nat × Nat → Prop} : bindK (bnd none (some (.int k h)) l c) f = ((0 ≤ h ∧ h ≤ c) ∧ f (0, h.toNat)) := by
  simp only [bnd, bindK_ite, bindK_some]
theorem bnd_ln {l c : Nat} {k : IntKind} {a : Int} {f : Nat × Nat → Prop} : bindK (bnd (some (.int k a)) none l c) f = ((0 ≤ a ∧ a ≤ l) ∧ f (a.toNat, l)) := by
  simp only [bnd, bindK_ite, bindK_some]
theorem bnd_lh {l c : Nat} {k k' : IntKind} {a h : Int} {f : Nat × Nat → Prop} : bindK (bnd (some (.int k a)) (some (.int k' h)) l c) f = ((0 ≤ h ∧ h ≤ c) ∧ (0 ≤ a ∧ a ≤ h) ∧ f (a.toNat, h.toNat)) := by
  simp only [bnd, bindK_ite, bindK_some]
section
variable {kk : AV × Hp × Ef → Prop}
theorem known_knC {b o k e z bb : Nat} : known H b o k z e = (H[b]?).bind (knC o k (.slice e z bb)) := by
  unfold known
  cases H[b]? with
  | none => rfl
  | some x =>
    cases x <;> try rfl
    rename_i c e' kd
    cases kd <;> rfl
def isSl : Option Sh → Bool
  | some (.slice _ _ _) => true
  | _ => false
theorem isSl_t {e z b : Nat} : isSl (some (.slice e z b)) = true := rfl
theorem isSl_ex {x : Option Sh} (h : isSl x = true) : ∃ e z b, x = some (.slice e z b) := by
  unfold isSl at h
  split at h
  · exact ⟨_, _, _, rfl⟩
  · cases h
theorem slK_op {t : TypeId} {b o n k : Nat} {lo hi : Option AV} (ht : isSl (tsh P t) = true) : slK P t (.slice b o n (.op k)) lo hi none H kk = bindK (tsh P t) fun sh => bindK (H[b]?) fun x => bindK (knC o k sh x) fun q => bindK (bnd lo hi n q) fun r =>
    guardK (.bool (decide (r.1 = 0 ∨ r.1 < q))) true (kk (.slice b (o + r.1 * shZ sh) (r.2 - r.1) (.op (k + r.1)), H, z0)) (r.1 = r.2 ∧ kk (.slice H.length 0 0 (.op 0), H ++ [.void], z0)) := by
  obtain ⟨e, z, bb, he⟩ := isSl_ex ht
  unfold slK
  simp only [evSlice, evSliceX, he, known_knC (bb := bb), bindK_some]
  cases hx : H[b]? with
  | none => rfl
  | some x =>
    simp only [Option.bind_some, bindK_some]
    cases hq : knC o k (.slice e z bb) x with
    | none => rfl
    | some q =>
      simp only [Option.bind_some, bindK_some]
      cases hr : bnd lo hi n q with
      | none => rfl
      | some r =>
        simp only [Option.bind_some, bindK_some, shZ]
        by_cases hc : r.1 = 0 ∨ r.1 < q
        · rw [if_pos hc, decide_eq_true hc]; rfl
        · rw [if_neg hc, decide_eq_false hc, guardK_ft]
          by_cases h2 : r.1 = r.2
          · rw [if_pos h2]; simp [h2, bindK_some]
          · rw [if_neg h2]; simp [h2]; exact fun h => h
theorem slK_op3 {t : TypeId} {b o n k : Nat} {lo hi : Option AV} {km : IntKind} {m : Int} (ht : isSl (tsh P t) = true) : slK P t (.slice b o n (.op k)) lo hi (some (.int km m)) H kk = bindK (tsh P t) fun sh => bindK (H[b]?) fun x => bindK (knC o k sh x) fun q =>
    (0 ≤ m ∧ m ≤ q ∧ hi.isSome = true) ∧ bindK (bnd lo hi n m.toNat) fun r => kk (.slice b (if m.toNat = r.1 then o else o + r.1 * shZ sh) (r.2 - r.1) (.ex (m.toNat - r.1)), H, z0) := by
  obtain ⟨e, z, bb, he⟩ := isSl_ex ht
  rw [slK_of (by simp [evSliceX])]
  simp only [evSlice, he, known_knC (bb := bb), bindK_some, bindK_bind]
  refine bindK_ext fun x => bindK_ext fun q => ?_
  rw [bindK_ite, bindK_map]
  rfl
theorem slK_ex {t : TypeId} {b o n c : Nat} {lo hi : Option AV} (ht : isSl (tsh P t) = true) : slK P t (.slice b o n (.ex c)) lo hi none H kk = bindK (tsh P t) fun sh => bindK (bnd lo hi n c) fun r => kk (.slice b (if c = r.1 then o else o + r.1 * shZ sh) (r.2 - r.1) (.ex (c - r.1)), H, z0) := by
  obtain ⟨e, z, bb, he⟩ := isSl_ex ht
  rw [slK_of (by simp [evSliceX])]
  simp only [evSlice, he, bindK_map, bindK_some, shZ]
theorem slK_ex3 {t : TypeId} {b o n c : Nat} {lo hi : Option AV} {km : IntKind} {m : Int} (ht : isSl (tsh P t) = true) : slK P t (.slice b o n (.ex c)) lo hi (some (.int km m)) H kk = bindK (tsh P t) fun sh =>
    (0 ≤ m ∧ m ≤ c ∧ hi.isSome = true) ∧ bindK (bnd lo hi n m.toNat) fun r => kk (.slice b (if m.toNat = r.1 then o else o + r.1 * shZ sh) (r.2 - r.1) (.ex (m.toNat - r.1)), H, z0) := by
  obtain ⟨e, z, bb, he⟩ := isSl_ex ht
  rw [slK_of (by simp [evSliceX])]
  simp only [evSlice, he, bindK_map, bindK_some, bindK_ite, shZ]
theorem slK_nils {t : TypeId} {lo hi : Option AV} (ht : isSl (tsh P t) = true) : slK P t .nils lo hi none H kk = bindK (bnd lo hi 0 0) fun _ => kk (.nils, H, z0) := by
  obtain ⟨e, z, bb, he⟩ := isSl_ex ht
  rw [slK_of (by simp [evSliceX])]
  simp only [evSlice, he, bindK_map]
theorem slK_nils3 {t : TypeId} {lo hi : Option AV} {km : IntKind} {m : Int} (ht : isSl (tsh P t) = true) : slK P t .nils lo hi (some (.int km m)) H kk = ((m = 0 ∧ hi.isSome = true) ∧ bindK (bnd lo hi 0 0) fun _ => kk (.nils, H, z0)) := by
  obtain ⟨e, z, bb, he⟩ := isSl_ex ht
  rw [slK_of (by simp [evSliceX])]
  simp only [evSlice, he, bindK_map, bindK_ite]
def isStr : Option Sh → Bool
  | some .str => true
  | _ => false
theorem slK_str {t : TypeId} {s : List UInt8} {lo hi : Option AV} (ht : isStr (tsh P t) = true) : slK P t (.str s) lo hi none H kk = bindK (bnd lo hi s.length s.length) fun r => kk (.str ((s.drop r.1).take (r.2 - r.1)), H, z0) := by
  have he : tsh P t = some .str := by
    unfold isStr at ht
    split at ht
    · assumption
    · cases ht
  rw [slK_of (by simp [evSliceX])]
  simp only [evSlice, he, bindK_map]
def shA : Sh → Nat × Nat
  | .array l _ z => (l, z)
  | _ => (0, 0)
theorem shA_a {l e z : Nat} : shA (.array l e z) = (l, z) := rfl
def isArr : Option Sh → Bool
  | some (.array _ _ _) => true
  | _ => false
theorem slK_arr {t : TypeId} {b o : Nat} {lo hi : Option AV} (ht : isArr (tsh P t) = true) :
    slK P t (.ptr b o) lo hi none H kk = bindK (tsh P t) fun sh => bindK (bnd lo hi (shA sh).1 (shA sh).1) fun r => kk (.slice b (if (shA sh).1 = r.1 then o else o + r.1 * (shA sh).2) (r.2 - r.1) (.ex ((shA sh).1 - r.1)), H, z0) := by
  unfold isArr at ht
  split at ht
  · rename_i e z w he
    rw [slK_of (by simp [evSliceX])]
    simp only [evSlice, he, bindK_map, bindK_some, shA]
    rfl
  · cases ht
end
theorem isStr_t : isStr (some .str) = true := rfl
theorem isArr_t {l e z : Nat} : isArr (some (.array l e z)) = true := rfl
attribute [go_sem] isSl_t isStr_t isArr_t shA_a
attribute [go_sem ↓] bnd_nn bnd_nh bnd_ln bnd_lh slK_op slK_op3 slK_ex slK_ex3 slK_nils slK_nils3 slK_str slK_arr
attribute [go_sem] knC_c
attribute [go_sem] Int.ofNat_le

/-! a function's begin and end -/
/-- What was written lies at n or above. -/
def clean (n : Nat) (e : Ef) : Prop := low n e.es = none ∧ low n e.ws = none
theorem low_omin {n : Nat} {a b : Option Nat} (ha : low n a = none) (hb : low n b = none) : low n (omin a b) = none := by
  cases a with
  | none => cases b <;> exact hb
  | some a =>
    cases b with
    | none => exact ha
    | some b =>
      simp only [low, omin] at *
      split at ha
      · split at hb
        · rw [if_pos (by omega)]
        · cases hb
      · cases ha
theorem clean_z0 {n : Nat} : clean n z0 = True := eq_true ⟨rfl, rfl⟩
theorem clean_and {n : Nat} {a b : Ef} (ha : clean n a) (hb : clean n b) : clean n (a.and b) := ⟨low_omin ha.1 hb.1, low_omin ha.2 hb.2⟩
theorem clean_w {n b : Nat} (h : n ≤ b) : clean n ⟨none, some b⟩ := ⟨rfl, by simp [low, h]⟩
theorem clean_ew {n b c : Nat} (h : n ≤ b) (h' : n ≤ c) : clean n ⟨some c, some b⟩ := ⟨by simp [low, h'], by simp [low, h]⟩
theorem low_w {n b : Nat} : (low n (some b) = none) = (n ≤ b) := by simp [low]
theorem low_oT {n : Nat} {a b : Option Nat} : (low n (omin a b) = none) = (low n a = none ∧ low n b = none) := by
  cases a with
  | none => cases b <;> simp [omin, low]
  | some a =>
    cases b with
    | none => simp [omin, low]
    | some b =>
      apply propext
      simp only [omin, low_w]
      omega
theorem clean_andT {n : Nat} {a b : Ef} : clean n (a.and b) = (clean n a ∧ clean n b) := by
  show (low n (omin a.es b.es) = none ∧ low n (omin a.ws b.ws) = none) = ((_ ∧ _) ∧ (_ ∧ _))
  rw [low_oT, low_oT]
  apply propext; constructor
  · rintro ⟨⟨p, q⟩, r, s⟩; exact ⟨⟨p, r⟩, q, s⟩
  · rintro ⟨⟨p, r⟩, q, s⟩; exact ⟨⟨p, q⟩, r, s⟩
theorem clean_wT {n b : Nat} : clean n ⟨none, some b⟩ = (n ≤ b) := by
  show (low n none = none ∧ low n (some b) = none) = _
  rw [low_w]; simp [low]
theorem clean_ewT {n b c : Nat} : clean n ⟨some c, some b⟩ = (n ≤ c ∧ n ≤ b) := by
  show (low n (some c) = none ∧ low n (some b) = none) = _
  rw [low_w, low_w]
theorem clean_ifT {n b : Nat} {c : Prop} [Decidable c] (h : n ≤ b) : clean n ⟨if c then none else some b, some b⟩ = True := by
  split
  · rw [clean_wT]; exact eq_true h
  · rw [clean_ewT]; exact eq_true ⟨h, h⟩
theorem le_self_add {n k : Nat} : (n ≤ n + k) = True := eq_true (Nat.le_add_right n k)
theorem le_self {n : Nat} : (n ≤ n) = True := eq_true (Nat.le_refl n)
attribute [go_sem] clean_z0 clean_andT clean_wT clean_ewT clean_ifT le_self_add le_self

def endR (P : Program) (rs : List ResultVar) (n : Nat) (k : AV × Hp × Ef → Prop) : Ex → St → Prop := fun ex s =>
  (ex = .normal ∨ ex = .ret) ∧ match evRes P s rs with
    | some vs => k (leave n (pack vs) s.H s.ef)
    | none => False
theorem endR_n {rs : List ResultVar} {n : Nat} {k : AV × Hp × Ef → Prop} : endR P rs n k .normal ⟨σ, H, e⟩ = bindK (evRes P ⟨σ, H, e⟩ rs) fun vs => k (leave n (pack vs) H e) := by
  apply propext
  constructor
  · rintro ⟨_, h⟩; unfold bindK; split at h <;> simp_all
  · intro h; refine ⟨.inl rfl, ?_⟩; unfold bindK at h; split at h <;> simp_all
theorem endR_r {rs : List ResultVar} {n : Nat} {k : AV × Hp × Ef → Prop} : endR P rs n k .ret ⟨σ, H, e⟩ = bindK (evRes P ⟨σ, H, e⟩ rs) fun vs => k (leave n (pack vs) H e) := by
  apply propext
  constructor
  · rintro ⟨_, h⟩; unfold bindK; split at h <;> simp_all
  · intro h; refine ⟨.inr rfl, ?_⟩; unfold bindK at h; split at h <;> simp_all
theorem res_nil : evRes P ⟨σ, H, e⟩ [] = some [] := rfl
theorem res_tmp {t : Nat} {r : List ResultVar} : evRes P ⟨σ, H, e⟩ (.tmp t :: r) = (evRes P ⟨σ, H, e⟩ r).map (fr σ t :: ·) := rfl
theorem res_cell {a : Nat} {t : TypeId} {r : List ResultVar} : evRes P ⟨σ, H, e⟩ (.cell a t :: r) = (asPtr (fr σ a)).bind fun p => (evLoad P H t p.1 p.2).bind fun v => (evRes P ⟨σ, H, e⟩ r).map (v :: ·) := by
  simp only [evRes]
  unfold fr
  cases (σ[a]?).getD undefA <;> rfl
theorem bind_res_tmp {t : Nat} {r : List ResultVar} {f : List AV → Prop} : bindK (evRes P ⟨σ, H, e⟩ (.tmp t :: r)) f = bindK (evRes P ⟨σ, H, e⟩ r) fun vs => f (fr σ t :: vs) := by
  rw [res_tmp, bindK_map]
theorem bind_res_cell {a : Nat} {t : TypeId} {r : List ResultVar} {f : List AV → Prop} : bindK (evRes P ⟨σ, H, e⟩ (.cell a t :: r)) f = bindK (asPtr (fr σ a)) fun p => bindK (evLoad P H t p.1 p.2) fun v => bindK (evRes P ⟨σ, H, e⟩ r) fun vs => f (v :: vs) := by
  rw [res_cell, bindK_bind]
  refine bindK_ext fun p => ?_
  rw [bindK_bind]
  refine bindK_ext fun v => ?_
  rw [bindK_map]
theorem bind_res_nil {f : List AV → Prop} : bindK (evRes P ⟨σ, H, e⟩ []) f = f [] := rfl
theorem pack_one {v : AV} : pack [v] = v := rfl
theorem pack_nil : pack [] = .tuple [] := rfl
theorem pack_two {v w : AV} {vs : List AV} : pack (v :: w :: vs) = .tuple (v :: w :: vs) := rfl
attribute [go_sem ↓] endR_n endR_r
attribute [go_sem ↓] bind_res_tmp bind_res_cell bind_res_nil
attribute [go_sem] pack_one pack_nil pack_two

theorem leave_flat {v : AV} {l : Hp} (hv : flat v = true) (h : clean H.length e) : leave H.length v (H ++ l) e = (v, H, z0) := by
  unfold leave
  rw [h.1, h.2, if_pos ⟨hv, rfl⟩, List.take_left]; rfl
theorem leave_flat0 {v : AV} (hv : flat v = true) (h : clean H.length e) : leave H.length v H e = (v, H, z0) := by
  unfold leave
  rw [h.1, h.2, if_pos ⟨hv, rfl⟩, List.take_length]; rfl
theorem leave_keep {n : Nat} {v : AV} (hv : flat v = false) (h : clean n e) : leave n v H e = (v, H, z0) := by
  unfold leave
  rw [h.1, h.2, if_neg (by simp [hv])]; rfl

attribute [go_sem] leave_flat leave_flat0 leave_keep

theorem callK_start {f : FuncId} {fn : Func} {c : Code} {args : List AV} {kk : AV × Hp × Ef → Prop} {rs : List ResultVar} {n : Nat} (hf : P.funcs[f]? = some fn) (hb : fn.body = some c) (hr : fn.results.toList = rs) (hn : args.length + (fn.ntmps - args.length) = n)
    (h : ∀ σ : List AV, σ.length = n → (∀ i : Nat, i < args.length → fr σ i = (args[i]?).getD undefA) → go P (endR P rs H.length kk) [.code c] ⟨σ, H, z0⟩) : callK P f args H kk := by
  rw [callK_body hf hb]
  subst hr; subst hn
  refine h _ (by simp) (fun i hi => ?_)
  unfold fr
  rw [List.getElem?_append_left hi]

/-! a region whose order is open, with no allocation to draw ahead -/
def goZ (P : Program) (ops : List Oper) (K : St → List Nat → Prop) (i : Nat) (l : List Oper) (s : St) (_ : Ph (ops, K, l) := ⟨⟩) : Prop := goD P ops K ((l.zipIdx i).map fun (o, i) => (i, o)) s
def nextZ (P : Program) (ops : List Oper) (K : St → List Nat → Prop) (l : List Oper) (σ : List AV) (H : Hp) (e : Ef) (i : Nat) (dst : Option Tmp) : AV × Hp × Ef → Prop :=
  fun r => goZ P ops (fun s es => K s (if quiet r H = true then es else tg i r.2.2 :: es)) (i + 1) l ⟨put σ dst r.1, r.2.1, e.and r.2.2⟩
theorem quiet_z {v : AV} : quiet (v, H, z0) H = true := by simp [quiet, z0]
theorem goZ_K {K K' : St → List Nat → Prop} {i : Nat} {s : St} (h : K = K') : goZ P ops K i l s = goZ P ops K' i l s := by subst h; rfl
theorem opK_k {op : Op} {kk kk' : AV × Hp × Ef → Prop} (h : kk = kk') : opK P σ H op kk = opK P σ H op kk' := by subst h; rfl
theorem nextZ_q {K : St → List Nat → Prop} {dst : Option Tmp} {i : Nat} {v : AV} {σ : List AV} : nextZ P ops K l σ H e i dst (v, H, z0) = goZ P ops K (i + 1) l ⟨put σ dst v, H, e⟩ := by
  show goZ P ops (fun s es => K s (if quiet (v, H, z0) H = true then es else tg i z0 :: es)) (i + 1) l ⟨put σ dst v, H, e.and z0⟩ = _
  rw [Ef.and_z0]
  refine goZ_K ?_
  funext s es
  rw [quiet_z]; rfl
theorem nextZ_w {K : St → List Nat → Prop} {dst : Option Tmp} {i : Nat} {v : AV} {H' : Hp} {e' : Ef} (h : quiet (v, H', e') H = false) : nextZ P ops K l σ H e i dst (v, H', e') = goZ P ops (fun s es => K s (tg i e' :: es)) (i + 1) l ⟨put σ dst v, H', e.and e'⟩ := by
  refine goZ_K ?_
  funext s es
  rw [h]; rfl
theorem goZ_nil {K : St → List Nat → Prop} {i : Nat} : goZ P ops K i [] ⟨σ, H, e⟩ = K ⟨σ, H, e⟩ [] := goD_nil
@[reducible] def notFree : Op → Bool
  | .alloc _ => false
  | _ => true
theorem goZ_op {K : St → List Nat → Prop} {i : Nat} {dst : Option Tmp} {op : Op} {ty : TypeId} {pos : String} {af : Array Edge} (hf : notFree op = true) :
    goZ P ops K i (⟨dst, op, ty, pos, af, none⟩ :: l) ⟨σ, H, e⟩ = opK P σ H op (nextZ P ops K l σ H e i dst) := by
  show goD P ops K ((i, _) :: (l.zipIdx (i + 1)).map fun (o, i) => (i, o)) _ = _
  rw [goD_op]
  have : isFree ⟨dst, op, ty, pos, af, none⟩ = false := by cases op <;> first | rfl | cases hf
  refine opK_k ?_
  funext r
  unfold nextD nextZ goZ
  rw [this]
  rfl
theorem goZ_opg {K : St → List Nat → Prop} {i : Nat} {dst : Option Tmp} {op : Op} {ty : TypeId} {pos : String} {af : Array Edge} {j : Nat} {w : Bool} :
    goZ P ops K i (⟨dst, op, ty, pos, af, some (j, w)⟩ :: l) ⟨σ, H, e⟩ = guardK (gvalO σ (gdst ops j)) w (opK P σ H op (nextZ P ops K l σ H e i dst)) (goZ P ops K (i + 1) l ⟨put σ dst undefA, H, e⟩) := by
  have hfr : isFree ⟨dst, op, ty, pos, af, some (j, w)⟩ = false := by cases op <;> simp [isFree]
  show goD P ops K ((i, _) :: (l.zipIdx (i + 1)).map fun (o, i) => (i, o)) _ = guardK _ _ _ (goD P ops K ((l.zipIdx (i + 1)).map fun (o, i) => (i, o)) _)
  cases hw : wantedA ops σ ⟨dst, op, ty, pos, af, some (j, w)⟩ with
  | true =>
    rw [goD_want hw]
    have e1 : nextD P ops K (List.map (fun x => (x.snd, x.fst)) (l.zipIdx (i + 1))) σ H e i ⟨dst, op, ty, pos, af, some (j, w)⟩ = nextZ P ops K l σ H e i dst := by
      funext r; unfold nextD nextZ goZ; rw [hfr]; rfl
    unfold wantedA at hw
    simp only at hw
    unfold gvalO gdst
    split at hw
    · rename_i d hd
      rw [hd]
      split at hw
      · rename_i b hb
        unfold fr; simp only [hb, Option.getD_some, guardK]; rw [if_pos hw]; show opK _ _ _ _ _ = _; rw [← e1]
      · cases hw
    · cases hw
  | false =>
    rw [goD_skip hw]
    unfold wantedA at hw
    simp only at hw
    unfold gvalO gdst
    split at hw
    · rename_i d hd
      rw [hd]
      split at hw
      · rename_i b hb
        unfold fr; simp only [hb, Option.getD_some, guardK]; rw [if_neg (by rw [hw]; exact Bool.false_ne_true)]
      · rename_i hne
        simp only
        unfold fr guardK
        split
        · rename_i b hb
          cases hd2 : σ[d]? with
          | none => rw [hd2] at hb; cases hb
          | some v => rw [hd2] at hb; simp only [Option.getD_some] at hb; rw [hb] at hd2; exact absurd hd2 (hne b)
        · rfl
    · rename_i hd
      rw [hd]; rfl
theorem order_z {l : List Oper} (h : l.all (fun o => !isFree o) = true) : order l = (l.zipIdx 0).map fun (o, i) => (i, o) := by
  have hz : ∀ p ∈ num l, isFree p.2 = false := by
    intro p hp
    unfold num at hp
    simp only [List.mem_map] at hp
    obtain ⟨q, hq, rfl⟩ := hp
    have := List.all_eq_true.1 h q.1 (List.fst_mem_of_mem_zipIdx hq)
    simpa using this
  unfold order
  have h1 : (num l).filter (fun p => isFree p.2) = [] := List.filter_eq_nil_iff.2 fun p hp => by rw [hz p hp]; exact Bool.false_ne_true
  have h2 : (num l).filter (fun p => !isFree p.2) = num l := List.filter_eq_self.2 fun p hp => by rw [hz p hp]; rfl
  rw [h1, h2]; rfl
theorem go_drawZ {id : Nat} {ops : Array Oper} (hm : P.follows .mixedOrders = true) (hs : (statOk ops.toList && ops.toList.all (fun o => !isFree o)) = true)
    (h : goZ P ops.toList (fun s es => effOk P ops.toList es = true ∧ go P Q k s) 0 ops.toList ⟨σ, H, e⟩) : go P Q (.code (.region id ops true) :: k) ⟨σ, H, e⟩ := by
  rw [Bool.and_eq_true] at hs
  rw [go_draw hm hs.1, order_z hs.2]
  exact h
theorem tg_z {i : Nat} : tg i z0 = 2 * i + 1 := rfl
theorem tg_w {i x : Nat} {o : Option Nat} : tg i ⟨o, some x⟩ = 2 * i := by unfold tg; simp
theorem tg_s {i x : Nat} {o : Option Nat} : tg i ⟨some x, o⟩ = 2 * i := by unfold tg; simp
theorem tg_or (i : Nat) (e : Ef) : tg i e = 2 * i ∨ tg i e = 2 * i + 1 := by unfold tg; split <;> simp
attribute [go_sem] tg_z tg_w tg_s
theorem effOk_nil {ops : List Oper} : effOk P ops [] = true := rfl
theorem callK_ex {α : Type} {f : FuncId} {args : List AV} (g : α → AV × Hp × Ef) (h : callK P f args H (fun q => ∃ b, q = g b)) : ∃ b, ∀ k, callK P f args H k = k (g b) := by
  obtain ⟨n, r, hn, b, rfl⟩ := h
  exact ⟨b, fun k => propext (callK_iff_of hn)⟩
/-! whole numbers -/
theorem wrap_u8 {n : Int} (h : 0 ≤ n ∧ n < 256) : IntKind.u8.wrap n = n := by
  simp only [IntKind.wrap, IntKind.bits, IntKind.signed, Bool.false_and, Bool.true_and, Bool.false_eq_true, if_false, decide_eq_true_eq, Nat.reduceSub, Int.reducePow, ge_iff_le]; first | omega | (split <;> omega)
theorem wrap_u16 {n : Int} (h : 0 ≤ n ∧ n < 65536) : IntKind.u16.wrap n = n := by
  simp only [IntKind.wrap, IntKind.bits, IntKind.signed, Bool.false_and, Bool.true_and, Bool.false_eq_true, if_false, decide_eq_true_eq, Nat.reduceSub, Int.reducePow, ge_iff_le]; first | omega | (split <;> omega)
theorem wrap_u32 {n : Int} (h : 0 ≤ n ∧ n < 4294967296) : IntKind.u32.wrap n = n := by
  simp only [IntKind.wrap, IntKind.bits, IntKind.signed, Bool.false_and, Bool.true_and, Bool.false_eq_true, if_false, decide_eq_true_eq, Nat.reduceSub, Int.reducePow, ge_iff_le]; first | omega | (split <;> omega)
theorem wrap_u64 {n : Int} (h : 0 ≤ n ∧ n < 18446744073709551616) : IntKind.u64.wrap n = n := by
  simp only [IntKind.wrap, IntKind.bits, IntKind.signed, Bool.false_and, Bool.true_and, Bool.false_eq_true, if_false, decide_eq_true_eq, Nat.reduceSub, Int.reducePow, ge_iff_le]; first | omega | (split <;> omega)
theorem wrap_i64 {n : Int} (h : -9223372036854775808 ≤ n ∧ n < 9223372036854775808) : IntKind.i64.wrap n = n := by
  simp only [IntKind.wrap, IntKind.bits, IntKind.signed, Bool.false_and, Bool.true_and, Bool.false_eq_true, if_false, decide_eq_true_eq, Nat.reduceSub, Int.reducePow, ge_iff_le]; first | omega | (split <;> omega)
theorem wrap_i32 {n : Int} (h : -2147483648 ≤ n ∧ n < 2147483648) : IntKind.i32.wrap n = n := by
  simp only [IntKind.wrap, IntKind.bits, IntKind.signed, Bool.false_and, Bool.true_and, Bool.false_eq_true, if_false, decide_eq_true_eq, Nat.reduceSub, Int.reducePow, ge_iff_le]; first | omega | (split <;> omega)
theorem wrap_succ {n : Nat} (h : n < 9223372036854775807) : IntKind.i64.wrap ((n : Int) + 1) = ((n + 1 : Nat) : Int) := by
  rw [wrap_i64 (by omega)]; rfl
theorem wrap_pred {n : Nat} (h : n < 9223372036854775807) : IntKind.i64.wrap (((n + 1 : Nat) : Int) - 1) = (n : Int) := by
  rw [wrap_i64 (by omega)]; omega
attribute [go_sem ↓] nextZ_q nextZ_w goZ_nil goZ_op goZ_opg
attribute [go_sem] effOk_nil notFree

/-! ranges over strings -/
def asS : AV → Option (List UInt8)
  | .str s => some s
  | _ => none
theorem asS_s {s : List UInt8} : asS (.str s) = some s := rfl
theorem k_range {kk : AV × Hp × Ef → Prop} {t : TypeId} {x : Operand} (ht : isStr (tsh P t) = true) : opK P σ H (.range t x) kk = bindK (evArg P σ x) fun v => bindK (asS v) fun s => kk (.ptr H.length 0, H ++ [.iter s 0], z0) := by
  have he : tsh P t = some .str := by
    unfold isStr at ht
    split at ht
    · assumption
    · cases ht
  show stepK _ _ = _
  simp only [evOp, he]
  rw [stepK_bind]; refine bindK_ext fun c => ?_
  cases c <;> rfl
def itC : ABlk → Option (List UInt8 × Nat)
  | .iter s p => some (s, p)
  | _ => none
theorem itC_i {s : List UInt8} {p : Nat} : itC (.iter s p) = some (s, p) := rfl
def asPtr0 : AV → Option Nat
  | .ptr b 0 => some b
  | _ => none
theorem asPtr0_p {b : Nat} : asPtr0 (.ptr b 0) = some b := rfl
theorem k_next {kk : AV × Hp × Ef → Prop} {it : Operand} : opK P σ H (.next it true) kk = bindK (evArg P σ it) fun v => bindK (asPtr0 v) fun b => bindK (H[b]?) fun x => bindK (itC x) fun q => kk ((strIter q.1 q.2).1, H.set b (.iter q.1 (strIter q.1 q.2).2), ⟨none, some b⟩) := by
  show stepK _ _ = _
  simp only [evOp]
  rw [stepK_bind]; refine bindK_ext fun c => ?_
  cases c <;> try rfl
  rename_i b o
  cases o with
  | succ o => rfl
  | zero =>
    show stepK _ _ = bindK (some b) _
    rw [bindK_some]
    cases hx : H[b]? with
    | none => simp only [hx]; rfl
    | some x => simp only [hx]; cases x <;> rfl
/-- One round over a text without letters beyond ASCII. -/
def itN (s : List UInt8) (p : Nat) : AV × Nat :=
  match s[p]? with
  | some c => (.tuple [.bool true, .int .i64 (p : Nat), .int .i32 c.toNat], p + 1)
  | none => (.tuple [.bool false], p)
theorem strIter_a {s : List UInt8} {p : Nat} (h : s.all (fun c => decide (c.toNat < 128)) = true) : strIter s p = itN s p := by
  unfold strIter itN
  by_cases hp : p < s.length
  · rw [if_pos hp, List.getElem?_eq_getElem hp]
    have hc : s[p].toNat < 128 := by
      have := List.all_eq_true.1 h s[p] (List.getElem_mem hp)
      simpa using this
    have hs : (⟨s.toArray⟩ : ByteArray).size = s.length := by simp [ByteArray.size]
    have hg : ((⟨s.toArray⟩ : ByteArray)[p]'(by rw [hs]; exact hp)) = s[p] := by
      show (s.toArray)[p] = s[p]
      simp
    have := decode_ascii ⟨s.toArray⟩ p (by rw [hs]; exact hp) (by rw [hg]; exact hc)
    rw [hg] at this
    simp only [this]
  · rw [if_neg hp, List.getElem?_eq_none (by omega)]
theorem itN_s {s : List UInt8} {p : Nat} {c : UInt8} (h : s[p]? = some c) : itN s p = (.tuple [.bool true, .int .i64 (p : Nat), .int .i32 c.toNat], p + 1) := by unfold itN; rw [h]
theorem itN_n {s : List UInt8} {p : Nat} (h : s[p]? = none) : itN s p = (.tuple [.bool false], p) := by unfold itN; rw [h]
attribute [go_sem ↓] k_range k_next
attribute [go_sem] asS_s itC_i asPtr0_p

/-! ranges over functions -/
theorem asFun_s {g : FuncId} {a b : List AV} : asFun (.func (.func g) a b) = some (g, a, b) := rfl
theorem asEnd_n {τ : List AV} {ps : List Tmp} {az bd : Code} : asEnd (some (.loop τ ps az bd .ready)) = some .normal := rfl
theorem asEnd_d {τ : List AV} {ps : List Tmp} {az bd : Code} {x : Ex} : asEnd (some (.loop τ ps az bd (.done x))) = some x := rfl
theorem asReady_s {τ : List AV} {ps : List Tmp} {az bd : Code} : asReady (some (.loop τ ps az bd .ready)) = some ⟨τ, ps, az, bd⟩ := rfl
theorem asBusy_s {τ : List AV} {ps : List Tmp} {az bd : Code} : asBusy (some (.loop τ ps az bd .busy)) = some ⟨τ, ps, az, bd⟩ := rfl
def rangeK (P : Program) (Q : Ex → St → Prop) (k : List It) (x : Option (FuncId × List AV × List AV)) (ps : List Tmp) (az bd : Code) (σ : List AV) (H : Hp) (e : Ef) (_ : Ph (Q, k, az, bd) := ⟨⟩) : Prop :=
  match x with
  | some x => hasBody P x.1 = true ∧ callK P x.1 (x.2.1 ++ [.yld H.length] ++ x.2.2) (H ++ [.loop σ ps az bd .ready]) (rngK P Q k σ H.length e)
  | none => False
theorem go_rangeK {f : Operand} {ps : Array Tmp} {az bd : Code} : go P Q (.code (.rangeFunc f ps az bd) :: k) ⟨σ, H, e⟩ = bindK (evArg P σ f) fun v => rangeK P Q k (asFun v) ps.toList az bd σ H e := by
  cases hf : evArg P σ f with
  | none =>
    refine propext ⟨?_, fun h => h.elim⟩
    rintro ⟨n, ex, s', hc, _⟩
    simp only [evCode, evRange_eq, hf, Option.bind_none] at hc
    cases hc
  | some v =>
    show _ = rangeK P Q k (asFun v) ps.toList az bd σ H e
    cases hv : asFun v with
    | none =>
      refine propext ⟨?_, fun h => h.elim⟩
      rintro ⟨n, ex, s', hc, _⟩
      simp only [evCode, evRange_eq, hf, hv, Option.bind_some, Option.bind_none] at hc
      cases hc
    | some x =>
      show _ = (hasBody P x.1 = true ∧ _)
      by_cases hb : hasBody P x.1 = true
      · rw [go_range hf hv hb]
        simp [hb]
      · refine propext ⟨?_, fun h => absurd h.1 hb⟩
        rintro ⟨n, ex, s', hc, _⟩
        simp only [evCode, evRange_eq, hf, hv, Option.bind_some, if_neg hb] at hc
        cases hc
theorem rangeK_s {g : FuncId} {a b : List AV} {ps : List Tmp} {az bd : Code} (hb : hasBody P g = true) : rangeK P Q k (some (g, a, b)) ps az bd σ H e = callK P g (a ++ [.yld H.length] ++ b) (H ++ [.loop σ ps az bd .ready]) (rngK P Q k σ H.length e) := by
  show (_ ∧ _) = _
  simp [hb]
def endK (P : Program) (Q : Ex → St → Prop) (k : List It) (x : Option Ex) (s : St) (_ : Ph (Q, k) := ⟨⟩) : Prop :=
  match x with
  | some ex => contQ P Q k ex s
  | none => False
theorem rngK_ap {τ : List AV} {n : Nat} {v : AV} {H' : Hp} {e' : Ef} : rngK P Q k τ n e (v, H', e') = endK P Q k (asEnd (H'[n]?)) ⟨τ, H'.set n .dead, e.and (e'.and ⟨none, some n⟩)⟩ := rfl
theorem endK_n : endK P Q k (some .normal) ⟨σ, H, e⟩ = go P Q k ⟨σ, H, e⟩ := rfl
theorem endK_e {i : Nat} : endK P Q k (some (.exit i)) ⟨σ, H, e⟩ = leaveTo P Q i k ⟨σ, H, e⟩ := rfl
theorem endK_r : endK P Q k (some .ret) ⟨σ, H, e⟩ = Q .ret ⟨σ, H, e⟩ := contQ_ret k _
theorem rdQ_n {b n : Nat} {bd : Code} {kk : AV × Hp × Ef → Prop} : rdQ P b n bd kk .normal ⟨σ, H, e⟩ = bindK (asReady (H[b]?)) fun L => go P (reQ b n kk) [.code bd] ⟨σ, H.set b (.loop L.σ L.ps L.az L.bd .busy), e.and ⟨none, some b⟩⟩ := by
  unfold rdQ
  simp only [true_and]
  cases asReady (H[b]?) <;> rfl
theorem reQ_n {b n : Nat} {kk : AV × Hp × Ef → Prop} : reQ b n kk .normal ⟨σ, H, e⟩ = bindK (asBusy (H[b]?)) fun L => kk (leave n (.bool true) (H.set b (.loop L.σ L.ps L.az L.bd .ready)) (e.and ⟨none, some b⟩)) := by
  unfold reQ
  simp only
  cases asBusy (H[b]?) <;> rfl
theorem reQ_e {b n i : Nat} {kk : AV × Hp × Ef → Prop} : reQ b n kk (.exit i) ⟨σ, H, e⟩ = bindK (asBusy (H[b]?)) fun L => kk (leave n (.bool false) (H.set b (.loop L.σ L.ps L.az L.bd (.done (.exit i)))) (e.and ⟨none, some b⟩)) := by
  unfold reQ
  simp only
  cases asBusy (H[b]?) <;> rfl
theorem reQ_r {b n : Nat} {kk : AV × Hp × Ef → Prop} : reQ b n kk .ret ⟨σ, H, e⟩ = bindK (asBusy (H[b]?)) fun L => kk (leave n (.bool false) (H.set b (.loop L.σ L.ps L.az L.bd (.done .ret))) (e.and ⟨none, some b⟩)) := by
  unfold reQ
  simp only
  cases asBusy (H[b]?) <;> rfl
theorem putAll_nil {az : List AV} : putAll σ [] az = σ := by cases az <;> rfl
theorem putAll_cons {p : Tmp} {ps : List Tmp} {v : AV} {vs : List AV} : putAll σ (p :: ps) (v :: vs) = putAll (σ.set p v) ps vs := rfl
attribute [go_sem ↓] go_rangeK rangeK_s rngK_ap endK_n endK_e endK_r rdQ_n reQ_n reQ_e reQ_r
attribute [go_sem] asFun_s asEnd_n asEnd_d asReady_s asBusy_s putAll_nil putAll_cons

/-- What holds at a round's end. -/
def roundQ (P : Program) (Q : Ex → St → Prop) (k : List It) (I : Nat → St → Prop) (n : Nat) : Ex → St → Prop
  | .normal, s => ∃ m, m < n ∧ I m s
  | .exit i, s => leaveTo P Q i k s
  | ex, s => contQ P Q k ex s
theorem roundQ_n {I : Nat → St → Prop} {n : Nat} : roundQ P Q k I n .normal ⟨σ, H, e⟩ = ∃ m, m < n ∧ I m ⟨σ, H, e⟩ := rfl
theorem roundQ_e {I : Nat → St → Prop} {n i : Nat} : roundQ P Q k I n (.exit i) ⟨σ, H, e⟩ = leaveTo P Q i k ⟨σ, H, e⟩ := rfl
theorem roundQ_r {I : Nat → St → Prop} {n : Nat} : roundQ P Q k I n .ret ⟨σ, H, e⟩ = Q .ret ⟨σ, H, e⟩ := contQ_ret k _
attribute [go_sem ↓] roundQ_n roundQ_e roundQ_r
theorem go_rounds {c : Code} (I : Nat → St → Prop) (n : Nat) {s : St} (h0 : I n s) (round : ∀ n s, I n s → go P (roundQ P Q k I n) [.code c] s) : go P Q (.code (.loop c) :: k) s := by
  refine go_while I n h0 (fun n s hs => ?_)
  have := round n s hs
  refine goCode_mono (Q := roundQ P Q k I n) this (fun ex s hq => ?_)
  cases ex <;> exact hq
end
section
variable {P : Program} {Q : Ex → St → Prop} {k : List It} {σ : List AV} {H : Hp} {e : Ef} {ops : List Oper} {l : List Oper} {kk : AV × Hp × Ef → Prop}

theorem arg_g {g : Nat} (h : decide (g < P.globals.size) = true) : evArg P σ (.global g) = some (.ptr g 0) := by
  simp only [evArg]; rw [if_pos (by simpa using h)]
theorem arg_u {n : Nat} {s : Array Value} : evArg P σ (.const (.agg s)) = absV (.agg s) := rfl
attribute [go_sem] arg_g

/-! operations that were not there -/
theorem k_slData {ts : Array TypeId} {x : Operand} : opK P σ H (.call ⟨.builtin .unsafeSliceData, ⟨[x]⟩, ts⟩) kk = bindK (evArg P σ x) fun v => bindK (evSliceData P v H) fun v => kk (v, H, z0) := by
  show stepK _ _ = _
  simp only [evOp, evCall, evArgs]
  cases evArg P σ x with
  | none => rfl
  | some v => exact stepK_ret
theorem k_string {pt it : TypeId} {x y : Operand} : opK P σ H (.call ⟨.builtin .unsafeString, ⟨[x, y]⟩, ⟨[pt, it]⟩⟩) kk = bindK (evArg P σ x) fun v => bindK (evArg P σ y) fun w => stepK (evString P pt v w H) kk := by
  show stepK _ _ = _
  simp only [evOp, evCall, evArgs]
  cases evArg P σ x with
  | none => rfl
  | some v =>
    cases evArg P σ y with
    | none => rfl
    | some w => rfl
theorem k_cap {t : TypeId} {ts : List TypeId} {x : Operand} : opK P σ H (.call ⟨.builtin .cap, ⟨[x]⟩, ⟨t :: ts⟩⟩) kk = bindK (evArg P σ x) fun v => bindK (evCap P t v) fun v => kk (v, H, z0) := by
  show stepK _ _ = _
  simp only [evOp, evCall, evArgs]
  cases evArg P σ x with
  | none => rfl
  | some v => exact stepK_ret
theorem k_min {ts : Array TypeId} {x y : Operand} : opK P σ H (.call ⟨.builtin .min, ⟨[x, y]⟩, ts⟩) kk = bindK (evArg P σ x) fun v => bindK (evArg P σ y) fun w => bindK (evMin2 v w) fun v => kk (v, H, z0) := by
  show stepK _ _ = _
  simp only [evOp, evCall, evArgs]
  cases evArg P σ x with
  | none => rfl
  | some v =>
    cases evArg P σ y with
    | none => rfl
    | some w => exact stepK_ret
theorem k_max {ts : Array TypeId} {x y : Operand} : opK P σ H (.call ⟨.builtin .max, ⟨[x, y]⟩, ts⟩) kk = bindK (evArg P σ x) fun v => bindK (evArg P σ y) fun w => bindK (evMax2 v w) fun v => kk (v, H, z0) := by
  show stepK _ _ = _
  simp only [evOp, evCall, evArgs]
  cases evArg P σ x with
  | none => rfl
  | some v =>
    cases evArg P σ y with
    | none => rfl
    | some w => exact stepK_ret
attribute [go_sem ↓] k_slData k_string k_cap k_min k_max

/-! numbers -/
theorem i_quo {kd : IntKind} {a b : Int} (h : (b == 0) = false) : evInt .quo kd a b = some (.int kd (kd.wrap (a.tdiv b))) := by
  have : ¬ b = 0 := by simpa using h
  simp [evInt, this]
theorem i_rem {kd : IntKind} {a b : Int} (h : (b == 0) = false) : evInt .rem kd a b = some (.int kd (a.tmod b)) := by
  have : ¬ b = 0 := by simpa using h
  simp [evInt, this]
theorem i_and {kd : IntKind} {a b : Int} : evInt .and kd a b = some (.int kd (kd.wrap (BitVec.ofInt kd.bits a &&& BitVec.ofInt kd.bits b).toNat)) := rfl
theorem i_or {kd : IntKind} {a b : Int} : evInt .or kd a b = some (.int kd (kd.wrap (BitVec.ofInt kd.bits a ||| BitVec.ofInt kd.bits b).toNat)) := rfl
theorem i_shr {kd : IntKind} {a : Int} {n : Nat} : evShift .shr kd a (n : Nat) = some (.int kd (a.fdiv (2 ^ (min n kd.bits)))) := by
  simp only [evShift]; rw [if_neg (by omega)]; simp
theorem i_shl {kd : IntKind} {a : Int} {n : Nat} : evShift .shl kd a (n : Nat) = some (.int kd (kd.wrap (a * 2 ^ (min n kd.bits)))) := by
  simp only [evShift]; rw [if_neg (by omega)]; simp
theorem u_neg {kd : IntKind} {n : Int} : evUn .neg (.int kd n) = some (.int kd (kd.wrap (0 - n))) := rfl
attribute [go_sem] i_quo i_rem u_neg

/-! a text's bytes -/
theorem bind_idx {t : TypeId} {s : List UInt8} {kd : IntKind} {i : Int} {f : AV → Prop} (ht : (match tsh P t with | some .str => true | _ => false) = true) : bindK (evIndex P t (.str s) (.int kd i)) f = (0 ≤ i ∧ bindK (s[i.toNat]?) fun b => f (.int .u8 b.toNat)) := by
  split at ht
  · rename_i he
    simp only [evIndex, he]
    rw [bindK_ite, bindK_map]
  · cases ht
attribute [go_sem ↓] bind_idx

/-! what stands in new memory -/
theorem lg_s {T : Hp} {j : Nat} {v : ABlk} (h : decide (j < T.length) = true) : (T.set j v)[j]? = some v := by
  rw [List.getElem?_set_self (by simpa using h)]
theorem lg_n {T : Hp} {i j : Nat} {v : ABlk} (h : (i == j) = false) : (T.set i v)[j]? = T[j]? := by
  rw [List.getElem?_set_ne (by simpa using h)]
theorem la_l {T l : Hp} {j : Nat} (h : decide (j < T.length) = true) : (T ++ l)[j]? = T[j]? := by
  rw [List.getElem?_append_left (by simpa using h)]
theorem ls_l {T l : Hp} {j : Nat} {v : ABlk} (h : decide (j < T.length) = true) : (T ++ l).set j v = T.set j v ++ l := by
  rw [List.set_append_left _ _ (by simpa using h)]
attribute [go_sem] lg_s lg_n ls_l

/-- Bytes as cells. -/
def u8s (s : List UInt8) : List AV := s.map fun b => .int .u8 b.toNat
theorem u8s_len {s : List UInt8} : (u8s s).length = s.length := by simp [u8s]
theorem u8s_app {s t : List UInt8} : u8s (s ++ t) = u8s s ++ u8s t := by simp [u8s]
theorem u8s_scal : ∀ {s : List UInt8}, (u8s s).all scal = true
  | [] => rfl
  | b :: s => by show (scal _ && (u8s s).all scal) = true; rw [u8s_scal]; rfl
theorem u8s_flat : ∀ {s : List UInt8}, flats (u8s s) = true
  | [] => by simp only [u8s, List.map_nil, flats]
  | b :: s => by
    show flats (_ :: u8s s) = true
    simp only [flats, flat, u8s_flat, Bool.and_self]
theorem u8s_one {b : UInt8} : u8s [b] = [.int .u8 b.toNat] := rfl
theorem bytes_u8s : ∀ (s : List UInt8), evBytes (u8s s) = some s
  | [] => rfl
  | b :: s => by
    show evBytes (.int .u8 b.toNat :: u8s s) = _
    unfold evBytes
    have := b.toNat_lt
    rw [if_pos ⟨by omega, by omega⟩, bytes_u8s s]
    simp
theorem conv_u8s : ∀ (s : List UInt8), evConv.bytesOf (u8s s) = some s
  | [] => rfl
  | b :: s => by
    show evConv.bytesOf (.int .u8 b.toNat :: u8s s) = _
    unfold evConv.bytesOf
    rw [conv_u8s s]
    simp
theorem take_u8s {s : List UInt8} {n : Nat} : (u8s s).take n = u8s (s.take n) := by simp [u8s, List.map_take]
theorem drop_u8s {s : List UInt8} {n : Nat} : (u8s s).drop n = u8s (s.drop n) := by simp [u8s, List.map_drop]
attribute [go_sem] u8s_len u8s_scal u8s_flat

/-! regions whose order is open, with allocations that may stand anywhere -/
def frees : List Oper → Nat → List (Nat × Oper)
  | [], _ => []
  | o :: l, i => if isFree o = true then (i, o) :: frees l (i + 1) else frees l (i + 1)
def others : List Oper → Nat → List (Nat × Oper)
  | [], _ => []
  | o :: l, i => if isFree o = true then others l (i + 1) else (i, o) :: others l (i + 1)
theorem frees_eq : ∀ (l : List Oper) (i : Nat), ((l.zipIdx i).map fun (o, i) => (i, o)).filter (fun p => isFree p.2) = frees l i
  | [], i => rfl
  | o :: l, i => by
    simp only [List.zipIdx_cons, List.map_cons, List.filter_cons, frees, frees_eq l (i + 1)]
theorem others_eq : ∀ (l : List Oper) (i : Nat), ((l.zipIdx i).map fun (o, i) => (i, o)).filter (fun p => !isFree p.2) = others l i
  | [], i => rfl
  | o :: l, i => by
    simp only [List.zipIdx_cons, List.map_cons, List.filter_cons, others, others_eq l (i + 1)]
    cases isFree o <;> rfl
theorem order_y {l : List Oper} : order l = frees l 0 ++ others l 0 := by
  unfold order num
  rw [frees_eq, others_eq]
def goF (P : Program) (ops : List Oper) (K : St → List Nat → Prop) (i : Nat) (l : List Oper) (s : St) (_ : Ph (ops, K, l) := ⟨⟩) : Prop := goD P ops K (frees l i ++ others ops 0) s
def goN (P : Program) (ops : List Oper) (K : St → List Nat → Prop) (i : Nat) (l : List Oper) (s : St) (_ : Ph (ops, K, l) := ⟨⟩) : Prop := goD P ops K (others l i) s
def nextN (P : Program) (ops : List Oper) (K : St → List Nat → Prop) (l : List Oper) (σ : List AV) (H : Hp) (e : Ef) (i : Nat) (dst : Option Tmp) : AV × Hp × Ef → Prop :=
  fun r => goN P ops (fun s es => K s (if quiet r H = true then es else tg i r.2.2 :: es)) (i + 1) l ⟨put σ dst r.1, r.2.1, e.and r.2.2⟩
theorem goN_K {K K' : St → List Nat → Prop} {i : Nat} {s : St} (h : K = K') : goN P ops K i l s = goN P ops K' i l s := by subst h; rfl
theorem nextN_q {K : St → List Nat → Prop} {dst : Option Tmp} {i : Nat} {v : AV} {σ : List AV} : nextN P ops K l σ H e i dst (v, H, z0) = goN P ops K (i + 1) l ⟨put σ dst v, H, e⟩ := by
  show goN P ops (fun s es => K s (if quiet (v, H, z0) H = true then es else tg i z0 :: es)) (i + 1) l ⟨put σ dst v, H, e.and z0⟩ = _
  rw [Ef.and_z0]
  refine goN_K ?_
  funext s es
  rw [quiet_z]; rfl
theorem nextN_w {K : St → List Nat → Prop} {dst : Option Tmp} {i : Nat} {v : AV} {H' : Hp} {e' : Ef} (h : quiet (v, H', e') H = false) : nextN P ops K l σ H e i dst (v, H', e') = goN P ops (fun s es => K s (tg i e' :: es)) (i + 1) l ⟨put σ dst v, H', e.and e'⟩ := by
  refine goN_K ?_
  funext s es
  rw [h]; rfl
theorem quiet_w {v : AV} {H' : Hp} {x : Option Nat} {b : Nat} : quiet (v, H', ⟨x, some b⟩) H = false := by simp [quiet]
theorem goN_nil {K : St → List Nat → Prop} {i : Nat} : goN P ops K i [] ⟨σ, H, e⟩ = K ⟨σ, H, e⟩ [] := goD_nil
theorem goF_nil {K : St → List Nat → Prop} {i : Nat} : goF P ops K i [] ⟨σ, H, e⟩ = goN P ops K 0 ops ⟨σ, H, e⟩ := rfl
theorem free_t {dst : Option Tmp} {t ty : TypeId} {pos : String} : isFree ⟨dst, .alloc t, ty, pos, ⟨[]⟩, none⟩ = true := rfl
theorem goF_free {K : St → List Nat → Prop} {i : Nat} {dst : Option Tmp} {t ty : TypeId} {pos : String} :
    goF P ops K i (⟨dst, .alloc t, ty, pos, ⟨[]⟩, none⟩ :: l) ⟨σ, H, e⟩ = bindK (tzero P t) fun z => goF P ops K (i + 1) l ⟨put σ dst (.ptr H.length 0), H ++ [.cells z t .rw], e⟩ := by
  show goD P ops K (frees (_ :: l) i ++ others ops 0) _ = _
  have : frees (⟨dst, .alloc t, ty, pos, ⟨[]⟩, none⟩ :: l) i = (i, ⟨dst, .alloc t, ty, pos, ⟨[]⟩, none⟩) :: frees l (i + 1) := by simp only [frees, free_t, if_true]
  rw [this, List.cons_append, goD_op, k_alloc]
  refine bindK_ext fun z => ?_
  show goD P ops (fun s es => K s (if isFree ⟨dst, .alloc t, ty, pos, ⟨[]⟩, none⟩ || quiet _ H then es else tg i _ :: es)) _ _ = _
  rw [free_t, Ef.and_z0]
  rfl
theorem goF_skip {K : St → List Nat → Prop} {i : Nat} {o : Oper} (h : isFree o = false) : goF P ops K i (o :: l) ⟨σ, H, e⟩ = goF P ops K (i + 1) l ⟨σ, H, e⟩ := by
  show goD P ops K (frees (o :: l) i ++ others ops 0) _ = _
  have : frees (o :: l) i = frees l (i + 1) := by simp only [frees, h, Bool.false_eq_true, if_false]
  rw [this]; rfl
theorem free_f {o : Oper} (h : notFree o.op = true) : isFree o = false := by
  obtain ⟨d, op, ty, pos, af, g⟩ := o
  cases op <;> first | rfl | cases h
theorem goF_not {K : St → List Nat → Prop} {i : Nat} {dst : Option Tmp} {op : Op} {ty : TypeId} {pos : String} {af : Array Edge} {g : Option (Nat × Bool)} (h : notFree op = true) : goF P ops K i (⟨dst, op, ty, pos, af, g⟩ :: l) ⟨σ, H, e⟩ = goF P ops K (i + 1) l ⟨σ, H, e⟩ :=
  goF_skip (free_f h)
theorem goN_free {K : St → List Nat → Prop} {i : Nat} {dst : Option Tmp} {t ty : TypeId} {pos : String} :
    goN P ops K i (⟨dst, .alloc t, ty, pos, ⟨[]⟩, none⟩ :: l) ⟨σ, H, e⟩ = goN P ops K (i + 1) l ⟨σ, H, e⟩ := by
  show goD P ops K (others (_ :: l) i) _ = _
  have : others (⟨dst, .alloc t, ty, pos, ⟨[]⟩, none⟩ :: l) i = others l (i + 1) := by simp only [others, free_t, if_true]
  rw [this]; rfl
theorem goN_op {K : St → List Nat → Prop} {i : Nat} {dst : Option Tmp} {op : Op} {ty : TypeId} {pos : String} {af : Array Edge} (hf : notFree op = true) :
    goN P ops K i (⟨dst, op, ty, pos, af, none⟩ :: l) ⟨σ, H, e⟩ = opK P σ H op (nextN P ops K l σ H e i dst) := by
  have hfr : isFree ⟨dst, op, ty, pos, af, none⟩ = false := free_f hf
  show goD P ops K (others (_ :: l) i) _ = _
  have : others (⟨dst, op, ty, pos, af, none⟩ :: l) i = (i, ⟨dst, op, ty, pos, af, none⟩) :: others l (i + 1) := by simp only [others, hfr, Bool.false_eq_true, if_false]
  rw [this, goD_op]
  refine opK_k ?_
  funext r
  unfold nextD nextN goN
  rw [hfr]
  rfl
theorem goN_opg {K : St → List Nat → Prop} {i : Nat} {dst : Option Tmp} {op : Op} {ty : TypeId} {pos : String} {af : Array Edge} {j : Nat} {w : Bool} :
    goN P ops K i (⟨dst, op, ty, pos, af, some (j, w)⟩ :: l) ⟨σ, H, e⟩ = guardK (gvalO σ (gdst ops j)) w (opK P σ H op (nextN P ops K l σ H e i dst)) (goN P ops K (i + 1) l ⟨put σ dst undefA, H, e⟩) := by
  have hfr : isFree ⟨dst, op, ty, pos, af, some (j, w)⟩ = false := by cases op <;> simp [isFree]
  have e0 : others (⟨dst, op, ty, pos, af, some (j, w)⟩ :: l) i = (i, ⟨dst, op, ty, pos, af, some (j, w)⟩) :: others l (i + 1) := by simp only [others, hfr, Bool.false_eq_true, if_false]
  show goD P ops K (others (_ :: l) i) _ = guardK _ _ _ (goD P ops K (others l (i + 1)) _)
  rw [e0]
  cases hw : wantedA ops σ ⟨dst, op, ty, pos, af, some (j, w)⟩ with
  | true =>
    rw [goD_want hw]
    have e1 : nextD P ops K (others l (i + 1)) σ H e i ⟨dst, op, ty, pos, af, some (j, w)⟩ = nextN P ops K l σ H e i dst := by
      funext r; unfold nextD nextN goN; rw [hfr]; rfl
    rw [e1]
    unfold wantedA at hw
    simp only at hw
    unfold gvalO gdst
    split at hw
    · rename_i d hd
      rw [hd]
      split at hw
      · rename_i b hb
        unfold fr; simp only [hb, Option.getD_some]; unfold guardK; simp only; rw [if_pos hw]
      · cases hw
    · cases hw
  | false =>
    rw [goD_skip hw]
    unfold wantedA at hw
    simp only at hw
    unfold gvalO gdst
    split at hw
    · rename_i d hd
      rw [hd]
      split at hw
      · rename_i b hb
        unfold fr; simp only [hb, Option.getD_some]; unfold guardK; simp only; rw [if_neg (by rw [hw]; exact Bool.false_ne_true)]
      · rename_i hne
        simp only
        unfold fr guardK
        split
        · rename_i b hb
          cases hd2 : σ[d]? with
          | none => rw [hd2] at hb; cases hb
          | some v => rw [hd2] at hb; simp only [Option.getD_some] at hb; rw [hb] at hd2; exact absurd hd2 (hne b)
        · rfl
    · rename_i hd
      rw [hd]; unfold guardK; rfl
theorem go_drawF {id : Nat} {ops : Array Oper} (hm : P.follows .mixedOrders = true) (hs : statOk ops.toList = true)
    (h : goF P ops.toList (fun s es => effOk P ops.toList es = true ∧ go P Q k s) 0 ops.toList ⟨σ, H, e⟩) : go P Q (.code (.region id ops true) :: k) ⟨σ, H, e⟩ := by
  rw [go_draw hm hs, order_y]
  exact h
attribute [go_sem ↓] nextN_q nextN_w goF_nil goF_free goF_not goN_nil goN_free goN_op goN_opg
attribute [go_sem] quiet_w
/-- Two answers are the same. -/
theorem ret_b {a b : Bool} (h : a = true ↔ b = true) : (AV.bool a, H, z0) = (AV.bool b, H, z0) := by
  rw [Bool.eq_iff_iff.2 h]
theorem lit_nn {n : Nat} : (0 : Int) ≤ (OfNat.ofNat n : Int) := by
  exact Int.natCast_nonneg n
end
attribute [irreducible] guardK condK bindK roundQ endR goZ nextZ goF goN nextN rangeK endK slK
end Go.Proofs.YtgkpgpdkolpfkaaDoor.V
namespace Go.Proofs.YtgkpgpdkolpfkaaDoor.V
open Go
set_option linter.unusedSimpArgs false
set_option linter.unusedVariables false
theorem tFollows : Tryd.prog.follows .mixedOrders = true := by kernel_rfl
attribute [go_sem] tFollows
theorem tsh_0 : tsh Tryd.prog 0 = some .other := by kernel_rfl
theorem tsize_0 : tsize Tryd.prog 0 = some 1 := by kernel_rfl
theorem tagg_0 : tagg Tryd.prog 0 = some false := by kernel_rfl
theorem srcOk_0 : srcOk Tryd.prog 0 = true := by kernel_rfl
theorem tsh_1 : tsh Tryd.prog 1 = some .func := by kernel_rfl
theorem tsize_1 : tsize Tryd.prog 1 = some 1 := by kernel_rfl
theorem tagg_1 : tagg Tryd.prog 1 = some false := by kernel_rfl
theorem tzero_1 : tzero Tryd.prog 1 = some [.nilf] := by kernel_rfl
theorem srcOk_1 : srcOk Tryd.prog 1 = true := by kernel_rfl
theorem tsh_2 : tsh Tryd.prog 2 = some (.int .i64) := by kernel_rfl
theorem tsize_2 : tsize Tryd.prog 2 = some 1 := by kernel_rfl
theorem tagg_2 : tagg Tryd.prog 2 = some false := by kernel_rfl
theorem tzero_2 : tzero Tryd.prog 2 = some [.int .i64 0] := by kernel_rfl
theorem srcOk_2 : srcOk Tryd.prog 2 = false := by kernel_rfl
theorem tsh_3 : tsh Tryd.prog 3 = some (.int .i64) := by kernel_rfl
theorem tsize_3 : tsize Tryd.prog 3 = some 1 := by kernel_rfl
theorem tagg_3 : tagg Tryd.prog 3 = some false := by kernel_rfl
theorem tzero_3 : tzero Tryd.prog 3 = some [.int .i64 0] := by kernel_rfl
theorem srcOk_3 : srcOk Tryd.prog 3 = false := by kernel_rfl
theorem tsh_4 : tsh Tryd.prog 4 = some .bool := by kernel_rfl
theorem tsize_4 : tsize Tryd.prog 4 = some 1 := by kernel_rfl
theorem tagg_4 : tagg Tryd.prog 4 = some false := by kernel_rfl
theorem tzero_4 : tzero Tryd.prog 4 = some [.bool false] := by kernel_rfl
theorem srcOk_4 : srcOk Tryd.prog 4 = true := by kernel_rfl
theorem und_4 : Tryd.prog.underlying 4 = some .bool := by kernel_rfl
theorem tsh_5 : tsh Tryd.prog 5 = some (.int .u8) := by kernel_rfl
theorem tsize_5 : tsize Tryd.prog 5 = some 1 := by kernel_rfl
theorem tagg_5 : tagg Tryd.prog 5 = some false := by kernel_rfl
theorem tzero_5 : tzero Tryd.prog 5 = some [.int .u8 0] := by kernel_rfl
theorem srcOk_5 : srcOk Tryd.prog 5 = false := by kernel_rfl
theorem tsh_6 : tsh Tryd.prog 6 = some (.int .u8) := by kernel_rfl
theorem tsize_6 : tsize Tryd.prog 6 = some 1 := by kernel_rfl
theorem tagg_6 : tagg Tryd.prog 6 = some false := by kernel_rfl
theorem tzero_6 : tzero Tryd.prog 6 = some [.int .u8 0] := by kernel_rfl
theorem srcOk_6 : srcOk Tryd.prog 6 = false := by kernel_rfl
theorem tsh_7 : tsh Tryd.prog 7 = some .struct := by kernel_rfl
theorem tsize_7 : tsize Tryd.prog 7 = some 4 := by kernel_rfl
theorem tagg_7 : tagg Tryd.prog 7 = some true := by kernel_rfl
theorem tzero_7 : tzero Tryd.prog 7 = some [.int .i64 0, .int .i64 0, .bool false, .int .u8 0] := by kernel_rfl
theorem tplaces_7 : tplaces Tryd.prog 7 = some [(0, 1), (1, 1), (2, 1), (3, 1)] := by kernel_rfl
theorem srcOk_7 : srcOk Tryd.prog 7 = true := by kernel_rfl
theorem eqg_7 : Tryd.prog.eqGuardType Tryd.prog.depth 7 = false := by kernel_rfl
theorem tfield_7_0 : tfield Tryd.prog 7 0 = some (0, 1, false) := by kernel_rfl
theorem tfield_7_1 : tfield Tryd.prog 7 1 = some (1, 1, false) := by kernel_rfl
theorem tfield_7_2 : tfield Tryd.prog 7 2 = some (2, 1, false) := by kernel_rfl
theorem tfield_7_3 : tfield Tryd.prog 7 3 = some (3, 1, false) := by kernel_rfl
theorem tsh_8 : tsh Tryd.prog 8 = some .struct := by kernel_rfl
theorem tsize_8 : tsize Tryd.prog 8 = some 4 := by kernel_rfl
theorem tagg_8 : tagg Tryd.prog 8 = some true := by kernel_rfl
theorem tzero_8 : tzero Tryd.prog 8 = some [.int .i64 0, .int .i64 0, .bool false, .int .u8 0] := by kernel_rfl
theorem tplaces_8 : tplaces Tryd.prog 8 = some [(0, 1), (1, 1), (2, 1), (3, 1)] := by kernel_rfl
theorem srcOk_8 : srcOk Tryd.prog 8 = true := by kernel_rfl
theorem eqg_8 : Tryd.prog.eqGuardType Tryd.prog.depth 8 = false := by kernel_rfl
theorem tfield_8_0 : tfield Tryd.prog 8 0 = some (0, 1, false) := by kernel_rfl
theorem tfield_8_1 : tfield Tryd.prog 8 1 = some (1, 1, false) := by kernel_rfl
theorem tfield_8_2 : tfield Tryd.prog 8 2 = some (2, 1, false) := by kernel_rfl
theorem tfield_8_3 : tfield Tryd.prog 8 3 = some (3, 1, false) := by kernel_rfl
theorem tsh_9 : tsh Tryd.prog 9 = some .str := by kernel_rfl
theorem tsize_9 : tsize Tryd.prog 9 = some 1 := by kernel_rfl
theorem tagg_9 : tagg Tryd.prog 9 = some false := by kernel_rfl
theorem tzero_9 : tzero Tryd.prog 9 = some [.str []] := by kernel_rfl
theorem srcOk_9 : srcOk Tryd.prog 9 = true := by kernel_rfl
theorem tsh_10 : tsh Tryd.prog 10 = some .str := by kernel_rfl
theorem tsize_10 : tsize Tryd.prog 10 = some 1 := by kernel_rfl
theorem tagg_10 : tagg Tryd.prog 10 = some false := by kernel_rfl
theorem tzero_10 : tzero Tryd.prog 10 = some [.str []] := by kernel_rfl
theorem srcOk_10 : srcOk Tryd.prog 10 = true := by kernel_rfl
theorem tsh_11 : tsh Tryd.prog 11 = some .str := by kernel_rfl
theorem tsize_11 : tsize Tryd.prog 11 = some 1 := by kernel_rfl
theorem tagg_11 : tagg Tryd.prog 11 = some false := by kernel_rfl
theorem tzero_11 : tzero Tryd.prog 11 = some [.str []] := by kernel_rfl
theorem srcOk_11 : srcOk Tryd.prog 11 = true := by kernel_rfl
theorem tsh_12 : tsh Tryd.prog 12 = some (.int .u64) := by kernel_rfl
theorem tsize_12 : tsize Tryd.prog 12 = some 1 := by kernel_rfl
theorem tagg_12 : tagg Tryd.prog 12 = some false := by kernel_rfl
theorem tzero_12 : tzero Tryd.prog 12 = some [.int .u64 0] := by kernel_rfl
theorem srcOk_12 : srcOk Tryd.prog 12 = false := by kernel_rfl
theorem tsh_13 : tsh Tryd.prog 13 = some .struct := by kernel_rfl
theorem tsize_13 : tsize Tryd.prog 13 = some 2 := by kernel_rfl
theorem tagg_13 : tagg Tryd.prog 13 = some true := by kernel_rfl
theorem tzero_13 : tzero Tryd.prog 13 = some [.str [], .int .u64 0] := by kernel_rfl
theorem tplaces_13 : tplaces Tryd.prog 13 = some [(0, 1), (1, 1)] := by kernel_rfl
theorem srcOk_13 : srcOk Tryd.prog 13 = true := by kernel_rfl
theorem eqg_13 : Tryd.prog.eqGuardType Tryd.prog.depth 13 = false := by kernel_rfl
theorem tfield_13_0 : tfield Tryd.prog 13 0 = some (0, 1, false) := by kernel_rfl
theorem tfield_13_1 : tfield Tryd.prog 13 1 = some (1, 1, false) := by kernel_rfl
theorem tsh_14 : tsh Tryd.prog 14 = some .struct := by kernel_rfl
theorem tsize_14 : tsize Tryd.prog 14 = some 2 := by kernel_rfl
theorem tagg_14 : tagg Tryd.prog 14 = some true := by kernel_rfl
theorem tzero_14 : tzero Tryd.prog 14 = some [.str [], .int .u64 0] := by kernel_rfl
theorem tplaces_14 : tplaces Tryd.prog 14 = some [(0, 1), (1, 1)] := by kernel_rfl
theorem srcOk_14 : srcOk Tryd.prog 14 = true := by kernel_rfl
theorem eqg_14 : Tryd.prog.eqGuardType Tryd.prog.depth 14 = false := by kernel_rfl
theorem tfield_14_0 : tfield Tryd.prog 14 0 = some (0, 1, false) := by kernel_rfl
theorem tfield_14_1 : tfield Tryd.prog 14 1 = some (1, 1, false) := by kernel_rfl
theorem tsh_15 : tsh Tryd.prog 15 = some (.ptr 178) := by kernel_rfl
theorem tsize_15 : tsize Tryd.prog 15 = some 1 := by kernel_rfl
theorem tagg_15 : tagg Tryd.prog 15 = some false := by kernel_rfl
theorem tzero_15 : tzero Tryd.prog 15 = some [.nilp] := by kernel_rfl
theorem srcOk_15 : srcOk Tryd.prog 15 = true := by kernel_rfl
theorem tsh_16 : tsh Tryd.prog 16 = some (.ptr 181) := by kernel_rfl
theorem tsize_16 : tsize Tryd.prog 16 = some 1 := by kernel_rfl
theorem tagg_16 : tagg Tryd.prog 16 = some false := by kernel_rfl
theorem tzero_16 : tzero Tryd.prog 16 = some [.nilp] := by kernel_rfl
theorem srcOk_16 : srcOk Tryd.prog 16 = true := by kernel_rfl
theorem tsh_17 : tsh Tryd.prog 17 = some (.ptr 188) := by kernel_rfl
theorem tsize_17 : tsize Tryd.prog 17 = some 1 := by kernel_rfl
theorem tagg_17 : tagg Tryd.prog 17 = some false := by kernel_rfl
theorem tzero_17 : tzero Tryd.prog 17 = some [.nilp] := by kernel_rfl
theorem srcOk_17 : srcOk Tryd.prog 17 = true := by kernel_rfl
theorem tsh_18 : tsh Tryd.prog 18 = some .struct := by kernel_rfl
theorem tsize_18 : tsize Tryd.prog 18 = some 1 := by kernel_rfl
theorem tagg_18 : tagg Tryd.prog 18 = some true := by kernel_rfl
theorem tzero_18 : tzero Tryd.prog 18 = some [.nilp] := by kernel_rfl
theorem tplaces_18 : tplaces Tryd.prog 18 = some [(0, 1)] := by kernel_rfl
theorem srcOk_18 : srcOk Tryd.prog 18 = true := by kernel_rfl
theorem eqg_18 : Tryd.prog.eqGuardType Tryd.prog.depth 18 = false := by kernel_rfl
theorem tfield_18_0 : tfield Tryd.prog 18 0 = some (0, 1, false) := by kernel_rfl
theorem tsh_19 : tsh Tryd.prog 19 = some .struct := by kernel_rfl
theorem tsize_19 : tsize Tryd.prog 19 = some 1 := by kernel_rfl
theorem tagg_19 : tagg Tryd.prog 19 = some true := by kernel_rfl
theorem tzero_19 : tzero Tryd.prog 19 = some [.nilp] := by kernel_rfl
theorem tplaces_19 : tplaces Tryd.prog 19 = some [(0, 1)] := by kernel_rfl
theorem srcOk_19 : srcOk Tryd.prog 19 = true := by kernel_rfl
theorem eqg_19 : Tryd.prog.eqGuardType Tryd.prog.depth 19 = false := by kernel_rfl
theorem tfield_19_0 : tfield Tryd.prog 19 0 = some (0, 1, false) := by kernel_rfl
theorem tsh_20 : tsh Tryd.prog 20 = some .iface := by kernel_rfl
theorem tsize_20 : tsize Tryd.prog 20 = some 1 := by kernel_rfl
theorem tagg_20 : tagg Tryd.prog 20 = some false := by kernel_rfl
theorem tzero_20 : tzero Tryd.prog 20 = some [.nili] := by kernel_rfl
theorem srcOk_20 : srcOk Tryd.prog 20 = true := by kernel_rfl
theorem tsh_21 : tsh Tryd.prog 21 = some (.int .i32) := by kernel_rfl
theorem tsize_21 : tsize Tryd.prog 21 = some 1 := by kernel_rfl
theorem tagg_21 : tagg Tryd.prog 21 = some false := by kernel_rfl
theorem tzero_21 : tzero Tryd.prog 21 = some [.int .i32 0] := by kernel_rfl
theorem srcOk_21 : srcOk Tryd.prog 21 = false := by kernel_rfl
theorem tsh_22 : tsh Tryd.prog 22 = some (.slice 39 10 88) := by kernel_rfl
theorem tsize_22 : tsize Tryd.prog 22 = some 1 := by kernel_rfl
theorem tagg_22 : tagg Tryd.prog 22 = some false := by kernel_rfl
theorem tzero_22 : tzero Tryd.prog 22 = some [.nils] := by kernel_rfl
theorem srcOk_22 : srcOk Tryd.prog 22 = true := by kernel_rfl
theorem zok_22 : zok Tryd.prog 39 10 = true := by kernel_rfl
theorem tsh_23 : tsh Tryd.prog 23 = some .func := by kernel_rfl
theorem tsize_23 : tsize Tryd.prog 23 = some 1 := by kernel_rfl
theorem tagg_23 : tagg Tryd.prog 23 = some false := by kernel_rfl
theorem tzero_23 : tzero Tryd.prog 23 = some [.nilf] := by kernel_rfl
theorem srcOk_23 : srcOk Tryd.prog 23 = true := by kernel_rfl
theorem tsh_24 : tsh Tryd.prog 24 = some (.ptr 59) := by kernel_rfl
theorem tsize_24 : tsize Tryd.prog 24 = some 1 := by kernel_rfl
theorem tagg_24 : tagg Tryd.prog 24 = some false := by kernel_rfl
theorem tzero_24 : tzero Tryd.prog 24 = some [.nilp] := by kernel_rfl
theorem srcOk_24 : srcOk Tryd.prog 24 = true := by kernel_rfl
theorem tsh_25 : tsh Tryd.prog 25 = some .func := by kernel_rfl
theorem tsize_25 : tsize Tryd.prog 25 = some 1 := by kernel_rfl
theorem tagg_25 : tagg Tryd.prog 25 = some false := by kernel_rfl
theorem tzero_25 : tzero Tryd.prog 25 = some [.nilf] := by kernel_rfl
theorem srcOk_25 : srcOk Tryd.prog 25 = true := by kernel_rfl
theorem tsh_26 : tsh Tryd.prog 26 = some (.ptr 30) := by kernel_rfl
theorem tsize_26 : tsize Tryd.prog 26 = some 1 := by kernel_rfl
theorem tagg_26 : tagg Tryd.prog 26 = some false := by kernel_rfl
theorem tzero_26 : tzero Tryd.prog 26 = some [.nilp] := by kernel_rfl
theorem srcOk_26 : srcOk Tryd.prog 26 = true := by kernel_rfl
theorem tsh_27 : tsh Tryd.prog 27 = some (.slice 33 1 16) := by kernel_rfl
theorem tsize_27 : tsize Tryd.prog 27 = some 1 := by kernel_rfl
theorem tagg_27 : tagg Tryd.prog 27 = some false := by kernel_rfl
theorem tzero_27 : tzero Tryd.prog 27 = some [.nils] := by kernel_rfl
theorem srcOk_27 : srcOk Tryd.prog 27 = true := by kernel_rfl
theorem zok_27 : zok Tryd.prog 33 1 = true := by kernel_rfl
theorem tsh_28 : tsh Tryd.prog 28 = some (.slice 3 1 8) := by kernel_rfl
theorem tsize_28 : tsize Tryd.prog 28 = some 1 := by kernel_rfl
theorem tagg_28 : tagg Tryd.prog 28 = some false := by kernel_rfl
theorem tzero_28 : tzero Tryd.prog 28 = some [.nils] := by kernel_rfl
theorem srcOk_28 : srcOk Tryd.prog 28 = true := by kernel_rfl
theorem zok_28 : zok Tryd.prog 3 1 = true := by kernel_rfl
theorem tsh_29 : tsh Tryd.prog 29 = some .struct := by kernel_rfl
theorem tsize_29 : tsize Tryd.prog 29 = some 2 := by kernel_rfl
theorem tagg_29 : tagg Tryd.prog 29 = some true := by kernel_rfl
theorem tzero_29 : tzero Tryd.prog 29 = some [.nils, .nils] := by kernel_rfl
theorem tplaces_29 : tplaces Tryd.prog 29 = some [(0, 1), (1, 1)] := by kernel_rfl
theorem srcOk_29 : srcOk Tryd.prog 29 = true := by kernel_rfl
theorem eqg_29 : Tryd.prog.eqGuardType Tryd.prog.depth 29 = false := by kernel_rfl
theorem tfield_29_0 : tfield Tryd.prog 29 0 = some (0, 1, false) := by kernel_rfl
theorem tfield_29_1 : tfield Tryd.prog 29 1 = some (1, 1, false) := by kernel_rfl
theorem tsh_30 : tsh Tryd.prog 30 = some .struct := by kernel_rfl
theorem tsize_30 : tsize Tryd.prog 30 = some 2 := by kernel_rfl
theorem tagg_30 : tagg Tryd.prog 30 = some true := by kernel_rfl
theorem tzero_30 : tzero Tryd.prog 30 = some [.nils, .nils] := by kernel_rfl
theorem tplaces_30 : tplaces Tryd.prog 30 = some [(0, 1), (1, 1)] := by kernel_rfl
theorem srcOk_30 : srcOk Tryd.prog 30 = true := by kernel_rfl
theorem eqg_30 : Tryd.prog.eqGuardType Tryd.prog.depth 30 = false := by kernel_rfl
theorem tfield_30_0 : tfield Tryd.prog 30 0 = some (0, 1, false) := by kernel_rfl
theorem tfield_30_1 : tfield Tryd.prog 30 1 = some (1, 1, false) := by kernel_rfl
theorem tsh_31 : tsh Tryd.prog 31 = some (.slice 5 1 1) := by kernel_rfl
theorem tsize_31 : tsize Tryd.prog 31 = some 1 := by kernel_rfl
theorem tagg_31 : tagg Tryd.prog 31 = some false := by kernel_rfl
theorem tzero_31 : tzero Tryd.prog 31 = some [.nils] := by kernel_rfl
theorem srcOk_31 : srcOk Tryd.prog 31 = true := by kernel_rfl
theorem zok_31 : zok Tryd.prog 5 1 = true := by kernel_rfl
theorem tsh_32 : tsh Tryd.prog 32 = some (.int .u16) := by kernel_rfl
theorem tsize_32 : tsize Tryd.prog 32 = some 1 := by kernel_rfl
theorem tagg_32 : tagg Tryd.prog 32 = some false := by kernel_rfl
theorem tzero_32 : tzero Tryd.prog 32 = some [.int .u16 0] := by kernel_rfl
theorem srcOk_32 : srcOk Tryd.prog 32 = false := by kernel_rfl
theorem tsh_33 : tsh Tryd.prog 33 = some .str := by kernel_rfl
theorem tsize_33 : tsize Tryd.prog 33 = some 1 := by kernel_rfl
theorem tagg_33 : tagg Tryd.prog 33 = some false := by kernel_rfl
theorem tzero_33 : tzero Tryd.prog 33 = some [.str []] := by kernel_rfl
theorem srcOk_33 : srcOk Tryd.prog 33 = true := by kernel_rfl
theorem tsh_34 : tsh Tryd.prog 34 = some (.int .u32) := by kernel_rfl
theorem tsize_34 : tsize Tryd.prog 34 = some 1 := by kernel_rfl
theorem tagg_34 : tagg Tryd.prog 34 = some false := by kernel_rfl
theorem tzero_34 : tzero Tryd.prog 34 = some [.int .u32 0] := by kernel_rfl
theorem srcOk_34 : srcOk Tryd.prog 34 = false := by kernel_rfl
theorem tsh_35 : tsh Tryd.prog 35 = some (.array 5 34 1) := by kernel_rfl
theorem tsize_35 : tsize Tryd.prog 35 = some 5 := by kernel_rfl
theorem tagg_35 : tagg Tryd.prog 35 = some true := by kernel_rfl
theorem tzero_35 : tzero Tryd.prog 35 = some [.int .u32 0, .int .u32 0, .int .u32 0, .int .u32 0, .int .u32 0] := by kernel_rfl
theorem srcOk_35 : srcOk Tryd.prog 35 = true := by kernel_rfl
theorem tsh_36 : tsh Tryd.prog 36 = some .struct := by kernel_rfl
theorem tsize_36 : tsize Tryd.prog 36 = some 8 := by kernel_rfl
theorem tagg_36 : tagg Tryd.prog 36 = some true := by kernel_rfl
theorem tzero_36 : tzero Tryd.prog 36 = some [.str [], .str [], .str [], .int .u32 0, .int .u32 0, .int .u32 0, .int .u32 0, .int .u32 0] := by kernel_rfl
theorem tplaces_36 : tplaces Tryd.prog 36 = some [(0, 1), (1, 1), (2, 1), (3, 5)] := by kernel_rfl
theorem srcOk_36 : srcOk Tryd.prog 36 = true := by kernel_rfl
theorem eqg_36 : Tryd.prog.eqGuardType Tryd.prog.depth 36 = false := by kernel_rfl
theorem tfield_36_0 : tfield Tryd.prog 36 0 = some (0, 1, false) := by kernel_rfl
theorem tfield_36_1 : tfield Tryd.prog 36 1 = some (1, 1, false) := by kernel_rfl
theorem tfield_36_2 : tfield Tryd.prog 36 2 = some (2, 1, false) := by kernel_rfl
theorem tfield_36_3 : tfield Tryd.prog 36 3 = some (3, 5, true) := by kernel_rfl
theorem tsh_37 : tsh Tryd.prog 37 = some .struct := by kernel_rfl
theorem tsize_37 : tsize Tryd.prog 37 = some 8 := by kernel_rfl
theorem tagg_37 : tagg Tryd.prog 37 = some true := by kernel_rfl
theorem tzero_37 : tzero Tryd.prog 37 = some [.str [], .str [], .str [], .int .u32 0, .int .u32 0, .int .u32 0, .int .u32 0, .int .u32 0] := by kernel_rfl
theorem tplaces_37 : tplaces Tryd.prog 37 = some [(0, 1), (1, 1), (2, 1), (3, 5)] := by kernel_rfl
theorem srcOk_37 : srcOk Tryd.prog 37 = true := by kernel_rfl
theorem eqg_37 : Tryd.prog.eqGuardType Tryd.prog.depth 37 = false := by kernel_rfl
theorem tfield_37_0 : tfield Tryd.prog 37 0 = some (0, 1, false) := by kernel_rfl
theorem tfield_37_1 : tfield Tryd.prog 37 1 = some (1, 1, false) := by kernel_rfl
theorem tfield_37_2 : tfield Tryd.prog 37 2 = some (2, 1, false) := by kernel_rfl
theorem tfield_37_3 : tfield Tryd.prog 37 3 = some (3, 5, true) := by kernel_rfl
theorem tsh_38 : tsh Tryd.prog 38 = some .struct := by kernel_rfl
theorem tsize_38 : tsize Tryd.prog 38 = some 10 := by kernel_rfl
theorem tagg_38 : tagg Tryd.prog 38 = some true := by kernel_rfl
theorem tzero_38 : tzero Tryd.prog 38 = some [.int .i64 0, .int .u16 0, .str [], .str [], .str [], .int .u32 0, .int .u32 0, .int .u32 0, .int .u32 0, .int .u32 0] := by kernel_rfl
theorem tplaces_38 : tplaces Tryd.prog 38 = some [(0, 1), (1, 1), (2, 8)] := by kernel_rfl
theorem srcOk_38 : srcOk Tryd.prog 38 = true := by kernel_rfl
theorem eqg_38 : Tryd.prog.eqGuardType Tryd.prog.depth 38 = false := by kernel_rfl
theorem tfield_38_0 : tfield Tryd.prog 38 0 = some (0, 1, false) := by kernel_rfl
theorem tfield_38_1 : tfield Tryd.prog 38 1 = some (1, 1, false) := by kernel_rfl
theorem tfield_38_2 : tfield Tryd.prog 38 2 = some (2, 8, true) := by kernel_rfl
theorem tsh_39 : tsh Tryd.prog 39 = some .struct := by kernel_rfl
theorem tsize_39 : tsize Tryd.prog 39 = some 10 := by kernel_rfl
theorem tagg_39 : tagg Tryd.prog 39 = some true := by kernel_rfl
theorem tzero_39 : tzero Tryd.prog 39 = some [.int .i64 0, .int .u16 0, .str [], .str [], .str [], .int .u32 0, .int .u32 0, .int .u32 0, .int .u32 0, .int .u32 0] := by kernel_rfl
theorem tplaces_39 : tplaces Tryd.prog 39 = some [(0, 1), (1, 1), (2, 8)] := by kernel_rfl
theorem srcOk_39 : srcOk Tryd.prog 39 = true := by kernel_rfl
theorem eqg_39 : Tryd.prog.eqGuardType Tryd.prog.depth 39 = false := by kernel_rfl
theorem tfield_39_0 : tfield Tryd.prog 39 0 = some (0, 1, false) := by kernel_rfl
theorem tfield_39_1 : tfield Tryd.prog 39 1 = some (1, 1, false) := by kernel_rfl
theorem tfield_39_2 : tfield Tryd.prog 39 2 = some (2, 8, true) := by kernel_rfl
theorem tsh_40 : tsh Tryd.prog 40 = some (.int .i64) := by kernel_rfl
theorem tsize_40 : tsize Tryd.prog 40 = some 1 := by kernel_rfl
theorem tagg_40 : tagg Tryd.prog 40 = some false := by kernel_rfl
theorem tzero_40 : tzero Tryd.prog 40 = some [.int .i64 0] := by kernel_rfl
theorem srcOk_40 : srcOk Tryd.prog 40 = false := by kernel_rfl
theorem tsh_41 : tsh Tryd.prog 41 = some .other := by kernel_rfl
theorem tsize_41 : tsize Tryd.prog 41 = some 1 := by kernel_rfl
theorem tagg_41 : tagg Tryd.prog 41 = some false := by kernel_rfl
theorem srcOk_41 : srcOk Tryd.prog 41 = true := by kernel_rfl
theorem tsh_42 : tsh Tryd.prog 42 = some .func := by kernel_rfl
theorem tsize_42 : tsize Tryd.prog 42 = some 1 := by kernel_rfl
theorem tagg_42 : tagg Tryd.prog 42 = some false := by kernel_rfl
theorem tzero_42 : tzero Tryd.prog 42 = some [.nilf] := by kernel_rfl
theorem srcOk_42 : srcOk Tryd.prog 42 = true := by kernel_rfl
theorem tsh_43 : tsh Tryd.prog 43 = some .func := by kernel_rfl
theorem tsize_43 : tsize Tryd.prog 43 = some 1 := by kernel_rfl
theorem tagg_43 : tagg Tryd.prog 43 = some false := by kernel_rfl
theorem tzero_43 : tzero Tryd.prog 43 = some [.nilf] := by kernel_rfl
theorem srcOk_43 : srcOk Tryd.prog 43 = true := by kernel_rfl
theorem tsh_44 : tsh Tryd.prog 44 = some .func := by kernel_rfl
theorem tsize_44 : tsize Tryd.prog 44 = some 1 := by kernel_rfl
theorem tagg_44 : tagg Tryd.prog 44 = some false := by kernel_rfl
theorem tzero_44 : tzero Tryd.prog 44 = some [.nilf] := by kernel_rfl
theorem srcOk_44 : srcOk Tryd.prog 44 = true := by kernel_rfl
theorem tsh_45 : tsh Tryd.prog 45 = some .other := by kernel_rfl
theorem tsize_45 : tsize Tryd.prog 45 = some 1 := by kernel_rfl
theorem tagg_45 : tagg Tryd.prog 45 = some false := by kernel_rfl
theorem srcOk_45 : srcOk Tryd.prog 45 = true := by kernel_rfl
theorem tsh_46 : tsh Tryd.prog 46 = some .func := by kernel_rfl
theorem tsize_46 : tsize Tryd.prog 46 = some 1 := by kernel_rfl
theorem tagg_46 : tagg Tryd.prog 46 = some false := by kernel_rfl
theorem tzero_46 : tzero Tryd.prog 46 = some [.nilf] := by kernel_rfl
theorem srcOk_46 : srcOk Tryd.prog 46 = true := by kernel_rfl
theorem tsh_47 : tsh Tryd.prog 47 = some .func := by kernel_rfl
theorem tsize_47 : tsize Tryd.prog 47 = some 1 := by kernel_rfl
theorem tagg_47 : tagg Tryd.prog 47 = some false := by kernel_rfl
theorem tzero_47 : tzero Tryd.prog 47 = some [.nilf] := by kernel_rfl
theorem srcOk_47 : srcOk Tryd.prog 47 = true := by kernel_rfl
theorem tsh_48 : tsh Tryd.prog 48 = some .func := by kernel_rfl
theorem tsize_48 : tsize Tryd.prog 48 = some 1 := by kernel_rfl
theorem tagg_48 : tagg Tryd.prog 48 = some false := by kernel_rfl
theorem tzero_48 : tzero Tryd.prog 48 = some [.nilf] := by kernel_rfl
theorem srcOk_48 : srcOk Tryd.prog 48 = true := by kernel_rfl
theorem tsh_49 : tsh Tryd.prog 49 = some .func := by kernel_rfl
theorem tsize_49 : tsize Tryd.prog 49 = some 1 := by kernel_rfl
theorem tagg_49 : tagg Tryd.prog 49 = some false := by kernel_rfl
theorem tzero_49 : tzero Tryd.prog 49 = some [.nilf] := by kernel_rfl
theorem srcOk_49 : srcOk Tryd.prog 49 = true := by kernel_rfl
theorem tsh_50 : tsh Tryd.prog 50 = some .other := by kernel_rfl
theorem tsize_50 : tsize Tryd.prog 50 = some 1 := by kernel_rfl
theorem tagg_50 : tagg Tryd.prog 50 = some false := by kernel_rfl
theorem srcOk_50 : srcOk Tryd.prog 50 = true := by kernel_rfl
theorem tsh_51 : tsh Tryd.prog 51 = some .func := by kernel_rfl
theorem tsize_51 : tsize Tryd.prog 51 = some 1 := by kernel_rfl
theorem tagg_51 : tagg Tryd.prog 51 = some false := by kernel_rfl
theorem tzero_51 : tzero Tryd.prog 51 = some [.nilf] := by kernel_rfl
theorem srcOk_51 : srcOk Tryd.prog 51 = true := by kernel_rfl
theorem tsh_52 : tsh Tryd.prog 52 = some .func := by kernel_rfl
theorem tsize_52 : tsize Tryd.prog 52 = some 1 := by kernel_rfl
theorem tagg_52 : tagg Tryd.prog 52 = some false := by kernel_rfl
theorem tzero_52 : tzero Tryd.prog 52 = some [.nilf] := by kernel_rfl
theorem srcOk_52 : srcOk Tryd.prog 52 = true := by kernel_rfl
theorem tsh_53 : tsh Tryd.prog 53 = some .other := by kernel_rfl
theorem tsize_53 : tsize Tryd.prog 53 = some 1 := by kernel_rfl
theorem tagg_53 : tagg Tryd.prog 53 = some false := by kernel_rfl
theorem srcOk_53 : srcOk Tryd.prog 53 = true := by kernel_rfl
theorem tsh_54 : tsh Tryd.prog 54 = some .func := by kernel_rfl
theorem tsize_54 : tsize Tryd.prog 54 = some 1 := by kernel_rfl
theorem tagg_54 : tagg Tryd.prog 54 = some false := by kernel_rfl
theorem tzero_54 : tzero Tryd.prog 54 = some [.nilf] := by kernel_rfl
theorem srcOk_54 : srcOk Tryd.prog 54 = true := by kernel_rfl
theorem tsh_55 : tsh Tryd.prog 55 = some .func := by kernel_rfl
theorem tsize_55 : tsize Tryd.prog 55 = some 1 := by kernel_rfl
theorem tagg_55 : tagg Tryd.prog 55 = some false := by kernel_rfl
theorem tzero_55 : tzero Tryd.prog 55 = some [.nilf] := by kernel_rfl
theorem srcOk_55 : srcOk Tryd.prog 55 = true := by kernel_rfl
theorem tsh_56 : tsh Tryd.prog 56 = some .func := by kernel_rfl
theorem tsize_56 : tsize Tryd.prog 56 = some 1 := by kernel_rfl
theorem tagg_56 : tagg Tryd.prog 56 = some false := by kernel_rfl
theorem tzero_56 : tzero Tryd.prog 56 = some [.nilf] := by kernel_rfl
theorem srcOk_56 : srcOk Tryd.prog 56 = true := by kernel_rfl
theorem tsh_57 : tsh Tryd.prog 57 = some (.map 33 3) := by kernel_rfl
theorem tsize_57 : tsize Tryd.prog 57 = some 1 := by kernel_rfl
theorem tagg_57 : tagg Tryd.prog 57 = some false := by kernel_rfl
theorem tzero_57 : tzero Tryd.prog 57 = some [.nilm] := by kernel_rfl
theorem srcOk_57 : srcOk Tryd.prog 57 = true := by kernel_rfl
theorem tsh_58 : tsh Tryd.prog 58 = some .struct := by kernel_rfl
theorem tsize_58 : tsize Tryd.prog 58 = some 1 := by kernel_rfl
theorem tagg_58 : tagg Tryd.prog 58 = some true := by kernel_rfl
theorem tzero_58 : tzero Tryd.prog 58 = some [.nilm] := by kernel_rfl
theorem tplaces_58 : tplaces Tryd.prog 58 = some [(0, 1)] := by kernel_rfl
theorem srcOk_58 : srcOk Tryd.prog 58 = true := by kernel_rfl
theorem eqg_58 : Tryd.prog.eqGuardType Tryd.prog.depth 58 = false := by kernel_rfl
theorem tfield_58_0 : tfield Tryd.prog 58 0 = some (0, 1, false) := by kernel_rfl
theorem tsh_59 : tsh Tryd.prog 59 = some .struct := by kernel_rfl
theorem tsize_59 : tsize Tryd.prog 59 = some 1 := by kernel_rfl
theorem tagg_59 : tagg Tryd.prog 59 = some true := by kernel_rfl
theorem tzero_59 : tzero Tryd.prog 59 = some [.nilm] := by kernel_rfl
theorem tplaces_59 : tplaces Tryd.prog 59 = some [(0, 1)] := by kernel_rfl
theorem srcOk_59 : srcOk Tryd.prog 59 = true := by kernel_rfl
theorem eqg_59 : Tryd.prog.eqGuardType Tryd.prog.depth 59 = false := by kernel_rfl
theorem tfield_59_0 : tfield Tryd.prog 59 0 = some (0, 1, false) := by kernel_rfl
theorem tsh_60 : tsh Tryd.prog 60 = some .func := by kernel_rfl
theorem tsize_60 : tsize Tryd.prog 60 = some 1 := by kernel_rfl
theorem tagg_60 : tagg Tryd.prog 60 = some false := by kernel_rfl
theorem tzero_60 : tzero Tryd.prog 60 = some [.nilf] := by kernel_rfl
theorem srcOk_60 : srcOk Tryd.prog 60 = true := by kernel_rfl
theorem tsh_61 : tsh Tryd.prog 61 = some .func := by kernel_rfl
theorem tsize_61 : tsize Tryd.prog 61 = some 1 := by kernel_rfl
theorem tagg_61 : tagg Tryd.prog 61 = some false := by kernel_rfl
theorem tzero_61 : tzero Tryd.prog 61 = some [.nilf] := by kernel_rfl
theorem srcOk_61 : srcOk Tryd.prog 61 = true := by kernel_rfl
theorem tsh_62 : tsh Tryd.prog 62 = some .func := by kernel_rfl
theorem tsize_62 : tsize Tryd.prog 62 = some 1 := by kernel_rfl
theorem tagg_62 : tagg Tryd.prog 62 = some false := by kernel_rfl
theorem tzero_62 : tzero Tryd.prog 62 = some [.nilf] := by kernel_rfl
theorem srcOk_62 : srcOk Tryd.prog 62 = true := by kernel_rfl
theorem tsh_63 : tsh Tryd.prog 63 = some .func := by kernel_rfl
theorem tsize_63 : tsize Tryd.prog 63 = some 1 := by kernel_rfl
theorem tagg_63 : tagg Tryd.prog 63 = some false := by kernel_rfl
theorem tzero_63 : tzero Tryd.prog 63 = some [.nilf] := by kernel_rfl
theorem srcOk_63 : srcOk Tryd.prog 63 = true := by kernel_rfl
theorem tsh_64 : tsh Tryd.prog 64 = some (.slice 9 1 16) := by kernel_rfl
theorem tsize_64 : tsize Tryd.prog 64 = some 1 := by kernel_rfl
theorem tagg_64 : tagg Tryd.prog 64 = some false := by kernel_rfl
theorem tzero_64 : tzero Tryd.prog 64 = some [.nils] := by kernel_rfl
theorem srcOk_64 : srcOk Tryd.prog 64 = true := by kernel_rfl
theorem zok_64 : zok Tryd.prog 9 1 = true := by kernel_rfl
theorem tsh_65 : tsh Tryd.prog 65 = some .func := by kernel_rfl
theorem tsize_65 : tsize Tryd.prog 65 = some 1 := by kernel_rfl
theorem tagg_65 : tagg Tryd.prog 65 = some false := by kernel_rfl
theorem tzero_65 : tzero Tryd.prog 65 = some [.nilf] := by kernel_rfl
theorem srcOk_65 : srcOk Tryd.prog 65 = true := by kernel_rfl
theorem tsh_66 : tsh Tryd.prog 66 = some .func := by kernel_rfl
theorem tsize_66 : tsize Tryd.prog 66 = some 1 := by kernel_rfl
theorem tagg_66 : tagg Tryd.prog 66 = some false := by kernel_rfl
theorem tzero_66 : tzero Tryd.prog 66 = some [.nilf] := by kernel_rfl
theorem srcOk_66 : srcOk Tryd.prog 66 = true := by kernel_rfl
theorem tsh_67 : tsh Tryd.prog 67 = some (.int .u64) := by kernel_rfl
theorem tsize_67 : tsize Tryd.prog 67 = some 1 := by kernel_rfl
theorem tagg_67 : tagg Tryd.prog 67 = some false := by kernel_rfl
theorem tzero_67 : tzero Tryd.prog 67 = some [.int .u64 0] := by kernel_rfl
theorem srcOk_67 : srcOk Tryd.prog 67 = false := by kernel_rfl
theorem tsh_68 : tsh Tryd.prog 68 = some (.array 4 9 1) := by kernel_rfl
theorem tsize_68 : tsize Tryd.prog 68 = some 4 := by kernel_rfl
theorem tagg_68 : tagg Tryd.prog 68 = some true := by kernel_rfl
theorem tzero_68 : tzero Tryd.prog 68 = some [.str [], .str [], .str [], .str []] := by kernel_rfl
theorem srcOk_68 : srcOk Tryd.prog 68 = true := by kernel_rfl
theorem tsh_69 : tsh Tryd.prog 69 = some .func := by kernel_rfl
theorem tsize_69 : tsize Tryd.prog 69 = some 1 := by kernel_rfl
theorem tagg_69 : tagg Tryd.prog 69 = some false := by kernel_rfl
theorem tzero_69 : tzero Tryd.prog 69 = some [.nilf] := by kernel_rfl
theorem srcOk_69 : srcOk Tryd.prog 69 = true := by kernel_rfl
theorem tsh_70 : tsh Tryd.prog 70 = some .func := by kernel_rfl
theorem tsize_70 : tsize Tryd.prog 70 = some 1 := by kernel_rfl
theorem tagg_70 : tagg Tryd.prog 70 = some false := by kernel_rfl
theorem tzero_70 : tzero Tryd.prog 70 = some [.nilf] := by kernel_rfl
theorem srcOk_70 : srcOk Tryd.prog 70 = true := by kernel_rfl
theorem tsh_71 : tsh Tryd.prog 71 = some (.array 8 9 1) := by kernel_rfl
theorem tsize_71 : tsize Tryd.prog 71 = some 8 := by kernel_rfl
theorem tagg_71 : tagg Tryd.prog 71 = some true := by kernel_rfl
theorem tzero_71 : tzero Tryd.prog 71 = some [.str [], .str [], .str [], .str [], .str [], .str [], .str [], .str []] := by kernel_rfl
theorem srcOk_71 : srcOk Tryd.prog 71 = true := by kernel_rfl
theorem tsh_72 : tsh Tryd.prog 72 = some (.int .u64) := by kernel_rfl
theorem tsize_72 : tsize Tryd.prog 72 = some 1 := by kernel_rfl
theorem tagg_72 : tagg Tryd.prog 72 = some false := by kernel_rfl
theorem tzero_72 : tzero Tryd.prog 72 = some [.int .u64 0] := by kernel_rfl
theorem srcOk_72 : srcOk Tryd.prog 72 = false := by kernel_rfl
theorem tsh_73 : tsh Tryd.prog 73 = some .other := by kernel_rfl
theorem tsize_73 : tsize Tryd.prog 73 = some 1 := by kernel_rfl
theorem tagg_73 : tagg Tryd.prog 73 = some false := by kernel_rfl
theorem srcOk_73 : srcOk Tryd.prog 73 = true := by kernel_rfl
theorem tsh_74 : tsh Tryd.prog 74 = some .func := by kernel_rfl
theorem tsize_74 : tsize Tryd.prog 74 = some 1 := by kernel_rfl
theorem tagg_74 : tagg Tryd.prog 74 = some false := by kernel_rfl
theorem tzero_74 : tzero Tryd.prog 74 = some [.nilf] := by kernel_rfl
theorem srcOk_74 : srcOk Tryd.prog 74 = true := by kernel_rfl
theorem tsh_75 : tsh Tryd.prog 75 = some .func := by kernel_rfl
theorem tsize_75 : tsize Tryd.prog 75 = some 1 := by kernel_rfl
theorem tagg_75 : tagg Tryd.prog 75 = some false := by kernel_rfl
theorem tzero_75 : tzero Tryd.prog 75 = some [.nilf] := by kernel_rfl
theorem srcOk_75 : srcOk Tryd.prog 75 = true := by kernel_rfl
theorem tsh_76 : tsh Tryd.prog 76 = some (.ptr 78) := by kernel_rfl
theorem tsize_76 : tsize Tryd.prog 76 = some 1 := by kernel_rfl
theorem tagg_76 : tagg Tryd.prog 76 = some false := by kernel_rfl
theorem tzero_76 : tzero Tryd.prog 76 = some [.nilp] := by kernel_rfl
theorem srcOk_76 : srcOk Tryd.prog 76 = true := by kernel_rfl
theorem tsh_77 : tsh Tryd.prog 77 = some .struct := by kernel_rfl
theorem tsize_77 : tsize Tryd.prog 77 = some 2 := by kernel_rfl
theorem tagg_77 : tagg Tryd.prog 77 = some true := by kernel_rfl
theorem tzero_77 : tzero Tryd.prog 77 = some [.nilp, .nils] := by kernel_rfl
theorem tplaces_77 : tplaces Tryd.prog 77 = some [(0, 1), (1, 1)] := by kernel_rfl
theorem srcOk_77 : srcOk Tryd.prog 77 = true := by kernel_rfl
theorem eqg_77 : Tryd.prog.eqGuardType Tryd.prog.depth 77 = false := by kernel_rfl
theorem tfield_77_0 : tfield Tryd.prog 77 0 = some (0, 1, false) := by kernel_rfl
theorem tfield_77_1 : tfield Tryd.prog 77 1 = some (1, 1, false) := by kernel_rfl
theorem tsh_78 : tsh Tryd.prog 78 = some .struct := by kernel_rfl
theorem tsize_78 : tsize Tryd.prog 78 = some 2 := by kernel_rfl
theorem tagg_78 : tagg Tryd.prog 78 = some true := by kernel_rfl
theorem tzero_78 : tzero Tryd.prog 78 = some [.nilp, .nils] := by kernel_rfl
theorem tplaces_78 : tplaces Tryd.prog 78 = some [(0, 1), (1, 1)] := by kernel_rfl
theorem srcOk_78 : srcOk Tryd.prog 78 = true := by kernel_rfl
theorem eqg_78 : Tryd.prog.eqGuardType Tryd.prog.depth 78 = false := by kernel_rfl
theorem tfield_78_0 : tfield Tryd.prog 78 0 = some (0, 1, false) := by kernel_rfl
theorem tfield_78_1 : tfield Tryd.prog 78 1 = some (1, 1, false) := by kernel_rfl
theorem tsh_79 : tsh Tryd.prog 79 = some .iface := by kernel_rfl
theorem tsize_79 : tsize Tryd.prog 79 = some 1 := by kernel_rfl
theorem tagg_79 : tagg Tryd.prog 79 = some false := by kernel_rfl
theorem tzero_79 : tzero Tryd.prog 79 = some [.nili] := by kernel_rfl
theorem srcOk_79 : srcOk Tryd.prog 79 = true := by kernel_rfl
theorem tsh_80 : tsh Tryd.prog 80 = some .iface := by kernel_rfl
theorem tsize_80 : tsize Tryd.prog 80 = some 1 := by kernel_rfl
theorem tagg_80 : tagg Tryd.prog 80 = some false := by kernel_rfl
theorem tzero_80 : tzero Tryd.prog 80 = some [.nili] := by kernel_rfl
theorem srcOk_80 : srcOk Tryd.prog 80 = true := by kernel_rfl
theorem tsh_81 : tsh Tryd.prog 81 = some .func := by kernel_rfl
theorem tsize_81 : tsize Tryd.prog 81 = some 1 := by kernel_rfl
theorem tagg_81 : tagg Tryd.prog 81 = some false := by kernel_rfl
theorem tzero_81 : tzero Tryd.prog 81 = some [.nilf] := by kernel_rfl
theorem srcOk_81 : srcOk Tryd.prog 81 = true := by kernel_rfl
theorem tsh_82 : tsh Tryd.prog 82 = some .func := by kernel_rfl
theorem tsize_82 : tsize Tryd.prog 82 = some 1 := by kernel_rfl
theorem tagg_82 : tagg Tryd.prog 82 = some false := by kernel_rfl
theorem tzero_82 : tzero Tryd.prog 82 = some [.nilf] := by kernel_rfl
theorem srcOk_82 : srcOk Tryd.prog 82 = true := by kernel_rfl
theorem tsh_83 : tsh Tryd.prog 83 = some .other := by kernel_rfl
theorem tsize_83 : tsize Tryd.prog 83 = some 1 := by kernel_rfl
theorem tagg_83 : tagg Tryd.prog 83 = some false := by kernel_rfl
theorem srcOk_83 : srcOk Tryd.prog 83 = true := by kernel_rfl
theorem tsh_84 : tsh Tryd.prog 84 = some .func := by kernel_rfl
theorem tsize_84 : tsize Tryd.prog 84 = some 1 := by kernel_rfl
theorem tagg_84 : tagg Tryd.prog 84 = some false := by kernel_rfl
theorem tzero_84 : tzero Tryd.prog 84 = some [.nilf] := by kernel_rfl
theorem srcOk_84 : srcOk Tryd.prog 84 = true := by kernel_rfl
theorem tsh_85 : tsh Tryd.prog 85 = some .other := by kernel_rfl
theorem tsize_85 : tsize Tryd.prog 85 = some 1 := by kernel_rfl
theorem tagg_85 : tagg Tryd.prog 85 = some false := by kernel_rfl
theorem srcOk_85 : srcOk Tryd.prog 85 = true := by kernel_rfl
theorem tsh_86 : tsh Tryd.prog 86 = some .func := by kernel_rfl
theorem tsize_86 : tsize Tryd.prog 86 = some 1 := by kernel_rfl
theorem tagg_86 : tagg Tryd.prog 86 = some false := by kernel_rfl
theorem tzero_86 : tzero Tryd.prog 86 = some [.nilf] := by kernel_rfl
theorem srcOk_86 : srcOk Tryd.prog 86 = true := by kernel_rfl
theorem tsh_87 : tsh Tryd.prog 87 = some .func := by kernel_rfl
theorem tsize_87 : tsize Tryd.prog 87 = some 1 := by kernel_rfl
theorem tagg_87 : tagg Tryd.prog 87 = some false := by kernel_rfl
theorem tzero_87 : tzero Tryd.prog 87 = some [.nilf] := by kernel_rfl
theorem srcOk_87 : srcOk Tryd.prog 87 = true := by kernel_rfl
theorem tsh_88 : tsh Tryd.prog 88 = some .func := by kernel_rfl
theorem tsize_88 : tsize Tryd.prog 88 = some 1 := by kernel_rfl
theorem tagg_88 : tagg Tryd.prog 88 = some false := by kernel_rfl
theorem tzero_88 : tzero Tryd.prog 88 = some [.nilf] := by kernel_rfl
theorem srcOk_88 : srcOk Tryd.prog 88 = true := by kernel_rfl
theorem tsh_89 : tsh Tryd.prog 89 = some .func := by kernel_rfl
theorem tsize_89 : tsize Tryd.prog 89 = some 1 := by kernel_rfl
theorem tagg_89 : tagg Tryd.prog 89 = some false := by kernel_rfl
theorem tzero_89 : tzero Tryd.prog 89 = some [.nilf] := by kernel_rfl
theorem srcOk_89 : srcOk Tryd.prog 89 = true := by kernel_rfl
theorem tsh_90 : tsh Tryd.prog 90 = some .func := by kernel_rfl
theorem tsize_90 : tsize Tryd.prog 90 = some 1 := by kernel_rfl
theorem tagg_90 : tagg Tryd.prog 90 = some false := by kernel_rfl
theorem tzero_90 : tzero Tryd.prog 90 = some [.nilf] := by kernel_rfl
theorem srcOk_90 : srcOk Tryd.prog 90 = true := by kernel_rfl
theorem tsh_91 : tsh Tryd.prog 91 = some .func := by kernel_rfl
theorem tsize_91 : tsize Tryd.prog 91 = some 1 := by kernel_rfl
theorem tagg_91 : tagg Tryd.prog 91 = some false := by kernel_rfl
theorem tzero_91 : tzero Tryd.prog 91 = some [.nilf] := by kernel_rfl
theorem srcOk_91 : srcOk Tryd.prog 91 = true := by kernel_rfl
theorem tsh_92 : tsh Tryd.prog 92 = some .func := by kernel_rfl
theorem tsize_92 : tsize Tryd.prog 92 = some 1 := by kernel_rfl
theorem tagg_92 : tagg Tryd.prog 92 = some false := by kernel_rfl
theorem tzero_92 : tzero Tryd.prog 92 = some [.nilf] := by kernel_rfl
theorem srcOk_92 : srcOk Tryd.prog 92 = true := by kernel_rfl
theorem tsh_93 : tsh Tryd.prog 93 = some (.ptr 37) := by kernel_rfl
theorem tsize_93 : tsize Tryd.prog 93 = some 1 := by kernel_rfl
theorem tagg_93 : tagg Tryd.prog 93 = some false := by kernel_rfl
theorem tzero_93 : tzero Tryd.prog 93 = some [.nilp] := by kernel_rfl
theorem srcOk_93 : srcOk Tryd.prog 93 = true := by kernel_rfl
theorem tsh_94 : tsh Tryd.prog 94 = some (.ptr 40) := by kernel_rfl
theorem tsize_94 : tsize Tryd.prog 94 = some 1 := by kernel_rfl
theorem tagg_94 : tagg Tryd.prog 94 = some false := by kernel_rfl
theorem tzero_94 : tzero Tryd.prog 94 = some [.nilp] := by kernel_rfl
theorem srcOk_94 : srcOk Tryd.prog 94 = true := by kernel_rfl
theorem tsh_95 : tsh Tryd.prog 95 = some (.ptr 97) := by kernel_rfl
theorem tsize_95 : tsize Tryd.prog 95 = some 1 := by kernel_rfl
theorem tagg_95 : tagg Tryd.prog 95 = some false := by kernel_rfl
theorem tzero_95 : tzero Tryd.prog 95 = some [.nilp] := by kernel_rfl
theorem srcOk_95 : srcOk Tryd.prog 95 = true := by kernel_rfl
theorem tsh_96 : tsh Tryd.prog 96 = some .struct := by kernel_rfl
theorem tsize_96 : tsize Tryd.prog 96 = some 12 := by kernel_rfl
theorem tagg_96 : tagg Tryd.prog 96 = some true := by kernel_rfl
theorem tzero_96 : tzero Tryd.prog 96 = some [.nils, .int .i64 0, .int .i64 0, .str [], .str [], .str [], .int .u32 0, .int .u32 0, .int .u32 0, .int .u32 0, .int .u32 0, .int .i64 0] := by kernel_rfl
theorem tplaces_96 : tplaces Tryd.prog 96 = some [(0, 1), (1, 1), (2, 1), (3, 8), (11, 1)] := by kernel_rfl
theorem srcOk_96 : srcOk Tryd.prog 96 = true := by kernel_rfl
theorem eqg_96 : Tryd.prog.eqGuardType Tryd.prog.depth 96 = false := by kernel_rfl
theorem tfield_96_0 : tfield Tryd.prog 96 0 = some (0, 1, false) := by kernel_rfl
theorem tfield_96_1 : tfield Tryd.prog 96 1 = some (1, 1, false) := by kernel_rfl
theorem tfield_96_2 : tfield Tryd.prog 96 2 = some (2, 1, false) := by kernel_rfl
theorem tfield_96_3 : tfield Tryd.prog 96 3 = some (3, 8, true) := by kernel_rfl
theorem tfield_96_4 : tfield Tryd.prog 96 4 = some (11, 1, false) := by kernel_rfl
theorem tsh_97 : tsh Tryd.prog 97 = some .struct := by kernel_rfl
theorem tsize_97 : tsize Tryd.prog 97 = some 12 := by kernel_rfl
theorem tagg_97 : tagg Tryd.prog 97 = some true := by kernel_rfl
theorem tzero_97 : tzero Tryd.prog 97 = some [.nils, .int .i64 0, .int .i64 0, .str [], .str [], .str [], .int .u32 0, .int .u32 0, .int .u32 0, .int .u32 0, .int .u32 0, .int .i64 0] := by kernel_rfl
theorem tplaces_97 : tplaces Tryd.prog 97 = some [(0, 1), (1, 1), (2, 1), (3, 8), (11, 1)] := by kernel_rfl
theorem srcOk_97 : srcOk Tryd.prog 97 = true := by kernel_rfl
theorem eqg_97 : Tryd.prog.eqGuardType Tryd.prog.depth 97 = false := by kernel_rfl
theorem tfield_97_0 : tfield Tryd.prog 97 0 = some (0, 1, false) := by kernel_rfl
theorem tfield_97_1 : tfield Tryd.prog 97 1 = some (1, 1, false) := by kernel_rfl
theorem tfield_97_2 : tfield Tryd.prog 97 2 = some (2, 1, false) := by kernel_rfl
theorem tfield_97_3 : tfield Tryd.prog 97 3 = some (3, 8, true) := by kernel_rfl
theorem tfield_97_4 : tfield Tryd.prog 97 4 = some (11, 1, false) := by kernel_rfl
theorem tsh_98 : tsh Tryd.prog 98 = some (.map 21 1) := by kernel_rfl
theorem tsize_98 : tsize Tryd.prog 98 = some 1 := by kernel_rfl
theorem tagg_98 : tagg Tryd.prog 98 = some false := by kernel_rfl
theorem tzero_98 : tzero Tryd.prog 98 = some [.nilm] := by kernel_rfl
theorem srcOk_98 : srcOk Tryd.prog 98 = true := by kernel_rfl
theorem tsh_99 : tsh Tryd.prog 99 = some .other := by kernel_rfl
theorem tsize_99 : tsize Tryd.prog 99 = some 1 := by kernel_rfl
theorem tagg_99 : tagg Tryd.prog 99 = some false := by kernel_rfl
theorem srcOk_99 : srcOk Tryd.prog 99 = true := by kernel_rfl
theorem tsh_100 : tsh Tryd.prog 100 = some .func := by kernel_rfl
theorem tsize_100 : tsize Tryd.prog 100 = some 1 := by kernel_rfl
theorem tagg_100 : tagg Tryd.prog 100 = some false := by kernel_rfl
theorem tzero_100 : tzero Tryd.prog 100 = some [.nilf] := by kernel_rfl
theorem srcOk_100 : srcOk Tryd.prog 100 = true := by kernel_rfl
theorem tsh_101 : tsh Tryd.prog 101 = some .struct := by kernel_rfl
theorem tsize_101 : tsize Tryd.prog 101 = some 3 := by kernel_rfl
theorem tagg_101 : tagg Tryd.prog 101 = some true := by kernel_rfl
theorem tzero_101 : tzero Tryd.prog 101 = some [.int .u16 0, .str [], .str []] := by kernel_rfl
theorem tplaces_101 : tplaces Tryd.prog 101 = some [(0, 1), (1, 1), (2, 1)] := by kernel_rfl
theorem srcOk_101 : srcOk Tryd.prog 101 = true := by kernel_rfl
theorem eqg_101 : Tryd.prog.eqGuardType Tryd.prog.depth 101 = false := by kernel_rfl
theorem tfield_101_0 : tfield Tryd.prog 101 0 = some (0, 1, false) := by kernel_rfl
theorem tfield_101_1 : tfield Tryd.prog 101 1 = some (1, 1, false) := by kernel_rfl
theorem tfield_101_2 : tfield Tryd.prog 101 2 = some (2, 1, false) := by kernel_rfl
theorem tsh_102 : tsh Tryd.prog 102 = some (.array 9 101 3) := by kernel_rfl
theorem tsize_102 : tsize Tryd.prog 102 = some 27 := by kernel_rfl
theorem tagg_102 : tagg Tryd.prog 102 = some true := by kernel_rfl
theorem tzero_102 : tzero Tryd.prog 102 = some [.int .u16 0, .str [], .str [], .int .u16 0, .str [], .str [], .int .u16 0, .str [], .str [], .int .u16 0, .str [], .str [], .int .u16 0, .str [], .str [], .int .u16 0, .str [], .str [], .int .u16 0, .str [], .str [], .int .u16 0, .str [], .str [], .int .u16 0, .str [], .str []] := by kernel_rfl
theorem srcOk_102 : srcOk Tryd.prog 102 = true := by kernel_rfl
theorem tsh_103 : tsh Tryd.prog 103 = some .other := by kernel_rfl
theorem tsize_103 : tsize Tryd.prog 103 = some 1 := by kernel_rfl
theorem tagg_103 : tagg Tryd.prog 103 = some false := by kernel_rfl
theorem srcOk_103 : srcOk Tryd.prog 103 = true := by kernel_rfl
theorem tsh_104 : tsh Tryd.prog 104 = some .func := by kernel_rfl
theorem tsize_104 : tsize Tryd.prog 104 = some 1 := by kernel_rfl
theorem tagg_104 : tagg Tryd.prog 104 = some false := by kernel_rfl
theorem tzero_104 : tzero Tryd.prog 104 = some [.nilf] := by kernel_rfl
theorem srcOk_104 : srcOk Tryd.prog 104 = true := by kernel_rfl
theorem tsh_105 : tsh Tryd.prog 105 = some .other := by kernel_rfl
theorem tsize_105 : tsize Tryd.prog 105 = some 1 := by kernel_rfl
theorem tagg_105 : tagg Tryd.prog 105 = some false := by kernel_rfl
theorem srcOk_105 : srcOk Tryd.prog 105 = true := by kernel_rfl
theorem tsh_106 : tsh Tryd.prog 106 = some .func := by kernel_rfl
theorem tsize_106 : tsize Tryd.prog 106 = some 1 := by kernel_rfl
theorem tagg_106 : tagg Tryd.prog 106 = some false := by kernel_rfl
theorem tzero_106 : tzero Tryd.prog 106 = some [.nilf] := by kernel_rfl
theorem srcOk_106 : srcOk Tryd.prog 106 = true := by kernel_rfl
theorem tsh_107 : tsh Tryd.prog 107 = some (.slice 32 1 2) := by kernel_rfl
theorem tsize_107 : tsize Tryd.prog 107 = some 1 := by kernel_rfl
theorem tagg_107 : tagg Tryd.prog 107 = some false := by kernel_rfl
theorem tzero_107 : tzero Tryd.prog 107 = some [.nils] := by kernel_rfl
theorem srcOk_107 : srcOk Tryd.prog 107 = true := by kernel_rfl
theorem zok_107 : zok Tryd.prog 32 1 = true := by kernel_rfl
theorem tsh_108 : tsh Tryd.prog 108 = some .other := by kernel_rfl
theorem tsize_108 : tsize Tryd.prog 108 = some 1 := by kernel_rfl
theorem tagg_108 : tagg Tryd.prog 108 = some false := by kernel_rfl
theorem srcOk_108 : srcOk Tryd.prog 108 = true := by kernel_rfl
theorem tsh_109 : tsh Tryd.prog 109 = some .func := by kernel_rfl
theorem tsize_109 : tsize Tryd.prog 109 = some 1 := by kernel_rfl
theorem tagg_109 : tagg Tryd.prog 109 = some false := by kernel_rfl
theorem tzero_109 : tzero Tryd.prog 109 = some [.nilf] := by kernel_rfl
theorem srcOk_109 : srcOk Tryd.prog 109 = true := by kernel_rfl
theorem tsh_110 : tsh Tryd.prog 110 = some .other := by kernel_rfl
theorem tsize_110 : tsize Tryd.prog 110 = some 1 := by kernel_rfl
theorem tagg_110 : tagg Tryd.prog 110 = some false := by kernel_rfl
theorem srcOk_110 : srcOk Tryd.prog 110 = true := by kernel_rfl
theorem tsh_111 : tsh Tryd.prog 111 = some .func := by kernel_rfl
theorem tsize_111 : tsize Tryd.prog 111 = some 1 := by kernel_rfl
theorem tagg_111 : tagg Tryd.prog 111 = some false := by kernel_rfl
theorem tzero_111 : tzero Tryd.prog 111 = some [.nilf] := by kernel_rfl
theorem srcOk_111 : srcOk Tryd.prog 111 = true := by kernel_rfl
theorem tsh_112 : tsh Tryd.prog 112 = some .func := by kernel_rfl
theorem tsize_112 : tsize Tryd.prog 112 = some 1 := by kernel_rfl
theorem tagg_112 : tagg Tryd.prog 112 = some false := by kernel_rfl
theorem tzero_112 : tzero Tryd.prog 112 = some [.nilf] := by kernel_rfl
theorem srcOk_112 : srcOk Tryd.prog 112 = true := by kernel_rfl
theorem tsh_113 : tsh Tryd.prog 113 = some .func := by kernel_rfl
theorem tsize_113 : tsize Tryd.prog 113 = some 1 := by kernel_rfl
theorem tagg_113 : tagg Tryd.prog 113 = some false := by kernel_rfl
theorem tzero_113 : tzero Tryd.prog 113 = some [.nilf] := by kernel_rfl
theorem srcOk_113 : srcOk Tryd.prog 113 = true := by kernel_rfl
theorem tsh_114 : tsh Tryd.prog 114 = some .func := by kernel_rfl
theorem tsize_114 : tsize Tryd.prog 114 = some 1 := by kernel_rfl
theorem tagg_114 : tagg Tryd.prog 114 = some false := by kernel_rfl
theorem tzero_114 : tzero Tryd.prog 114 = some [.nilf] := by kernel_rfl
theorem srcOk_114 : srcOk Tryd.prog 114 = true := by kernel_rfl
theorem tsh_115 : tsh Tryd.prog 115 = some .other := by kernel_rfl
theorem tsize_115 : tsize Tryd.prog 115 = some 1 := by kernel_rfl
theorem tagg_115 : tagg Tryd.prog 115 = some false := by kernel_rfl
theorem srcOk_115 : srcOk Tryd.prog 115 = true := by kernel_rfl
theorem tsh_116 : tsh Tryd.prog 116 = some .func := by kernel_rfl
theorem tsize_116 : tsize Tryd.prog 116 = some 1 := by kernel_rfl
theorem tagg_116 : tagg Tryd.prog 116 = some false := by kernel_rfl
theorem tzero_116 : tzero Tryd.prog 116 = some [.nilf] := by kernel_rfl
theorem srcOk_116 : srcOk Tryd.prog 116 = true := by kernel_rfl
theorem tsh_117 : tsh Tryd.prog 117 = some .func := by kernel_rfl
theorem tsize_117 : tsize Tryd.prog 117 = some 1 := by kernel_rfl
theorem tagg_117 : tagg Tryd.prog 117 = some false := by kernel_rfl
theorem tzero_117 : tzero Tryd.prog 117 = some [.nilf] := by kernel_rfl
theorem srcOk_117 : srcOk Tryd.prog 117 = true := by kernel_rfl
theorem tsh_118 : tsh Tryd.prog 118 = some .other := by kernel_rfl
theorem tsize_118 : tsize Tryd.prog 118 = some 1 := by kernel_rfl
theorem tagg_118 : tagg Tryd.prog 118 = some false := by kernel_rfl
theorem srcOk_118 : srcOk Tryd.prog 118 = true := by kernel_rfl
theorem tsh_119 : tsh Tryd.prog 119 = some .func := by kernel_rfl
theorem tsize_119 : tsize Tryd.prog 119 = some 1 := by kernel_rfl
theorem tagg_119 : tagg Tryd.prog 119 = some false := by kernel_rfl
theorem tzero_119 : tzero Tryd.prog 119 = some [.nilf] := by kernel_rfl
theorem srcOk_119 : srcOk Tryd.prog 119 = true := by kernel_rfl
theorem tsh_120 : tsh Tryd.prog 120 = some .func := by kernel_rfl
theorem tsize_120 : tsize Tryd.prog 120 = some 1 := by kernel_rfl
theorem tagg_120 : tagg Tryd.prog 120 = some false := by kernel_rfl
theorem tzero_120 : tzero Tryd.prog 120 = some [.nilf] := by kernel_rfl
theorem srcOk_120 : srcOk Tryd.prog 120 = true := by kernel_rfl
theorem tsh_121 : tsh Tryd.prog 121 = some (.ptr 5) := by kernel_rfl
theorem tsize_121 : tsize Tryd.prog 121 = some 1 := by kernel_rfl
theorem tagg_121 : tagg Tryd.prog 121 = some false := by kernel_rfl
theorem tzero_121 : tzero Tryd.prog 121 = some [.nilp] := by kernel_rfl
theorem srcOk_121 : srcOk Tryd.prog 121 = true := by kernel_rfl
theorem tsh_122 : tsh Tryd.prog 122 = some .func := by kernel_rfl
theorem tsize_122 : tsize Tryd.prog 122 = some 1 := by kernel_rfl
theorem tagg_122 : tagg Tryd.prog 122 = some false := by kernel_rfl
theorem tzero_122 : tzero Tryd.prog 122 = some [.nilf] := by kernel_rfl
theorem srcOk_122 : srcOk Tryd.prog 122 = true := by kernel_rfl
theorem tsh_123 : tsh Tryd.prog 123 = some .func := by kernel_rfl
theorem tsize_123 : tsize Tryd.prog 123 = some 1 := by kernel_rfl
theorem tagg_123 : tagg Tryd.prog 123 = some false := by kernel_rfl
theorem tzero_123 : tzero Tryd.prog 123 = some [.nilf] := by kernel_rfl
theorem srcOk_123 : srcOk Tryd.prog 123 = true := by kernel_rfl
theorem tsh_124 : tsh Tryd.prog 124 = some .other := by kernel_rfl
theorem tsize_124 : tsize Tryd.prog 124 = some 1 := by kernel_rfl
theorem tagg_124 : tagg Tryd.prog 124 = some false := by kernel_rfl
theorem srcOk_124 : srcOk Tryd.prog 124 = true := by kernel_rfl
theorem tsh_125 : tsh Tryd.prog 125 = some .func := by kernel_rfl
theorem tsize_125 : tsize Tryd.prog 125 = some 1 := by kernel_rfl
theorem tagg_125 : tagg Tryd.prog 125 = some false := by kernel_rfl
theorem tzero_125 : tzero Tryd.prog 125 = some [.nilf] := by kernel_rfl
theorem srcOk_125 : srcOk Tryd.prog 125 = true := by kernel_rfl
theorem tsh_126 : tsh Tryd.prog 126 = some .func := by kernel_rfl
theorem tsize_126 : tsize Tryd.prog 126 = some 1 := by kernel_rfl
theorem tagg_126 : tagg Tryd.prog 126 = some false := by kernel_rfl
theorem tzero_126 : tzero Tryd.prog 126 = some [.nilf] := by kernel_rfl
theorem srcOk_126 : srcOk Tryd.prog 126 = true := by kernel_rfl
theorem tsh_127 : tsh Tryd.prog 127 = some .other := by kernel_rfl
theorem tsize_127 : tsize Tryd.prog 127 = some 1 := by kernel_rfl
theorem tagg_127 : tagg Tryd.prog 127 = some false := by kernel_rfl
theorem srcOk_127 : srcOk Tryd.prog 127 = true := by kernel_rfl
theorem tsh_128 : tsh Tryd.prog 128 = some .func := by kernel_rfl
theorem tsize_128 : tsize Tryd.prog 128 = some 1 := by kernel_rfl
theorem tagg_128 : tagg Tryd.prog 128 = some false := by kernel_rfl
theorem tzero_128 : tzero Tryd.prog 128 = some [.nilf] := by kernel_rfl
theorem srcOk_128 : srcOk Tryd.prog 128 = true := by kernel_rfl
theorem tsh_129 : tsh Tryd.prog 129 = some .other := by kernel_rfl
theorem tsize_129 : tsize Tryd.prog 129 = some 1 := by kernel_rfl
theorem tagg_129 : tagg Tryd.prog 129 = some false := by kernel_rfl
theorem srcOk_129 : srcOk Tryd.prog 129 = true := by kernel_rfl
theorem tsh_130 : tsh Tryd.prog 130 = some .func := by kernel_rfl
theorem tsize_130 : tsize Tryd.prog 130 = some 1 := by kernel_rfl
theorem tagg_130 : tagg Tryd.prog 130 = some false := by kernel_rfl
theorem tzero_130 : tzero Tryd.prog 130 = some [.nilf] := by kernel_rfl
theorem srcOk_130 : srcOk Tryd.prog 130 = true := by kernel_rfl
theorem tsh_131 : tsh Tryd.prog 131 = some .func := by kernel_rfl
theorem tsize_131 : tsize Tryd.prog 131 = some 1 := by kernel_rfl
theorem tagg_131 : tagg Tryd.prog 131 = some false := by kernel_rfl
theorem tzero_131 : tzero Tryd.prog 131 = some [.nilf] := by kernel_rfl
theorem srcOk_131 : srcOk Tryd.prog 131 = true := by kernel_rfl
theorem tsh_132 : tsh Tryd.prog 132 = some .func := by kernel_rfl
theorem tsize_132 : tsize Tryd.prog 132 = some 1 := by kernel_rfl
theorem tagg_132 : tagg Tryd.prog 132 = some false := by kernel_rfl
theorem tzero_132 : tzero Tryd.prog 132 = some [.nilf] := by kernel_rfl
theorem srcOk_132 : srcOk Tryd.prog 132 = true := by kernel_rfl
theorem tsh_133 : tsh Tryd.prog 133 = some .func := by kernel_rfl
theorem tsize_133 : tsize Tryd.prog 133 = some 1 := by kernel_rfl
theorem tagg_133 : tagg Tryd.prog 133 = some false := by kernel_rfl
theorem tzero_133 : tzero Tryd.prog 133 = some [.nilf] := by kernel_rfl
theorem srcOk_133 : srcOk Tryd.prog 133 = true := by kernel_rfl
theorem tsh_134 : tsh Tryd.prog 134 = some .other := by kernel_rfl
theorem tsize_134 : tsize Tryd.prog 134 = some 1 := by kernel_rfl
theorem tagg_134 : tagg Tryd.prog 134 = some false := by kernel_rfl
theorem srcOk_134 : srcOk Tryd.prog 134 = true := by kernel_rfl
theorem tsh_135 : tsh Tryd.prog 135 = some .func := by kernel_rfl
theorem tsize_135 : tsize Tryd.prog 135 = some 1 := by kernel_rfl
theorem tagg_135 : tagg Tryd.prog 135 = some false := by kernel_rfl
theorem tzero_135 : tzero Tryd.prog 135 = some [.nilf] := by kernel_rfl
theorem srcOk_135 : srcOk Tryd.prog 135 = true := by kernel_rfl
theorem tsh_136 : tsh Tryd.prog 136 = some .func := by kernel_rfl
theorem tsize_136 : tsize Tryd.prog 136 = some 1 := by kernel_rfl
theorem tagg_136 : tagg Tryd.prog 136 = some false := by kernel_rfl
theorem tzero_136 : tzero Tryd.prog 136 = some [.nilf] := by kernel_rfl
theorem srcOk_136 : srcOk Tryd.prog 136 = true := by kernel_rfl
theorem tsh_137 : tsh Tryd.prog 137 = some .func := by kernel_rfl
theorem tsize_137 : tsize Tryd.prog 137 = some 1 := by kernel_rfl
theorem tagg_137 : tagg Tryd.prog 137 = some false := by kernel_rfl
theorem tzero_137 : tzero Tryd.prog 137 = some [.nilf] := by kernel_rfl
theorem srcOk_137 : srcOk Tryd.prog 137 = true := by kernel_rfl
theorem tsh_138 : tsh Tryd.prog 138 = some (.array 24 5 1) := by kernel_rfl
theorem tsize_138 : tsize Tryd.prog 138 = some 24 := by kernel_rfl
theorem tagg_138 : tagg Tryd.prog 138 = some true := by kernel_rfl
theorem tzero_138 : tzero Tryd.prog 138 = some [.int .u8 0, .int .u8 0, .int .u8 0, .int .u8 0, .int .u8 0, .int .u8 0, .int .u8 0, .int .u8 0, .int .u8 0, .int .u8 0, .int .u8 0, .int .u8 0, .int .u8 0, .int .u8 0, .int .u8 0, .int .u8 0, .int .u8 0, .int .u8 0, .int .u8 0, .int .u8 0, .int .u8 0, .int .u8 0, .int .u8 0, .int .u8 0] := by kernel_rfl
theorem srcOk_138 : srcOk Tryd.prog 138 = true := by kernel_rfl
theorem tsh_139 : tsh Tryd.prog 139 = some .func := by kernel_rfl
theorem tsize_139 : tsize Tryd.prog 139 = some 1 := by kernel_rfl
theorem tagg_139 : tagg Tryd.prog 139 = some false := by kernel_rfl
theorem tzero_139 : tzero Tryd.prog 139 = some [.nilf] := by kernel_rfl
theorem srcOk_139 : srcOk Tryd.prog 139 = true := by kernel_rfl
theorem tsh_140 : tsh Tryd.prog 140 = some .func := by kernel_rfl
theorem tsize_140 : tsize Tryd.prog 140 = some 1 := by kernel_rfl
theorem tagg_140 : tagg Tryd.prog 140 = some false := by kernel_rfl
theorem tzero_140 : tzero Tryd.prog 140 = some [.nilf] := by kernel_rfl
theorem srcOk_140 : srcOk Tryd.prog 140 = true := by kernel_rfl
theorem tsh_141 : tsh Tryd.prog 141 = some .other := by kernel_rfl
theorem tsize_141 : tsize Tryd.prog 141 = some 1 := by kernel_rfl
theorem tagg_141 : tagg Tryd.prog 141 = some false := by kernel_rfl
theorem srcOk_141 : srcOk Tryd.prog 141 = true := by kernel_rfl
theorem tsh_142 : tsh Tryd.prog 142 = some .func := by kernel_rfl
theorem tsize_142 : tsize Tryd.prog 142 = some 1 := by kernel_rfl
theorem tagg_142 : tagg Tryd.prog 142 = some false := by kernel_rfl
theorem tzero_142 : tzero Tryd.prog 142 = some [.nilf] := by kernel_rfl
theorem srcOk_142 : srcOk Tryd.prog 142 = true := by kernel_rfl
theorem tsh_143 : tsh Tryd.prog 143 = some .func := by kernel_rfl
theorem tsize_143 : tsize Tryd.prog 143 = some 1 := by kernel_rfl
theorem tagg_143 : tagg Tryd.prog 143 = some false := by kernel_rfl
theorem tzero_143 : tzero Tryd.prog 143 = some [.nilf] := by kernel_rfl
theorem srcOk_143 : srcOk Tryd.prog 143 = true := by kernel_rfl
theorem tsh_144 : tsh Tryd.prog 144 = some .other := by kernel_rfl
theorem tsize_144 : tsize Tryd.prog 144 = some 1 := by kernel_rfl
theorem tagg_144 : tagg Tryd.prog 144 = some false := by kernel_rfl
theorem srcOk_144 : srcOk Tryd.prog 144 = true := by kernel_rfl
theorem tsh_145 : tsh Tryd.prog 145 = some .func := by kernel_rfl
theorem tsize_145 : tsize Tryd.prog 145 = some 1 := by kernel_rfl
theorem tagg_145 : tagg Tryd.prog 145 = some false := by kernel_rfl
theorem tzero_145 : tzero Tryd.prog 145 = some [.nilf] := by kernel_rfl
theorem srcOk_145 : srcOk Tryd.prog 145 = true := by kernel_rfl
theorem tsh_146 : tsh Tryd.prog 146 = some .upt := by kernel_rfl
theorem tsize_146 : tsize Tryd.prog 146 = some 1 := by kernel_rfl
theorem tagg_146 : tagg Tryd.prog 146 = some false := by kernel_rfl
theorem tzero_146 : tzero Tryd.prog 146 = some [.nilp] := by kernel_rfl
theorem srcOk_146 : srcOk Tryd.prog 146 = true := by kernel_rfl
theorem tsh_147 : tsh Tryd.prog 147 = some .func := by kernel_rfl
theorem tsize_147 : tsize Tryd.prog 147 = some 1 := by kernel_rfl
theorem tagg_147 : tagg Tryd.prog 147 = some false := by kernel_rfl
theorem tzero_147 : tzero Tryd.prog 147 = some [.nilf] := by kernel_rfl
theorem srcOk_147 : srcOk Tryd.prog 147 = true := by kernel_rfl
theorem tsh_148 : tsh Tryd.prog 148 = some .other := by kernel_rfl
theorem tsize_148 : tsize Tryd.prog 148 = some 1 := by kernel_rfl
theorem tagg_148 : tagg Tryd.prog 148 = some false := by kernel_rfl
theorem srcOk_148 : srcOk Tryd.prog 148 = true := by kernel_rfl
theorem tsh_149 : tsh Tryd.prog 149 = some .func := by kernel_rfl
theorem tsize_149 : tsize Tryd.prog 149 = some 1 := by kernel_rfl
theorem tagg_149 : tagg Tryd.prog 149 = some false := by kernel_rfl
theorem tzero_149 : tzero Tryd.prog 149 = some [.nilf] := by kernel_rfl
theorem srcOk_149 : srcOk Tryd.prog 149 = true := by kernel_rfl
theorem tsh_150 : tsh Tryd.prog 150 = some .func := by kernel_rfl
theorem tsize_150 : tsize Tryd.prog 150 = some 1 := by kernel_rfl
theorem tagg_150 : tagg Tryd.prog 150 = some false := by kernel_rfl
theorem tzero_150 : tzero Tryd.prog 150 = some [.nilf] := by kernel_rfl
theorem srcOk_150 : srcOk Tryd.prog 150 = true := by kernel_rfl
theorem tsh_151 : tsh Tryd.prog 151 = some .func := by kernel_rfl
theorem tsize_151 : tsize Tryd.prog 151 = some 1 := by kernel_rfl
theorem tagg_151 : tagg Tryd.prog 151 = some false := by kernel_rfl
theorem tzero_151 : tzero Tryd.prog 151 = some [.nilf] := by kernel_rfl
theorem srcOk_151 : srcOk Tryd.prog 151 = true := by kernel_rfl
theorem tsh_152 : tsh Tryd.prog 152 = some .other := by kernel_rfl
theorem tsize_152 : tsize Tryd.prog 152 = some 1 := by kernel_rfl
theorem tagg_152 : tagg Tryd.prog 152 = some false := by kernel_rfl
theorem srcOk_152 : srcOk Tryd.prog 152 = true := by kernel_rfl
theorem tsh_153 : tsh Tryd.prog 153 = some .func := by kernel_rfl
theorem tsize_153 : tsize Tryd.prog 153 = some 1 := by kernel_rfl
theorem tagg_153 : tagg Tryd.prog 153 = some false := by kernel_rfl
theorem tzero_153 : tzero Tryd.prog 153 = some [.nilf] := by kernel_rfl
theorem srcOk_153 : srcOk Tryd.prog 153 = true := by kernel_rfl
theorem tsh_154 : tsh Tryd.prog 154 = some .func := by kernel_rfl
theorem tsize_154 : tsize Tryd.prog 154 = some 1 := by kernel_rfl
theorem tagg_154 : tagg Tryd.prog 154 = some false := by kernel_rfl
theorem tzero_154 : tzero Tryd.prog 154 = some [.nilf] := by kernel_rfl
theorem srcOk_154 : srcOk Tryd.prog 154 = true := by kernel_rfl
theorem tsh_155 : tsh Tryd.prog 155 = some .func := by kernel_rfl
theorem tsize_155 : tsize Tryd.prog 155 = some 1 := by kernel_rfl
theorem tagg_155 : tagg Tryd.prog 155 = some false := by kernel_rfl
theorem tzero_155 : tzero Tryd.prog 155 = some [.nilf] := by kernel_rfl
theorem srcOk_155 : srcOk Tryd.prog 155 = true := by kernel_rfl
theorem tsh_156 : tsh Tryd.prog 156 = some (.array 20 67 1) := by kernel_rfl
theorem tsize_156 : tsize Tryd.prog 156 = some 20 := by kernel_rfl
theorem tagg_156 : tagg Tryd.prog 156 = some true := by kernel_rfl
theorem tzero_156 : tzero Tryd.prog 156 = some [.int .u64 0, .int .u64 0, .int .u64 0, .int .u64 0, .int .u64 0, .int .u64 0, .int .u64 0, .int .u64 0, .int .u64 0, .int .u64 0, .int .u64 0, .int .u64 0, .int .u64 0, .int .u64 0, .int .u64 0, .int .u64 0, .int .u64 0, .int .u64 0, .int .u64 0, .int .u64 0] := by kernel_rfl
theorem srcOk_156 : srcOk Tryd.prog 156 = true := by kernel_rfl
theorem tsh_157 : tsh Tryd.prog 157 = some (.array 65 5 1) := by kernel_rfl
theorem tsize_157 : tsize Tryd.prog 157 = some 65 := by kernel_rfl
theorem tagg_157 : tagg Tryd.prog 157 = some true := by kernel_rfl
theorem tzero_157 : tzero Tryd.prog 157 = some [.int .u8 0, .int .u8 0, .int .u8 0, .int .u8 0, .int .u8 0, .int .u8 0, .int .u8 0, .int .u8 0, .int .u8 0, .int .u8 0, .int .u8 0, .int .u8 0, .int .u8 0, .int .u8 0, .int .u8 0, .int .u8 0, .int .u8 0, .int .u8 0, .int .u8 0, .int .u8 0, .int .u8 0, .int .u8 0, .int .u8 0, .int .u8 0, .int .u8 0, .int .u8 0, .int .u8 0, .int .u8 0, .int .u8 0, .int .u8 0, .int .u8 0, .int .u8 0, .int .u8 0, .int .u8 0, .int .u8 0, .int .u8 0, .int .u8 0, .int .u8 0, .int .u8 0, .int .u8 0, .int .u8 0, .int .u8 0, .int .u8 0, .int .u8 0, .int .u8 0, .int .u8 0, .int .u8 0, .int .u8 0, .int .u8 0, .int .u8 0, .int .u8 0, .int .u8 0, .int .u8 0, .int .u8 0, .int .u8 0, .int .u8 0, .int .u8 0, .int .u8 0, .int .u8 0, .int .u8 0, .int .u8 0, .int .u8 0, .int .u8 0, .int .u8 0, .int .u8 0] := by kernel_rfl
theorem srcOk_157 : srcOk Tryd.prog 157 = true := by kernel_rfl
theorem tsh_158 : tsh Tryd.prog 158 = some .func := by kernel_rfl
theorem tsize_158 : tsize Tryd.prog 158 = some 1 := by kernel_rfl
theorem tagg_158 : tagg Tryd.prog 158 = some false := by kernel_rfl
theorem tzero_158 : tzero Tryd.prog 158 = some [.nilf] := by kernel_rfl
theorem srcOk_158 : srcOk Tryd.prog 158 = true := by kernel_rfl
theorem tsh_159 : tsh Tryd.prog 159 = some .func := by kernel_rfl
theorem tsize_159 : tsize Tryd.prog 159 = some 1 := by kernel_rfl
theorem tagg_159 : tagg Tryd.prog 159 = some false := by kernel_rfl
theorem tzero_159 : tzero Tryd.prog 159 = some [.nilf] := by kernel_rfl
theorem srcOk_159 : srcOk Tryd.prog 159 = true := by kernel_rfl
theorem tsh_160 : tsh Tryd.prog 160 = some .func := by kernel_rfl
theorem tsize_160 : tsize Tryd.prog 160 = some 1 := by kernel_rfl
theorem tagg_160 : tagg Tryd.prog 160 = some false := by kernel_rfl
theorem tzero_160 : tzero Tryd.prog 160 = some [.nilf] := by kernel_rfl
theorem srcOk_160 : srcOk Tryd.prog 160 = true := by kernel_rfl
theorem tsh_161 : tsh Tryd.prog 161 = some .other := by kernel_rfl
theorem tsize_161 : tsize Tryd.prog 161 = some 1 := by kernel_rfl
theorem tagg_161 : tagg Tryd.prog 161 = some false := by kernel_rfl
theorem srcOk_161 : srcOk Tryd.prog 161 = true := by kernel_rfl
theorem tsh_162 : tsh Tryd.prog 162 = some .func := by kernel_rfl
theorem tsize_162 : tsize Tryd.prog 162 = some 1 := by kernel_rfl
theorem tagg_162 : tagg Tryd.prog 162 = some false := by kernel_rfl
theorem tzero_162 : tzero Tryd.prog 162 = some [.nilf] := by kernel_rfl
theorem srcOk_162 : srcOk Tryd.prog 162 = true := by kernel_rfl
theorem tsh_163 : tsh Tryd.prog 163 = some (.int .i64) := by kernel_rfl
theorem tsize_163 : tsize Tryd.prog 163 = some 1 := by kernel_rfl
theorem tagg_163 : tagg Tryd.prog 163 = some false := by kernel_rfl
theorem tzero_163 : tzero Tryd.prog 163 = some [.int .i64 0] := by kernel_rfl
theorem srcOk_163 : srcOk Tryd.prog 163 = false := by kernel_rfl
theorem tsh_164 : tsh Tryd.prog 164 = some .func := by kernel_rfl
theorem tsize_164 : tsize Tryd.prog 164 = some 1 := by kernel_rfl
theorem tagg_164 : tagg Tryd.prog 164 = some false := by kernel_rfl
theorem tzero_164 : tzero Tryd.prog 164 = some [.nilf] := by kernel_rfl
theorem srcOk_164 : srcOk Tryd.prog 164 = true := by kernel_rfl
theorem tsh_165 : tsh Tryd.prog 165 = some (.ptr 170) := by kernel_rfl
theorem tsize_165 : tsize Tryd.prog 165 = some 1 := by kernel_rfl
theorem tagg_165 : tagg Tryd.prog 165 = some false := by kernel_rfl
theorem tzero_165 : tzero Tryd.prog 165 = some [.nilp] := by kernel_rfl
theorem srcOk_165 : srcOk Tryd.prog 165 = true := by kernel_rfl
theorem tsh_166 : tsh Tryd.prog 166 = some .func := by kernel_rfl
theorem tsize_166 : tsize Tryd.prog 166 = some 1 := by kernel_rfl
theorem tagg_166 : tagg Tryd.prog 166 = some false := by kernel_rfl
theorem tzero_166 : tzero Tryd.prog 166 = some [.nilf] := by kernel_rfl
theorem srcOk_166 : srcOk Tryd.prog 166 = true := by kernel_rfl
theorem tsh_167 : tsh Tryd.prog 167 = some .func := by kernel_rfl
theorem tsize_167 : tsize Tryd.prog 167 = some 1 := by kernel_rfl
theorem tagg_167 : tagg Tryd.prog 167 = some false := by kernel_rfl
theorem tzero_167 : tzero Tryd.prog 167 = some [.nilf] := by kernel_rfl
theorem srcOk_167 : srcOk Tryd.prog 167 = true := by kernel_rfl
theorem tsh_168 : tsh Tryd.prog 168 = some .func := by kernel_rfl
theorem tsize_168 : tsize Tryd.prog 168 = some 1 := by kernel_rfl
theorem tagg_168 : tagg Tryd.prog 168 = some false := by kernel_rfl
theorem tzero_168 : tzero Tryd.prog 168 = some [.nilf] := by kernel_rfl
theorem srcOk_168 : srcOk Tryd.prog 168 = true := by kernel_rfl
theorem tsh_169 : tsh Tryd.prog 169 = some .struct := by kernel_rfl
theorem tsize_169 : tsize Tryd.prog 169 = some 3 := by kernel_rfl
theorem tagg_169 : tagg Tryd.prog 169 = some true := by kernel_rfl
theorem tzero_169 : tzero Tryd.prog 169 = some [.str [], .str [], .nili] := by kernel_rfl
theorem tplaces_169 : tplaces Tryd.prog 169 = some [(0, 1), (1, 1), (2, 1)] := by kernel_rfl
theorem srcOk_169 : srcOk Tryd.prog 169 = true := by kernel_rfl
theorem tfield_169_0 : tfield Tryd.prog 169 0 = some (0, 1, false) := by kernel_rfl
theorem tfield_169_1 : tfield Tryd.prog 169 1 = some (1, 1, false) := by kernel_rfl
theorem tfield_169_2 : tfield Tryd.prog 169 2 = some (2, 1, false) := by kernel_rfl
theorem tsh_170 : tsh Tryd.prog 170 = some .struct := by kernel_rfl
theorem tsize_170 : tsize Tryd.prog 170 = some 3 := by kernel_rfl
theorem tagg_170 : tagg Tryd.prog 170 = some true := by kernel_rfl
theorem tzero_170 : tzero Tryd.prog 170 = some [.str [], .str [], .nili] := by kernel_rfl
theorem tplaces_170 : tplaces Tryd.prog 170 = some [(0, 1), (1, 1), (2, 1)] := by kernel_rfl
theorem srcOk_170 : srcOk Tryd.prog 170 = true := by kernel_rfl
theorem tfield_170_0 : tfield Tryd.prog 170 0 = some (0, 1, false) := by kernel_rfl
theorem tfield_170_1 : tfield Tryd.prog 170 1 = some (1, 1, false) := by kernel_rfl
theorem tfield_170_2 : tfield Tryd.prog 170 2 = some (2, 1, false) := by kernel_rfl
theorem tsh_171 : tsh Tryd.prog 171 = some .func := by kernel_rfl
theorem tsize_171 : tsize Tryd.prog 171 = some 1 := by kernel_rfl
theorem tagg_171 : tagg Tryd.prog 171 = some false := by kernel_rfl
theorem tzero_171 : tzero Tryd.prog 171 = some [.nilf] := by kernel_rfl
theorem srcOk_171 : srcOk Tryd.prog 171 = true := by kernel_rfl
theorem tsh_172 : tsh Tryd.prog 172 = some (.array 32 5 1) := by kernel_rfl
theorem tsize_172 : tsize Tryd.prog 172 = some 32 := by kernel_rfl
theorem tagg_172 : tagg Tryd.prog 172 = some true := by kernel_rfl
theorem tzero_172 : tzero Tryd.prog 172 = some [.int .u8 0, .int .u8 0, .int .u8 0, .int .u8 0, .int .u8 0, .int .u8 0, .int .u8 0, .int .u8 0, .int .u8 0, .int .u8 0, .int .u8 0, .int .u8 0, .int .u8 0, .int .u8 0, .int .u8 0, .int .u8 0, .int .u8 0, .int .u8 0, .int .u8 0, .int .u8 0, .int .u8 0, .int .u8 0, .int .u8 0, .int .u8 0, .int .u8 0, .int .u8 0, .int .u8 0, .int .u8 0, .int .u8 0, .int .u8 0, .int .u8 0, .int .u8 0] := by kernel_rfl
theorem srcOk_172 : srcOk Tryd.prog 172 = true := by kernel_rfl
theorem tsh_173 : tsh Tryd.prog 173 = some (.array 64 5 1) := by kernel_rfl
theorem tsize_173 : tsize Tryd.prog 173 = some 64 := by kernel_rfl
theorem tagg_173 : tagg Tryd.prog 173 = some true := by kernel_rfl
theorem tzero_173 : tzero Tryd.prog 173 = some [.int .u8 0, .int .u8 0, .int .u8 0, .int .u8 0, .int .u8 0, .int .u8 0, .int .u8 0, .int .u8 0, .int .u8 0, .int .u8 0, .int .u8 0, .int .u8 0, .int .u8 0, .int .u8 0, .int .u8 0, .int .u8 0, .int .u8 0, .int .u8 0, .int .u8 0, .int .u8 0, .int .u8 0, .int .u8 0, .int .u8 0, .int .u8 0, .int .u8 0, .int .u8 0, .int .u8 0, .int .u8 0, .int .u8 0, .int .u8 0, .int .u8 0, .int .u8 0, .int .u8 0, .int .u8 0, .int .u8 0, .int .u8 0, .int .u8 0, .int .u8 0, .int .u8 0, .int .u8 0, .int .u8 0, .int .u8 0, .int .u8 0, .int .u8 0, .int .u8 0, .int .u8 0, .int .u8 0, .int .u8 0, .int .u8 0, .int .u8 0, .int .u8 0, .int .u8 0, .int .u8 0, .int .u8 0, .int .u8 0, .int .u8 0, .int .u8 0, .int .u8 0, .int .u8 0, .int .u8 0, .int .u8 0, .int .u8 0, .int .u8 0, .int .u8 0] := by kernel_rfl
theorem srcOk_173 : srcOk Tryd.prog 173 = true := by kernel_rfl
theorem tsh_174 : tsh Tryd.prog 174 = some (.ptr 176) := by kernel_rfl
theorem tsize_174 : tsize Tryd.prog 174 = some 1 := by kernel_rfl
theorem tagg_174 : tagg Tryd.prog 174 = some false := by kernel_rfl
theorem tzero_174 : tzero Tryd.prog 174 = some [.nilp] := by kernel_rfl
theorem srcOk_174 : srcOk Tryd.prog 174 = true := by kernel_rfl
theorem tsh_175 : tsh Tryd.prog 175 = some .struct := by kernel_rfl
theorem tsize_175 : tsize Tryd.prog 175 = some 1 := by kernel_rfl
theorem tagg_175 : tagg Tryd.prog 175 = some true := by kernel_rfl
theorem tzero_175 : tzero Tryd.prog 175 = some [.str []] := by kernel_rfl
theorem tplaces_175 : tplaces Tryd.prog 175 = some [(0, 1)] := by kernel_rfl
theorem srcOk_175 : srcOk Tryd.prog 175 = true := by kernel_rfl
theorem eqg_175 : Tryd.prog.eqGuardType Tryd.prog.depth 175 = false := by kernel_rfl
theorem tfield_175_0 : tfield Tryd.prog 175 0 = some (0, 1, false) := by kernel_rfl
theorem tsh_176 : tsh Tryd.prog 176 = some .struct := by kernel_rfl
theorem tsize_176 : tsize Tryd.prog 176 = some 1 := by kernel_rfl
theorem tagg_176 : tagg Tryd.prog 176 = some true := by kernel_rfl
theorem tzero_176 : tzero Tryd.prog 176 = some [.str []] := by kernel_rfl
theorem tplaces_176 : tplaces Tryd.prog 176 = some [(0, 1)] := by kernel_rfl
theorem srcOk_176 : srcOk Tryd.prog 176 = true := by kernel_rfl
theorem eqg_176 : Tryd.prog.eqGuardType Tryd.prog.depth 176 = false := by kernel_rfl
theorem tfield_176_0 : tfield Tryd.prog 176 0 = some (0, 1, false) := by kernel_rfl
theorem tsh_177 : tsh Tryd.prog 177 = some .struct := by kernel_rfl
theorem tsize_177 : tsize Tryd.prog 177 = some 4 := by kernel_rfl
theorem tagg_177 : tagg Tryd.prog 177 = some true := by kernel_rfl
theorem tzero_177 : tzero Tryd.prog 177 = some [.nilp, .nilp, .nilp, .str []] := by kernel_rfl
theorem tplaces_177 : tplaces Tryd.prog 177 = some [(0, 1), (1, 1), (2, 1), (3, 1)] := by kernel_rfl
theorem srcOk_177 : srcOk Tryd.prog 177 = true := by kernel_rfl
theorem eqg_177 : Tryd.prog.eqGuardType Tryd.prog.depth 177 = false := by kernel_rfl
theorem tfield_177_0 : tfield Tryd.prog 177 0 = some (0, 1, false) := by kernel_rfl
theorem tfield_177_1 : tfield Tryd.prog 177 1 = some (1, 1, false) := by kernel_rfl
theorem tfield_177_2 : tfield Tryd.prog 177 2 = some (2, 1, false) := by kernel_rfl
theorem tfield_177_3 : tfield Tryd.prog 177 3 = some (3, 1, false) := by kernel_rfl
theorem tsh_178 : tsh Tryd.prog 178 = some .struct := by kernel_rfl
theorem tsize_178 : tsize Tryd.prog 178 = some 4 := by kernel_rfl
theorem tagg_178 : tagg Tryd.prog 178 = some true := by kernel_rfl
theorem tzero_178 : tzero Tryd.prog 178 = some [.nilp, .nilp, .nilp, .str []] := by kernel_rfl
theorem tplaces_178 : tplaces Tryd.prog 178 = some [(0, 1), (1, 1), (2, 1), (3, 1)] := by kernel_rfl
theorem srcOk_178 : srcOk Tryd.prog 178 = true := by kernel_rfl
theorem eqg_178 : Tryd.prog.eqGuardType Tryd.prog.depth 178 = false := by kernel_rfl
theorem tfield_178_0 : tfield Tryd.prog 178 0 = some (0, 1, false) := by kernel_rfl
theorem tfield_178_1 : tfield Tryd.prog 178 1 = some (1, 1, false) := by kernel_rfl
theorem tfield_178_2 : tfield Tryd.prog 178 2 = some (2, 1, false) := by kernel_rfl
theorem tfield_178_3 : tfield Tryd.prog 178 3 = some (3, 1, false) := by kernel_rfl
theorem tsh_179 : tsh Tryd.prog 179 = some (.array 0 16 1) := by kernel_rfl
theorem tsize_179 : tsize Tryd.prog 179 = some 0 := by kernel_rfl
theorem tagg_179 : tagg Tryd.prog 179 = some true := by kernel_rfl
theorem tzero_179 : tzero Tryd.prog 179 = some [] := by kernel_rfl
theorem srcOk_179 : srcOk Tryd.prog 179 = true := by kernel_rfl
theorem tsh_180 : tsh Tryd.prog 180 = some .struct := by kernel_rfl
theorem tsize_180 : tsize Tryd.prog 180 = some 0 := by kernel_rfl
theorem tagg_180 : tagg Tryd.prog 180 = some true := by kernel_rfl
theorem tzero_180 : tzero Tryd.prog 180 = some [] := by kernel_rfl
theorem tplaces_180 : tplaces Tryd.prog 180 = some [(0, 0)] := by kernel_rfl
theorem srcOk_180 : srcOk Tryd.prog 180 = true := by kernel_rfl
theorem eqg_180 : Tryd.prog.eqGuardType Tryd.prog.depth 180 = false := by kernel_rfl
theorem tfield_180_0 : tfield Tryd.prog 180 0 = some (0, 0, true) := by kernel_rfl
theorem tsh_181 : tsh Tryd.prog 181 = some .struct := by kernel_rfl
theorem tsize_181 : tsize Tryd.prog 181 = some 0 := by kernel_rfl
theorem tagg_181 : tagg Tryd.prog 181 = some true := by kernel_rfl
theorem tzero_181 : tzero Tryd.prog 181 = some [] := by kernel_rfl
theorem tplaces_181 : tplaces Tryd.prog 181 = some [(0, 0)] := by kernel_rfl
theorem srcOk_181 : srcOk Tryd.prog 181 = true := by kernel_rfl
theorem eqg_181 : Tryd.prog.eqGuardType Tryd.prog.depth 181 = false := by kernel_rfl
theorem tfield_181_0 : tfield Tryd.prog 181 0 = some (0, 0, true) := by kernel_rfl
theorem tsh_182 : tsh Tryd.prog 182 = some (.int .u8) := by kernel_rfl
theorem tsize_182 : tsize Tryd.prog 182 = some 1 := by kernel_rfl
theorem tagg_182 : tagg Tryd.prog 182 = some false := by kernel_rfl
theorem tzero_182 : tzero Tryd.prog 182 = some [.int .u8 0] := by kernel_rfl
theorem srcOk_182 : srcOk Tryd.prog 182 = false := by kernel_rfl
theorem tsh_183 : tsh Tryd.prog 183 = some (.int .u8) := by kernel_rfl
theorem tsize_183 : tsize Tryd.prog 183 = some 1 := by kernel_rfl
theorem tagg_183 : tagg Tryd.prog 183 = some false := by kernel_rfl
theorem tzero_183 : tzero Tryd.prog 183 = some [.int .u8 0] := by kernel_rfl
theorem srcOk_183 : srcOk Tryd.prog 183 = false := by kernel_rfl
theorem tsh_184 : tsh Tryd.prog 184 = some .func := by kernel_rfl
theorem tsize_184 : tsize Tryd.prog 184 = some 1 := by kernel_rfl
theorem tagg_184 : tagg Tryd.prog 184 = some false := by kernel_rfl
theorem tzero_184 : tzero Tryd.prog 184 = some [.nilf] := by kernel_rfl
theorem srcOk_184 : srcOk Tryd.prog 184 = true := by kernel_rfl
theorem tsh_185 : tsh Tryd.prog 185 = some (.int .i32) := by kernel_rfl
theorem tsize_185 : tsize Tryd.prog 185 = some 1 := by kernel_rfl
theorem tagg_185 : tagg Tryd.prog 185 = some false := by kernel_rfl
theorem tzero_185 : tzero Tryd.prog 185 = some [.int .i32 0] := by kernel_rfl
theorem srcOk_185 : srcOk Tryd.prog 185 = false := by kernel_rfl
theorem tsh_186 : tsh Tryd.prog 186 = some (.int .i32) := by kernel_rfl
theorem tsize_186 : tsize Tryd.prog 186 = some 1 := by kernel_rfl
theorem tagg_186 : tagg Tryd.prog 186 = some false := by kernel_rfl
theorem tzero_186 : tzero Tryd.prog 186 = some [.int .i32 0] := by kernel_rfl
theorem srcOk_186 : srcOk Tryd.prog 186 = false := by kernel_rfl
theorem tsh_187 : tsh Tryd.prog 187 = some .struct := by kernel_rfl
theorem tsize_187 : tsize Tryd.prog 187 = some 11 := by kernel_rfl
theorem tagg_187 : tagg Tryd.prog 187 = some true := by kernel_rfl
theorem tzero_187 : tzero Tryd.prog 187 = some [.int .u64 0, .int .u64 0, .int .u32 0, .int .u8 0, .int .u8 0, .int .u8 0, .int .u8 0, .nilf, .nilp, .int .i32 0, .int .i32 0] := by kernel_rfl
theorem tplaces_187 : tplaces Tryd.prog 187 = some [(0, 1), (1, 1), (2, 1), (3, 1), (4, 1), (5, 1), (6, 1), (7, 1), (8, 1), (9, 1), (10, 1)] := by kernel_rfl
theorem srcOk_187 : srcOk Tryd.prog 187 = true := by kernel_rfl
theorem eqg_187 : Tryd.prog.eqGuardType Tryd.prog.depth 187 = false := by kernel_rfl
theorem tfield_187_0 : tfield Tryd.prog 187 0 = some (0, 1, false) := by kernel_rfl
theorem tfield_187_1 : tfield Tryd.prog 187 1 = some (1, 1, false) := by kernel_rfl
theorem tfield_187_2 : tfield Tryd.prog 187 2 = some (2, 1, false) := by kernel_rfl
theorem tfield_187_3 : tfield Tryd.prog 187 3 = some (3, 1, false) := by kernel_rfl
theorem tfield_187_4 : tfield Tryd.prog 187 4 = some (4, 1, false) := by kernel_rfl
theorem tfield_187_5 : tfield Tryd.prog 187 5 = some (5, 1, false) := by kernel_rfl
theorem tfield_187_6 : tfield Tryd.prog 187 6 = some (6, 1, false) := by kernel_rfl
theorem tfield_187_7 : tfield Tryd.prog 187 7 = some (7, 1, false) := by kernel_rfl
theorem tfield_187_8 : tfield Tryd.prog 187 8 = some (8, 1, false) := by kernel_rfl
theorem tfield_187_9 : tfield Tryd.prog 187 9 = some (9, 1, false) := by kernel_rfl
theorem tfield_187_10 : tfield Tryd.prog 187 10 = some (10, 1, false) := by kernel_rfl
theorem tsh_188 : tsh Tryd.prog 188 = some .struct := by kernel_rfl
theorem tsize_188 : tsize Tryd.prog 188 = some 11 := by kernel_rfl
theorem tagg_188 : tagg Tryd.prog 188 = some true := by kernel_rfl
theorem tzero_188 : tzero Tryd.prog 188 = some [.int .u64 0, .int .u64 0, .int .u32 0, .int .u8 0, .int .u8 0, .int .u8 0, .int .u8 0, .nilf, .nilp, .int .i32 0, .int .i32 0] := by kernel_rfl
theorem tplaces_188 : tplaces Tryd.prog 188 = some [(0, 1), (1, 1), (2, 1), (3, 1), (4, 1), (5, 1), (6, 1), (7, 1), (8, 1), (9, 1), (10, 1)] := by kernel_rfl
theorem srcOk_188 : srcOk Tryd.prog 188 = true := by kernel_rfl
theorem eqg_188 : Tryd.prog.eqGuardType Tryd.prog.depth 188 = false := by kernel_rfl
theorem tfield_188_0 : tfield Tryd.prog 188 0 = some (0, 1, false) := by kernel_rfl
theorem tfield_188_1 : tfield Tryd.prog 188 1 = some (1, 1, false) := by kernel_rfl
theorem tfield_188_2 : tfield Tryd.prog 188 2 = some (2, 1, false) := by kernel_rfl
theorem tfield_188_3 : tfield Tryd.prog 188 3 = some (3, 1, false) := by kernel_rfl
theorem tfield_188_4 : tfield Tryd.prog 188 4 = some (4, 1, false) := by kernel_rfl
theorem tfield_188_5 : tfield Tryd.prog 188 5 = some (5, 1, false) := by kernel_rfl
theorem tfield_188_6 : tfield Tryd.prog 188 6 = some (6, 1, false) := by kernel_rfl
theorem tfield_188_7 : tfield Tryd.prog 188 7 = some (7, 1, false) := by kernel_rfl
theorem tfield_188_8 : tfield Tryd.prog 188 8 = some (8, 1, false) := by kernel_rfl
theorem tfield_188_9 : tfield Tryd.prog 188 9 = some (9, 1, false) := by kernel_rfl
theorem tfield_188_10 : tfield Tryd.prog 188 10 = some (10, 1, false) := by kernel_rfl
theorem hasBody_2 : hasBody Tryd.prog 2 = true := by kernel_rfl
theorem hasBody_3 : hasBody Tryd.prog 3 = true := by kernel_rfl
theorem hasBody_4 : hasBody Tryd.prog 4 = true := by kernel_rfl
theorem hasBody_5 : hasBody Tryd.prog 5 = true := by kernel_rfl
theorem hasBody_6 : hasBody Tryd.prog 6 = true := by kernel_rfl
theorem hasBody_7 : hasBody Tryd.prog 7 = true := by kernel_rfl
theorem hasBody_8 : hasBody Tryd.prog 8 = true := by kernel_rfl
theorem hasBody_9 : hasBody Tryd.prog 9 = true := by kernel_rfl
theorem hasBody_10 : hasBody Tryd.prog 10 = true := by kernel_rfl
theorem hasBody_11 : hasBody Tryd.prog 11 = true := by kernel_rfl
theorem hasBody_12 : hasBody Tryd.prog 12 = true := by kernel_rfl
theorem hasBody_13 : hasBody Tryd.prog 13 = true := by kernel_rfl
theorem hasBody_14 : hasBody Tryd.prog 14 = true := by kernel_rfl
theorem hasBody_15 : hasBody Tryd.prog 15 = true := by kernel_rfl
theorem hasBody_16 : hasBody Tryd.prog 16 = true := by kernel_rfl
theorem hasBody_17 : hasBody Tryd.prog 17 = true := by kernel_rfl
theorem hasBody_18 : hasBody Tryd.prog 18 = true := by kernel_rfl
theorem hasBody_19 : hasBody Tryd.prog 19 = true := by kernel_rfl
theorem hasBody_20 : hasBody Tryd.prog 20 = true := by kernel_rfl
theorem hasBody_21 : hasBody Tryd.prog 21 = true := by kernel_rfl
theorem hasBody_22 : hasBody Tryd.prog 22 = true := by kernel_rfl
theorem hasBody_23 : hasBody Tryd.prog 23 = true := by kernel_rfl
theorem hasBody_24 : hasBody Tryd.prog 24 = true := by kernel_rfl
theorem hasBody_25 : hasBody Tryd.prog 25 = true := by kernel_rfl
theorem hasBody_26 : hasBody Tryd.prog 26 = true := by kernel_rfl
theorem hasBody_27 : hasBody Tryd.prog 27 = true := by kernel_rfl
theorem hasBody_28 : hasBody Tryd.prog 28 = true := by kernel_rfl
theorem hasBody_29 : hasBody Tryd.prog 29 = true := by kernel_rfl
theorem hasBody_30 : hasBody Tryd.prog 30 = true := by kernel_rfl
theorem hasBody_31 : hasBody Tryd.prog 31 = true := by kernel_rfl
theorem hasBody_32 : hasBody Tryd.prog 32 = true := by kernel_rfl
theorem hasBody_33 : hasBody Tryd.prog 33 = true := by kernel_rfl
theorem hasBody_34 : hasBody Tryd.prog 34 = true := by kernel_rfl
theorem hasBody_35 : hasBody Tryd.prog 35 = true := by kernel_rfl
theorem hasBody_36 : hasBody Tryd.prog 36 = true := by kernel_rfl
theorem hasBody_37 : hasBody Tryd.prog 37 = true := by kernel_rfl
theorem hasBody_38 : hasBody Tryd.prog 38 = true := by kernel_rfl
theorem hasBody_39 : hasBody Tryd.prog 39 = true := by kernel_rfl
theorem hasBody_40 : hasBody Tryd.prog 40 = true := by kernel_rfl
theorem hasBody_41 : hasBody Tryd.prog 41 = true := by kernel_rfl
theorem hasBody_42 : hasBody Tryd.prog 42 = true := by kernel_rfl
theorem hasBody_43 : hasBody Tryd.prog 43 = true := by kernel_rfl
theorem hasBody_44 : hasBody Tryd.prog 44 = true := by kernel_rfl
theorem hasBody_45 : hasBody Tryd.prog 45 = true := by kernel_rfl
theorem hasBody_46 : hasBody Tryd.prog 46 = true := by kernel_rfl
theorem hasBody_47 : hasBody Tryd.prog 47 = true := by kernel_rfl
theorem hasBody_48 : hasBody Tryd.prog 48 = true := by kernel_rfl
theorem hasBody_49 : hasBody Tryd.prog 49 = true := by kernel_rfl
theorem hasBody_50 : hasBody Tryd.prog 50 = true := by kernel_rfl
theorem hasBody_51 : hasBody Tryd.prog 51 = true := by kernel_rfl
theorem hasBody_52 : hasBody Tryd.prog 52 = true := by kernel_rfl
theorem hasBody_53 : hasBody Tryd.prog 53 = true := by kernel_rfl
theorem hasBody_54 : hasBody Tryd.prog 54 = true := by kernel_rfl
theorem hasBody_55 : hasBody Tryd.prog 55 = true := by kernel_rfl
theorem hasBody_56 : hasBody Tryd.prog 56 = true := by kernel_rfl
theorem hasBody_57 : hasBody Tryd.prog 57 = true := by kernel_rfl
theorem hasBody_58 : hasBody Tryd.prog 58 = true := by kernel_rfl
theorem hasBody_59 : hasBody Tryd.prog 59 = true := by kernel_rfl
theorem hasBody_60 : hasBody Tryd.prog 60 = true := by kernel_rfl
theorem hasBody_61 : hasBody Tryd.prog 61 = true := by kernel_rfl
theorem hasBody_62 : hasBody Tryd.prog 62 = true := by kernel_rfl
theorem hasBody_63 : hasBody Tryd.prog 63 = true := by kernel_rfl
theorem hasBody_64 : hasBody Tryd.prog 64 = true := by kernel_rfl
theorem hasBody_65 : hasBody Tryd.prog 65 = true := by kernel_rfl
theorem hasBody_66 : hasBody Tryd.prog 66 = true := by kernel_rfl
theorem hasBody_67 : hasBody Tryd.prog 67 = true := by kernel_rfl
theorem hasBody_68 : hasBody Tryd.prog 68 = true := by kernel_rfl
theorem hasBody_69 : hasBody Tryd.prog 69 = true := by kernel_rfl
theorem hasBody_70 : hasBody Tryd.prog 70 = true := by kernel_rfl
theorem hasBody_71 : hasBody Tryd.prog 71 = true := by kernel_rfl
theorem hasBody_72 : hasBody Tryd.prog 72 = true := by kernel_rfl
theorem hasBody_73 : hasBody Tryd.prog 73 = true := by kernel_rfl
theorem hasBody_74 : hasBody Tryd.prog 74 = true := by kernel_rfl
theorem hasBody_75 : hasBody Tryd.prog 75 = true := by kernel_rfl
theorem hasBody_76 : hasBody Tryd.prog 76 = true := by kernel_rfl
theorem hasBody_77 : hasBody Tryd.prog 77 = true := by kernel_rfl
theorem hasBody_78 : hasBody Tryd.prog 78 = true := by kernel_rfl
theorem hasBody_79 : hasBody Tryd.prog 79 = true := by kernel_rfl
theorem hasBody_80 : hasBody Tryd.prog 80 = true := by kernel_rfl
theorem hasBody_81 : hasBody Tryd.prog 81 = true := by kernel_rfl
theorem hasBody_82 : hasBody Tryd.prog 82 = true := by kernel_rfl
theorem hasBody_83 : hasBody Tryd.prog 83 = true := by kernel_rfl
theorem hasBody_84 : hasBody Tryd.prog 84 = true := by kernel_rfl
theorem hasBody_85 : hasBody Tryd.prog 85 = true := by kernel_rfl
theorem hasBody_86 : hasBody Tryd.prog 86 = true := by kernel_rfl
theorem hasBody_87 : hasBody Tryd.prog 87 = true := by kernel_rfl
theorem hasBody_88 : hasBody Tryd.prog 88 = true := by kernel_rfl
theorem hasBody_89 : hasBody Tryd.prog 89 = true := by kernel_rfl
theorem hasBody_90 : hasBody Tryd.prog 90 = true := by kernel_rfl
theorem hasBody_91 : hasBody Tryd.prog 91 = true := by kernel_rfl
theorem hasBody_92 : hasBody Tryd.prog 92 = true := by kernel_rfl
theorem hasBody_93 : hasBody Tryd.prog 93 = true := by kernel_rfl
theorem hasBody_94 : hasBody Tryd.prog 94 = true := by kernel_rfl
theorem isNZ_95 : isNZ Tryd.prog 95 = none := by kernel_rfl
theorem isExt_95 : isExt Tryd.prog 95 = some .same := by kernel_rfl
theorem hasBody_95 : hasBody Tryd.prog 95 = false := by kernel_rfl
theorem hasBody_96 : hasBody Tryd.prog 96 = true := by kernel_rfl
theorem hasBody_97 : hasBody Tryd.prog 97 = true := by kernel_rfl
theorem hasBody_98 : hasBody Tryd.prog 98 = true := by kernel_rfl
theorem hasBody_99 : hasBody Tryd.prog 99 = true := by kernel_rfl
theorem hasBody_100 : hasBody Tryd.prog 100 = true := by kernel_rfl
theorem hasBody_101 : hasBody Tryd.prog 101 = true := by kernel_rfl
theorem hasBody_102 : hasBody Tryd.prog 102 = true := by kernel_rfl
theorem hasBody_103 : hasBody Tryd.prog 103 = true := by kernel_rfl
theorem hasBody_104 : hasBody Tryd.prog 104 = true := by kernel_rfl
theorem hasBody_105 : hasBody Tryd.prog 105 = true := by kernel_rfl
theorem hasBody_106 : hasBody Tryd.prog 106 = true := by kernel_rfl
theorem isNZ_107 : isNZ Tryd.prog 107 = some 5 := by kernel_rfl
theorem hasBody_107 : hasBody Tryd.prog 107 = false := by kernel_rfl
theorem hasBody_108 : hasBody Tryd.prog 108 = true := by kernel_rfl
theorem hasBody_109 : hasBody Tryd.prog 109 = true := by kernel_rfl
theorem hasBody_110 : hasBody Tryd.prog 110 = true := by kernel_rfl
theorem hasBody_111 : hasBody Tryd.prog 111 = true := by kernel_rfl
theorem hasBody_112 : hasBody Tryd.prog 112 = true := by kernel_rfl
theorem hasBody_113 : hasBody Tryd.prog 113 = true := by kernel_rfl
theorem hasBody_114 : hasBody Tryd.prog 114 = true := by kernel_rfl
theorem hasBody_115 : hasBody Tryd.prog 115 = true := by kernel_rfl
theorem hasBody_116 : hasBody Tryd.prog 116 = true := by kernel_rfl
theorem hasBody_117 : hasBody Tryd.prog 117 = true := by kernel_rfl
theorem hasBody_118 : hasBody Tryd.prog 118 = true := by kernel_rfl
theorem hasBody_119 : hasBody Tryd.prog 119 = true := by kernel_rfl
theorem hasBody_149 : hasBody Tryd.prog 149 = true := by kernel_rfl
theorem glob_0 : decide (0 < Tryd.prog.globals.size) = true := by kernel_rfl
theorem glob_1 : decide (1 < Tryd.prog.globals.size) = true := by kernel_rfl
theorem glob_3 : decide (3 < Tryd.prog.globals.size) = true := by kernel_rfl
theorem glob_4 : decide (4 < Tryd.prog.globals.size) = true := by kernel_rfl
theorem glob_5 : decide (5 < Tryd.prog.globals.size) = true := by kernel_rfl
theorem glob_6 : decide (6 < Tryd.prog.globals.size) = true := by kernel_rfl
section
variable {H : Hp}
theorem conv_2_67 {kd n} : evConv Tryd.prog 2 67 (.int kd n) H = some (.int .u64 (IntKind.wrap .u64 n), H) := by simp only [evConv, tsh_2, tsh_67]
theorem conv_3_5 {kd n} : evConv Tryd.prog 3 5 (.int kd n) H = some (.int .u8 (IntKind.wrap .u8 n), H) := by simp only [evConv, tsh_3, tsh_5]
theorem conv_3_32 {kd n} : evConv Tryd.prog 3 32 (.int kd n) H = some (.int .u16 (IntKind.wrap .u16 n), H) := by simp only [evConv, tsh_3, tsh_32]
theorem conv_3_34 {kd n} : evConv Tryd.prog 3 34 (.int kd n) H = some (.int .u32 (IntKind.wrap .u32 n), H) := by simp only [evConv, tsh_3, tsh_34]
theorem conv_3_67 {kd n} : evConv Tryd.prog 3 67 (.int kd n) H = some (.int .u64 (IntKind.wrap .u64 n), H) := by simp only [evConv, tsh_3, tsh_67]
theorem conv_3_72 {kd n} : evConv Tryd.prog 3 72 (.int kd n) H = some (.int .u64 (IntKind.wrap .u64 n), H) := by simp only [evConv, tsh_3, tsh_72]
theorem conv_5_3 {kd n} : evConv Tryd.prog 5 3 (.int kd n) H = some (.int .i64 (IntKind.wrap .i64 n), H) := by simp only [evConv, tsh_5, tsh_3]
theorem conv_5_34 {kd n} : evConv Tryd.prog 5 34 (.int kd n) H = some (.int .u32 (IntKind.wrap .u32 n), H) := by simp only [evConv, tsh_5, tsh_34]
theorem conv_5_67 {kd n} : evConv Tryd.prog 5 67 (.int kd n) H = some (.int .u64 (IntKind.wrap .u64 n), H) := by simp only [evConv, tsh_5, tsh_67]
theorem conv_9_31 {s} : evConv Tryd.prog 9 31 (.str s) H = some (.slice H.length 0 s.length (.op 0), H ++ [.cells (s.map fun b => .int .u8 b.toNat) 5 (.op 0 true)]) := by simp only [evConv, tsh_9, tsh_31, tsh_5]
theorem conv_31_9 {p o n c} : evConv Tryd.prog 31 9 (.slice p o n c) H = (rd H p o n).bind fun c => (evConv.bytesOf c).map fun s => (.str s, H) := by simp only [evConv, tsh_31, tsh_9, tsh_5]
theorem conv_31_9n : evConv Tryd.prog 31 9 .nils H = some (.str [], H) := by simp only [evConv, tsh_31, tsh_9, tsh_5]
theorem conv_31_33 {p o n c} : evConv Tryd.prog 31 33 (.slice p o n c) H = (rd H p o n).bind fun c => (evConv.bytesOf c).map fun s => (.str s, H) := by simp only [evConv, tsh_31, tsh_33, tsh_5]
theorem conv_31_33n : evConv Tryd.prog 31 33 .nils H = some (.str [], H) := by simp only [evConv, tsh_31, tsh_33, tsh_5]
theorem conv_32_3 {kd n} : evConv Tryd.prog 32 3 (.int kd n) H = some (.int .i64 (IntKind.wrap .i64 n), H) := by simp only [evConv, tsh_32, tsh_3]
theorem conv_32_34 {kd n} : evConv Tryd.prog 32 34 (.int kd n) H = some (.int .u32 (IntKind.wrap .u32 n), H) := by simp only [evConv, tsh_32, tsh_34]
theorem conv_33_31 {s} : evConv Tryd.prog 33 31 (.str s) H = some (.slice H.length 0 s.length (.op 0), H ++ [.cells (s.map fun b => .int .u8 b.toNat) 5 (.op 0 true)]) := by simp only [evConv, tsh_33, tsh_31, tsh_5]
theorem conv_34_5 {kd n} : evConv Tryd.prog 34 5 (.int kd n) H = some (.int .u8 (IntKind.wrap .u8 n), H) := by simp only [evConv, tsh_34, tsh_5]
theorem conv_34_32 {kd n} : evConv Tryd.prog 34 32 (.int kd n) H = some (.int .u16 (IntKind.wrap .u16 n), H) := by simp only [evConv, tsh_34, tsh_32]
theorem conv_34_67 {kd n} : evConv Tryd.prog 34 67 (.int kd n) H = some (.int .u64 (IntKind.wrap .u64 n), H) := by simp only [evConv, tsh_34, tsh_67]
theorem conv_67_3 {kd n} : evConv Tryd.prog 67 3 (.int kd n) H = some (.int .i64 (IntKind.wrap .i64 n), H) := by simp only [evConv, tsh_67, tsh_3]
theorem conv_67_5 {kd n} : evConv Tryd.prog 67 5 (.int kd n) H = some (.int .u8 (IntKind.wrap .u8 n), H) := by simp only [evConv, tsh_67, tsh_5]
theorem conv_67_32 {kd n} : evConv Tryd.prog 67 32 (.int kd n) H = some (.int .u16 (IntKind.wrap .u16 n), H) := by simp only [evConv, tsh_67, tsh_32]
theorem conv_67_34 {kd n} : evConv Tryd.prog 67 34 (.int kd n) H = some (.int .u32 (IntKind.wrap .u32 n), H) := by simp only [evConv, tsh_67, tsh_34]
theorem conv_72_34 {kd n} : evConv Tryd.prog 72 34 (.int kd n) H = some (.int .u32 (IntKind.wrap .u32 n), H) := by simp only [evConv, tsh_72, tsh_34]
-- convert 76 146: some (.ptr 78) to some .upt
-- convert 146 76: some .upt to some (.ptr 78)
end
attribute [go_sem] tsh_0 tsize_0 tagg_0 srcOk_0 tsh_1 tsize_1 tagg_1 tzero_1 srcOk_1 tsh_2 tsize_2 tagg_2 tzero_2 srcOk_2 tsh_3 tsize_3 tagg_3 tzero_3 srcOk_3 tsh_4 tsize_4 tagg_4 tzero_4 srcOk_4 und_4 tsh_5 tsize_5 tagg_5 tzero_5 srcOk_5 tsh_6 tsize_6 tagg_6 tzero_6 srcOk_6 tsh_7 tsize_7 tagg_7 tzero_7 tplaces_7
attribute [go_sem] srcOk_7 eqg_7 tfield_7_0 tfield_7_1 tfield_7_2 tfield_7_3 tsh_8 tsize_8 tagg_8 tzero_8 tplaces_8 srcOk_8 eqg_8 tfield_8_0 tfield_8_1 tfield_8_2 tfield_8_3 tsh_9 tsize_9 tagg_9 tzero_9 srcOk_9 tsh_10 tsize_10 tagg_10 tzero_10 srcOk_10 tsh_11 tsize_11 tagg_11 tzero_11 srcOk_11 tsh_12 tsize_12 tagg_12 tzero_12 srcOk_12 tsh_13 tsize_13 tagg_13
attribute [go_sem] tzero_13 tplaces_13 srcOk_13 eqg_13 tfield_13_0 tfield_13_1 tsh_14 tsize_14 tagg_14 tzero_14 tplaces_14 srcOk_14 eqg_14 tfield_14_0 tfield_14_1 tsh_15 tsize_15 tagg_15 tzero_15 srcOk_15 tsh_16 tsize_16 tagg_16 tzero_16 srcOk_16 tsh_17 tsize_17 tagg_17 tzero_17 srcOk_17 tsh_18 tsize_18 tagg_18 tzero_18 tplaces_18 srcOk_18 eqg_18 tfield_18_0 tsh_19 tsize_19
attribute [go_sem] tagg_19 tzero_19 tplaces_19 srcOk_19 eqg_19 tfield_19_0 tsh_20 tsize_20 tagg_20 tzero_20 srcOk_20 tsh_21 tsize_21 tagg_21 tzero_21 srcOk_21 tsh_22 tsize_22 tagg_22 tzero_22 srcOk_22 zok_22 tsh_23 tsize_23 tagg_23 tzero_23 srcOk_23 tsh_24 tsize_24 tagg_24 tzero_24 srcOk_24 tsh_25 tsize_25 tagg_25 tzero_25 srcOk_25 tsh_26 tsize_26 tagg_26
attribute [go_sem] tzero_26 srcOk_26 tsh_27 tsize_27 tagg_27 tzero_27 srcOk_27 zok_27 tsh_28 tsize_28 tagg_28 tzero_28 srcOk_28 zok_28 tsh_29 tsize_29 tagg_29 tzero_29 tplaces_29 srcOk_29 eqg_29 tfield_29_0 tfield_29_1 tsh_30 tsize_30 tagg_30 tzero_30 tplaces_30 srcOk_30 eqg_30 tfield_30_0 tfield_30_1 tsh_31 tsize_31 tagg_31 tzero_31 srcOk_31 zok_31 tsh_32 tsize_32
attribute [go_sem] tagg_32 tzero_32 srcOk_32 tsh_33 tsize_33 tagg_33 tzero_33 srcOk_33 tsh_34 tsize_34 tagg_34 tzero_34 srcOk_34 tsh_35 tsize_35 tagg_35 tzero_35 srcOk_35 tsh_36 tsize_36 tagg_36 tzero_36 tplaces_36 srcOk_36 eqg_36 tfield_36_0 tfield_36_1 tfield_36_2 tfield_36_3 tsh_37 tsize_37 tagg_37 tzero_37 tplaces_37 srcOk_37 eqg_37 tfield_37_0 tfield_37_1 tfield_37_2 tfield_37_3
attribute [go_sem] tsh_38 tsize_38 tagg_38 tzero_38 tplaces_38 srcOk_38 eqg_38 tfield_38_0 tfield_38_1 tfield_38_2 tsh_39 tsize_39 tagg_39 tzero_39 tplaces_39 srcOk_39 eqg_39 tfield_39_0 tfield_39_1 tfield_39_2 tsh_40 tsize_40 tagg_40 tzero_40 srcOk_40 tsh_41 tsize_41 tagg_41 srcOk_41 tsh_42 tsize_42 tagg_42 tzero_42 srcOk_42 tsh_43 tsize_43 tagg_43 tzero_43 srcOk_43 tsh_44
attribute [go_sem] tsize_44 tagg_44 tzero_44 srcOk_44 tsh_45 tsize_45 tagg_45 srcOk_45 tsh_46 tsize_46 tagg_46 tzero_46 srcOk_46 tsh_47 tsize_47 tagg_47 tzero_47 srcOk_47 tsh_48 tsize_48 tagg_48 tzero_48 srcOk_48 tsh_49 tsize_49 tagg_49 tzero_49 srcOk_49 tsh_50 tsize_50 tagg_50 srcOk_50 tsh_51 tsize_51 tagg_51 tzero_51 srcOk_51 tsh_52 tsize_52 tagg_52
attribute [go_sem] tzero_52 srcOk_52 tsh_53 tsize_53 tagg_53 srcOk_53 tsh_54 tsize_54 tagg_54 tzero_54 srcOk_54 tsh_55 tsize_55 tagg_55 tzero_55 srcOk_55 tsh_56 tsize_56 tagg_56 tzero_56 srcOk_56 tsh_57 tsize_57 tagg_57 tzero_57 srcOk_57 tsh_58 tsize_58 tagg_58 tzero_58 tplaces_58 srcOk_58 eqg_58 tfield_58_0 tsh_59 tsize_59 tagg_59 tzero_59 tplaces_59 srcOk_59
attribute [go_sem] eqg_59 tfield_59_0 tsh_60 tsize_60 tagg_60 tzero_60 srcOk_60 tsh_61 tsize_61 tagg_61 tzero_61 srcOk_61 tsh_62 tsize_62 tagg_62 tzero_62 srcOk_62 tsh_63 tsize_63 tagg_63 tzero_63 srcOk_63 tsh_64 tsize_64 tagg_64 tzero_64 srcOk_64 zok_64 tsh_65 tsize_65 tagg_65 tzero_65 srcOk_65 tsh_66 tsize_66 tagg_66 tzero_66 srcOk_66 tsh_67 tsize_67
attribute [go_sem] tagg_67 tzero_67 srcOk_67 tsh_68 tsize_68 tagg_68 tzero_68 srcOk_68 tsh_69 tsize_69 tagg_69 tzero_69 srcOk_69 tsh_70 tsize_70 tagg_70 tzero_70 srcOk_70 tsh_71 tsize_71 tagg_71 tzero_71 srcOk_71 tsh_72 tsize_72 tagg_72 tzero_72 srcOk_72 tsh_73 tsize_73 tagg_73 srcOk_73 tsh_74 tsize_74 tagg_74 tzero_74 srcOk_74 tsh_75 tsize_75 tagg_75
attribute [go_sem] tzero_75 srcOk_75 tsh_76 tsize_76 tagg_76 tzero_76 srcOk_76 tsh_77 tsize_77 tagg_77 tzero_77 tplaces_77 srcOk_77 eqg_77 tfield_77_0 tfield_77_1 tsh_78 tsize_78 tagg_78 tzero_78 tplaces_78 srcOk_78 eqg_78 tfield_78_0 tfield_78_1 tsh_79 tsize_79 tagg_79 tzero_79 srcOk_79 tsh_80 tsize_80 tagg_80 tzero_80 srcOk_80 tsh_81 tsize_81 tagg_81 tzero_81 srcOk_81
attribute [go_sem] tsh_82 tsize_82 tagg_82 tzero_82 srcOk_82 tsh_83 tsize_83 tagg_83 srcOk_83 tsh_84 tsize_84 tagg_84 tzero_84 srcOk_84 tsh_85 tsize_85 tagg_85 srcOk_85 tsh_86 tsize_86 tagg_86 tzero_86 srcOk_86 tsh_87 tsize_87 tagg_87 tzero_87 srcOk_87 tsh_88 tsize_88 tagg_88 tzero_88 srcOk_88 tsh_89 tsize_89 tagg_89 tzero_89 srcOk_89 tsh_90 tsize_90
attribute [go_sem] tagg_90 tzero_90 srcOk_90 tsh_91 tsize_91 tagg_91 tzero_91 srcOk_91 tsh_92 tsize_92 tagg_92 tzero_92 srcOk_92 tsh_93 tsize_93 tagg_93 tzero_93 srcOk_93 tsh_94 tsize_94 tagg_94 tzero_94 srcOk_94 tsh_95 tsize_95 tagg_95 tzero_95 srcOk_95 tsh_96 tsize_96 tagg_96 tzero_96 tplaces_96 srcOk_96 eqg_96 tfield_96_0 tfield_96_1 tfield_96_2 tfield_96_3 tfield_96_4
attribute [go_sem] tsh_97 tsize_97 tagg_97 tzero_97 tplaces_97 srcOk_97 eqg_97 tfield_97_0 tfield_97_1 tfield_97_2 tfield_97_3 tfield_97_4 tsh_98 tsize_98 tagg_98 tzero_98 srcOk_98 tsh_99 tsize_99 tagg_99 srcOk_99 tsh_100 tsize_100 tagg_100 tzero_100 srcOk_100 tsh_101 tsize_101 tagg_101 tzero_101 tplaces_101 srcOk_101 eqg_101 tfield_101_0 tfield_101_1 tfield_101_2 tsh_102 tsize_102 tagg_102 tzero_102
attribute [go_sem] srcOk_102 tsh_103 tsize_103 tagg_103 srcOk_103 tsh_104 tsize_104 tagg_104 tzero_104 srcOk_104 tsh_105 tsize_105 tagg_105 srcOk_105 tsh_106 tsize_106 tagg_106 tzero_106 srcOk_106 tsh_107 tsize_107 tagg_107 tzero_107 srcOk_107 zok_107 tsh_108 tsize_108 tagg_108 srcOk_108 tsh_109 tsize_109 tagg_109 tzero_109 srcOk_109 tsh_110 tsize_110 tagg_110 srcOk_110 tsh_111 tsize_111
attribute [go_sem] tagg_111 tzero_111 srcOk_111 tsh_112 tsize_112 tagg_112 tzero_112 srcOk_112 tsh_113 tsize_113 tagg_113 tzero_113 srcOk_113 tsh_114 tsize_114 tagg_114 tzero_114 srcOk_114 tsh_115 tsize_115 tagg_115 srcOk_115 tsh_116 tsize_116 tagg_116 tzero_116 srcOk_116 tsh_117 tsize_117 tagg_117 tzero_117 srcOk_117 tsh_118 tsize_118 tagg_118 srcOk_118 tsh_119 tsize_119 tagg_119 tzero_119
attribute [go_sem] srcOk_119 tsh_120 tsize_120 tagg_120 tzero_120 srcOk_120 tsh_121 tsize_121 tagg_121 tzero_121 srcOk_121 tsh_122 tsize_122 tagg_122 tzero_122 srcOk_122 tsh_123 tsize_123 tagg_123 tzero_123 srcOk_123 tsh_124 tsize_124 tagg_124 srcOk_124 tsh_125 tsize_125 tagg_125 tzero_125 srcOk_125 tsh_126 tsize_126 tagg_126 tzero_126 srcOk_126 tsh_127 tsize_127 tagg_127 srcOk_127 tsh_128
attribute [go_sem] tsize_128 tagg_128 tzero_128 srcOk_128 tsh_129 tsize_129 tagg_129 srcOk_129 tsh_130 tsize_130 tagg_130 tzero_130 srcOk_130 tsh_131 tsize_131 tagg_131 tzero_131 srcOk_131 tsh_132 tsize_132 tagg_132 tzero_132 srcOk_132 tsh_133 tsize_133 tagg_133 tzero_133 srcOk_133 tsh_134 tsize_134 tagg_134 srcOk_134 tsh_135 tsize_135 tagg_135 tzero_135 srcOk_135 tsh_136 tsize_136 tagg_136
attribute [go_sem] tzero_136 srcOk_136 tsh_137 tsize_137 tagg_137 tzero_137 srcOk_137 tsh_138 tsize_138 tagg_138 tzero_138 srcOk_138 tsh_139 tsize_139 tagg_139 tzero_139 srcOk_139 tsh_140 tsize_140 tagg_140 tzero_140 srcOk_140 tsh_141 tsize_141 tagg_141 srcOk_141 tsh_142 tsize_142 tagg_142 tzero_142 srcOk_142 tsh_143 tsize_143 tagg_143 tzero_143 srcOk_143 tsh_144 tsize_144 tagg_144 srcOk_144
attribute [go_sem] tsh_145 tsize_145 tagg_145 tzero_145 srcOk_145 tsh_146 tsize_146 tagg_146 tzero_146 srcOk_146 tsh_147 tsize_147 tagg_147 tzero_147 srcOk_147 tsh_148 tsize_148 tagg_148 srcOk_148 tsh_149 tsize_149 tagg_149 tzero_149 srcOk_149 tsh_150 tsize_150 tagg_150 tzero_150 srcOk_150 tsh_151 tsize_151 tagg_151 tzero_151 srcOk_151 tsh_152 tsize_152 tagg_152 srcOk_152 tsh_153 tsize_153
attribute [go_sem] tagg_153 tzero_153 srcOk_153 tsh_154 tsize_154 tagg_154 tzero_154 srcOk_154 tsh_155 tsize_155 tagg_155 tzero_155 srcOk_155 tsh_156 tsize_156 tagg_156 tzero_156 srcOk_156 tsh_157 tsize_157 tagg_157 tzero_157 srcOk_157 tsh_158 tsize_158 tagg_158 tzero_158 srcOk_158 tsh_159 tsize_159 tagg_159 tzero_159 srcOk_159 tsh_160 tsize_160 tagg_160 tzero_160 srcOk_160 tsh_161 tsize_161
attribute [go_sem] tagg_161 srcOk_161 tsh_162 tsize_162 tagg_162 tzero_162 srcOk_162 tsh_163 tsize_163 tagg_163 tzero_163 srcOk_163 tsh_164 tsize_164 tagg_164 tzero_164 srcOk_164 tsh_165 tsize_165 tagg_165 tzero_165 srcOk_165 tsh_166 tsize_166 tagg_166 tzero_166 srcOk_166 tsh_167 tsize_167 tagg_167 tzero_167 srcOk_167 tsh_168 tsize_168 tagg_168 tzero_168 srcOk_168 tsh_169 tsize_169 tagg_169
attribute [go_sem] tzero_169 tplaces_169 srcOk_169 tfield_169_0 tfield_169_1 tfield_169_2 tsh_170 tsize_170 tagg_170 tzero_170 tplaces_170 srcOk_170 tfield_170_0 tfield_170_1 tfield_170_2 tsh_171 tsize_171 tagg_171 tzero_171 srcOk_171 tsh_172 tsize_172 tagg_172 tzero_172 srcOk_172 tsh_173 tsize_173 tagg_173 tzero_173 srcOk_173 tsh_174 tsize_174 tagg_174 tzero_174 srcOk_174 tsh_175 tsize_175 tagg_175 tzero_175 tplaces_175
attribute [go_sem] srcOk_175 eqg_175 tfield_175_0 tsh_176 tsize_176 tagg_176 tzero_176 tplaces_176 srcOk_176 eqg_176 tfield_176_0 tsh_177 tsize_177 tagg_177 tzero_177 tplaces_177 srcOk_177 eqg_177 tfield_177_0 tfield_177_1 tfield_177_2 tfield_177_3 tsh_178 tsize_178 tagg_178 tzero_178 tplaces_178 srcOk_178 eqg_178 tfield_178_0 tfield_178_1 tfield_178_2 tfield_178_3 tsh_179 tsize_179 tagg_179 tzero_179 srcOk_179 tsh_180 tsize_180
attribute [go_sem] tagg_180 tzero_180 tplaces_180 srcOk_180 eqg_180 tfield_180_0 tsh_181 tsize_181 tagg_181 tzero_181 tplaces_181 srcOk_181 eqg_181 tfield_181_0 tsh_182 tsize_182 tagg_182 tzero_182 srcOk_182 tsh_183 tsize_183 tagg_183 tzero_183 srcOk_183 tsh_184 tsize_184 tagg_184 tzero_184 srcOk_184 tsh_185 tsize_185 tagg_185 tzero_185 srcOk_185 tsh_186 tsize_186 tagg_186 tzero_186 srcOk_186 tsh_187
attribute [go_sem] tsize_187 tagg_187 tzero_187 tplaces_187 srcOk_187 eqg_187 tfield_187_0 tfield_187_1 tfield_187_2 tfield_187_3 tfield_187_4 tfield_187_5 tfield_187_6 tfield_187_7 tfield_187_8 tfield_187_9 tfield_187_10 tsh_188 tsize_188 tagg_188 tzero_188 tplaces_188 srcOk_188 eqg_188 tfield_188_0 tfield_188_1 tfield_188_2 tfield_188_3 tfield_188_4 tfield_188_5 tfield_188_6 tfield_188_7 tfield_188_8 tfield_188_9 tfield_188_10 hasBody_2 hasBody_3 hasBody_4 hasBody_5 hasBody_6
attribute [go_sem] hasBody_7 hasBody_8 hasBody_9 hasBody_10 hasBody_11 hasBody_12 hasBody_13 hasBody_14 hasBody_15 hasBody_16 hasBody_17 hasBody_18 hasBody_19 hasBody_20 hasBody_21 hasBody_22 hasBody_23 hasBody_24 hasBody_25 hasBody_26 hasBody_27 hasBody_28 hasBody_29 hasBody_30 hasBody_31 hasBody_32 hasBody_33 hasBody_34 hasBody_35 hasBody_36 hasBody_37 hasBody_38 hasBody_39 hasBody_40 hasBody_41 hasBody_42 hasBody_43 hasBody_44 hasBody_45 hasBody_46
attribute [go_sem] hasBody_47 hasBody_48 hasBody_49 hasBody_50 hasBody_51 hasBody_52 hasBody_53 hasBody_54 hasBody_55 hasBody_56 hasBody_57 hasBody_58 hasBody_59 hasBody_60 hasBody_61 hasBody_62 hasBody_63 hasBody_64 hasBody_65 hasBody_66 hasBody_67 hasBody_68 hasBody_69 hasBody_70 hasBody_71 hasBody_72 hasBody_73 hasBody_74 hasBody_75 hasBody_76 hasBody_77 hasBody_78 hasBody_79 hasBody_80 hasBody_81 hasBody_82 hasBody_83 hasBody_84 hasBody_85 hasBody_86
attribute [go_sem] hasBody_87 hasBody_88 hasBody_89 hasBody_90 hasBody_91 hasBody_92 hasBody_93 hasBody_94 isNZ_95 isExt_95 hasBody_95 hasBody_96 hasBody_97 hasBody_98 hasBody_99 hasBody_100 hasBody_101 hasBody_102 hasBody_103 hasBody_104 hasBody_105 hasBody_106 isNZ_107 hasBody_107 hasBody_108 hasBody_109 hasBody_110 hasBody_111 hasBody_112 hasBody_113 hasBody_114 hasBody_115 hasBody_116 hasBody_117 hasBody_118 hasBody_119 hasBody_149 glob_0 glob_1 glob_3
attribute [go_sem] glob_4 glob_5 glob_6 conv_2_67 conv_3_5 conv_3_32 conv_3_34 conv_3_67 conv_3_72 conv_5_3 conv_5_34 conv_5_67 conv_9_31 conv_31_9 conv_31_9n conv_31_33 conv_31_33n conv_32_3 conv_32_34 conv_33_31 conv_34_5 conv_34_32 conv_34_67 conv_67_3 conv_67_5 conv_67_32 conv_67_34 conv_72_34
end Go.Proofs.YtgkpgpdkolpfkaaDoor.V
namespace Go.Proofs.YtgkpgpdkolpfkaaDoor.V
open Go Go.RowKit
set_option linter.unusedSimpArgs false
set_option linter.unusedVariables false

/-- A flat cell's kind. -/
inductive Ck where
  | b | i (k : IntKind) | s
def ckA : Ck → AV → Prop
  | .b, v => ∃ x, v = .bool x
  | .i k, v => ∃ n, v = .int k n ∧ (Lit.int k n).wf = true
  | .s, v => ∃ s, v = .str s ∧ s.length ≤ maxLen
def ckAll : List Ck → List AV → Prop
  | [], [] => True
  | k :: ks, v :: vs => ckA k v ∧ ckAll ks vs
  | _, _ => False
theorem ckAll_len : ∀ {ks : List Ck} {vs : List AV}, ckAll ks vs → vs.length = ks.length
  | [], [], _ => rfl
  | _ :: _, _ :: _, h => by simp [ckAll_len h.2]
  | [], _ :: _, h => h.elim
  | _ :: _, [], h => h.elim
theorem ckAll_append : ∀ {ks ls : List Ck} {vs ws : List AV}, ckAll ks vs → ckAll ls ws → ckAll (ks ++ ls) (vs ++ ws)
  | [], _, [], _, _, h => h
  | _ :: _, _, _ :: _, _, h, h' => ⟨h.1, ckAll_append h.2 h'⟩
  | [], _, _ :: _, _, h, _ => h.elim
  | _ :: _, _, [], _, h, _ => h.elim

def fieldsK (P : Program) (f : TypeId → Option (List Ck)) : List Field → Nat → Option (List Ck)
  | [], _ => some []
  | x :: r, o => if x.offset = o then (f x.type).bind fun k => if P.cellsOf x.type = k.length then (fieldsK P f r (o + k.length)).map (k ++ ·) else none else none
/-- A type of flat cells. -/
def plainK (P : Program) : Nat → TypeId → Option (List Ck)
  | 0, _ => none
  | d + 1, t => match P.underlying t with
    | some .bool => some [.b]
    | some (.int k) => some [.i k]
    | some .string => some [.s]
    | some (.struct fs) => (fieldsK P (plainK P d) fs.toList 0).bind fun k => if P.cellsOf t = k.length then some k else none
    | _ => none

section
variable {H : Type} {enc : TypeId × Value → H} {P : Program} {W : World} {base : Nat} {sp : Nat → Bool} {held : Bool}

theorem fieldsK_ok {f : TypeId → Option (List Ck)} {n : Nat} {cs : List Value} (hf : ∀ t ks cs x, f t = some ks → DataW.trod enc P W base sp held n t cs = some x → ∃ az, ckAll ks az ∧ ∀ μ, concs μ az = some cs) :
    ∀ (r : List Field) (o : Nat) {ks : List Ck}, fieldsK P f r o = some ks → (∀ x ∈ r, ∃ y, DataW.trod enc P W base sp held n x.type ((cs.drop x.offset).take (P.cellsOf x.type)) = some y) → ∃ az, ckAll ks az ∧ ∀ μ, concs μ az = some ((cs.drop o).take ks.length)
  | [], o, ks, h, _ => by cases h; exact ⟨[], trivial, fun μ => by simp [concs]⟩
  | x :: r, o, ks, h, hr => by
    simp only [fieldsK] at h
    split at h
    · rename_i ho
      simp only [Option.bind_eq_some_iff] at h
      obtain ⟨k, hk, h⟩ := h
      split at h
      · rename_i hc
        simp only [Option.map_eq_some_iff] at h
        obtain ⟨ks', hk', rfl⟩ := h
        obtain ⟨y, hy⟩ := hr x (by simp)
        obtain ⟨az, ha, ha'⟩ := hf _ _ _ _ hk hy
        obtain ⟨bs, hb, hb'⟩ := fieldsK_ok hf r _ hk' (fun x hx => hr x (by simp [hx]))
        refine ⟨az ++ bs, ckAll_append ha hb, fun μ => ?_⟩
        rw [concs_append_some (ha' μ) (hb' μ), hc, ho, List.length_append]
        congr 1
        rw [List.take_add, List.drop_drop]
      · cases h
    · cases h

theorem plainK_ok : ∀ (d : Nat) {t : TypeId} {ks : List Ck} (n : Nat) {cs : List Value} {x : DataW H × List MemPlace}, plainK P d t = some ks → DataW.trod enc P W base sp held n t cs = some x → ∃ az, ckAll ks az ∧ ∀ μ, concs μ az = some cs
  | 0, _, _, _, _, _, h, _ => by cases h
  | d + 1, t, ks, n, cs, x, h, hx => by
    simp only [plainK] at h
    split at h
    · rename_i ht
      cases h
      obtain ⟨b, rfl, _⟩ := DataW.trod_bool ht hx
      exact ⟨[.bool b], ⟨⟨b, rfl⟩, trivial⟩, fun μ => rfl⟩
    · rename_i k ht
      cases h
      obtain ⟨m, rfl, _, hw⟩ := DataW.trod_int ht hx
      exact ⟨[.int k m], ⟨⟨m, rfl, hw⟩, trivial⟩, fun μ => rfl⟩
    · rename_i ht
      cases h
      obtain ⟨s, rfl, _, hs⟩ := DataW.trod_string ht hx
      refine ⟨[.str s.data.toList], ⟨⟨_, rfl, ?_⟩, trivial⟩, fun μ => ?_⟩
      · rw [Array.length_toList]; exact hs
      · simp [concs, conc]
    · rename_i fs ht
      simp only [Option.bind_eq_some_iff] at h
      obtain ⟨k, hk, h⟩ := h
      split at h
      · rename_i hc
        cases h
        obtain ⟨xs, m, rfl, _, hl, hxl, he⟩ := DataW.trod_struct ht hx
        obtain ⟨az, ha, ha'⟩ := fieldsK_ok (n := m) (cs := cs) (fun t ks cs x h1 h2 => plainK_ok d m h1 h2) fs.toList 0 hk (by
          intro f hf
          obtain ⟨i, hi⟩ := List.getElem?_of_mem hf
          have h1 := he i f (by simpa using hi)
          have hlt : i < xs.length := by rw [hxl]; have := (List.getElem?_eq_some_iff.1 hi).1; simpa using this
          exact ⟨_, h1.trans (List.getElem?_eq_getElem hlt)⟩)
        refine ⟨az, ha, fun μ => ?_⟩
        rw [ha' μ, List.drop_zero, ← hc, ← hl, List.take_length]
      · cases h
    · cases h

/-! ### a slice of flat rows -/
theorem rowAt_le {P : Program} {fits : TypeId → Bool} {d : Nat} {e : TypeId} {cells off n : Nat} (h : rowAt P fits d e (cells / P.cellsOf e) off n = true) : off ≤ cells := by
  cases d with
  | zero => cases h
  | succ d =>
    simp only [rowAt] at h
    by_cases hs : P.cellsOf e = 0
    · rw [if_pos hs] at h; cases h
    · rw [if_neg hs] at h
      have hm := Nat.div_add_mod off (P.cellsOf e)
      have hlt := Nat.mod_lt off (Nat.pos_of_ne_zero hs)
      have hc := Nat.mul_div_le cells (P.cellsOf e)
      rw [Bool.or_eq_true, Bool.and_eq_true, Bool.and_eq_true, Bool.and_eq_true] at h
      obtain ⟨⟨h1, h2⟩, _⟩ | ⟨h1, _⟩ := h
      · simp only [beq_iff_eq, decide_eq_true_eq] at h1 h2
        have : P.cellsOf e * (off / P.cellsOf e) ≤ P.cellsOf e * (cells / P.cellsOf e) := Nat.mul_le_mul_left _ (by omega)
        omega
      · simp only [decide_eq_true_eq] at h1
        have : P.cellsOf e * (off / P.cellsOf e + 1) ≤ P.cellsOf e * (cells / P.cellsOf e) := Nat.mul_le_mul_left _ (by omega)
        rw [Nat.mul_add, Nat.mul_one] at this
        omega
theorem liesAt_le {P : Program} : ∀ {d : Nat} {e : TypeId} {cells off : Nat} {u : TypeId} {n : Nat}, liesAt P d e (cells / P.cellsOf e) off u n = true → off ≤ cells
  | 0, _, _, _, _, _, h => by cases h
  | d + 1, e, cells, off, u, n, h => by
    simp only [liesAt, Bool.or_eq_true] at h
    obtain h | h := h
    · exact rowAt_le h
    · split at h
      · exact liesAt_le h
      · cases h

/-- A row's cells, one chunk an element. -/
def rows : List (List AV) → List AV := List.flatten

theorem rows_ok {z : Nat} {a : Addr} {len : Nat} {ks : List Ck} (hz : ks.length = z) (hpos : 0 < z)
    (h : ∀ i, i < len → ∃ cs, W.cells? base (a.add (i * z)) z = some cs ∧ ∃ az, ckAll ks az ∧ ∀ μ, concs μ az = some cs) :
    ∃ rs : List (List AV), rs.length = len ∧ (∀ r ∈ rs, ckAll ks r) ∧ ∃ vs, (∀ μ, concs μ rs.flatten = some vs) ∧ vs.length = len * z ∧ ∀ (j : Nat) (v : Value), vs[j]? = some v → W.cell? (a.add j) = some v := by
  induction len with
  | zero => exact ⟨[], rfl, by simp, [], fun μ => rfl, by simp, by simp⟩
  | succ len ih =>
    obtain ⟨rs, hl, hr, vs, hv, hvl, hc⟩ := ih (fun i hi => h i (by omega))
    obtain ⟨cs, hcs, az, ha, ha'⟩ := h len (by omega)
    obtain ⟨_, hcl, hcc⟩ := World.cells?_some hcs
    refine ⟨rs ++ [az], by simp [hl], ?_, vs ++ cs, fun μ => ?_, ?_, ?_⟩
    · intro r hm
      rcases List.mem_append.1 hm with hm | hm
      · exact hr r hm
      · rw [List.mem_singleton] at hm; subst hm; exact ha
    · rw [List.flatten_append]
      exact concs_append_some (hv μ) (by simpa using ha' μ)
    · rw [List.length_append, hvl, hcl, Nat.add_mul, Nat.one_mul]
    · intro j v hj
      by_cases hlt : j < vs.length
      · rw [List.getElem?_append_left hlt] at hj
        exact hc j v hj
      · rw [List.getElem?_append_right (by omega)] at hj
        have hjl := (List.getElem?_eq_some_iff.1 hj).1
        have := hcc (j - vs.length) (by omega)
        rw [hj] at this
        rw [← this]
        congr 1
        unfold Addr.add
        by_cases hl0 : len * z = 0
        · have : vs.length = 0 := by omega
          simp [hl0, this]
        · by_cases hj0 : j - vs.length = 0
          · have : j = len * z := by omega
            rw [if_pos hj0, if_neg hl0, if_neg (by omega), this]
          · have h3 : ¬ j = 0 := by omega
            simp only [hl0, hj0, h3, if_false]
            congr 1; omega

/-- A slice of flat rows, opened: nil, or its address and its rows. -/
theorem open_rows {t e : TypeId} {ks : List Ck} {d fuel : Nat} {cs : List Value} {x : DataW H × List MemPlace} (ht : P.underlying t = some (.slice e)) (hk : plainK P d e = some ks) (hz : P.cellsOf e = ks.length) (hpos : 0 < ks.length)
    (h : DataW.trod enc P W base sp held fuel t cs = some x) :
    (cs = [.slice none 0 0] ∧ x = (.nil, [])) ∨ ∃ (a : Addr) (len cap : Nat) (es ss : List (DataW H)) (ps : List MemPlace), cs = [.slice (some a) len cap] ∧ x = (.slice es ss, ps) ∧ es.length = len ∧ len ≤ cap ∧ cap ≤ maxLen ∧
      ∃ rs : List (List AV), rs.length = len ∧ (∀ r ∈ rs, ckAll ks r) ∧ ∃ vs, (∀ μ, concs μ rs.flatten = some vs) ∧ vs.length = len * ks.length ∧ ∀ (j : Nat) (v : Value), vs[j]? = some v → W.cell? (a.add j) = some v := by
  rcases DataW.trod_slice ht h with h0 | ⟨a, len, cap, elems, rest, n, _, rfl, rfl, hb, hl, hm, hlen, hel, _, _⟩
  · exact .inl h0
  right
  refine ⟨a, len, cap, _, _, _, rfl, rfl, by simpa using hlen, hl, hm, ?_⟩
  refine rows_ok (base := base) rfl hpos (fun i hi => ?_)
  have h1 := hel i hi
  rw [List.getElem?_eq_getElem (by omega), Option.bind_eq_some_iff, hz] at h1
  obtain ⟨c, hc, hy⟩ := h1
  exact ⟨c, hc, plainK_ok d n hk hy⟩

/-- The block for what an argument's slice shows: read alone. -/
theorem ro_block {μ : Mu} {a : Addr} {cap : Nat} {rs : List AV} {vs : List Value} {row : TypeId} {cells : Nat} (hs : a.spot = none) (hv : concs μ rs = some vs) (hc : ∀ (j : Nat) (v : Value), vs[j]? = some v → W.cell? (a.add j) = some v)
    (hsh : W.shape? a.block = some (row, cells)) (hle : a.off ≤ cells) : BRel P μ W ⟨a.block, a.off, cap⟩ (.cells rs row .ro) := by
  unfold World.shape? at hsh
  split at hsh
  · rename_i cc el fz hb
    simp only [Option.some.injEq, Prod.mk.injEq] at hsh
    obtain ⟨rfl, rfl⟩ := hsh
    have hcell : ∀ (j : Nat) (v : Value), vs[j]? = some v → cc[a.off + j]? = some v := by
      intro j v hj
      have h1 := hc j v hj
      have hblk : (a.add j).block = a.block := by unfold Addr.add; split <;> rfl
      have hsp : (a.add j).spot = none := by unfold Addr.add; split; exact hs; rfl
      have hoff : (a.add j).off = a.off + j := by unfold Addr.add; split; omega; rfl
      unfold World.cell? at h1
      rw [hblk, hb, hoff, hsp] at h1
      simpa using h1
    refine ⟨cc, fz, vs, hb, hv, ?_, hcell, trivial⟩
    rw [← concs_length hv]
    show a.off + vs.length ≤ cc.size
    by_cases hz : vs.length = 0
    · omega
    · have := hcell (vs.length - 1) vs[vs.length - 1] (List.getElem?_eq_getElem (by omega))
      have := (Array.getElem?_eq_some_iff.1 this).1
      omega
  · cases hsh

/-- The heap at a call's start, with no package variable: every block that is there stays. -/
def start (W : World) : Gh := ⟨(· < W.heap.size), W, fun _ => False⟩
theorem start_ok (hg : P.globals.size = 0) : HRel P (start W) (fun _ => none) [] W where
  dom := fun b l h => by cases h
  glob := fun i hi => by omega
  lt := fun b l h => by cases h
  blk := fun b l x h => by cases h
  sep := fun b b' l l' x x' _ h => by cases h
  own := fun b l x h => by cases h
  old := fun k hk => ⟨hk, rfl⟩
  os := rfl
  tape := rfl
  output := rfl
  size := Nat.le_refl _
/-- One block more, read alone. -/
theorem HRel.ro {g : Gh} {μ : Mu} {Hh : Hp} (h : HRel P g μ Hh W) (hno : ∀ x ∈ Hh, apart x = false) {l : Loc} {c : List AV} {e : TypeId} (hl : l.blk < W.heap.size) (hx : BRel P μ W l (.cells c e .ro)) :
    HRel P g (upd μ Hh.length l) (Hh ++ [.cells c e .ro]) W where
  dom := fun b l' e => by
    by_cases hb : b = Hh.length
    · subst hb; simp
    · rw [upd_other _ _ hb] at e
      have := h.dom b l' e
      simp; omega
  glob := fun i hi => by
    obtain ⟨c, hc⟩ := h.glob i hi
    exact ⟨c, h.le_upd _ _ _ hc⟩
  lt := fun b l' e => by
    by_cases hb : b = Hh.length
    · subst hb; rw [upd_same] at e; cases e; exact hl
    · rw [upd_other _ _ hb] at e; exact h.lt b l' e
  blk := fun b l' x e e' => by
    rw [get_snoc] at e'
    by_cases hb : b = Hh.length
    · subst hb
      rw [upd_same] at e
      rw [if_pos rfl] at e'
      cases e; cases e'
      exact hx.mono (h.le_upd _) (fun _ => rfl)
    · rw [upd_other _ _ hb] at e
      rw [if_neg hb] at e'
      exact (h.blk b l' x e e').mono (h.le_upd _) (fun _ => rfl)
  sep := fun b b' l1 l2 x x' hne e1 e2 hx1 hx2 hw hv => by
    exfalso
    rw [get_snoc] at hx1
    split at hx1
    · cases hx1; cases hw
    · rw [hno x (List.mem_of_getElem? hx1)] at hw; cases hw
  own := fun b l1 x e1 hx1 hw => by
    exfalso
    rw [get_snoc] at hx1
    split at hx1
    · cases hx1; cases hw
    · have := apart_w hw; rw [hno x (List.mem_of_getElem? hx1)] at this; cases this
  old := h.old
  os := h.os
  tape := h.tape
  output := h.output
  size := h.size
/-- At the end nothing has turned below. -/
theorem start_below {μ : Mu} {Hh : Hp} {w' : World} (h : HRel P (start W) μ Hh w') : Below W.heap.size W w' :=
  ⟨h.os, h.tape, h.output, h.size, fun k hk => (h.old k hk).2⟩
/-- A call that the evaluator answers, told of the machine. -/
theorem calls_of {f : FuncId} {args : List AV} {Hh : Hp} {q : AV × Hp × Ef} {g : Gh} {μ : Mu} {vs : List Value} (hf : hasBody P f = true) (h : callK P f args Hh (fun r => r = q)) (hr : HRel P g μ Hh W) (hv : concs μ args = some vs) :
    Calls P f vs.toArray W (fun e w' => ∃ μ' v', e = .returned v' ∧ Ok P g μ Hh q μ' v' w') := by
  obtain ⟨n, r, hn, rfl⟩ := h
  have hlt : f < P.funcs.size := by
    unfold hasBody at hf
    split at hf
    · rename_i fn hfn; exact (Array.getElem?_eq_some_iff.1 hfn).1
    · cases hf
  exact (evN_ok P n).fn f args Hh r hlt hn g μ W vs hr hv
end
end Go.Proofs.YtgkpgpdkolpfkaaDoor.V
namespace Go.Proofs.YtgkpgpdkolpfkaaDoor.V
open Go Go.RowKit
set_option linter.unusedSimpArgs false
set_option linter.unusedVariables false

/-- A list of number literals as cells. -/
def intsC {H : Type} : List (DataW H) → List AV
  | [] => []
  | .lit (.int k n) :: r => .int k n :: intsC r
  | _ :: r => .nili :: intsC r
theorem ints_conc {H : Type} {μ : Mu} : ∀ (ds : List (DataW H)) (cs : List Value), cs.length = ds.length → (∀ i, i < ds.length → ∃ k m, cs[i]? = some (.int k m) ∧ ds[i]? = some (.lit (.int k m))) → concs μ (intsC ds) = some cs
  | [], [], _, _ => rfl
  | [], _ :: _, h, _ => by simp at h
  | _ :: _, [], h, _ => by simp at h
  | d :: ds, c :: cs, hl, h => by
    obtain ⟨k, m, h1, h2⟩ := h 0 (by simp)
    simp only [List.getElem?_cons_zero, Option.some.injEq] at h1 h2
    subst h1; subst h2
    have ih := ints_conc (μ := μ) ds cs (by simpa using hl) (fun i hi => by simpa using h (i + 1) (by simpa using hi))
    simp only [intsC, concs, conc, ih, Option.bind_some, Option.map_some]

section
variable {H : Type} {enc : TypeId × Value → H} {P : Program} {W : World} {base : Nat} {sp : Nat → Bool} {held : Bool}

/-- An array of numbers, read: its cells are the datum's. -/
theorem arr_ints {t e : TypeId} {n fuel : Nat} {k : IntKind} {cs : List Value} {ds : List (DataW H)} {p : List MemPlace} (ht : P.underlying t = some (.array n e)) (he : P.underlying e = some (.int k)) (hc : P.cellsOf e = 1) (hl : P.cellsOf t = n)
    (h : DataW.trod enc P W base sp held fuel t cs = some (.agg ds, p)) (μ : Mu) : concs μ (intsC ds) = some cs := by
  obtain ⟨xs, m, rfl, hx, hcl, hxl, hel⟩ := DataW.trod_array ht h
  simp only [Prod.mk.injEq, DataW.agg.injEq] at hx
  obtain ⟨rfl, _⟩ := hx
  refine ints_conc _ _ (by rw [hcl, hl, List.length_map, hxl]) (fun i hi => ?_)
  rw [List.length_map, hxl] at hi
  have h1 := hel i hi
  rw [hc, Nat.mul_one, List.getElem?_eq_getElem (by omega)] at h1
  obtain ⟨q, e1, e2, _⟩ := DataW.trod_int he h1
  refine ⟨k, q, ?_, ?_⟩
  · have : ((cs.drop i).take 1)[0]? = some (.int k q) := by rw [e1]; rfl
    simpa using this
  · rw [List.getElem?_map, List.getElem?_eq_getElem (by omega), e2]; rfl

/-- Where a variable lies. -/
theorem var_block {n : String} {g : Nat} {cs : Array Value} (hg : P.globalNamed n = some g) (h : W.var? P n = some cs) : ∃ e fr, W.heap[g]? = some (.cells cs e fr) := by
  unfold World.var? at h
  rw [hg] at h
  simp only [Option.bind_some] at h
  split at h
  · rename_i c e fr hb
    cases h
    exact ⟨e, fr, hb⟩
  · cases h
theorem laid_block {μ : Mu} {g : Nat} {cs : Array Value} {e : TypeId} {fr : Nat × Nat} {vs : List AV} (hb : W.heap[g]? = some (.cells cs e fr)) (hv : concs μ vs = some cs.toList) : BRel P μ W ⟨g, 0, 0⟩ (.cells vs e .ro) := by
  refine ⟨cs, fr, cs.toList, hb, hv, ?_, fun i v hi => ?_, trivial⟩
  · have := concs_length hv; simp only [Array.length_toList] at this; show 0 + vs.length ≤ _; omega
  · simpa using hi

/-- The variables' own blocks. -/
def mu0 (n : Nat) : Mu := fun i => if i < n then some ⟨i, 0, 0⟩ else none
/-- The heap at a call's start: the variables, read alone or not at all. -/
theorem start_glob {n : Nat} {Bs : List ABlk} (hn : P.globals.size = n) (hsz : n ≤ W.heap.size) (hl : Bs.length = n) (hw : ∀ x ∈ Bs, apart x = false) (hB : ∀ (i : Nat) x, Bs[i]? = some x → BRel P (mu0 n) W ⟨i, 0, 0⟩ x) : HRel P (start W) (mu0 n) Bs W where
  dom := fun b l h => by
    unfold mu0 at h
    split at h
    · rw [hl]; assumption
    · cases h
  glob := fun i hi => ⟨0, by unfold mu0; rw [if_pos (by omega)]⟩
  lt := fun b l h => by
    unfold mu0 at h
    split at h
    · cases h; show b < _; omega
    · cases h
  blk := fun b l x h hx => by
    unfold mu0 at h
    split at h
    · cases h; exact hB b x hx
    · cases h
  sep := fun b b' l l' x x' _ _ _ hx _ hwx => by rw [hw x (List.mem_of_getElem? hx)] at hwx; cases hwx
  own := fun b l x _ hx hwx => by have := apart_w hwx; rw [hw x (List.mem_of_getElem? hx)] at this; cases this
  old := fun k hk => ⟨hk, rfl⟩
  os := rfl
  tape := rfl
  output := rfl
  size := Nat.le_refl _
/-- All variables are there. -/
theorem shaped_size {n : Nat} (hn : P.globals.size = n) (h : W.ShapedOpen P) (hz : ((((begin P (fun _ _ => 0) default).world.heap)[n - 1]?).bind Obj.row?).isSome = true) : n ≤ W.heap.size := by
  by_cases h0 : n = 0
  · omega
  · obtain ⟨⟨z, t⟩, hx⟩ := Option.isSome_iff_exists.1 hz
    obtain ⟨cs, hcs, _⟩ := h.1 (n - 1) z t (by omega) hx
    have := (Array.getElem?_eq_some_iff.1 hcs).1
    omega

/-- A row's proof from what its code does in any memory that is laid out as the program's. -/
theorem returns_laid {C : Checked} {os : Os} {f : FuncId} {fn : Func} {s : ChangeSpec} {fresh : Bool} {X : World → Array Value → Prop}
    (hX : ∀ (w w' : World) (args : Array Value), w.heap = w'.heap → X w args → X w' args)
    (own : ownKnob C.prog.godebug = none) (started : os.Started) (noInit : C.prog.inits.idxOf? f = none) (hfn : C.prog.funcs[f]? = some fn)
    (witness : ∃ (w : World) (tape : Tape) (i : Input), w.os = os ∧ (w.forCall tape i).Shaped C.prog ∧ i.vars = [] ∧ Input.okWide C.prog (w.forCall tape i) .any w.heap.size f i ∧
      ((s.pre enc C.prog fn [] false (w.forCall tape i).memory i.args ∧ X (w.forCall tape i).memory i.args) ∧ sizedMet enc C.prog fn (OpenSpec.ofChange s) false (w.forCall tape i).memory i.args) ∧ ({} : Assume).holds C.prog (lone (Frame.enter C.prog f i.args .normal) [] (w.forCall tape i)))
    (contract : ∀ (W : World) (base : Nat) (args : Array Value) (ds gs : List (DataW H)) (before : List MemPlace), W.ShapedOpen C.prog →
      (∀ (j : Nat) t v, fn.params[j]? = some t → args[j]? = some v → Value.okWide C.prog W .any base t v) →
      DataW.Whole enc C.prog fn.params.toList s.vars false W args.toList ds gs before → X W args →
      Calls C.prog f args W fun e W' => ∃ v, e = .returned v ∧ s.post enc C.prog fn false fresh false false W args v W') :
    ReturnsInHanded {} C os f .any (fun w args => (s.pre enc C.prog fn [] false w args ∧ X w args) ∧ sizedMet enc C.prog fn (OpenSpec.ofChange s) false w args) (s.post enc C.prog fn false fresh false false) := by
  refine returnsInHanded_of_calls own started noInit witness fun w tape i _ hsh _ hok hpre _ => ?_
  obtain ⟨_, _, _, fn', hfn', _, _, _, _, hval⟩ := hok
  obtain rfl := Option.some.inj (hfn'.symm.trans hfn)
  obtain ⟨⟨⟨ds, gs, before, hw, _⟩, hx⟩, _⟩ := hpre
  refine (contract (w.forCall tape i) w.heap.size i.args ds gs before hsh hval (DataW.Whole.of_heap (w' := w.forCall tape i) (by rfl) hw) (hX _ _ _ (by rfl) hx)).mono fun e W' ⟨v, he, hp⟩ => ?_
  subst he
  exact ChangeSpec.post_blind hp
end
end Go.Proofs.YtgkpgpdkolpfkaaDoor.V
namespace Go.Proofs.YtgkpgpdkolpfkaaDoor.V
open Go
set_option linter.unusedSimpArgs false
set_option linter.unusedVariables false

/-- A digit to the base 16. -/
def hexD (n : Nat) : UInt8 := if n < 10 then UInt8.ofNat (48 + n) else UInt8.ofNat (87 + n)
def twoP (c : UInt8) : List UInt8 := [hexD (c.toNat / 16), hexD (c.toNat % 16)]
def hexP (s : List UInt8) : List UInt8 := s.flatMap twoP
/-- A number's digits. -/
def decP (n : Nat) : List UInt8 := if n < 10 then [hexD n] else decP (n / 10) ++ [hexD (n % 10)]
termination_by n
decreasing_by omega
theorem hexD_at {n : Nat} (h : n < 16) : ([48, 49, 50, 51, 52, 53, 54, 55, 56, 57, 97, 98, 99, 100, 101, 102] : List UInt8)[n]? = some (hexD n) := by
  have : ∀ n : Fin 16, ([48, 49, 50, 51, 52, 53, 54, 55, 56, 57, 97, 98, 99, 100, 101, 102] : List UInt8)[n.val]? = some (hexD n.val) := by decide
  exact this ⟨n, h⟩
theorem hexD_sl {n : Nat} (h : n < 16) : ((([48, 49, 50, 51, 52, 53, 54, 55, 56, 57, 97, 98, 99, 100, 101, 102] : List UInt8).drop n).take 1) = [hexD n] := by
  have : ∀ n : Fin 16, ((([48, 49, 50, 51, 52, 53, 54, 55, 56, 57, 97, 98, 99, 100, 101, 102] : List UInt8).drop n.val).take 1) = [hexD n.val] := by decide
  exact this ⟨n, h⟩
theorem decP_len : ∀ (n : Nat), n < 100000 → (decP n).length ≤ 5 := by
  intro n h
  unfold decP
  split
  · simp
  rw [List.length_append]
  unfold decP
  split
  · simp
  rw [List.length_append]
  unfold decP
  split
  · simp
  rw [List.length_append]
  unfold decP
  split
  · simp
  rw [List.length_append]
  unfold decP
  rw [if_pos (by omega)]
  simp
theorem hexP_len (s : List UInt8) : (hexP s).length = 2 * s.length := by
  induction s with
  | nil => rfl
  | cons c s ih => show (twoP c ++ hexP s).length = _; rw [List.length_append, ih, List.length_cons]; show 2 + _ = _; omega
theorem take_snoc {α : Type} {l : List α} {i : Nat} {a : α} (h : l[i]? = some a) : l.take (i + 1) = l.take i ++ [a] := by
  rw [List.take_add_one, h]; rfl
theorem hexP_snoc {s : List UInt8} {i : Nat} {c : UInt8} (h : s[i]? = some c) : hexP (s.take (i + 1)) = hexP (s.take i) ++ twoP c := by
  rw [take_snoc h]; simp [hexP]
/-- All so far, and one more. -/
theorem all_take_succ {s : List UInt8} {i : Nat} {c : UInt8} {p : UInt8 → Bool} (h : s[i]? = some c) (ha : (s.take i).all p = true) (hc : p c = true) : (s.take (i + 1)).all p = true := by
  rw [take_snoc h, List.all_append, ha]; simp [hc]
theorem all_not {s : List UInt8} {i : Nat} {c : UInt8} {p : UInt8 → Bool} (h : s[i]? = some c) (hc : p c = false) : s.all p = false := by
  rw [List.all_eq_false]
  exact ⟨c, List.mem_of_getElem? h, by simp [hc]⟩
/-- What no builder grows. -/
def fixd : ABlk → Bool
  | .cells _ e (.op _ _) => !(e == 5)
  | .dead => false
  | _ => true
def Keep (T : Hp) (j : Nat) (T' : Hp) : Prop := T.length ≤ T'.length ∧ ∀ (i : Nat) x, i ≠ j → T[i]? = some x → fixd x = true → T'[i]? = some x
theorem Keep.refl (T : Hp) (j : Nat) : Keep T j T := ⟨Nat.le_refl _, fun i x _ h _ => h⟩
theorem Keep.trans {T T' T'' : Hp} {j : Nat} (h : Keep T j T') (h' : Keep T' j T'') : Keep T j T'' :=
  ⟨Nat.le_trans h.1 h'.1, fun i x hi hx hf => h'.2 i x hi (h.2 i x hi hx hf) hf⟩
/-- What was written: an address at the j-th new block or below, all of it new. -/
def Cl (n j : Nat) (e : Ef) : Prop := ∃ x, e.es = some x ∧ n ≤ x ∧ x ≤ n + j ∧ low n e.ws = none
theorem Cl.cln {n j : Nat} {e : Ef} (h : Cl n j e) : clean n e := by
  obtain ⟨x, h1, h2, h3, h4⟩ := h
  exact ⟨by rw [h1]; simp [low, h2], h4⟩
theorem omin_some {x : Nat} {o : Option Nat} {n : Nat} (hx : n ≤ x) (ho : low n o = none) : ∃ y, omin (some x) o = some y ∧ n ≤ y ∧ y ≤ x := by
  cases o with
  | none => exact ⟨x, rfl, hx, Nat.le_refl _⟩
  | some z =>
    refine ⟨min x z, rfl, ?_, Nat.min_le_left _ _⟩
    have : n ≤ z := by rw [low_w] at ho; exact ho
    omega
theorem omin_comm (a b : Option Nat) : omin a b = omin b a := by
  cases a <;> cases b <;> simp [omin, Nat.min_comm]
theorem Cl.andl {n j : Nat} {a b : Ef} (h : Cl n j a) (h' : clean n b) : Cl n j (a.and b) := by
  obtain ⟨x, h1, h2, h3, h4⟩ := h
  obtain ⟨y, y1, y2, y3⟩ := omin_some (o := b.es) h2 h'.1
  exact ⟨y, by show omin a.es b.es = _; rw [h1, y1], y2, by omega, low_omin h4 h'.2⟩
theorem Cl.andr {n j : Nat} {a b : Ef} (h : clean n a) (h' : Cl n j b) : Cl n j (a.and b) := by
  obtain ⟨x, h1, h2, h3, h4⟩ := h'
  obtain ⟨y, y1, y2, y3⟩ := omin_some (o := a.es) h2 h.1
  exact ⟨y, by show omin a.es b.es = _; rw [omin_comm, h1, y1], y2, by omega, low_omin h.2 h4⟩
theorem low_low {n m : Nat} {o : Option Nat} (h : low n o = none) : low n (low m o) = none := by
  cases o with
  | none => rfl
  | some x =>
    rw [low_w] at h
    by_cases hm : m ≤ x
    · simp [low, hm]
    · simp [low, hm, h]
/-- What is written there stays when the call is left. -/
theorem Cl.leave {n j m : Nat} {e : Ef} (h : Cl n j e) (hj : n + j < m) : ∃ e', Cl n j e' ∧ ∀ v H, leave m v H e = (v, H, e') := by
  obtain ⟨x, h1, h2, h3, h4⟩ := h
  have h5 : low m e.es = some x := by
    have : ¬ m ≤ x := by omega
    rw [h1]; simp [low, this]
  refine ⟨⟨low m e.es, low m e.ws⟩, ⟨x, h5, h2, h3, low_low h4⟩, fun v H => ?_⟩
  unfold V.leave
  rw [if_neg (by rw [h5]; simp)]
theorem lt_of_get {T : Hp} {j : Nat} {x : ABlk} (h : T[j]? = some x) : j < T.length := (List.getElem?_eq_some_iff.1 h).1
theorem set_get {T : Hp} {j : Nat} {x : ABlk} (h : T[j]? = some x) : T.set j x = T := by
  apply List.ext_getElem?
  intro i
  by_cases hi : j = i
  · subst hi; rw [List.getElem?_set_self (lt_of_get h), h]
  · rw [List.getElem?_set_ne hi]
theorem lse {T l : Hp} {j : Nat} {v : ABlk} : (T.set j v ++ l)[T.length]? = l[0]? := by
  rw [List.getElem?_append_right (by simp)]; simp
attribute [go_sem] lse
theorem low_sm {n m : Nat} (h : m < n) : low n (some m) = some m := by
  have : ¬ n ≤ m := by omega
  simp [low, this]
theorem leave_st {n : Nat} {v : AV} {H : Hp} {e : Ef} {x : Nat} (h : low n e.es = some x) : leave n v H e = (v, H, ⟨some x, low n e.ws⟩) := by
  unfold leave; rw [if_neg (by rw [h]; simp), h]
theorem get_app {T l : Hp} {i : Nat} {x : ABlk} (h : T[i]? = some x) : (T ++ l)[i]? = some x := hp_old h
theorem sh_r {kd : IntKind} {a b : Int} (h : decide (b < 0) = false) : evShift .shr kd a b = some (.int kd (a.fdiv (2 ^ (min b.toNat kd.bits)))) := by
  have : ¬ b < 0 := by simpa using h
  simp only [evShift]; rw [if_neg this]
theorem sh_l {kd : IntKind} {a b : Int} (h : decide (b < 0) = false) : evShift .shl kd a b = some (.int kd (kd.wrap (a * 2 ^ (min b.toNat kd.bits)))) := by
  have : ¬ b < 0 := by simpa using h
  simp only [evShift]; rw [if_neg this]
theorem bits_i64 : IntKind.bits .i64 = 64 := rfl
theorem bits_u64 : IntKind.bits .u64 = 64 := rfl
theorem bits_u8 : IntKind.bits .u8 = 8 := rfl
theorem bits_u16 : IntKind.bits .u16 = 16 := rfl
theorem bits_u32 : IntKind.bits .u32 = 32 := rfl
theorem wrapl_i64 {n : Nat} (h : decide (n < 9223372036854775808) = true) : IntKind.i64.wrap (no_index (@OfNat.ofNat Int n instOfNat)) = @OfNat.ofNat Int n instOfNat := by
  have h : n < 9223372036854775808 := of_decide_eq_true h
  show IntKind.i64.wrap (n : Int) = (n : Int)
  exact wrap_i64 (by omega)
theorem wrapl_u64 {n : Nat} (h : decide (n < 18446744073709551616) = true) : IntKind.u64.wrap (no_index (@OfNat.ofNat Int n instOfNat)) = @OfNat.ofNat Int n instOfNat := by
  have h : n < 18446744073709551616 := of_decide_eq_true h
  show IntKind.u64.wrap (n : Int) = (n : Int)
  exact wrap_u64 (by omega)
theorem wrapl_u32 {n : Nat} (h : decide (n < 4294967296) = true) : IntKind.u32.wrap (no_index (@OfNat.ofNat Int n instOfNat)) = @OfNat.ofNat Int n instOfNat := by
  have h : n < 4294967296 := of_decide_eq_true h
  show IntKind.u32.wrap (n : Int) = (n : Int)
  exact wrap_u32 (by omega)
theorem wrapl_u16 {n : Nat} (h : decide (n < 65536) = true) : IntKind.u16.wrap (no_index (@OfNat.ofNat Int n instOfNat)) = @OfNat.ofNat Int n instOfNat := by
  have h : n < 65536 := of_decide_eq_true h
  show IntKind.u16.wrap (n : Int) = (n : Int)
  exact wrap_u16 (by omega)
theorem wrapl_u8 {n : Nat} (h : decide (n < 256) = true) : IntKind.u8.wrap (no_index (@OfNat.ofNat Int n instOfNat)) = @OfNat.ofNat Int n instOfNat := by
  have h : n < 256 := of_decide_eq_true h
  show IntKind.u8.wrap (n : Int) = (n : Int)
  exact wrap_u8 (by omega)
theorem wrapl_i32 {n : Nat} (h : decide (n < 2147483648) = true) : IntKind.i32.wrap (no_index (@OfNat.ofNat Int n instOfNat)) = @OfNat.ofNat Int n instOfNat := by
  have h : n < 2147483648 := of_decide_eq_true h
  show IntKind.i32.wrap (n : Int) = (n : Int)
  exact wrap_i32 (by omega)
attribute [go_sem] wrapl_i64 wrapl_u64 wrapl_u32 wrapl_u16 wrapl_u8 wrapl_i32
attribute [go_sem] sh_r sh_l bits_i64 bits_u64 bits_u8 bits_u16 bits_u32

theorem ofNat_le {n m : Nat} (h : n ≤ m) (hm : m < 256) : (UInt8.ofNat n).toNat = n := by
  have : n < 256 := by omega
  exact UInt8.toNat_ofNat_of_lt' (by simpa using this)
theorem bind_ixs {P : Program} {t : TypeId} {b o n : Nat} {c : Cap} {kd : IntKind} {i : Int} {f : AV → Prop} (h : (match tsh P t with | some (.slice _ _ _) => true | _ => false) = true) :
    bindK (evIndexAddr P t (.slice b o n c) (.int kd i)) f = bindK (tsh P t) fun sh => (0 ≤ i ∧ i < n) ∧ f (.ptr b (o + i.toNat * shZ sh)) := by
  split at h
  · rename_i e z w he
    simp only [evIndexAddr, he, bindK_ite, bindK_some, shZ]
  · cases h
theorem bind_ixa {P : Program} {t : TypeId} {b o : Nat} {kd : IntKind} {i : Int} {f : AV → Prop} (h : (match tsh P t with | some (.array _ _ _) => true | _ => false) = true) :
    bindK (evIndexAddr P t (.ptr b o) (.int kd i)) f = bindK (tsh P t) fun sh => (0 ≤ i ∧ i < (shA sh).1) ∧ f (.ptr b (o + i.toNat * (shA sh).2)) := by
  split at h
  · rename_i e z w he
    simp only [evIndexAddr, he, bindK_ite, bindK_some, shA]
  · cases h
attribute [go_sem ↓] bind_ixs bind_ixa
theorem bytesOf_n : evConv.bytesOf [] = some [] := rfl
theorem bytesOf_c {b : UInt8} {r : List AV} : evConv.bytesOf (.int .u8 (b.toNat : Int) :: r) = (evConv.bytesOf r).map (b :: ·) := by
  show (evConv.bytesOf r).map (UInt8.ofNat ((b.toNat : Int)).toNat :: ·) = _
  simp
attribute [go_sem] bytesOf_n bytesOf_c
theorem leave_same {n : Nat} {v : AV} {H : Hp} {w : Option Nat} (hv : flat v = true) (h : H.length = n) : leave n v H ⟨none, w⟩ = (v, H, ⟨none, low n w⟩) := by
  unfold leave
  have hlo : low n none = none := rfl
  simp only [hlo, hv, and_self, if_true]
  rw [List.take_of_length_le (by omega)]
theorem and_ww {a : Nat} : Ef.and ⟨none, some a⟩ ⟨none, some a⟩ = ⟨none, some a⟩ := by simp [Ef.and, omin]
attribute [go_sem] and_ww
theorem str_eq {a b : List UInt8} {H : Hp} (h : a = b) : (AV.str a, H, z0) = (AV.str b, H, z0) := by rw [h]
theorem callK_exP {α : Type} {P : Program} {f : FuncId} {args : List AV} {H : Hp} (p : α → Prop) (g : α → AV × Hp × Ef) (h : callK P f args H (fun q => ∃ b, p b ∧ q = g b)) : ∃ b, p b ∧ ∀ k, callK P f args H k = k (g b) := by
  obtain ⟨r, hr⟩ := callK_ex (fun r : {b : α // p b} => g r.1) (callK_mono h (fun q ⟨b, hb, hq⟩ => ⟨⟨b, hb⟩, hq⟩))
  exact ⟨r.1, r.2, hr⟩
/-- What holds where a piece of code ends, whichever way it took. -/
def cutQ (P : Program) (Q : Ex → St → Prop) (k : List It) (I : St → Prop) : Ex → St → Prop
  | .normal, s => I s
  | .exit i, s => leaveTo P Q i k s
  | ex, s => contQ P Q k ex s
section
variable {P : Program} {Q : Ex → St → Prop} {k : List It} {σ : List AV} {H : Hp} {e : Ef} {I : St → Prop}
theorem cutQ_n : cutQ P Q k I .normal ⟨σ, H, e⟩ = I ⟨σ, H, e⟩ := rfl
theorem cutQ_e {i : Nat} : cutQ P Q k I (.exit i) ⟨σ, H, e⟩ = leaveTo P Q i k ⟨σ, H, e⟩ := rfl
theorem cutQ_r : cutQ P Q k I .ret ⟨σ, H, e⟩ = Q .ret ⟨σ, H, e⟩ := contQ_ret k _
attribute [go_sem ↓] cutQ_n cutQ_e cutQ_r
theorem go_cut {c : Code} {s : St} (I : St → Prop) (h : go P (cutQ P Q k I) [.code c] s) (h2 : ∀ s, I s → go P Q k s) : go P Q (.code c :: k) s := by
  refine goCode_mono (Q := cutQ P Q k I) h (fun ex s hq => ?_)
  cases ex with
  | normal => exact h2 s hq
  | exit i => exact hq
  | goto l => exact hq
  | ret => exact hq
theorem condK_cut {b : Bool} {a a' : Code} {s : St} (I : St → Prop) (h : b = true → go P (cutQ P Q k I) [.code a] s) (h' : b = false → go P (cutQ P Q k I) [.code a'] s) (h2 : ∀ s, I s → go P Q k s) :
    condK (some (.bool b)) (go P Q (.code a :: k) s) (go P Q (.code a' :: k) s) :=
  condK_split (fun hb => go_cut I (h hb) h2) (fun hb => go_cut I (h' hb) h2)
end
attribute [local irreducible] go goOps goD opK callK callT stepK leaveTo nextK
theorem vcells_fn {f : Fn} {a b : List AV} : vcells (.func f a b) = [.func f a b] := rfl
theorem add_ok {a b : List UInt8} {m n : Nat} (ha : a.length ≤ m) (hb : b.length ≤ n) (h : m + n ≤ 9223372036854775807) : evStr .add a b = some (.str (a ++ b)) := by
  rw [s_add, if_pos (by show _ ≤ 9223372036854775807; omega)]
theorem u8_beq (a b : UInt8) : ((a.toNat : Int) == (b.toNat : Int)) = decide (a = b) := by
  rw [Bool.eq_iff_iff]; simp only [beq_iff_eq, decide_eq_true_eq]
  constructor
  · intro h; exact UInt8.toNat.inj (by omega)
  · rintro rfl; rfl
theorem quiet_g1 {v : AV} {H : Hp} {x : ABlk} {e : Ef} : quiet (v, H ++ [x], e) H = false := by simp [quiet]
theorem quiet_g2 {v : AV} {H T : Hp} {x : ABlk} {e : Ef} : quiet (v, H ++ (T ++ [x]), e) (H ++ T) = false := by simp [quiet]
theorem quiet_g3 {v : AV} {H T : Hp} {x y : ABlk} {e : Ef} : quiet (v, H ++ y :: (T ++ [x]), e) (H ++ y :: T) = false := by simp [quiet]
attribute [go_sem] quiet_g1 quiet_g2 quiet_g3
/-- What append grew: nothing, or a row of its own, z cells an element. -/
def GBuf (n : Nat) (T : Hp) (v : AV) (e z len : Nat) (cs : List AV) : Prop := (v = .nils ∧ cs = [] ∧ len = 0) ∨ (0 < len ∧ cs.length = len * z ∧ ∃ m, v = .slice (n + m) 0 len (.op 0) ∧ T[m]? = some (.cells cs e (.op 0 false)))
theorem GBuf.scl {n : Nat} {T : Hp} {v : AV} {e z len : Nat} {cs : List AV} (h : GBuf n T v e z len cs) : scal v = true := by
  obtain ⟨rfl, _⟩ | ⟨_, _, m, rfl, _⟩ := h <;> rfl
theorem GBuf.more {n : Nat} {T : Hp} {v : AV} {e z len : Nat} {cs : List AV} (h : GBuf n T v e z len cs) (l : Hp) : GBuf n (T ++ l) v e z len cs := by
  obtain h | ⟨h1, h2, m, rfl, hm⟩ := h
  · exact .inl h
  · exact .inr ⟨h1, h2, m, rfl, get_app hm⟩
theorem GBuf.set {n : Nat} {T : Hp} {v : AV} {e z len : Nat} {cs : List AV} (h : GBuf n T v e z len cs) {j : Nat} {c : List AV} {e' : TypeId} {x : ABlk} (hj : T[j]? = some (.cells c e' .rw)) : GBuf n (T.set j x) v e z len cs := by
  obtain h | ⟨h1, h2, m, rfl, hm⟩ := h
  · exact .inl h
  · refine .inr ⟨h1, h2, m, rfl, ?_⟩
    have : j ≠ m := by rintro rfl; rw [hj] at hm; cases hm
    rw [List.getElem?_set_ne this]; exact hm
/-- What append grew: whatever is of another kind stays. -/
theorem GBuf.app2 {P : Program} {H T : Hp} {v : AV} {e z b len : Nat} {cs : List AV} (h : GBuf H.length T v e z len cs) (hz : decide (0 < z) = true) (hk : zok P e z = true) (xs : List AV) (q : Nat) (hq : 0 < q) (hx : xs.length = q * z) (hsc : xs.all V.scal = true) (hf : fits (len + q) b = true) :
    ∃ v' T2 e2, (∀ kk, stepK (appTo P (.slice e z b) v (xs, q) (H ++ T)) kk = kk (v', H ++ T2, e2)) ∧ T2.length = T.length + 1 ∧ clean H.length e2 ∧ (∀ (i : Nat) x, T[i]? = some x → (∀ c fz st, x ≠ .cells c e (.op fz st)) → T2[i]? = some x) ∧ GBuf H.length T2 v' e z (len + q) (cs ++ xs) ∧ flat v' = false ∧ vcells v' = [v'] ∧ ∀ v e, quiet (v, H ++ T2, e) (H ++ T) = false := by
  have hz' : 0 < z := by simpa using hz
  obtain ⟨rfl, rfl, rfl⟩ | ⟨hpos, hcl, m, rfl, hm⟩ := h
  · refine ⟨.slice (H.length + T.length) 0 q (.op 0), T ++ [.cells xs e (.op 0 false)], z0, fun kk => ?_, by simp, ⟨rfl, rfl⟩, fun i x hx _ => get_app hx, .inr ⟨by omega, by simpa using hx, T.length, by simp, by simp⟩, by simp only [flat], rfl, fun v e => by simp [quiet]⟩
    rw [appTo_nils hz hk]
    have hd : decide (q = 0) = false := by simp; omega
    have hf : fits q b = true := by simpa using hf
    simp only [hd, guardK_ft, hf, true_and, List.length_append, List.append_assoc]
  · have hlt := lt_of_get hm
    have hg : (H ++ T)[H.length + m]? = some (.cells cs e (.op 0 false)) := by rw [hp_new, hm]
    refine ⟨.slice (H.length + T.length) 0 (len + q) (.op 0), T.set m .dead ++ [.cells (cs ++ xs) e (.op 0 false)], ⟨none, some (H.length + m)⟩, fun kk => ?_, by simp, by simp [clean, low], fun i x hx hf => ?_, .inr ⟨by omega, by rw [List.length_append, hcl, hx, Nat.add_mul], T.length, rfl, by simp⟩, by simp only [flat], rfl, fun v e => by simp [quiet]⟩
    · rw [appTo_op hz hk, hg]
      simp only [bindK_some, appO_c]
      have hqz : 0 < q * z := Nat.mul_pos hq hz'
      have hd : decide (0 + (len + q) * z ≤ cs.length) = false := by
        rw [hcl, Nat.add_mul]; simp; omega
      have ht : (List.drop 0 cs).take (len * z) ++ xs = cs ++ xs := by
        rw [List.drop_zero, List.take_of_length_le (by rw [hcl]; exact Nat.le_refl _)]
      have hle : 0 + len * z ≤ cs.length := by rw [hcl]; omega
      rw [hd, guardK_ft]
      simp only [ht, hf, hsc, hle, hp_set, List.length_append, List.append_assoc, Nat.sub_self, Nat.zero_le, true_and, and_true, Nat.zero_mul]
    · have hne : m ≠ i := by
        rintro rfl
        rw [hm] at hx; cases hx; exact absurd rfl (hf _ _ _)
      rw [get_app (x := x)]
      rw [List.getElem?_set_ne hne]; exact hx
theorem drop_at {α : Type} {s : List α} {i : Nat} {c : α} (h : s[i]? = some c) : s.drop i = c :: s.drop (i + 1) := by
  obtain ⟨hi, rfl⟩ := List.getElem?_eq_some_iff.1 h
  exact List.drop_eq_getElem_cons hi
/-- Texts as cells. -/
def strs (R : List (List UInt8)) : List AV := R.map .str
attribute [go_sem] Nat.mul_one
theorem strs_len {R : List (List UInt8)} : (strs R).length = R.length := by simp [strs]
theorem rep_str : ∀ n, rep [.str []] n = List.replicate n (AV.str [])
  | 0 => rfl
  | n + 1 => by rw [rep, rep_str n]; rfl
theorem strs_snoc {A : List (List UInt8)} {k : Nat} {q : List UInt8} (h : A[k]? = some q) : strs (A.take k) ++ [.str q] = strs (A.take (k + 1)) := by
  rw [take_snoc h]; simp [strs]
theorem strs_at {A : List (List UInt8)} {i : Nat} {p : List UInt8} (h : A[i]? = some p) : (strs A)[i]? = some (.str p) := by simp [strs, h]
theorem strs_ld {A : List (List UInt8)} {i : Nat} {p : List UInt8} (h : A[i]? = some p) (e : TypeId) (k : Kd) : ldC i 1 false (.cells (strs A) e k) = some (.str p) := by
  rw [ldC_f]; exact strs_at h
end Go.Proofs.YtgkpgpdkolpfkaaDoor.V
