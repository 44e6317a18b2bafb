/- The abstract evaluator 'V': a deterministic reading of the loaded code over an abstract heap. Definitions alone; VSound shows that what it answers the machine answers. No conditions. -/
import Derived.Calls
import Derived.Tactics
import Derived.Lib.Bytealg
namespace Go.Proofs.YtgkpgpdkolpfkaaDoor.V
open Go
set_option linter.unusedSimpArgs false
set_option linter.unusedVariables false

/-- A slice's capacity: known, or what is left of its block's behind k elements. -/
inductive Cap where
  | ex (n : Nat)
  | op (k : Nat)

/-- Values, with abstract blocks for addresses. -/
inductive AV where
  | bool (b : Bool)
  | int (k : IntKind) (n : Int)
  | float (k : FloatKind) (bits : Nat)
  | str (s : List UInt8)
  | ptr (b o : Nat)
  | nilp
  | slice (b o n : Nat) (c : Cap)
  | nils
  | map (r : Nat)
  | nilm
  | func (fn : Fn) (first captured : List AV)
  | nilf
  | iface (t : TypeId) (v : AV)
  | nili
  | agg (cs : List AV)
  | tuple (vs : List AV)
  | yld (b : Nat)
instance : Inhabited AV := ⟨.tuple []⟩

/-- How a row of cells may be used: read alone; of known size; grown by append (fz: so many cells may be frozen; st: it came of a string). -/
inductive Kd where
  | ro
  | rw
  | op (fz : Nat) (st : Bool)

inductive Ex where
  | normal | exit (id : Nat) | goto (l : Nat) | ret
  deriving DecidableEq

/-- How a range over a function stands: between two rounds; in a round; a round has left by a jump. -/
inductive Md where
  | ready
  | busy
  | done (e : Ex)

inductive ABlk where
  | cells (c : List AV) (e : TypeId) (k : Kd)
  | map (es : List (AV × AV))
  | iter (s : List UInt8) (pos : Nat)
  | ghost
  | dead
  | void
  | loop (σ : List AV) (ps : List Tmp) (a b : Code) (md : Md)
instance : Inhabited ABlk := ⟨.dead⟩

abbrev Hp := List ABlk
/-- What was written: the lowest block into which something with an address was stored; the lowest that was changed at all. -/
structure Ef where
  es : Option Nat
  ws : Option Nat
/-- A value, the heap behind, what was written. -/
abbrev Rs := Option (AV × Hp × Ef)
abbrev CallO := FuncId → List AV → Hp → Rs

def omin : Option Nat → Option Nat → Option Nat
  | none, y => y
  | x, none => x
  | some a, some b => some (min a b)
def z0 : Ef := ⟨none, none⟩
def Ef.and (a b : Ef) : Ef := ⟨omin a.es b.es, omin a.ws b.ws⟩

mutual
/-- No address within. -/
def flat : AV → Bool
  | .ptr _ _ => false
  | .slice _ _ _ _ => false
  | .map _ => false
  | .yld _ => false
  | .func _ f c => flats f && flats c
  | .iface _ v => flat v
  | .agg cs => flats cs
  | .tuple vs => flats vs
  | _ => true
def flats : List AV → Bool
  | [] => true
  | v :: vs => flat v && flats vs
end

def scal : AV → Bool
  | .agg _ => false
  | .yld _ => false
  | .tuple _ => false
  | _ => true

def vcells : AV → List AV
  | .agg cs => cs
  | v => [v]

def undefA : AV := .tuple []

mutual
/-- A constant of the code. -/
def absV : Value → Option AV
  | .bool b => some (.bool b)
  | .int k n => some (.int k n)
  | .float k b => some (.float k b)
  | .string s => some (.str s.data.toList)
  | .pointer none => some .nilp
  | .slice none 0 0 => some .nils
  | .map none => some .nilm
  | .func fn ⟨[]⟩ ⟨[]⟩ => some (.func fn [] [])
  | .nilFunc => some .nilf
  | .iface t v => (absV v).map (.iface t)
  | .nilIface => some .nili
  | .agg ⟨cs⟩ => (absVs cs).map .agg
  | .tuple ⟨cs⟩ => (absVs cs).map .tuple
  | _ => none
def absVs : List Value → Option (List AV)
  | [] => some []
  | v :: vs => (absV v).bind fun a => (absVs vs).map (a :: ·)
end

/-! ### types -/
def tsize (P : Program) (t : TypeId) : Option Nat := (P.info? t).map (·.size)
def tbytes (P : Program) (t : TypeId) : Option Nat := (P.info? t).map (·.bytes)
def tagg (P : Program) (t : TypeId) : Option Bool :=
  match P.underlying t with
  | some (.struct _) => some true
  | some (.array _ _) => some true
  | some _ => some false
  | none => none
def tzero (P : Program) (t : TypeId) : Option (List AV) := ((P.info? t).bind (·.zero)).bind fun v => absVs v.cells.toList
/-- A zero value (one value, an agg where the type is a struct or an array). -/
def tzeroV (P : Program) (t : TypeId) : Option AV := ((P.info? t).bind (·.zero)).bind absV
/-- A struct's field: place, cells, is it a struct or an array. -/
def tfield (P : Program) (t : TypeId) (f : Nat) : Option (Nat × Nat × Bool) :=
  match P.underlying t with
  | some (.struct fs) => (fs[f]?).bind fun x => (tsize P x.type).bind fun n => (tagg P x.type).map fun a => (x.offset, n, a)
  | _ => none
inductive Sh where
  | slice (e n b : Nat)
  | array (l e n : Nat)
  | str | map (k e : TypeId) | bool | int (k : IntKind) | float (k : FloatKind) | ptr (e : TypeId) | struct | iface | func | upt | other
/-- A type's shape, with its element's cells and bytes. -/
def tsh (P : Program) (t : TypeId) : Option Sh :=
  match P.underlying t with
  | some (.slice e) => (P.info? e).map fun i => .slice e i.size i.bytes
  | some (.array l e) => (P.info? e).map fun i => .array l e i.size
  | some .string => some .str
  | some (.map k e) => some (.map k e)
  | some .bool => some .bool
  | some (.int k) => some (.int k)
  | some (.float k) => some (.float k)
  | some (.pointer e) => some (.ptr e)
  | some (.struct _) => some .struct
  | some (.interface _) => some .iface
  | some (.func _ _ _) => some .func
  | some .unsafePointer => some .upt
  | some _ => some .other
  | none => none

/-! ### memory -/
def splice (c : List AV) (o : Nat) (xs : List AV) : List AV := c.take o ++ xs ++ c.drop (o + xs.length)

def rd (H : Hp) (b o n : Nat) : Option (List AV) :=
  match H[b]? with
  | some (.cells c _ _) => if o + n ≤ c.length then some ((c.drop o).take n) else none
  | some .void => if n = 0 then some [] else none
  | _ => none

def canWr (k : Kd) (o : Nat) : Bool :=
  match k with
  | .ro => false
  | .rw => true
  | .op fz _ => fz ≤ o

/-- Store a row of cells. -/
def wr (H : Hp) (b o : Nat) (xs : List AV) : Option (Hp × Ef) :=
  match H[b]? with
  | some (.cells c e k) =>
    if o + xs.length ≤ c.length ∧ canWr k o = true ∧ xs.all scal = true then
      some (H.set b (.cells (splice c o xs) e k), ⟨if flats xs then none else some b, some b⟩)
    else none
  | _ => none

def new (H : Hp) (blk : ABlk) : Nat × Hp := (H.length, H ++ [blk])

def one : List AV → Option AV
  | [v] => some v
  | _ => none

def evLoad (P : Program) (H : Hp) (t : TypeId) (b o : Nat) : Option AV :=
  match tagg P t with
  | some true => (tsize P t).bind fun n => (rd H b o n).map .agg
  | some false => (rd H b o 1).bind one
  | none => none

def evStore (P : Program) (H : Hp) (t : TypeId) (b o : Nat) (v : AV) : Option (Hp × Ef) :=
  match tsize P t with
  | some n => if (vcells v).length = n then wr H b o (vcells v) else none
  | none => none

/-! ### operations on values -/
def maxI : Nat := 9223372036854775807
def evInt (op : BinOp) (k : IntKind) (x y : Int) : Option AV :=
  match op with
  | .add => some (.int k (k.wrap (x + y)))
  | .sub => some (.int k (k.wrap (x - y)))
  | .mul => some (.int k (k.wrap (x * y)))
  | .quo => if y = 0 then none else some (.int k (k.wrap (x.tdiv y)))
  | .rem => if y = 0 then none else some (.int k (x.tmod y))
  | .and => some (.int k (k.wrap (BitVec.ofInt k.bits x &&& BitVec.ofInt k.bits y).toNat))
  | .or => some (.int k (k.wrap (BitVec.ofInt k.bits x ||| BitVec.ofInt k.bits y).toNat))
  | .xor => some (.int k (k.wrap (BitVec.ofInt k.bits x ^^^ BitVec.ofInt k.bits y).toNat))
  | .andNot => some (.int k (k.wrap (BitVec.ofInt k.bits x &&& ~~~(BitVec.ofInt k.bits y)).toNat))
  | .eql => some (.bool (x == y))
  | .neq => some (.bool (x != y))
  | .lss => some (.bool (decide (x < y)))
  | .leq => some (.bool (decide (x ≤ y)))
  | .gtr => some (.bool (decide (x > y)))
  | .geq => some (.bool (decide (x ≥ y)))
  | _ => none

def evShift (op : BinOp) (k : IntKind) (x y : Int) : Option AV :=
  if y < 0 then none else
  match op with
  | .shl => some (.int k (k.wrap (x * 2 ^ (min y.toNat k.bits))))
  | .shr => some (.int k (x.fdiv (2 ^ (min y.toNat k.bits))))
  | _ => none

def evStr (op : BinOp) (x y : List UInt8) : Option AV :=
  match op with
  | .add => if x.length + y.length ≤ maxI then some (.str (x ++ y)) else none
  | .eql => some (.bool (x == y))
  | .neq => some (.bool !(x == y))
  | .lss => some (.bool (Op.bytesLess x y))
  | .leq => some (.bool (Op.bytesLess x y || x == y))
  | .gtr => some (.bool !(Op.bytesLess x y || x == y))
  | .geq => some (.bool !(Op.bytesLess x y))
  | _ => none

/-- Cells that are compared as they stand. -/
def plainEq : AV → AV → Option Bool
  | .bool a, .bool b => some (a == b)
  | .int k a, .int k' b => if k = k' then some (a == b) else none
  | .str a, .str b => some (a == b)
  | _, _ => none

def partA (P : Program) (t : TypeId) (cs : List AV) (o : Nat) : Option AV :=
  match tagg P t with
  | some true => (tsize P t).bind fun n => if o + n ≤ cs.length then some (.agg ((cs.drop o).take n)) else none
  | some false => cs[o]?
  | none => none

def eqParts (P : Program) (eq : TypeId → AV → AV → Option Bool) : List Field → List AV → List AV → Option Bool
  | [], _, _ => some true
  | f :: fs, xs, ys =>
    if f.name = "_" then eqParts P eq fs xs ys else
    (partA P f.type xs f.offset).bind fun x => (partA P f.type ys f.offset).bind fun y =>
      (eq f.type x y).bind fun b => if b then eqParts P eq fs xs ys else some false

def eqElems (P : Program) (eq : TypeId → AV → AV → Option Bool) (e : TypeId) (n : Nat) (xs ys : List AV) : List Nat → Option Bool
  | [] => some true
  | i :: l => (partA P e xs (i * n)).bind fun x => (partA P e ys (i * n)).bind fun y => (eq e x y).bind fun b => if b then eqElems P eq e n xs ys l else some false

/-- '==' at a type: numbers, bools, strings, errors of such, structs of such; a pointer, slice, map or function against nil. -/
def evEq (P : Program) : Nat → TypeId → AV → AV → Option Bool
  | 0, _, _, _ => none
  | d + 1, t, x, y =>
    match P.underlying t, x, y with
    | some .bool, .bool a, .bool b => some (a == b)
    | some (.int _), .int k a, .int k' b => if k = k' then some (a == b) else none
    | some .string, .str a, .str b => some (a == b)
    | some (.pointer _), .nilp, .nilp => some true
    | some (.pointer _), .nilp, .ptr _ _ => some false
    | some (.pointer _), .ptr _ _, .nilp => some false
    | some (.interface _), .nili, .nili => some true
    | some (.interface _), .nili, .iface _ _ => some false
    | some (.interface _), .iface _ _, .nili => some false
    | some (.interface _), .iface tx vx, .iface ty vy =>
      if tx ≠ ty then some false else
      match P.info? tx with
      | some i => if i.comparable then evEq P d tx vx vy else none
      | none => none
    | some (.struct fs), .agg xs, .agg ys => if P.stoodInHeld t then none else eqParts P (evEq P d) fs.toList xs ys
    | some (.array l e), .agg xs, .agg ys => (tsize P e).bind fun n => eqElems P (evEq P d) e n xs ys (List.range l)
    | some (.slice _), .nils, .nils => some true
    | some (.slice _), .nils, .slice _ _ _ _ => some false
    | some (.slice _), .slice _ _ _ _, .nils => some false
    | some (.map _ _), .nilm, .nilm => some true
    | some (.map _ _), .nilm, .map _ => some false
    | some (.map _ _), .map _, .nilm => some false
    | some (.func _ _ _), .nilf, .nilf => some true
    | some (.func _ _ _), .nilf, .func _ _ _ => some false
    | some (.func _ _ _), .func _ _ _, .nilf => some false
    | some (.pointer e), .ptr b o, .ptr b' o' => if b = b' ∧ o = o' ∧ (P.info? e).isSome = true then some true else none
    | _, _, _ => none

def evBin (P : Program) (op : BinOp) (t : TypeId) (x y : AV) : Option AV :=
  match op, x, y with
  | .shl, .int k a, .int _ b => evShift .shl k a b
  | .shr, .int k a, .int _ b => evShift .shr k a b
  | op, .int k a, .int k' b => if k = k' then evInt op k a b else none
  | op, .str a, .str b => evStr op a b
  | .eql, .agg a, .agg b => if P.eqGuardType P.depth t then none else (evEq P 20 t (.agg a) (.agg b)).map .bool
  | .neq, .agg a, .agg b => if P.eqGuardType P.depth t then none else (evEq P 20 t (.agg a) (.agg b)).map fun r => .bool !r
  | .eql, .nili, .nili => none
  | .neq, .nili, .nili => none
  | .eql, x, y => (evEq P 20 t x y).map .bool
  | .neq, x, y => (evEq P 20 t x y).map fun r => .bool !r
  | _, _, _ => none

def evUn (op : UnOp) (x : AV) : Option AV :=
  match op, x with
  | .neg, .int k n => some (.int k (k.wrap (0 - n)))
  | .xor, .int k n => evInt .xor k (if k.signed then -1 else k.max) n
  | .not, .bool b => some (.bool !b)
  | _, _ => none

/-- A slice's bounds where Go does not panic. -/
def bnd (low high : Option AV) (len cap : Nat) : Option (Nat × Nat) :=
  match high with
  | some (.int _ h) =>
    if 0 ≤ h ∧ h ≤ cap then
      (match low with
       | some (.int _ l) => if 0 ≤ l ∧ l ≤ h then some (l.toNat, h.toNat) else none
       | none => some (0, h.toNat)
       | _ => none)
    else none
  | none =>
    (match low with
     | some (.int _ l) => if 0 ≤ l ∧ l ≤ len then some (l.toNat, len) else none
     | none => some (0, len)
     | _ => none)
  | _ => none

def evIndex (P : Program) (t : TypeId) (x i : AV) : Option AV :=
  match tsh P t, x, i with
  | some .str, .str s, .int _ i => if 0 ≤ i then (s[i.toNat]?).map fun b => .int .u8 b.toNat else none
  | some (.array l e n), .agg cs, .int _ i => if 0 ≤ i ∧ i < l then partA P e cs (i.toNat * n) else none
  | _, _, _ => none

def evIndexAddr (P : Program) (t : TypeId) (x i : AV) : Option AV :=
  match tsh P t, x, i with
  | some (.slice _ z _), .slice b o n _, .int _ i => if 0 ≤ i ∧ i < n then some (.ptr b (o + i.toNat * z)) else none
  | some (.array l _ z), .ptr b o, .int _ i => if 0 ≤ i ∧ i < l then some (.ptr b (o + i.toNat * z)) else none
  | _, _, _ => none

/-- Of a slice of unknown capacity: how many elements are known to be there from its head on. -/
def known (H : Hp) (b o k z : Nat) (e : TypeId) : Option Nat :=
  match H[b]? with
  | some (.cells c e' (.op _ _)) => if e' = e ∧ 0 < z ∧ o = k * z then some ((c.length - o) / z) else none
  | _ => none

/-- x[low:high:max]. -/
def evSlice (P : Program) (t : TypeId) (x : AV) (low high mx : Option AV) (H : Hp) : Option AV :=
  match tsh P t, x, mx with
  | some .str, .str s, none => (bnd low high s.length s.length).map fun r => .str ((s.drop r.1).take (r.2 - r.1))
  | some (.slice _ _ _), .nils, none => (bnd low high 0 0).map fun _ => .nils
  | some (.slice _ _ _), .nils, some (.int _ m) => if m = 0 ∧ high.isSome = true then (bnd low high 0 0).map fun _ => .nils else none
  | some (.slice _ z _), .slice b o n (.ex c), none => (bnd low high n c).map fun r => .slice b (if c = r.1 then o else o + r.1 * z) (r.2 - r.1) (.ex (c - r.1))
  | some (.slice _ z _), .slice b o n (.ex c), some (.int _ m) =>
    if 0 ≤ m ∧ m ≤ c ∧ high.isSome = true then (bnd low high n m.toNat).map fun r => .slice b (if m.toNat = r.1 then o else o + r.1 * z) (r.2 - r.1) (.ex (m.toNat - r.1)) else none
  | some (.slice e z _), .slice b o n (.op k), none =>
    (known H b o k z e).bind fun q => (bnd low high n q).bind fun r =>
      if r.1 = 0 ∨ r.1 < q then some (.slice b (o + r.1 * z) (r.2 - r.1) (.op (k + r.1))) else none
  | some (.slice e z _), .slice b o n (.op k), some (.int _ m) =>
    (known H b o k z e).bind fun q =>
    if 0 ≤ m ∧ m ≤ q ∧ high.isSome = true then (bnd low high n m.toNat).map fun r => .slice b (if m.toNat = r.1 then o else o + r.1 * z) (r.2 - r.1) (.ex (m.toNat - r.1)) else none
  | some (.ptr arr), .ptr b o, none =>
    match tsh P arr with
    | some (.array n _ z) => (bnd low high n n).map fun r => .slice b (if n = r.1 then o else o + r.1 * z) (r.2 - r.1) (.ex (n - r.1))
    | _ => none
  | some (.array n _ z), .ptr b o, none => (bnd low high n n).map fun r => .slice b (if n = r.1 then o else o + r.1 * z) (r.2 - r.1) (.ex (n - r.1))
  | _, _, _ => none

/-- An empty one of a slice whose capacity is open: where it lies is open too. -/
def evSliceX (P : Program) (t : TypeId) (x : AV) (low high mx : Option AV) (H : Hp) : Option (AV × Hp) :=
  match tsh P t, x, mx with
  | some (.slice e z _), .slice b o n (.op k), none =>
    (known H b o k z e).bind fun q => (bnd low high n q).bind fun r =>
      if r.1 = r.2 then some (.slice H.length 0 0 (.op 0), H ++ [.void]) else none
  | _, _, _ => none

def rep (z : List AV) : Nat → List AV
  | 0 => []
  | n + 1 => z ++ rep z n

def evMake (P : Program) (t : TypeId) (len cap : AV) (H : Hp) : Option (AV × Hp) :=
  match tsh P t, len, cap with
  | some (.slice e n b), .int _ l, .int _ c =>
    if 0 ≤ l ∧ l ≤ c ∧ c * (b + 1) ≤ 2 ^ 46 ∧ c ≤ 2 ^ 46 then
      (tzero P e).bind fun z => if z.length = n then some (.slice H.length 0 l.toNat (.ex c.toNat), H ++ [.cells (rep z c.toNat) e .rw]) else none
    else none
  | _, _, _ => none

def fillA (place : Nat → Option (Nat × Nat)) : List AV → List (Nat × AV) → Option (List AV)
  | c, [] => some c
  | c, (i, v) :: rest =>
    (place i).bind fun (o, n) => if (vcells v).length = n ∧ o + n ≤ c.length then fillA place (splice c o (vcells v)) rest else none

/-- A struct's fields: place and cells. -/
def tplaces (P : Program) (t : TypeId) : Option (List (Nat × Nat)) :=
  match P.underlying t with
  | some (.struct fs) => fs.toList.mapM fun f => (P.info? f.type).map fun i => (f.offset, i.size)
  | _ => none

def evBuild (P : Program) (t : TypeId) (parts : List (Nat × AV)) : Option AV :=
  match tsh P t with
  | some .struct => (tzero P t).bind fun z => (tplaces P t).bind fun ps => (fillA (fun i => ps[i]?) z parts).map .agg
  | some (.array _ _ n) => (tzero P t).bind fun z => (fillA (fun i => some (i * n, n)) z parts).map .agg
  | _ => none

def evBuildSlice (P : Program) (t : TypeId) (len : Nat) (parts : List (Nat × AV)) (H : Hp) : Option (AV × Hp) :=
  match tsh P t with
  | some (.slice e n _) =>
    if len * n ≤ 2 ^ 24 then
      (tzero P e).bind fun z => if z.length = n then (fillA (fun i => some (i * n, n)) (rep z len) parts).map fun c => (.slice H.length 0 len (.ex len), H ++ [.cells c e .rw]) else none
    else none
  | _ => none

def evConv (P : Program) (src dst : TypeId) (x : AV) (H : Hp) : Option (AV × Hp) :=
  match tsh P src, tsh P dst, x with
  | some _, some (.int k), .int _ n => some (.int k (k.wrap n), H)
  | some _, some .str, .int _ n => some (.str (Utf8.encode n).data.toList, H)
  | some _, some .str, .str s => some (.str s, H)
  | some _, some (.slice e 1 1), .str s =>
    match tsh P e with
    | some (.int .u8) =>
      some (.slice H.length 0 s.length (.op 0), H ++ [.cells (s.map fun b => .int .u8 b.toNat) e (.op 0 true)])
    | _ => none
  | some (.slice e 1 1), some .str, .nils => match tsh P e with
    | some (.int .u8) => some (.str [], H)
    | _ => none
  | some (.slice e 1 1), some .str, .slice b o n _ => match tsh P e with
    | some (.int .u8) => (rd H b o n).bind fun c => (bytesOf c).map fun s => (.str s, H)
    | _ => none
  | some (.ptr t), some .upt, .ptr b o => match H[b]?, P.info? t with
    | some (.cells c _ _), some j => if j.size ≠ 0 ∧ o < c.length then some (.ptr b o, H) else none
    | _, _ => none
  | some .upt, some (.ptr u), .ptr b o => match H[b]?, P.info? u with
    | some (.cells c e .rw), some _ => if liesAt P P.depth e (c.length / P.cellsOf e) o u 1 = true then some (.ptr b o, H) else none
    | _, _ => none
  | _, _, _ => none
where
  bytesOf : List AV → Option (List UInt8)
    | [] => some []
    | .int .u8 n :: r => (bytesOf r).map (UInt8.ofNat n.toNat :: ·)
    | _ => none

def strIter (s : List UInt8) (pos : Nat) : AV × Nat :=
  if pos < s.length then
    let d := Utf8.decode ⟨s.toArray⟩ pos
    (.tuple [.bool true, .int .i64 pos, .int .i32 d.1], pos + d.2)
  else (.tuple [.bool false], pos)

/-! ### builtins -/
/-- What is appended: its elements' cells, and how many elements. -/
def appended (H : Hp) (z : Nat) : AV → Option (List AV × Nat)
  | .nils => some ([], 0)
  | .slice b o n _ => (rd H b o (n * z)).map fun c => (c, n)
  | .str s => if z = 1 then some (s.map fun b => .int .u8 b.toNat, s.length) else none
  | _ => none

/-- An element's zero value has as many cells as the element. -/
def zok (P : Program) (e : TypeId) (z : Nat) : Bool :=
  match tzero P e with
  | some l => l.length == z
  | none => false

/-- So many elements of b bytes can be had. -/
def fits (n b : Nat) : Bool := decide (n * (b + 1) ≤ 70368744177664)

def evAppend (P : Program) (t : TypeId) (s x : AV) (H : Hp) : Rs :=
  match tsh P t with
  | some (.slice e z b) =>
    if 0 < z ∧ zok P e z = true then
    (appended H z x).bind fun a =>
      match s with
      | .nils => if a.2 = 0 then some (.nils, H, z0) else
        if fits a.2 b = true then some (.slice H.length 0 a.2 (.op 0), H ++ [.cells a.1 e (.op 0 false)], z0) else none
      | .slice bl o n (.ex c) =>
        if n + a.2 ≤ c then (wr H bl (o + n * z) a.1).map fun r => (.slice bl o (n + a.2) (.ex c), r.1, r.2)
        else if fits (n + a.2) b = true then
          (rd H bl o (n * z)).map fun old => (.slice H.length 0 (n + a.2) (.op 0), H ++ [.cells (old ++ a.1) e (.op 0 false)], z0)
        else none
      | .slice bl o n (.op k) =>
        match H[bl]? with
        | some (.cells c e' (.op fz st)) =>
          if e' = e ∧ o = k * z ∧ o + n * z ≤ c.length then
            if o + (n + a.2) * z ≤ c.length then (wr H bl (o + n * z) a.1).map fun r => (.slice bl o (n + a.2) (.op k), r.1, r.2)
            else if fits (n + a.2) b = true ∧ fz ≤ o + n * z ∧ a.1.all scal = true then
              some (.slice H.length 0 (n + a.2) (.op 0), H.set bl .dead ++ [.cells ((c.drop o).take (n * z) ++ a.1) e (.op (fz - o) st)], ⟨none, some bl⟩)
            else none
          else none
        | _ => none
      | _ => none
    else none
  | _ => none

def evCopy (P : Program) (t : TypeId) (d x : AV) (H : Hp) : Rs :=
  match tsh P t with
  | some (.slice _ z _) =>
    (appended H z x).bind fun a =>
      match d with
      | .nils => some (.int .i64 0, H, z0)
      | .slice b o n _ => (wr H b o (a.1.take (min a.2 n * z))).map fun r => (.int .i64 (min a.2 n : Nat), r.1, r.2)
      | _ => none
  | _ => none

def evLen (P : Program) (t : TypeId) (x : AV) (H : Hp) : Option AV :=
  match tsh P t, x with
  | some .str, .str s => some (.int .i64 s.length)
  | some (.array n _ _), _ => some (.int .i64 n)
  | some (.slice _ _ _), .slice _ _ n _ => some (.int .i64 n)
  | some (.slice _ _ _), .nils => some (.int .i64 0)
  | some (.map _ _), .nilm => some (.int .i64 0)
  | some (.map _ _), .map r =>
    match H[r]? with
    | some (.map es) => some (.int .i64 es.length)
    | _ => none
  | _, _ => none

def evCap (P : Program) (t : TypeId) (x : AV) : Option AV :=
  match tsh P t, x with
  | some (.slice _ _ _), .slice _ _ _ (.ex c) => some (.int .i64 c)
  | some (.slice _ _ _), .nils => some (.int .i64 0)
  | _, _ => none

/-- Where a slice's cells begin. -/
def evSliceData (P : Program) (x : AV) (H : Hp) : Option AV :=
  match x with
  | .nils => some .nilp
  | .slice b o n (.ex c) => if c ≠ 0 then some (.ptr b o) else none
  | .slice b o n (.op k) =>
    match H[b]? with
    | some (.cells c e (.op _ _)) => (tsize P e).bind fun z => if 0 < z ∧ o = k * z ∧ 0 < n ∧ o + n * z ≤ c.length then some (.ptr b o) else none
    | _ => none
  | _ => none
/-- Cells that are bytes. -/
def evBytes : List AV → Option (List UInt8)
  | [] => some []
  | .int .u8 n :: r => if 0 ≤ n ∧ n < 256 then (evBytes r).map (UInt8.ofNat n.toNat :: ·) else none
  | _ => none
/-- A string over a row's bytes, which nobody changes from then on. -/
def evString (P : Program) (pt : TypeId) (x i : AV) (H : Hp) : Rs :=
  match i with
  | .int .i64 n =>
    if n = 0 then (match x with | .nilp => some (.str [], H, z0) | .ptr _ _ => some (.str [], H, z0) | _ => none)
    else if 0 < n ∧ n ≤ 9223372036854775807 then
      match x, tsh P pt with
      | .ptr b o, some (.ptr e) =>
        match H[b]? with
        | some (.cells c e' (.op fz false)) =>
          if e' = e ∧ tsize P e = some 1 ∧ P.cellsOf e = 1 ∧ o + n.toNat ≤ c.length then
            (evBytes ((c.drop o).take n.toNat)).map fun s => (.str s, H.set b (.cells c e (.op (max fz (o + n.toNat)) false)), ⟨none, some b⟩)
          else none
        | _ => none
      | _, _ => none
    else none
  | _ => none

def evMin2 : AV → AV → Option AV
  | .int k x, .int _ y => some (.int k (if y < x then y else x))
  | _, _ => none
def evMax2 : AV → AV → Option AV
  | .int k x, .int _ y => some (.int k (if y > x then y else x))
  | _, _ => none

/-! ### maps with keys that are numbers, strings, bools -/
def sameKey : Sh → AV → AV → Option Bool
  | .int _, .int k a, .int k' b => if k = k' then some (a == b) else none
  | .str, .str a, .str b => some (a == b)
  | .bool, .bool a, .bool b => some (a == b)
  | _, _, _ => none
def findK (s : Sh) (k : AV) : List (AV × AV) → Nat → Option (Option (Nat × AV))
  | [], _ => some none
  | e :: es, i =>
    match sameKey s k e.1 with
    | some true => some (some (i, e.2))
    | some false => findK s k es (i + 1)
    | none => none
/-- A map's key's shape, and its element type. -/
def mapSh (P : Program) (t : TypeId) : Option (Sh × TypeId) :=
  match tsh P t with
  | some (.map kt et) =>
    match tsh P kt with
    | some (.int k) => some (.int k, et)
    | some .str => some (.str, et)
    | some .bool => some (.bool, et)
    | _ => none
  | _ => none

def evLookup (P : Program) (t : TypeId) (x i : AV) (ok : Bool) (H : Hp) : Option AV :=
  (mapSh P t).bind fun m =>
    (match x with
     | .nilm => some []
     | .map r => (match H[r]? with | some (.map es) => some es | _ => none)
     | _ => none).bind fun es =>
      (findK m.1 i es 0).bind fun r =>
        match r with
        | some y => some (if ok then .tuple [y.2, .bool true] else y.2)
        | none => (tzeroV P m.2).map fun z => if ok then .tuple [z, .bool false] else z

def evMapSet (P : Program) (t : TypeId) (m k v : AV) (H : Hp) : Option (Hp × Ef) :=
  (mapSh P t).bind fun s =>
    match m with
    | .map r =>
      match H[r]? with
      | some (.map es) =>
        (findK s.1 k es 0).map fun x =>
          (H.set r (.map (match x with | some y => es.set y.1 (k, v) | none => es ++ [(k, v)])), ⟨if flat k && flat v then none else some r, some r⟩)
      | _ => none
    | _ => none

def evDelete (P : Program) (t : TypeId) (m k : AV) (H : Hp) : Option (Hp × Ef) :=
  (mapSh P t).bind fun s =>
    match m with
    | .nilm => some (H, z0)
    | .map r =>
      match H[r]? with
      | some (.map es) => (findK s.1 k es 0).map fun x => (H.set r (.map (match x with | some y => es.eraseIdx y.1 | none => es)), ⟨none, some r⟩)
      | _ => none
    | _ => none

/-! ### operations -/
def evArg (P : Program) (σ : List AV) : Operand → Option AV
  | .tmp t => some ((σ[t]?).getD undefA)
  | .const v => absV v
  | .global g => if g < P.globals.size then some (.ptr g 0) else none
  | .func f => some (.func (.func f) [] [])

def evArgs (P : Program) (σ : List AV) : List Operand → Option (List AV)
  | [] => some []
  | x :: xs => (evArg P σ x).bind fun a => (evArgs P σ xs).map (a :: ·)

def evParts (P : Program) (σ : List AV) : List (Nat × Operand) → Option (List (Nat × AV))
  | [] => some []
  | (i, x) :: xs => (evArg P σ x).bind fun a => (evParts P σ xs).map ((i, a) :: ·)

def evOpt (P : Program) (σ : List AV) : Option Operand → Option (Option AV)
  | none => some none
  | some x => (evArg P σ x).map some

/-- A value, memory as it was. -/
def ret (H : Hp) (v : Option AV) : Rs := v.map fun v => (v, H, z0)
def ret2 (v : Option (AV × Hp)) : Rs := v.map fun (v, H) => (v, H, z0)

def hasBody (P : Program) (f : FuncId) : Bool :=
  match P.funcs[f]? with
  | some fn => fn.body.isSome && !(fn.name == "runtime.NumGoroutine")
  | none => false

/-- A function without a body that the evaluator knows. -/
inductive Xn where
  | same | idxB | cntB | cmp
  deriving DecidableEq
def xnName (n : String) : Option Xn :=
  if n = "internal/abi.NoEscape" then some .same
  else if n = "internal/bytealg.IndexByteString" then some .idxB
  else if n = "internal/bytealg.CountString" then some .cntB
  else if n = "internal/bytealg.abigen_runtime_cmpstring" then some .cmp
  else none
def isExt (P : Program) (f : FuncId) : Option Xn :=
  match P.funcs[f]? with
  | some fn => if (fn.body.isNone && !(fn.name == "runtime.NumGoroutine") && (Extern.findNext fn).isNone) = true then xnName fn.name else none
  | none => none
def evExt : Xn → List AV → Option AV
  | .same, [x] => some x
  | .idxB, [.str s, .int .u8 c] => some (.int .i64 (Lib.indexByte s c.toNat.toUInt8))
  | .cntB, [.str s, .int .u8 c] => some (.int .i64 (Lib.countByte s c.toNat.toUInt8))
  | .cmp, [.str a, .str b] => some (.int .i64 (Lib.compareBytes a b))
  | _, _ => none

/-- New bytes, whatever they are. -/
def isNZ (P : Program) (f : FuncId) : Option TypeId :=
  match P.funcs[f]? with
  | some fn => if (fn.body.isNone && !(fn.name == "runtime.NumGoroutine") && (Extern.findNext fn).isNone && decide (fn.name = "internal/bytealg.MakeNoZero") && decide (fn.resultTypes.size = 1)) = true then
      match (fn.resultTypes[0]?).bind (tsh P) with
      | some (.slice e 1 1) => some e
      | _ => none
    else none
  | none => none
def evNZ (e : TypeId) (as : List AV) (H : Hp) : Rs :=
  match as with
  | [.int .i64 n] => if 0 ≤ n ∧ n ≤ 281474976710656 then some (.slice H.length 0 n.toNat (.op 0), H ++ [.cells [] e (.op 0 false)], z0) else none
  | _ => none
/-- A function without a body. -/
def evX (P : Program) (g : FuncId) (as : List AV) (H : Hp) : Rs :=
  match isNZ P g with
  | some e => evNZ e as H
  | none => ret H ((isExt P g).bind fun x => evExt x as)

/-- The type of what is appended: no number's. -/
def srcOk (P : Program) (u : TypeId) : Bool :=
  match tsh P u with
  | some (.int _) => false
  | some _ => true
  | none => false

def evCall (P : Program) (C : CallO) (σ : List AV) (H : Hp) (c : Call) : Rs :=
  match c.callee with
  | .value f =>
    (evArg P σ f).bind fun f => (evArgs P σ c.args.toList).bind fun as =>
      match f with
      | .func (.func g) first captured => if hasBody P g = true then C g (first ++ as ++ captured) H else evX P g (first ++ as ++ captured) H
      | .yld b => C (P.funcs.size + b) as H
      | _ => none
  | .builtin b =>
    (evArgs P σ c.args.toList).bind fun as =>
      match b, as, c.argTypes.toList with
      | .len, [x], t :: _ => ret H (evLen P t x H)
      | .cap, [x], t :: _ => ret H (evCap P t x)
      | .append, [s, x], [t, u] => if srcOk P u = true then evAppend P t s x H else none
      | .copy, [d, x], t :: _ => evCopy P t d x H
      | .min, [x, y], _ => ret H (evMin2 x y)
      | .max, [x, y], _ => ret H (evMax2 x y)
      | .delete, [m, k], t :: _ => (evDelete P t m k H).map fun r => (undefA, r.1, r.2)
      | .unsafeSliceData, [x], _ => ret H (evSliceData P x H)
      | .unsafeString, [x, i], [pt, _] => evString P pt x i H
      | _, _, _ => none
  | .invoke _ _ => none

def evOp (P : Program) (C : CallO) (σ : List AV) (H : Hp) (op : Op) : Rs :=
  match op with
  | .move x => ret H (evArg P σ x)
  | .assign x => ret H (evArg P σ x)
  | .pick c a b => (evArg P σ c).bind fun c => match c with
    | .bool t => ret H (if t then evArg P σ a else evArg P σ b)
    | _ => none
  | .alloc e => (tzero P e).map fun z => (.ptr H.length 0, H ++ [.cells z e .rw], z0)
  | .box e x => (evArg P σ x).map fun v => (.ptr H.length 0, H ++ [.cells (vcells v) e .rw], z0)
  | .build t parts => (evParts P σ parts.toList).bind fun ps => ret H (evBuild P t ps)
  | .buildSlice t n parts => (evParts P σ parts.toList).bind fun ps => ret2 (evBuildSlice P t n ps H)
  | .load t a => (evArg P σ a).bind fun a => match a with
    | .ptr b o => ret H (evLoad P H t b o)
    | _ => none
  | .store t a x => (evArg P σ a).bind fun a => (evArg P σ x).bind fun v => match a with
    | .ptr b o => (evStore P H t b o v).map fun (H', es) => (undefA, H', es)
    | _ => none
  | .nilCheck x => (evArg P σ x).bind fun v => match v with
    | .ptr b o => some (.ptr b o, H, z0)
    | .func (.func f) a b => some (.func (.func f) a b, H, z0)
    | _ => none
  | .binOp op t x y _ => (evArg P σ x).bind fun a => (evArg P σ y).bind fun b =>
    match a, b with
    | .nili, .nili => if isConst x || isConst y then (match op with | .eql => ret H (if (tsh P t matches some .iface) then some (.bool true) else none) | .neq => ret H (if (tsh P t matches some .iface) then some (.bool false) else none) | _ => none) else none
    | a, b => ret H (evBin P op t a b)
  | .unOp op _ x => (evArg P σ x).bind fun a => ret H (evUn op a)
  | .convert s d x => (evArg P σ x).bind fun a => ret2 (evConv P s d a H)
  | .makeInterface t x => (evArg P σ x).bind fun a => match tsh P t with
    | some .iface => none
    | some _ => ret H (some (.iface t a))
    | none => none
  | .makeFunc fn f c => (evArgs P σ f.toList).bind fun f => (evArgs P σ c.toList).bind fun c => ret H (some (.func fn f c))
  | .makeMap t none => match tsh P t with
    | some (.map _ _) => some (.map H.length, H ++ [.map []], z0)
    | _ => none
  | .makeMap t (some x) => (evArg P σ x).bind fun a => match tsh P t, a with
    | some (.map _ _), .int _ _ => some (.map H.length, H ++ [.map []], z0)
    | _, _ => none
  | .makeSlice t l c => (evArg P σ l).bind fun l => (evArg P σ c).bind fun c => ret2 (evMake P t l c H)
  | .slice t x lo hi mx => (evArg P σ x).bind fun x => (evOpt P σ lo).bind fun lo => (evOpt P σ hi).bind fun hi => (evOpt P σ mx).bind fun mx => match evSlice P t x lo hi mx H with
    | some v => some (v, H, z0)
    | none => (evSliceX P t x lo hi mx H).map fun r => (r.1, r.2, z0)
  | .fieldAddr t x f => (evArg P σ x).bind fun a => match a with
    | .ptr b o => (tfield P t f).bind fun x => if x.2.1 = 0 then none else some (.ptr b (o + x.1), H, z0)
    | _ => none
  | .field t x f => (evArg P σ x).bind fun a => match a with
    | .agg cs => (tfield P t f).bind fun x => ret H (if x.2.2 then (if x.1 + x.2.1 ≤ cs.length then some (.agg ((cs.drop x.1).take x.2.1)) else none) else cs[x.1]?)
    | _ => none
  | .indexAddr t x i => (evArg P σ x).bind fun x => (evArg P σ i).bind fun i => ret H (evIndexAddr P t x i)
  | .index t x i => (evArg P σ x).bind fun x => (evArg P σ i).bind fun i => ret H (evIndex P t x i)
  | .lookup t x i ok => (evArg P σ x).bind fun x => (evArg P σ i).bind fun i => ret H (evLookup P t x i ok H)
  | .mapUpdate t m k v => (evArg P σ m).bind fun m => (evArg P σ k).bind fun k => (evArg P σ v).bind fun v => (evMapSet P t m k v H).map fun (H', es) => (undefA, H', es)
  | .insert t m k v => (evArg P σ m).bind fun m => (evArg P σ k).bind fun k => (evArg P σ v).bind fun v => (evMapSet P t m k v H).map fun (H', es) => (undefA, H', es)
  | .range t x => (evArg P σ x).bind fun x => match tsh P t, x with
    | some .str, .str s => some (.ptr H.length 0, H ++ [.iter s 0], z0)
    | _, _ => none
  | .next it true => (evArg P σ it).bind fun it => match it with
    | .ptr b 0 => match H[b]? with
      | some (.iter s p) => some ((strIter s p).1, H.set b (.iter s (strIter s p).2), ⟨none, some b⟩)
      | _ => none
    | _ => none
  | .extract x i => (evArg P σ x).bind fun a => match a with
    | .tuple vs => ret H (vs[i]?)
    | _ => none
  | .call c => evCall P C σ H c
  | _ => none
where
  isConst : Operand → Bool
    | .const _ => true
    | _ => false

/-! ### regions, code, calls -/
structure St where
  σ : List AV
  H : Hp
  ef : Ef

def put (σ : List AV) : Option Tmp → AV → List AV
  | some d, v => σ.set d v
  | none, _ => σ

def wantedA (ops : List Oper) (σ : List AV) (o : Oper) : Bool :=
  match o.guard with
  | none => true
  | some (j, want) =>
    match (ops[j]?).bind (·.dst) with
    | some d => (match σ[d]? with | some (.bool b) => b == want | _ => false)
    | none => false

def evOps (P : Program) (C : CallO) (ops : List Oper) : List Oper → St → Option St
  | [], s => some s
  | o :: rest, s =>
    if wantedA ops s.σ o then (evOp P C s.σ s.H o.op).bind fun r => evOps P C ops rest ⟨put s.σ o.dst r.1, r.2.1, s.ef.and r.2.2⟩
    else evOps P C ops rest ⟨put s.σ o.dst undefA, s.H, s.ef⟩

/-! ### a region whose order is open -/
/-- An operation that does not look at memory. -/
def pureOp : Op → Bool
  | .move _ => true
  | .assign _ => true
  | .pick _ _ _ => true
  | .binOp _ _ _ _ _ => true
  | .unOp _ _ _ => true
  | .extract _ _ => true
  | .fieldAddr _ _ _ => true
  | .index _ _ _ => true
  | .indexAddr _ _ _ => true
  | .field _ _ _ => true
  | .build _ _ => true
  | .makeFunc _ _ _ => true
  | .makeInterface _ _ => true
  | .nilCheck _ => true
  | _ => false

/-- An operation that looks at memory and reads the same where more has been laid behind it. -/
def monoOp : Op → Bool
  | .load _ _ => true
  | .call c => (match c.callee with | .builtin .len => true | _ => false)
  | _ => false

/-- An allocation that may stand anywhere. -/
def isFree (o : Oper) : Bool :=
  match o.op with
  | .alloc _ => o.after.toList.isEmpty && o.guard.isNone
  | _ => false

/-- What stands surely ahead of each operation, as bits. -/
def masks : List Oper → List Nat → List Nat
  | [], acc => acc
  | o :: r, acc => masks r (acc ++ [o.after.toList.foldl (fun s e => if Region.binds .any e = true then s ||| (2 ^ e.on ||| (acc[e.on]?).getD 0) else s) 0])

/-- Is j surely ahead of i? -/
def anc (ms : List Nat) (j i : Nat) : Bool := ((ms[i]?).getD 0).testBit j

/-- The slots that an operation reads. -/
def readsT (ops : List Oper) (o : Oper) : List Tmp :=
  (o.op.operands.toList.filterMap fun | .tmp t => some t | _ => none) ++
    (match o.guard with
     | some (j, _) => ((ops[j]?).bind (·.dst)).toList
     | none => [])

def num (ops : List Oper) : List (Nat × Oper) := ops.zipIdx.map fun (o, i) => (i, o)

/-- What must hold of a region's text. -/
def statOk (ops : List Oper) : Bool :=
  let ms := masks ops []
  decide (ops.filterMap (·.dst)).Nodup &&
  (num ops).all fun (i, o) =>
    o.after.toList.all (fun e => !Region.binds .any e || decide (e.on < i)) &&
    (readsT ops o).all fun t => (num ops).all fun (j, o') => o'.dst != some t || j == i || (decide (j < i) && anc ms j i) || (decide (i < j) && anc ms i j)

/-- A change, and whether it only laid blocks. -/
def tg (i : Nat) (e : Ef) : Nat := 2 * i + (if (e.es.isNone && e.ws.isNone) = true then 1 else 0)
/-- What must hold of those that change memory: all others that look at it stand surely ahead or behind; a load may stand open beside what only lays a block. -/
def effOk (_ : Program) (ops : List Oper) (effs : List Nat) : Bool :=
  let ms := masks ops []
  effs.all fun e => (num ops).all fun (j, o) => j == e / 2 || pureOp o.op || (decide (j < e / 2) && anc ms j (e / 2)) || (decide (e / 2 < j) && anc ms (e / 2) j) || (monoOp o.op && e % 2 == 1)

/-- Does it leave memory as it was? -/
def quiet (r : AV × Hp × Ef) (H : Hp) : Bool := r.2.2.es.isNone && r.2.2.ws.isNone && r.2.1.length == H.length

def evD (P : Program) (C : CallO) (ops : List Oper) : List (Nat × Oper) → St → Option (St × List Nat)
  | [], s => some (s, [])
  | (i, o) :: rest, s =>
    if wantedA ops s.σ o then (evOp P C s.σ s.H o.op).bind fun r =>
      (evD P C ops rest ⟨put s.σ o.dst r.1, r.2.1, s.ef.and r.2.2⟩).map fun q => (q.1, if isFree o || quiet r s.H then q.2 else tg i r.2.2 :: q.2)
    else evD P C ops rest ⟨put s.σ o.dst undefA, s.H, s.ef⟩

/-- The free allocations first. -/
def order (ops : List Oper) : List (Nat × Oper) := (num ops).filter (fun p => isFree p.2) ++ (num ops).filter (fun p => !isFree p.2)

def evDraw (P : Program) (C : CallO) (ops : List Oper) (s : St) : Option St :=
  (evD P C ops (order ops) s).bind fun q => if statOk ops = true ∧ effOk P ops q.2 = true then some q.1 else none

def evRegion (P : Program) (C : CallO) (ops : List Oper) (draw : Bool) (s : St) : Option St :=
  if draw then (if P.follows .mixedOrders = true then evDraw P C ops s else none) else evOps P C ops ops s

abbrev Rc := Option (Ex × St)

def iter (step : St → Rc) : Nat → St → Rc
  | 0, _ => none
  | n + 1, s => match step s with
    | some (.normal, s') => iter step n s'
    | r => r

/-- A range over a function: the record laid, the function called with the yield that names it, the jump taken up. -/
def evRange (P : Program) (C : CallO) (f : Operand) (ps : List Tmp) (as bd : Code) (s : St) : Rc :=
  match evArg P s.σ f with
  | some (.func (.func g) first captured) =>
    if hasBody P g = true then
      (C g (first ++ [.yld s.H.length] ++ captured) (s.H ++ [.loop s.σ ps as bd .ready])).bind fun r =>
        match r.2.1[s.H.length]? with
        | some (.loop _ _ _ _ .ready) => some (.normal, ⟨s.σ, r.2.1.set s.H.length .dead, s.ef.and (r.2.2.and ⟨none, some s.H.length⟩)⟩)
        | some (.loop _ _ _ _ (.done e)) => some (e, ⟨s.σ, r.2.1.set s.H.length .dead, s.ef.and (r.2.2.and ⟨none, some s.H.length⟩)⟩)
        | _ => none
    else none
  | _ => none

def evCode (P : Program) (C : CallO) (n : Nat) : Code → St → Rc
  | .skip, s => some (.normal, s)
  | .region _ ops d, s => (evRegion P C ops.toList d s).map fun s' => (.normal, s')
  | .seq a b, s => match evCode P C n a s with
    | some (.normal, s') => evCode P C n b s'
    | r => r
  | .cond c a b, s => match evArg P s.σ c with
    | some (.bool true) => evCode P C n a s
    | some (.bool false) => evCode P C n b s
    | _ => none
  | .block id c, s => match evCode P C n c s with
    | some (.exit i, s') => if i = id then some (.normal, s') else some (.exit i, s')
    | r => r
  | .loop c, s => iter (evCode P C n c) n s
  | .exit id, s => some (.exit id, s)
  | .goto l, s => some (.goto l, s)
  | .label _, s => some (.normal, s)
  | .ret, s => some (.ret, s)
  | .rangeFunc f ps as bd, s => evRange P C f ps.toList as bd s
  | _, _ => none

def evRes (P : Program) (s : St) : List ResultVar → Option (List AV)
  | [] => some []
  | .tmp t :: r => (evRes P s r).map ((s.σ[t]?).getD undefA :: ·)
  | .cell a t :: r =>
    match (s.σ[a]?).getD undefA with
    | .ptr b o => (evLoad P s.H t b o).bind fun v => (evRes P s r).map (v :: ·)
    | _ => none

def pack : List AV → AV
  | [v] => v
  | vs => .tuple vs

/-- What of it lies below n. -/
def low (n : Nat) : Option Nat → Option Nat
  | some e => if n ≤ e then none else some e
  | none => none

/-- Behind a call whose result holds no address, and that stored none below: what it made is forgotten. -/
def leave (n : Nat) (v : AV) (H : Hp) (e : Ef) : AV × Hp × Ef :=
  (v, if flat v = true ∧ low n e.es = none then H.take n else H, ⟨low n e.es, low n e.ws⟩)

def putAll : List AV → List Tmp → List AV → List AV
  | σ, p :: ps, v :: vs => putAll (σ.set p v) ps vs
  | σ, _, _ => σ

/-- No range over a function within. -/
def noRange : Code → Bool
  | .seq a b => noRange a && noRange b
  | .cond _ a b => noRange a && noRange b
  | .block _ c => noRange c
  | .loop c => noRange c
  | .scope c => noRange c
  | .rangeFunc _ _ _ _ => false
  | _ => true

/-- A round: the assignment to the loop's left sides, the body; a jump is noted. -/
def evRound (P : Program) (C : CallO) (n b : Nat) (args : List AV) (H : Hp) : Rs :=
  match H[b]? with
  | some (.loop σ ps as bd .ready) =>
    if args.length = ps.length ∧ noRange as = true then
      match evCode P C n as ⟨putAll σ ps args, H, z0⟩ with
      | some (.normal, s1) =>
        match s1.H[b]? with
        | some (.loop σ' ps' as' bd' .ready) =>
          match evCode P C n bd ⟨s1.σ, s1.H.set b (.loop σ' ps' as' bd' .busy), s1.ef.and ⟨none, some b⟩⟩ with
          | some (e, s2) =>
            match s2.H[b]? with
            | some (.loop σ'' ps'' as'' bd'' .busy) =>
              some (leave H.length (.bool (decide (e = .normal))) (s2.H.set b (.loop σ'' ps'' as'' bd'' (if e = .normal then .ready else .done e))) (s2.ef.and ⟨none, some b⟩))
            | _ => none
          | none => none
        | _ => none
      | _ => none
    else none
  | _ => none

def evFun (P : Program) (C : CallO) (n : Nat) : CallO := fun f args H =>
  match P.funcs[f]? with
  | some fn =>
    match fn.body with
    | some c =>
      match evCode P C n c ⟨args ++ List.replicate (fn.ntmps - args.length) undefA, H, z0⟩ with
      | some (e, s) => if e = .normal ∨ e = .ret then (evRes P s fn.results.toList).map fun vs => leave H.length (pack vs) s.H s.ef else none
      | none => none
    | none => none
  | none => evRound P C n (f - P.funcs.size) args H

/-- The evaluator with so many rounds and levels. -/
def evN (P : Program) : Nat → CallO
  | 0 => fun _ _ _ => none
  | n + 1 => evFun P (evN P n) (n + 1)

end Go.Proofs.YtgkpgpdkolpfkaaDoor.V
