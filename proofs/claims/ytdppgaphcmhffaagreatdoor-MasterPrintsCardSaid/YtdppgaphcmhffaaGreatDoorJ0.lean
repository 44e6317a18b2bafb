/- Joined by mkclaim.py: VBase VRel VMem VVal VOpa VOpb VOpc VOpd VOpe VOpf VOpg VOph VSound VOp. No conditions. -/
import Derived.Calls
import Derived.Tactics
import Derived.Lib.Bytealg
import Derived.Lib.IndexEntry
import Derived.Shelf.Strings.MapAny
import Derived.Deep.MidRow
import Derived.Deep.AppendSrc
import Derived.Below
import Derived.Laws.StructEq
import Derived.ChangeKeysEq
import Derived.Laws.Strings
import Derived.LaidEql
import Derived.Laws.NewBlocks
import Derived.Laws.AppendOwn
import Derived.Laws.Tables
import Derived.Laws.BytesString
import Derived.Lib.Builder
import Derived.Lib.UnsafeStr
import Derived.KernelRfl
import Derived.Lib.MakeNoZero
import Derived.RangeFuncLeaves
import Derived.RangeFuncNested
import Derived.RangeFuncRecord
import Derived.RangeFuncCalls
import Derived.OrdersIn
import Derived.LoopNIn
import Derived.TacticsIn
set_option linter.unusedSimpArgs false
set_option linter.unusedVariables false
set_option maxRecDepth 100000
namespace Go.Proofs.YtdppgaphcmhffaaGreatDoor.V
open Go

inductive Cap where
 | ex (n:Nat)
 | op (k:Nat)

inductive AV where
 | bool (b:Bool)
 | int (k:IntKind) (n:Int)
 | float (k:FloatKind) (bits:Nat)
 | str (s:List UInt8)
 | ptr (b o:Nat)
 | fF
 | slice (b o n:Nat) (c:Cap)
 | aI
 | map (r:Nat)
 | pW
 | func (fn:Fn) (first captured:List AV)
 | tS
 | iface (t:TypeId) (v:AV)
 | de
 | agg (cs:List AV)
 | tuple (vs:List AV)
 | yld (b:Nat)
instance:Inhabited AV:=⟨.tuple []⟩

inductive Kd where
 | ro
 | rw
 | op (fz:Nat) (st:Bool)

inductive Ex where
 | normal | exit (id:Nat) | goto (l:Nat) | ret | pan
 deriving DecidableEq

inductive Md where
 | ready
 | busy
 | done (e:Ex)

inductive bp where
 | cells (c:List AV) (e:TypeId) (k:Kd)
 | map (es:List (AV × AV))
 | iter (s:List UInt8) (pos:Nat)
 | ghost
 | dead
 | void
 | loop (σ:List AV) (ps:List Tmp) (a b:Code) (md:Md)
instance:Inhabited bp:=⟨.dead⟩

abbrev Hp:=List bp
structure Ef where
 es:Option Nat
 ws:Option Nat
abbrev Rs:=Option (AV × Hp × Ef)
abbrev bL:=FuncId→List AV→Hp→Rs

def eD:Option Nat→Option Nat→Option Nat
 | none,y=>y
 | x,none=>x
 | some a,some b=>some (min a b)
def z0:Ef:=⟨none,none⟩
def Ef.and (a b:Ef):Ef:=⟨eD a.es b.es,eD a.ws b.ws⟩

mutual
def flat:AV→Bool
 | .ptr _ _=>false
 | .slice _ _ _ _=>false
 | .map _=>false
 | .yld _=>false
 | .func _ f c=>bK f && bK c
 | .iface _ v=>flat v
 | .agg cs=>bK cs
 | .tuple vs=>bK vs
 | _=>true
def bK:List AV→Bool
 | []=>true
 | v::vs=>flat v && bK vs
end

def cK:AV→Bool
 | .agg _=>false
 | .yld _=>false
 | .tuple _=>false
 | _=>true

def bH:AV→List AV
 | .agg cs=>cs
 | v=>[v]

def bw:AV:=.tuple []

mutual
def lZ:Value→Option AV
 | .bool b=>some (.bool b)
 | .int k n=>some (.int k n)
 | .float k b=>some (.float k b)
 | .string s=>some (.str s.data.toList)
 | .pointer none=>some .fF
 | .slice none 0 0=>some .aI
 | .map none=>some .pW
 | .func fn ⟨[]⟩ ⟨[]⟩=>some (.func fn [] [])
 | .nilFunc=>some .tS
 | .iface t v=>(lZ v).map (.iface t)
 | .nilIface=>some .de
 | .agg ⟨cs⟩=>(vl cs).map .agg
 | .tuple ⟨cs⟩=>(vl cs).map .tuple
 | _=>none
def vl:List Value→Option (List AV)
 | []=>some []
 | v::vs=>(lZ v).bind fun a=>(vl vs).map (a::·)
end

def cq (P:Program) (t:TypeId):Option Nat:=(P.info? t).map (·.size)
def fN (P:Program) (t:TypeId):Option Bool :=
 match P.underlying t with
 | some (.struct _)=>some true
 | some (.array _ _)=>some true
 | some _=>some false
 | none=>none
def cB (P:Program) (t:TypeId):Option (List AV):=((P.info? t).bind (·.zero)).bind fun v=>vl v.cells.toList
def mZ (P:Program) (t:TypeId):Option AV:=((P.info? t).bind (·.zero)).bind lZ
def bJ (P:Program) (t:TypeId) (f:Nat):Option (Nat × Nat × Bool) :=
 match P.underlying t with
 | some (.struct fs)=>(fs[f]?).bind fun x=>(cq P x.type).bind fun n=>(fN P x.type).map fun a=>(x.offset,n,a)
 | _=>none
inductive Sh where
 | slice (e n b:Nat)
 | array (l e n:Nat)
 | str | map (k e:TypeId) | bool | int (k:IntKind) | float (k:FloatKind) | ptr (e:TypeId) | struct | iface | func | upt | other
def tsh (P:Program) (t:TypeId):Option Sh :=
 match P.underlying t with
 | some (.slice e)=>(P.info? e).map fun i=>.slice e i.size i.bytes
 | some (.array l e)=>(P.info? e).map fun i=>.array l e i.size
 | some .string=>some .str
 | some (.map k e)=>some (.map k e)
 | some .bool=>some .bool
 | some (.int k)=>some (.int k)
 | some (.float k)=>some (.float k)
 | some (.pointer e)=>some (.ptr e)
 | some (.struct _)=>some .struct
 | some (.interface _)=>some .iface
 | some (.func _ _ _)=>some .func
 | some .unsafePointer=>some .upt
 | some _=>some .other
 | none=>none

def splice (c:List AV) (o:Nat) (xs:List AV):List AV:=c.take o++xs++c.drop (o+xs.length)

def rd (H:Hp) (b o n:Nat):Option (List AV) :=
 match H[b]? with
 | some (.cells c _ _)=>if o+n≤c.length then some ((c.drop o).take n) else none
 | some .void=>if n=0 then some [] else none
 | _=>none

def gE (k:Kd) (o:Nat):Bool :=
 match k with
 | .ro=>false
 | .rw=>true
 | .op fz _=>fz≤o

def wr (H:Hp) (b o:Nat) (xs:List AV):Option (Hp × Ef) :=
 match H[b]? with
 | some (.cells c e k) =>
  if o+xs.length≤c.length∧gE k o=true∧xs.all cK=true then
   some (H.set b (.cells (splice c o xs) e k),⟨if bK xs then none else some b,some b⟩)
  else none
 | _=>none

def new (H:Hp) (blk:bp):Nat × Hp:=(H.length,H++[blk])

def one:List AV→Option AV
 | [v]=>some v
 | _=>none

def ec (P:Program) (H:Hp) (t:TypeId) (b o:Nat):Option AV :=
 match fN P t with
 | some true=>(cq P t).bind fun n=>(rd H b o n).map .agg
 | some false=>(rd H b o 1).bind one
 | none=>none

def jv (P:Program) (H:Hp) (t:TypeId) (b o:Nat) (v:AV):Option (Hp × Ef) :=
 match cq P t with
 | some n=>if (bH v).length=n then wr H b o (bH v) else none
 | none=>none

def cg:Nat:=9223372036854775807
def eG (op:BinOp) (k:IntKind) (x y:Int):Option AV :=
 match op with
 | .add=>some (.int k (k.wrap (x+y)))
 | .sub=>some (.int k (k.wrap (x - y)))
 | .mul=>some (.int k (k.wrap (x*y)))
 | .quo=>if y=0 then none else some (.int k (k.wrap (x.tdiv y)))
 | .rem=>if y=0 then none else some (.int k (x.tmod y))
 | .and=>some (.int k (k.wrap (BitVec.ofInt k.bits x &&& BitVec.ofInt k.bits y).toNat))
 | .or=>some (.int k (k.wrap (BitVec.ofInt k.bits x ||| BitVec.ofInt k.bits y).toNat))
 | .xor=>some (.int k (k.wrap (BitVec.ofInt k.bits x ^^^ BitVec.ofInt k.bits y).toNat))
 | .andNot=>some (.int k (k.wrap (BitVec.ofInt k.bits x &&& ~~~(BitVec.ofInt k.bits y)).toNat))
 | .eql=>some (.bool (x == y))
 | .neq=>some (.bool (x != y))
 | .lss=>some (.bool (decide (x < y)))
 | .leq=>some (.bool (decide (x≤y)))
 | .gtr=>some (.bool (decide (x > y)))
 | .geq=>some (.bool (decide (x≥y)))
 | _=>none

def ig (op:BinOp) (k:IntKind) (x y:Int):Option AV :=
 if y < 0 then none else
 match op with
 | .shl=>some (.int k (k.wrap (x*2 ^ (min y.toNat k.bits))))
 | .shr=>some (.int k (x.fdiv (2 ^ (min y.toNat k.bits))))
 | _=>none

def qS (op:BinOp) (x y:List UInt8):Option AV :=
 match op with
 | .add=>if x.length+y.length≤cg then some (.str (x++y)) else none
 | .eql=>some (.bool (x == y))
 | .neq=>some (.bool !(x == y))
 | .lss=>some (.bool (Op.bytesLess x y))
 | .leq=>some (.bool (Op.bytesLess x y || x == y))
 | .gtr=>some (.bool !(Op.bytesLess x y || x == y))
 | .geq=>some (.bool !(Op.bytesLess x y))
 | _=>none

def ox (P:Program) (t:TypeId) (cs:List AV) (o:Nat):Option AV :=
 match fN P t with
 | some true=>(cq P t).bind fun n=>if o+n≤cs.length then some (.agg ((cs.drop o).take n)) else none
 | some false=>cs[o]?
 | none=>none

def mH (P:Program) (eq:TypeId→AV→AV→Option Bool):List Field→List AV→List AV→Option Bool
 | [],_,_=>some true
 | f::fs,xs,ys =>
  if f.name = "_" then mH P eq fs xs ys else
  (ox P f.type xs f.offset).bind fun x=>(ox P f.type ys f.offset).bind fun y =>
   (eq f.type x y).bind fun b=>if b then mH P eq fs xs ys else some false

def oR (P:Program) (eq:TypeId→AV→AV→Option Bool) (e:TypeId) (n:Nat) (xs ys:List AV):List Nat→Option Bool
 | []=>some true
 | i::l=>(ox P e xs (i*n)).bind fun x=>(ox P e ys (i*n)).bind fun y=>(eq e x y).bind fun b=>if b then oR P eq e n xs ys l else some false

def gj (P:Program):Nat→TypeId→AV→AV→Option Bool
 | 0,_,_,_=>none
 | d+1,t,x,y =>
  match P.underlying t,x,y with
  | some .bool,.bool a,.bool b=>some (a == b)
  | some (.int _),.int k a,.int k' b=>if k=k' then some (a == b) else none
  | some .string,.str a,.str b=>some (a == b)
  | some (.pointer _),.fF,.fF=>some true
  | some (.pointer _),.fF,.ptr _ _=>some false
  | some (.pointer _),.ptr _ _,.fF=>some false
  | some (.interface _),.de,.de=>some true
  | some (.interface _),.de,.iface _ _=>some false
  | some (.interface _),.iface _ _,.de=>some false
  | some (.interface _),.iface tx vx,.iface ty vy =>
   if tx≠ty then some false else
   match P.info? tx with
   | some i=>if i.comparable then gj P d tx vx vy else none
   | none=>none
  | some (.struct fs),.agg xs,.agg ys=>if P.stoodInHeld t then none else mH P (gj P d) fs.toList xs ys
  | some (.array l e),.agg xs,.agg ys=>(cq P e).bind fun n=>oR P (gj P d) e n xs ys (List.range l)
  | some (.slice _),.aI,.aI=>some true
  | some (.slice _),.aI,.slice _ _ _ _=>some false
  | some (.slice _),.slice _ _ _ _,.aI=>some false
  | some (.map _ _),.pW,.pW=>some true
  | some (.map _ _),.pW,.map _=>some false
  | some (.map _ _),.map _,.pW=>some false
  | some (.func _ _ _),.tS,.tS=>some true
  | some (.func _ _ _),.tS,.func _ _ _=>some false
  | some (.func _ _ _),.func _ _ _,.tS=>some false
  | some (.pointer e),.ptr b o,.ptr b' o'=>if b=b'∧o=o'∧(P.info? e).isSome=true then some true else none
  | _,_,_=>none

def kS (P:Program) (op:BinOp) (t:TypeId) (x y:AV):Option AV :=
 match op,x,y with
 | .shl,.int k a,.int _ b=>ig .shl k a b
 | .shr,.int k a,.int _ b=>ig .shr k a b
 | op,.int k a,.int k' b=>if k=k' then eG op k a b else none
 | op,.str a,.str b=>qS op a b
 | .eql,.agg a,.agg b=>if P.eqGuardType P.depth t then none else (gj P 20 t (.agg a) (.agg b)).map .bool
 | .neq,.agg a,.agg b=>if P.eqGuardType P.depth t then none else (gj P 20 t (.agg a) (.agg b)).map fun r=>.bool !r
 | .eql,.de,.de=>none
 | .neq,.de,.de=>none
 | .eql,x,y=>(gj P 20 t x y).map .bool
 | .neq,x,y=>(gj P 20 t x y).map fun r=>.bool !r
 | _,_,_=>none

def GS (op:UnOp) (x:AV):Option AV :=
 match op,x with
 | .neg,.int k n=>some (.int k (k.wrap (0 - n)))
 | .xor,.int k n=>eG .xor k (if k.signed then -1 else k.max) n
 | .not,.bool b=>some (.bool !b)
 | _,_=>none

def bnd (low high : Option AV) (len cap : Nat) : Option (Nat × Nat) :=
  match high with
  | some (.int _ h) =>
    if 0 ≤ h ∧ h ≤ cap then
      (match low with
       | some (.int _ l) => if 0 ≤ l ∧ l ≤ h then some (l.toNat, h.toNat) else none
       | none => some (0, h.toNat)
       | _ => none)
    else none
  | none =>
    (match low with
     | some (.int _ l) => if 0 ≤ l ∧ l ≤ len then some (l.toNat, len) else none
     | none => some (0, len)
     | _ => none)
  | _ => none

def mG (P:Program) (t:TypeId) (x i:AV):Option AV :=
 match tsh P t,x,i with
 | some .str,.str s,.int _ i=>if 0≤i then (s[i.toNat]?).map fun b=>.int .u8 b.toNat else none
 | some (.array l e n),.agg cs,.int _ i=>if 0≤i∧i < l then ox P e cs (i.toNat*n) else none
 | _,_,_=>none

def aN (P:Program) (t:TypeId) (x i:AV):Option AV :=
 match tsh P t,x,i with
 | some (.slice _ z _),.slice b o n _,.int _ i=>if 0≤i∧i < n then some (.ptr b (o+i.toNat*z)) else none
 | some (.array l _ z),.ptr b o,.int _ i=>if 0≤i∧i < l then some (.ptr b (o+i.toNat*z)) else none
 | _,_,_=>none

def known (H:Hp) (b o k z:Nat) (e:TypeId):Option Nat :=
 match H[b]? with
 | some (.cells c e' (.op _ _))=>if e'=e∧0 < z∧o=k*z then some ((c.length - o) / z) else none
 | _=>none

def eJ (P:Program) (t:TypeId) (x:AV) (low high mx:Option AV) (H:Hp):Option AV :=
 match tsh P t,x,mx with
 | some .str,.str s,none=>(bnd low high s.length s.length).map fun r=>.str ((s.drop r.1).take (r.2 - r.1))
 | some (.slice _ _ _),.aI,none=>(bnd low high 0 0).map fun _=>.aI
 | some (.slice _ _ _),.aI,some (.int _ m)=>if m=0∧high.isSome=true then (bnd low high 0 0).map fun _=>.aI else none
 | some (.slice _ z _),.slice b o n (.ex c),none=>(bnd low high n c).map fun r=>.slice b (if c=r.1 then o else o+r.1*z) (r.2 - r.1) (.ex (c - r.1))
 | some (.slice _ z _),.slice b o n (.ex c),some (.int _ m) =>
  if 0≤m∧m≤c∧high.isSome=true then (bnd low high n m.toNat).map fun r=>.slice b (if m.toNat=r.1 then o else o+r.1*z) (r.2 - r.1) (.ex (m.toNat - r.1)) else none
 | some (.slice e z _),.slice b o n (.op k),none =>
  (known H b o k z e).bind fun q=>(bnd low high n q).bind fun r =>
   if r.1=0∨r.1 < q then some (.slice b (o+r.1*z) (r.2 - r.1) (.op (k+r.1))) else none
 | some (.slice e z _),.slice b o n (.op k),some (.int _ m) =>
  (known H b o k z e).bind fun q =>
  if 0≤m∧m≤q∧high.isSome=true then (bnd low high n m.toNat).map fun r=>.slice b (if m.toNat=r.1 then o else o+r.1*z) (r.2 - r.1) (.ex (m.toNat - r.1)) else none
 | some (.ptr arr),.ptr b o,none =>
  match tsh P arr with
  | some (.array n _ z)=>(bnd low high n n).map fun r=>.slice b (if n=r.1 then o else o+r.1*z) (r.2 - r.1) (.ex (n - r.1))
  | _=>none
 | some (.array n _ z),.ptr b o,none=>(bnd low high n n).map fun r=>.slice b (if n=r.1 then o else o+r.1*z) (r.2 - r.1) (.ex (n - r.1))
 | _,_,_=>none

def ew (P:Program) (t:TypeId) (x:AV) (low high mx:Option AV) (H:Hp):Option (AV × Hp) :=
 match tsh P t,x,mx with
 | some (.slice e z _),.slice b o n (.op k),none =>
  (known H b o k z e).bind fun q=>(bnd low high n q).bind fun r =>
   if r.1=r.2 then some (.slice H.length 0 0 (.op 0),H++[.void]) else none
 | _,_,_=>none

def rep (z:List AV):Nat→List AV
 | 0=>[]
 | n+1=>z++rep z n

def jh (P:Program) (t:TypeId) (len cap:AV) (H:Hp):Option (AV × Hp) :=
 match tsh P t,len,cap with
 | some (.slice e n b),.int _ l,.int _ c =>
  if 0≤l∧l≤c∧c*(b+1)≤2 ^ 46∧c≤2 ^ 46 then
   (cB P e).bind fun z=>if z.length=n then some (.slice H.length 0 l.toNat (.ex c.toNat),H++[.cells (rep z c.toNat) e .rw]) else none
  else none
 | _,_,_=>none

def fM (place:Nat→Option (Nat × Nat)):List AV→List (Nat × AV)→Option (List AV)
 | c,[]=>some c
 | c,(i,v)::rest =>
  (place i).bind fun (o,n)=>if (bH v).length=n∧o+n≤c.length then fM place (splice c o (bH v)) rest else none

def fZ (P:Program) (t:TypeId):Option (List (Nat × Nat)) :=
 match P.underlying t with
 | some (.struct fs)=>fs.toList.mapM fun f=>(P.info? f.type).map fun i=>(f.offset,i.size)
 | _=>none

def bq (P:Program) (t:TypeId) (parts:List (Nat × AV)):Option AV :=
 match tsh P t with
 | some .struct=>(cB P t).bind fun z=>(fZ P t).bind fun ps=>(fM (fun i=>ps[i]?) z parts).map .agg
 | some (.array _ _ n)=>(cB P t).bind fun z=>(fM (fun i=>some (i*n,n)) z parts).map .agg
 | _=>none

def aO (P:Program) (t:TypeId) (len:Nat) (parts:List (Nat × AV)) (H:Hp):Option (AV × Hp) :=
 match tsh P t with
 | some (.slice e n _) =>
  if len*n≤2 ^ 24 then
   (cB P e).bind fun z=>if z.length=n then (fM (fun i=>some (i*n,n)) (rep z len) parts).map fun c=>(.slice H.length 0 len (.ex len),H++[.cells c e .rw]) else none
  else none
 | _=>none

def aZ (P:Program) (src dst:TypeId) (x:AV) (H:Hp):Option (AV × Hp) :=
 match tsh P src,tsh P dst,x with
 | some _,some (.int k),.int _ n=>some (.int k (k.wrap n),H)
 | some _,some .str,.int _ n=>some (.str (Utf8.encode n).data.toList,H)
 | some _,some .str,.str s=>some (.str s,H)
 | some _,some (.slice e 1 1),.str s =>
  match tsh P e with
  | some (.int .u8) =>
   some (.slice H.length 0 s.length (.op 0),H++[.cells (s.map fun b=>.int .u8 b.toNat) e (.op 0 true)])
  | _=>none
 | some (.slice e 1 1),some .str,.aI=>match tsh P e with
  | some (.int .u8)=>some (.str [],H)
  | _=>none
 | some (.slice e 1 1),some .str,.slice b o n _=>match tsh P e with
  | some (.int .u8)=>(rd H b o n).bind fun c=>(bytesOf c).map fun s=>(.str s,H)
  | _=>none
 | some (.ptr t),some .upt,.ptr b o=>match H[b]?,P.info? t with
  | some (.cells c _ _),some j=>if j.size≠0∧o < c.length then some (.ptr b o,H) else none
  | _,_=>none
 | some .upt,some (.ptr u),.ptr b o=>match H[b]?,P.info? u with
  | some (.cells c e .rw),some _=>if liesAt P P.depth e (c.length / P.cellsOf e) o u 1=true then some (.ptr b o,H) else none
  | _,_=>none
 | _,_,_=>none
where
 bytesOf:List AV→Option (List UInt8)
  | []=>some []
  | .int .u8 n::r=>(bytesOf r).map (UInt8.ofNat n.toNat::·)
  | _=>none

def aJ (s:List UInt8) (pos:Nat):AV × Nat :=
 if pos < s.length then
  let d:=Utf8.decode ⟨s.toArray⟩ pos
  (.tuple [.bool true,.int .i64 pos,.int .i32 d.1],pos+d.2)
 else (.tuple [.bool false],pos)

def appended (H:Hp) (z:Nat):AV→Option (List AV × Nat)
 | .aI=>some ([],0)
 | .slice b o n _=>(rd H b o (n*z)).map fun c=>(c,n)
 | .str s=>if z=1 then some (s.map fun b=>.int .u8 b.toNat,s.length) else none
 | _=>none

def zok (P:Program) (e:TypeId) (z:Nat):Bool :=
 match cB P e with
 | some l=>l.length == z
 | none=>false

def fits (n b:Nat):Bool:=decide (n*(b+1)≤70368744177664)

def j0 (P:Program) (t:TypeId) (s x:AV) (H:Hp):Rs :=
 match tsh P t with
 | some (.slice e z b) =>
  if 0 < z∧zok P e z=true then
  (appended H z x).bind fun a =>
   match s with
   | .aI=>if a.2=0 then some (.aI,H,z0) else
    if fits a.2 b=true then some (.slice H.length 0 a.2 (.op 0),H++[.cells a.1 e (.op 0 false)],z0) else none
   | .slice bl o n (.ex c) =>
    if n+a.2≤c then (wr H bl (o+n*z) a.1).map fun r=>(.slice bl o (n+a.2) (.ex c),r.1,r.2)
    else if fits (n+a.2) b=true then
     (rd H bl o (n*z)).map fun old=>(.slice H.length 0 (n+a.2) (.op 0),H++[.cells (old++a.1) e (.op 0 false)],z0)
    else none
   | .slice bl o n (.op k) =>
    match H[bl]? with
    | some (.cells c e' (.op fz st)) =>
     if e'=e∧o=k*z∧o+n*z≤c.length then
      if o+(n+a.2)*z≤c.length then (wr H bl (o+n*z) a.1).map fun r=>(.slice bl o (n+a.2) (.op k),r.1,r.2)
      else if fits (n+a.2) b=true∧fz≤o+n*z∧a.1.all cK=true then
       some (.slice H.length 0 (n+a.2) (.op 0),H.set bl .dead++[.cells ((c.drop o).take (n*z)++a.1) e (.op (fz - o) st)],⟨none,some bl⟩)
      else none
     else none
    | _=>none
   | _=>none
  else none
 | _=>none

def shZ:Sh→Nat
 | .slice _ z _=>z
 | _=>0
def c9 (P:Program) (sh:Sh) (s:AV) (a:List AV × Nat) (H:Hp):Rs :=
 match sh with
 | .slice e z b =>
  if 0 < z∧zok P e z=true then
   match s with
   | .aI=>if a.2=0 then some (.aI,H,z0) else
    if fits a.2 b=true then some (.slice H.length 0 a.2 (.op 0),H++[.cells a.1 e (.op 0 false)],z0) else none
   | .slice bl o n (.ex c) =>
    if n+a.2≤c then (wr H bl (o+n*z) a.1).map fun r=>(.slice bl o (n+a.2) (.ex c),r.1,r.2)
    else if fits (n+a.2) b=true then
     (rd H bl o (n*z)).map fun old=>(.slice H.length 0 (n+a.2) (.op 0),H++[.cells (old++a.1) e (.op 0 false)],z0)
    else none
   | .slice bl o n (.op k) =>
    match H[bl]? with
    | some (.cells c e' (.op fz st)) =>
     if e'=e∧o=k*z∧o+n*z≤c.length then
      if o+(n+a.2)*z≤c.length then (wr H bl (o+n*z) a.1).map fun r=>(.slice bl o (n+a.2) (.op k),r.1,r.2)
      else if fits (n+a.2) b=true∧fz≤o+n*z∧a.1.all cK=true then
       some (.slice H.length 0 (n+a.2) (.op 0),H.set bl .dead++[.cells ((c.drop o).take (n*z)++a.1) e (.op (fz - o) st)],⟨none,some bl⟩)
      else none
     else none
    | _=>none
   | _=>none
  else none
 | _=>none
def qh (P:Program) (t:TypeId) (s x:AV) (H:Hp):Rs :=
 match tsh P t,x with
 | some (.slice e z b),.int _ n =>
  if 0≤n∧fits n.toNat b=true then
   (cB P e).bind fun zs=>if zs.length=z then c9 P (.slice e z b) s (rep zs n.toNat,n.toNat) H else none
  else none
 | _,_=>none

def lR (P:Program) (t:TypeId) (d x:AV) (H:Hp):Rs :=
 match tsh P t with
 | some (.slice _ z _) =>
  (appended H z x).bind fun a =>
   match d with
   | .aI=>some (.int .i64 0,H,z0)
   | .slice b o n _=>(wr H b o (a.1.take (min a.2 n*z))).map fun r=>(.int .i64 (min a.2 n:Nat),r.1,r.2)
   | _=>none
 | _=>none

def bY (P:Program) (t:TypeId) (x:AV) (H:Hp):Option AV :=
 match tsh P t,x with
 | some .str,.str s=>some (.int .i64 s.length)
 | some (.array n _ _),_=>some (.int .i64 n)
 | some (.slice _ _ _),.slice _ _ n _=>some (.int .i64 n)
 | some (.slice _ _ _),.aI=>some (.int .i64 0)
 | some (.map _ _),.pW=>some (.int .i64 0)
 | some (.map _ _),.map r =>
  match H[r]? with
  | some (.map es)=>some (.int .i64 es.length)
  | _=>none
 | _,_=>none

def qT (P:Program) (t:TypeId) (x:AV):Option AV :=
 match tsh P t,x with
 | some (.slice _ _ _),.slice _ _ _ (.ex c)=>some (.int .i64 c)
 | some (.slice _ _ _),.aI=>some (.int .i64 0)
 | _,_=>none

def fA (P:Program) (x:AV) (H:Hp):Option AV :=
 match x with
 | .aI=>some .fF
 | .slice b o n (.ex c)=>if c≠0 then some (.ptr b o) else none
 | .slice b o n (.op k) =>
  match H[b]? with
  | some (.cells c e (.op _ _))=>(cq P e).bind fun z=>if 0 < z∧o=k*z∧0 < n∧o+n*z≤c.length then some (.ptr b o) else none
  | _=>none
 | _=>none
def iQ:List AV→Option (List UInt8)
 | []=>some []
 | .int .u8 n::r=>if 0≤n∧n < 256 then (iQ r).map (UInt8.ofNat n.toNat::·) else none
 | _=>none
def gA (P:Program) (pt:TypeId) (x i:AV) (H:Hp):Rs :=
 match i with
 | .int .i64 n =>
  if n=0 then (match x with | .fF=>some (.str [],H,z0) | .ptr _ _=>some (.str [],H,z0) | _=>none)
  else if 0 < n∧n≤9223372036854775807 then
   match x,tsh P pt with
   | .ptr b o,some (.ptr e) =>
    match H[b]? with
    | some (.cells c e' (.op fz false)) =>
     if e'=e∧cq P e=some 1∧P.cellsOf e=1∧o+n.toNat≤c.length then
      (iQ ((c.drop o).take n.toNat)).map fun s=>(.str s,H.set b (.cells c e (.op (max fz (o+n.toNat)) false)),⟨none,some b⟩)
     else none
    | some (.cells c e' .rw) =>
     if e'=e∧cq P e=some 1∧P.cellsOf e=1∧o+n.toNat≤c.length then
      (iQ ((c.drop o).take n.toNat)).map fun s=>(.str s,H.set b .dead,⟨none,some b⟩)
     else none
    | _=>none
   | _,_=>none
  else none
 | _=>none

def qd:AV→AV→Option AV
 | .int k x,.int _ y=>some (.int k (if y < x then y else x))
 | _,_=>none
def wT:AV→AV→Option AV
 | .int k x,.int _ y=>some (.int k (if y > x then y else x))
 | _,_=>none

def sameKey:Sh→AV→AV→Option Bool
 | .int _,.int k a,.int k' b=>if k=k' then some (a == b) else none
 | .str,.str a,.str b=>some (a == b)
 | .bool,.bool a,.bool b=>some (a == b)
 | _,_,_=>none
def eu (s:Sh) (k:AV):List (AV × AV)→Nat→Option (Option (Nat × AV))
 | [],_=>some none
 | e::es,i =>
  match sameKey s k e.1 with
  | some true=>some (some (i,e.2))
  | some false=>eu s k es (i+1)
  | none=>none
def oD (P:Program) (t:TypeId):Option (Sh × TypeId) :=
 match tsh P t with
 | some (.map kt et) =>
  match tsh P kt with
  | some (.int k)=>some (.int k,et)
  | some .str=>some (.str,et)
  | some .bool=>some (.bool,et)
  | _=>none
 | _=>none

def ir (P : Program) (t : TypeId) (x i : AV) (ok : Bool) (H : Hp) : Option AV :=
  (oD P t).bind fun m =>
    (match x with
     | .pW => some []
     | .map r => (match H[r]? with | some (.map es) => some es | _ => none)
     | _ => none).bind fun es =>
      (eu m.1 i es 0).bind fun r =>
        match r with
        | some y => some (if ok then .tuple [y.2, .bool true] else y.2)
        | none => (mZ P m.2).map fun z => if ok then .tuple [z, .bool false] else z

def fS (P:Program) (t:TypeId) (m k v:AV) (H:Hp):Option (Hp × Ef) :=
 (oD P t).bind fun s =>
  match m with
  | .map r =>
   match H[r]? with
   | some (.map es) =>
    (eu s.1 k es 0).map fun x =>
     (H.set r (.map (match x with | some y=>es.set y.1 (k,v) | none=>es++[(k,v)])),⟨if flat k && flat v then none else some r,some r⟩)
   | _=>none
  | _=>none

def tf (P:Program) (t:TypeId) (m k:AV) (H:Hp):Option (Hp × Ef) :=
 (oD P t).bind fun s =>
  match m with
  | .pW=>some (H,z0)
  | .map r =>
   match H[r]? with
   | some (.map es)=>(eu s.1 k es 0).map fun x=>(H.set r (.map (match x with | some y=>es.eraseIdx y.1 | none=>es)),⟨none,some r⟩)
   | _=>none
  | _=>none

def aG (P:Program) (σ:List AV):Operand→Option AV
 | .tmp t=>some ((σ[t]?).getD bw)
 | .const v=>lZ v
 | .global g=>if g < P.globals.size then some (.ptr g 0) else none
 | .func f=>some (.func (.func f) [] [])

def bO (P:Program) (σ:List AV):List Operand→Option (List AV)
 | []=>some []
 | x::xs=>(aG P σ x).bind fun a=>(bO P σ xs).map (a::·)

def fI (P:Program) (σ:List AV):List (Nat × Operand)→Option (List (Nat × AV))
 | []=>some []
 | (i,x)::xs=>(aG P σ x).bind fun a=>(fI P σ xs).map ((i,a)::·)

def jZ (P:Program) (σ:List AV):Option Operand→Option (Option AV)
 | none=>some none
 | some x=>(aG P σ x).map some

def ret (H:Hp) (v:Option AV):Rs:=v.map fun v=>(v,H,z0)
def BB (v:Option (AV × Hp)):Rs:=v.map fun (v,H)=>(v,H,z0)

def enters (P:Program) (f:FuncId):Bool :=
 match P.funcs[f]? with
 | some fn => fn.body.isSome && !(fn.name == "runtime.NumGoroutine")
 | none=>false
def aj (P:Program) (f:FuncId):Bool :=
 match P.funcs[f]? with
 | some fn => fn.body.isSome && !(fn.name == "runtime.NumGoroutine") && !(fn.name == "strings.Map")
 | none=>false

inductive Xn where
 | same | NB | Od | cmp | P6
 deriving DecidableEq
def rE (n:String):Option Xn :=
 if n = "internal/abi.NoEscape" then some .same
 else if n = "internal/bytealg.IndexByteString" then some .NB
 else if n = "internal/bytealg.CountString" then some .Od
 else if n = "internal/bytealg.abigen_runtime_cmpstring" then some .cmp
 else if n = "internal/bytealg.IndexString" then some .P6
 else none
def mT (P:Program) (f:FuncId):Option Xn :=
 match P.funcs[f]? with
 | some fn => if (fn.body.isNone && !(fn.name == "runtime.NumGoroutine") && (Extern.findNext fn).isNone) = true then rE fn.name else none
 | none=>none
def td:Xn→List AV→Option AV
 | .same,[x]=>some x
 | .NB,[.str s,.int .u8 c]=>some (.int .i64 (Lib.indexByte s c.toNat.toUInt8))
 | .Od,[.str s,.int .u8 c]=>some (.int .i64 (Lib.countByte s c.toNat.toUInt8))
 | .cmp,[.str a,.str b]=>some (.int .i64 (Lib.compareBytes a b))
 | _,_=>none

def mxG (P : Program) : Option Nat := P.globals.findIdx? (·.name == "internal/bytealg.MaxLen")
def mxL (P:Program) (H:Hp):Option Int :=
 match mxG P with
 | some g=>if g < P.globals.size then (match rd H g 0 1 with
  | some [.int .i64 m]=>some m
  | _=>none) else none
 | none=>none
def jL (P:Program) (H:Hp) (x:Xn) (az:List AV):Option AV :=
 match x,az with
 | .P6,[.str a,.str b]=>(mxL P H).bind fun m=>if 2≤b.length∧(b.length:Int)≤m∧a.length < 4294967281 then some (.int .i64 (Lib.index a b)) else none
 | x,az=>td x az

def sO (P:Program) (f:FuncId):Option TypeId :=
 match P.funcs[f]? with
 | some fn => if (fn.body.isNone && !(fn.name == "runtime.NumGoroutine") && (Extern.findNext fn).isNone && decide (fn.name = "internal/bytealg.MakeNoZero") && decide (fn.resultTypes.size = 1)) = true then
   match (fn.resultTypes[0]?).bind (tsh P) with
   | some (.slice e 1 1)=>some e
   | _=>none
  else none
 | none=>none
def Qz (e:TypeId) (az:List AV) (H:Hp):Rs :=
 match az with
 | [.int .i64 n]=>if 0≤n∧n≤281474976710656 then some (.slice H.length 0 n.toNat (.op 0),H++[.cells [] e (.op 0 false)],z0) else none
 | _=>none
def OT (n:String):Option (Int→Int) :=
 if n = "hearsay/master.low$1" then some fun c => if 65 ≤ c ∧ c ≤ 90 then c + 32 else c else none
def fnName (P:Program) (f:FuncId):String :=
 match P.funcs[f]? with
 | some fn=>fn.name
 | none => ""
def U8H (P:Program) (H:Hp) (a b:Nat):Prop :=
 a < P.globals.size∧b < P.globals.size∧(∀ c,c < 256→rd H a c 1=some [.int .u8 (Lib.firstT c)]) ∧
  ∀ i,i < 16→rd H b (2*i) 1=some [.int .u8 (Lib.accLo i)]∧rd H b (2*i+1) 1=some [.int .u8 (Lib.accHi i)]
def Fv (P:Program) (f g:FuncId) (F:Int→Int) (H:Hp):Prop :=
 ∃ ρ:Go.Shelf.Ren,Lays.n230 P ρ∧Builder.Extra P ρ∧ρ.f 230=f∧enters P f=true∧enters P g=true∧U8H P H (ρ.g 3) (ρ.g 4) ∧
  (∀ (W:World) (x:Nat),x≤1114111→FnGives P g #[] #[encR x] (.int .i32 (F x)) W)∧∀ x:Nat,x≤1114111→0≤F x∧F x≤2147483647
noncomputable def evS (P:Program) (f:FuncId) (az:List AV) (H:Hp):Rs :=
 match az with
 | [.func (.func g) [] [],.str s]=>(OT (fnName P g)).bind fun F=>@ite _ (Fv P f g F H∧s.length < 35184372088832) (Classical.propDecidable _) (some (.str (Lib.mapD F s),H,z0)) none
 | _=>none
noncomputable def evX (P:Program) (g:FuncId) (az:List AV) (H:Hp):Rs :=
 match sO P g with
 | some e=>Qz e az H
 | none =>
  match mT P g with
  | some x=>ret H (jL P H x az)
  | none=>evS P g az H
noncomputable section

def js (P:Program) (u:TypeId):Bool :=
 match tsh P u with
 | some (.int _)=>false
 | some _=>true
 | none=>false

def wF (P:Program) (u:TypeId):Bool :=
 match tsh P u with
 | some (.int _)=>true
 | _=>false

def dz (P:Program) (C:bL) (σ:List AV) (H:Hp) (c:Call):Rs :=
 match c.callee with
 | .value f =>
  (aG P σ f).bind fun f=>(bO P σ c.args.toList).bind fun az =>
   match f with
   | .func (.func g) first captured=>if aj P g=true then C g (first++az++captured) H else evX P g (first++az++captured) H
   | .yld b=>C (P.funcs.size+b) az H
   | _=>none
 | .builtin b =>
  (bO P σ c.args.toList).bind fun az =>
   match b,az,c.argTypes.toList with
   | .len,[x],t::_=>ret H (bY P t x H)
   | .cap,[x],t::_=>ret H (qT P t x)
   | .append,[s,x],[t,u]=>if js P u=true then j0 P t s x H else if wF P u=true then qh P t s x H else none
   | .copy,[d,x],t::_=>lR P t d x H
   | .min,[x,y],_=>ret H (qd x y)
   | .max,[x,y],_=>ret H (wT x y)
   | .delete,[m,k],t::_=>(tf P t m k H).map fun r=>(bw,r.1,r.2)
   | .unsafeSliceData,[x],_=>ret H (fA P x H)
   | .unsafeString,[x,i],[pt,_]=>gA P pt x i H
   | _,_,_=>none
 | .invoke _ _=>none

def fU (P:Program) (t:TypeId) (v:AV):Option AV :=
 match tsh P t with
 | some .iface=>none
 | some _=>match v with
  | .de=>(mZ P t).map fun z=>.tuple [z,.bool false]
  | .iface u x=>if u=t then some (.tuple [x,.bool true]) else (mZ P t).map fun z=>.tuple [z,.bool false]
  | _=>none
 | none=>none

def bu (P:Program) (C:bL) (σ:List AV) (H:Hp) (op:Op):Rs :=
 match op with
 | .move x=>ret H (aG P σ x)
 | .assign x=>ret H (aG P σ x)
 | .pick c a b=>(aG P σ c).bind fun c=>match c with
  | .bool t=>ret H (if t then aG P σ a else aG P σ b)
  | _=>none
 | .alloc e=>(cB P e).map fun z=>(.ptr H.length 0,H++[.cells z e .rw],z0)
 | .box e x=>(aG P σ x).map fun v=>(.ptr H.length 0,H++[.cells (bH v) e .rw],z0)
 | .build t parts=>(fI P σ parts.toList).bind fun ps=>ret H (bq P t ps)
 | .buildSlice t n parts=>(fI P σ parts.toList).bind fun ps=>BB (aO P t n ps H)
 | .load t a=>(aG P σ a).bind fun a=>match a with
  | .ptr b o=>ret H (ec P H t b o)
  | _=>none
 | .store t a x=>(aG P σ a).bind fun a=>(aG P σ x).bind fun v=>match a with
  | .ptr b o=>(jv P H t b o v).map fun (H',es)=>(bw,H',es)
  | _=>none
 | .nilCheck x=>(aG P σ x).bind fun v=>match v with
  | .ptr b o=>some (.ptr b o,H,z0)
  | .func (.func f) a b=>some (.func (.func f) a b,H,z0)
  | _=>none
 | .binOp op t x y _=>(aG P σ x).bind fun a=>(aG P σ y).bind fun b =>
  match a,b with
  | .de,.de=>if isConst x || isConst y then (match op with | .eql=>ret H (if (tsh P t matches some .iface) then some (.bool true) else none) | .neq=>ret H (if (tsh P t matches some .iface) then some (.bool false) else none) | _=>none) else none
  | a,b=>ret H (kS P op t a b)
 | .unOp op _ x=>(aG P σ x).bind fun a=>ret H (GS op a)
 | .convert s d x=>(aG P σ x).bind fun a=>BB (aZ P s d a H)
 | .makeInterface t x=>(aG P σ x).bind fun a=>match tsh P t with
  | some .iface=>none
  | some _=>ret H (some (.iface t a))
  | none=>none
 | .makeFunc fn f c=>(bO P σ f.toList).bind fun f=>(bO P σ c.toList).bind fun c=>ret H (some (.func fn f c))
 | .makeMap t none=>match tsh P t with
  | some (.map _ _)=>some (.map H.length,H++[.map []],z0)
  | _=>none
 | .makeMap t (some x)=>(aG P σ x).bind fun a=>match tsh P t,a with
  | some (.map _ _),.int _ _=>some (.map H.length,H++[.map []],z0)
  | _,_=>none
 | .makeSlice t l c=>(aG P σ l).bind fun l=>(aG P σ c).bind fun c=>BB (jh P t l c H)
 | .slice t x lo hi mx=>(aG P σ x).bind fun x=>(jZ P σ lo).bind fun lo=>(jZ P σ hi).bind fun hi=>(jZ P σ mx).bind fun mx=>match eJ P t x lo hi mx H with
  | some v=>some (v,H,z0)
  | none=>(ew P t x lo hi mx H).map fun r=>(r.1,r.2,z0)
 | .fieldAddr t x f=>(aG P σ x).bind fun a=>match a with
  | .ptr b o=>(bJ P t f).bind fun x=>if x.2.1=0 then none else some (.ptr b (o+x.1),H,z0)
  | _=>none
 | .field t x f=>(aG P σ x).bind fun a=>match a with
  | .agg cs=>(bJ P t f).bind fun x=>ret H (if x.2.2 then (if x.1+x.2.1≤cs.length then some (.agg ((cs.drop x.1).take x.2.1)) else none) else cs[x.1]?)
  | _=>none
 | .indexAddr t x i=>(aG P σ x).bind fun x=>(aG P σ i).bind fun i=>ret H (aN P t x i)
 | .index t x i=>(aG P σ x).bind fun x=>(aG P σ i).bind fun i=>ret H (mG P t x i)
 | .lookup t x i ok=>(aG P σ x).bind fun x=>(aG P σ i).bind fun i=>ret H (ir P t x i ok H)
 | .mapUpdate t m k v=>(aG P σ m).bind fun m=>(aG P σ k).bind fun k=>(aG P σ v).bind fun v=>(fS P t m k v H).map fun (H',es)=>(bw,H',es)
 | .insert t m k v=>(aG P σ m).bind fun m=>(aG P σ k).bind fun k=>(aG P σ v).bind fun v=>(fS P t m k v H).map fun (H',es)=>(bw,H',es)
 | .range t x=>(aG P σ x).bind fun x=>match tsh P t,x with
  | some .str,.str s=>some (.ptr H.length 0,H++[.iter s 0],z0)
  | _,_=>none
 | .next it true=>(aG P σ it).bind fun it=>match it with
  | .ptr b 0=>match H[b]? with
   | some (.iter s p)=>some ((aJ s p).1,H.set b (.iter s (aJ s p).2),⟨none,some b⟩)
   | _=>none
  | _=>none
 | .extract x i=>(aG P σ x).bind fun a=>match a with
  | .tuple vs=>ret H (vs[i]?)
  | _=>none
 | .call c=>dz P C σ H c
 | .typeAssert x _ t true=>(aG P σ x).bind fun v=>ret H (fU P t v)
 | _=>none
where
 isConst:Operand→Bool
  | .const _=>true
  | _=>false

structure St where
 σ:List AV
 H:Hp
 ef:Ef

def put (σ:List AV):Option Tmp→AV→List AV
 | some d,v=>σ.set d v
 | none,_=>σ

def cj (ops:List Oper) (σ:List AV) (o:Oper):Bool :=
 match o.guard with
 | none=>true
 | some (j,want) =>
  match (ops[j]?).bind (·.dst) with
  | some d=>(match σ[d]? with | some (.bool b)=>b == want | _=>false)
  | none=>false

def gO (P:Program) (C:bL) (ops:List Oper):List Oper→St→Option St
 | [],s=>some s
 | o::rest,s =>
  if cj ops s.σ o then (bu P C s.σ s.H o.op).bind fun r=>gO P C ops rest ⟨put s.σ o.dst r.1,r.2.1,s.ef.and r.2.2⟩
  else gO P C ops rest ⟨put s.σ o.dst bw,s.H,s.ef⟩

def jG:Op→Bool
 | .move _=>true
 | .assign _=>true
 | .pick _ _ _=>true
 | .binOp _ _ _ _ _=>true
 | .unOp _ _ _=>true
 | .extract _ _=>true
 | .fieldAddr _ _ _=>true
 | .index _ _ _=>true
 | .indexAddr _ _ _=>true
 | .field _ _ _=>true
 | .build _ _=>true
 | .makeFunc _ _ _=>true
 | .makeInterface _ _=>true
 | .nilCheck _=>true
 | .typeAssert _ _ _ _=>true
 | _=>false

def gS:Op→Bool
 | .load _ _=>true
 | .call c=>(match c.callee with | .builtin .len=>true | _=>false)
 | _=>false

def bA (o:Oper):Bool :=
 match o.op with
 | .alloc _=>o.after.toList.isEmpty && o.guard.isNone
 | _=>false

def masks:List Oper→List Nat→List Nat
 | [],acc=>acc
 | o::r,acc=>masks r (acc++[o.after.toList.foldl (fun s e=>if Region.binds .any e=true then s ||| (2 ^ e.on ||| (acc[e.on]?).getD 0) else s) 0])

def anc (ms:List Nat) (j i:Nat):Bool:=((ms[i]?).getD 0).testBit j

def pS (ops : List Oper) (o : Oper) : List Tmp :=
  (o.op.operands.toList.filterMap fun | .tmp t => some t | _ => none) ++
    (match o.guard with
     | some (j, _) => ((ops[j]?).bind (·.dst)).toList
     | none => [])

def num (ops:List Oper):List (Nat × Oper):=ops.zipIdx.map fun (o,i)=>(i,o)

def nk (ops:List Oper):Bool :=
 let ms:=masks ops []
 decide (ops.filterMap (·.dst)).Nodup &&
 (num ops).all fun (i,o) =>
  o.after.toList.all (fun e=>!Region.binds .any e || decide (e.on < i)) &&
  (pS ops o).all fun t=>(num ops).all fun (j,o')=>o'.dst != some t || j == i || (decide (j < i) && anc ms j i) || (decide (i < j) && anc ms i j)

def tg (i:Nat) (e:Ef):Nat:=2*i+(if (e.es.isNone && e.ws.isNone)=true then 1 else 0)
def bN (_:Program) (ops:List Oper) (nK:List Nat):Bool :=
 let ms:=masks ops []
 nK.all fun e=>(num ops).all fun (j,o)=>j == e / 2 || jG o.op || (decide (j < e / 2) && anc ms j (e / 2)) || (decide (e / 2 < j) && anc ms (e / 2) j) || (gS o.op && e % 2 == 1)

def quiet (r:AV × Hp × Ef) (H:Hp):Bool:=r.2.2.es.isNone && r.2.2.ws.isNone && r.2.1.length == H.length

def evD (P:Program) (C:bL) (ops:List Oper):List (Nat × Oper)→St→Option (St × List Nat)
 | [],s=>some (s,[])
 | (i,o)::rest,s =>
  if cj ops s.σ o then (bu P C s.σ s.H o.op).bind fun r =>
   (evD P C ops rest ⟨put s.σ o.dst r.1,r.2.1,s.ef.and r.2.2⟩).map fun q=>(q.1,if bA o || quiet r s.H then q.2 else tg i r.2.2::q.2)
  else evD P C ops rest ⟨put s.σ o.dst bw,s.H,s.ef⟩

def order (ops:List Oper):List (Nat × Oper):=(num ops).filter (fun p=>bA p.2)++(num ops).filter (fun p=>!bA p.2)

def KD (ops:List Oper) (nK:List Nat) (bad:List (Nat × Nat)):Bool :=
 let ms:=masks ops []
 nK.all fun e=>(num ops).all fun (j,o)=>j == e / 2 || jG o.op || (decide (j < e / 2) && anc ms j (e / 2)) || (decide (e / 2 < j) && anc ms (e / 2) j) || (gS o.op && e % 2 == 1) || bad.contains (e / 2,j)
def apS (ops:List Oper) (σ:List AV) (p:Nat × Nat):Prop :=
 ∃ (oi oj:Oper) (c a b o b' o':Nat) (t t':TypeId) (v:Operand),ops[p.1]?=some oi∧ops[p.2]?=some oj∧oi.op=.store t (.tmp c) v∧oj.op=.load t' (.tmp a)∧σ[c]?=some (.ptr b o)∧σ[a]?=some (.ptr b' o')∧b≠b' ∧
  (∀ k x,ops[k]?=some x→x.dst=some c→k < p.1)∧∀ k x,ops[k]?=some x→x.dst=some a→k < p.2
def okL (P:Program) (ops:List Oper) (σ:List AV) (es:List Nat):Prop:=bN P ops es=true∨∃ bad,KD ops es bad=true∧∀ p ∈ bad,apS ops σ p
noncomputable def qg (P:Program) (C:bL) (ops:List Oper) (s:St):Option St :=
 (evD P C ops (order ops) s).bind fun q=>@ite _ (nk ops=true∧okL P ops q.1.σ q.2) (Classical.propDecidable _) (some q.1) none

def ez (P:Program) (C:bL) (ops:List Oper) (draw:Bool) (s:St):Option St :=
 if draw then (if P.follows .mixedOrders=true then qg P C ops s else none) else gO P C ops ops s

def dU (P:Program) (C':bL) (σ:List AV) (H:Hp) (op:Op):Rs :=
 match op with
 | .panic x=>(aG P σ x).bind fun v=>match v with
  | .iface t u=>some (.iface t u,H,z0)
  | _=>none
 | .call c=>match c.callee with
  | .value f=>(aG P σ f).bind fun f=>(bO P σ c.args.toList).bind fun az =>
   match f with
   | .func (.func g) first captured=>if aj P g=true then C' g (first++az++captured) H else none
   | _=>none
  | _=>none
 | _=>none

def eO (P:Program) (C C':bL) (ops:List Oper):List Oper→St→Option St
 | [],_=>none
 | o::rest,s =>
  if cj ops s.σ o then
   match dU P C' s.σ s.H o.op with
   | some r=>some ⟨r.1::s.σ,r.2.1,s.ef.and r.2.2⟩
   | none=>(bu P C s.σ s.H o.op).bind fun r=>eO P C C' ops rest ⟨put s.σ o.dst r.1,r.2.1,s.ef.and r.2.2⟩
  else eO P C C' ops rest ⟨put s.σ o.dst bw,s.H,s.ef⟩

abbrev Rc:=Option (Ex × St)
def kQ (P:Program) (C C':bL) (ops:List Oper) (d:Bool) (s:St):Rc :=
 match ez P C ops d s with
 | some s'=>some (.normal,s')
 | none=>if d=true then none else (eO P C C' ops ops s).map fun s'=>(.pan,s')

def iter (step:St→Rc):Nat→St→Rc
 | 0,_=>none
 | n+1,s=>match step s with
  | some (.normal,s')=>iter step n s'
  | r=>r

def kE (P:Program) (C:bL) (f:Operand) (ps:List Tmp) (az bd:Code) (s:St):Rc :=
 match aG P s.σ f with
 | some (.func (.func g) first captured) =>
  if aj P g=true then
   (C g (first++[.yld s.H.length]++captured) (s.H++[.loop s.σ ps az bd .ready])).bind fun r =>
    match r.2.1[s.H.length]? with
    | some (.loop _ _ _ _ .ready)=>some (.normal,⟨s.σ,r.2.1.set s.H.length .dead,s.ef.and (r.2.2.and ⟨none,some s.H.length⟩)⟩)
    | some (.loop _ _ _ _ (.done e))=>if e=.pan then none else some (e,⟨s.σ,r.2.1.set s.H.length .dead,s.ef.and (r.2.2.and ⟨none,some s.H.length⟩)⟩)
    | _=>none
  else none
 | _=>none

def bP (step:Nat→St→Option Rc):Nat→Rc→Rc
 | n,some (.goto l,s)=>match step l s with
  | none=>some (.goto l,s)
  | some r=>match n with
   | 0=>none
   | n+1=>bP step n r
 | _,r=>r

mutual
def aK (P:Program) (C C':bL) (n:Nat):Code→St→Rc
 | .skip,s=>some (.normal,s)
 | .region _ ops d,s=>kQ P C C' ops.toList d s
 | .seq a b,s=>match aK P C C' n a s with
  | some (.normal,s')=>aK P C C' n b s'
  | r=>r
 | .cond c a b,s=>match aG P s.σ c with
  | some (.bool true)=>aK P C C' n a s
  | some (.bool false)=>aK P C C' n b s
  | _=>none
 | .block id c,s=>match aK P C C' n c s with
  | some (.exit i,s')=>if i=id then some (.normal,s') else some (.exit i,s')
  | r=>r
 | .loop c,s=>iter (aK P C C' n c) n s
 | .exit id,s=>some (.exit id,s)
 | .goto l,s=>some (.goto l,s)
 | .label _,s=>some (.normal,s)
 | .ret,s=>some (.ret,s)
 | .rangeFunc f ps az bd,s=>kE P C f ps.toList az bd s
 | .scope c,s=>bP (fun l s=>if (findLabel c l).isSome then some (qf P C C' n c l s) else none) n (aK P C C' n c s)
 | .refuse _,_=>none
def qf (P:Program) (C C':bL) (n:Nat):Code→Nat→St→Rc
 | .seq a b,l,s=>if (findLabel a l).isSome then (match qf P C C' n a l s with
  | some (.normal,s')=>aK P C C' n b s'
  | r=>r) else qf P C C' n b l s
 | .label _,_,s=>some (.normal,s)
 | _,_,_=>none
end

theorem GW {P:Program} {C C':bL} {n:Nat}:∀ {c rest:Code} {l:Nat},findLabel c l=some rest→∀ s,qf P C C' n c l s=aK P C C' n rest s:=by
 intro c
 induction c with
 | seq a b iha ihb =>
  intro rest l h s
  simp only [findLabel] at h
  simp only [qf]
  split at h
  ·rename_i r hr
   cases h
   rw [hr,iha hr s]
   simp only [Option.isSome_some,if_true,aK]
  ·rename_i hr
   rw [hr,ihb h s]
   simp
 | label l' =>
  intro rest l h s
  simp only [findLabel] at h
  split at h
  ·cases h; simp only [qf,aK]
  ·cases h
 | _=>intro rest l h s; simp [findLabel] at h

theorem iP {P:Program} {C C':bL} {n:Nat} {c:Code} {s:St}:aK P C C' n (.scope c) s=bP (fun l s=>(findLabel c l).map fun r=>aK P C C' n r s) n (aK P C C' n c s):=by
 simp only [aK]
 congr 1
 funext l s
 cases h:findLabel c l with
 | none=>simp
 | some r=>simp [GW h s]

theorem A7 {A:Code→Prop} (skip:A .skip) (region:∀ id ops d,A (.region id ops d)) (seq:∀ x y,A x→A y→A (.seq x y)) (cond:∀ c x y,A x→A y→A (.cond c x y)) (block:∀ id c,A c→A (.block id c))
  (loop:∀ c,A c→A (.loop c)) (exit:∀ id,A (.exit id)) (goto:∀ l,A (.goto l)) (label:∀ l,A (.label l)) (ret:A .ret) (rangeFunc:∀ f ps az bd,A az→A bd→A (.rangeFunc f ps az bd))
  (scope:∀ c,A c→(∀ l r,findLabel c l=some r→A r)→A (.scope c)) (refuse:∀ why,A (.refuse why)) (c:Code):A c:=by
 suffices h:A c∧∀ l r,findLabel c l=some r→A r from h.1
 induction c with
 | skip=>exact ⟨skip,fun l r h=>by simp [findLabel] at h⟩
 | region id ops d=>exact ⟨region id ops d,fun l r h=>by simp [findLabel] at h⟩
 | seq x y ihx ihy =>
  refine ⟨seq x y ihx.1 ihy.1,fun l r h=>?_⟩
  simp only [findLabel] at h
  split at h
  ·rename_i r' hr
   cases h
   exact seq _ _ (ihx.2 _ _ hr) ihy.1
  ·exact ihy.2 _ _ h
 | cond c x y ihx ihy=>exact ⟨cond c x y ihx.1 ihy.1,fun l r h=>by simp [findLabel] at h⟩
 | block id c ih=>exact ⟨block id c ih.1,fun l r h=>by simp [findLabel] at h⟩
 | loop c ih=>exact ⟨loop c ih.1,fun l r h=>by simp [findLabel] at h⟩
 | exit id=>exact ⟨exit id,fun l r h=>by simp [findLabel] at h⟩
 | goto l=>exact ⟨goto l,fun l r h=>by simp [findLabel] at h⟩
 | label l =>
  refine ⟨label l,fun l' r h=>?_⟩
  simp only [findLabel] at h
  split at h
  ·cases h; exact skip
  ·cases h
 | ret=>exact ⟨ret,fun l r h=>by simp [findLabel] at h⟩
 | rangeFunc f ps az bd ih1 ih2=>exact ⟨rangeFunc f ps az bd ih1.1 ih2.1,fun l r h=>by simp [findLabel] at h⟩
 | scope c ih=>exact ⟨scope c ih.1 ih.2,fun l r h=>by simp [findLabel] at h⟩
 | refuse why=>exact ⟨refuse why,fun l r h=>by simp [findLabel] at h⟩

def cS (P:Program) (s:St):List ResultVar→Option (List AV)
 | []=>some []
 | .tmp t::r=>(cS P s r).map ((s.σ[t]?).getD bw::·)
 | .cell a t::r =>
  match (s.σ[a]?).getD bw with
  | .ptr b o=>(ec P s.H t b o).bind fun v=>(cS P s r).map (v::·)
  | _=>none

def pack:List AV→AV
 | [v]=>v
 | vs=>.tuple vs

def low (n:Nat):Option Nat→Option Nat
 | some e=>if n≤e then none else some e
 | none=>none

def leave (n:Nat) (v:AV) (H:Hp) (e:Ef):AV × Hp × Ef :=
 (v,if flat v=true∧low n e.es=none then H.take n else H,⟨low n e.es,low n e.ws⟩)

def nu:List AV→List Tmp→List AV→List AV
 | σ,p::ps,v::vs=>nu (σ.set p v) ps vs
 | σ,_,_=>σ

def cD:Code→Bool
 | .seq a b=>cD a && cD b
 | .cond _ a b=>cD a && cD b
 | .block _ c=>cD c
 | .loop c=>cD c
 | .scope c=>cD c
 | .rangeFunc _ _ _ _=>false
 | _=>true

def mE (P:Program) (C C':bL) (n b:Nat) (args:List AV) (H:Hp):Rs :=
 match H[b]? with
 | some (.loop σ ps az bd .ready) =>
  if args.length=ps.length∧cD az=true then
   match aK P C C' n az ⟨nu σ ps args,H,z0⟩ with
   | some (.normal,s1) =>
    match s1.H[b]? with
    | some (.loop σ' ps' as' bd' .ready) =>
     match aK P C C' n bd ⟨s1.σ,s1.H.set b (.loop σ' ps' as' bd' .busy),s1.ef.and ⟨none,some b⟩⟩ with
     | some (e,s2) =>
      match s2.H[b]? with
      | some (.loop σ'' ps'' as'' bd'' .busy) =>
       if e=.pan then none else some (leave H.length (.bool (decide (e=.normal))) (s2.H.set b (.loop σ'' ps'' as'' bd'' (if e=.normal then .ready else .done e))) (s2.ef.and ⟨none,some b⟩))
      | _=>none
     | none=>none
    | _=>none
   | _=>none
  else none
 | _=>none

abbrev Dc:=AV × List AV
def iS:Code→Option (List Code × Oper × Code)
 | .seq (.region id ⟨[o]⟩ false) b=>match o.op,o.guard with
  | .defer _,none=>some ([],o,b)
  | _,_=>(iS b).map fun r=>(.region id ⟨[o]⟩ false::r.1,r.2)
 | .seq (.region id ⟨[p,o]⟩ false) b=>match o.op,o.guard,p.guard with
  | .defer _,none,none=>some ([.region id ⟨[p]⟩ false],o,b)
  | _,_,_=>(iS b).map fun r=>(.region id ⟨[p,o]⟩ false::r.1,r.2)
 | .seq a b=>(iS b).map fun r=>(a::r.1,r.2)
 | _=>none

def gB (P:Program) (C C':bL) (n:Nat):List Code→St→Rc
 | [],s=>some (.normal,s)
 | c::cs,s=>match aK P C C' n c s with
  | some (.normal,s')=>gB P C C' n cs s'
  | r=>r

def QZ:Code→Option (Oper × List Oper × Code)
 | .seq (.region _ ⟨o::l⟩ false) b=>match o.op,o.guard with
  | .call ⟨.builtin .recover,_,_⟩,none=>some (o,l,b)
  | _,_=>none
 | _=>none

def kR (P:Program) (C C':bL) (n:Nat) (d:Dc) (u:Option AV) (H:Hp):Option (Hp × Ef) :=
 match d.1 with
 | .func (.func g) first captured =>
  match P.funcs[g]? with
  | some fn =>
   if fn.name == "runtime.NumGoroutine" then none else
   match fn.body with
   | some c =>
    match QZ c with
    | some (o,l,b) =>
     let az:=first++d.2++captured
     if fn.results.toList=[] then
      (gO P C (o::l) l ⟨put (az++List.replicate (fn.ntmps - az.length) bw) o.dst (u.getD .de),H,z0⟩).bind fun s1 =>
       match aK P C C' n b s1 with
       | some (e,s2)=>if (e=.normal∨e=.ret)∧cD b=true then some (s2.H,s2.ef) else none
       | none=>none
     else none
    | none=>none
   | none=>none
  | none=>none
 | _=>none

def iI (P:Program) (fn:Func) (n:Nat) (r:Rc):Bool × Rs :=
 match r with
 | some (e,s)=>if e=.normal∨e=.ret then (true,(cS P s fn.results.toList).map fun vs=>leave n (pack vs) s.H s.ef)
  else if e=.pan then (match s.σ with
   | v::_=>(false,some (leave n v s.H s.ef))
   | []=>(false,none))
  else (true,none)
 | none=>(true,none)

def lP (P:Program) (C C':bL) (n:Nat) (fn:Func) (m:Nat) (d:Dc) (b:Code) (s:St):Rs :=
 match aK P C C' n b s with
 | some (.pan,s2)=>match s2.σ with
  | v::σ=>(kR P C C' n d (some v) s2.H).bind fun q=>(cS P ⟨σ,q.1,s2.ef.and q.2⟩ fn.results.toList).map fun vs=>leave m (pack vs) q.1 (s2.ef.and q.2)
  | []=>none
 | some (e,s2)=>if e=.normal∨e=.ret then
   (kR P C C' n d none s2.H).bind fun q=>(cS P ⟨s2.σ,q.1,s2.ef.and q.2⟩ fn.results.toList).map fun vs=>leave m (pack vs) q.1 (s2.ef.and q.2)
  else none
 | none=>none

def iE (P:Program) (C C':bL) (n:Nat) (fn:Func) (c:Code) (s:St):Bool × Rs :=
 match iS c with
 | none=>iI P fn s.H.length (aK P C C' n c s)
 | some (a,o,b) =>
  match gB P C C' n a s with
  | some (.normal,s1) =>
   match o.op with
   | .defer k=>match k.callee with
    | .value f=>(true,(aG P s1.σ f).bind fun f=>(bO P s1.σ k.args.toList).bind fun az=>lP P C C' n fn s.H.length (f,az) b ⟨put s1.σ o.dst bw,s1.H,s1.ef⟩)
    | _=>(true,none)
   | _=>(true,none)
  | r=>iI P fn s.H.length r

def gu (P:Program) (C C':bL) (n:Nat) (pan:Bool):bL:=fun f args H =>
 match P.funcs[f]? with
 | some fn =>
  match fn.body with
  | some c=>match iE P C C' n fn c ⟨args++List.replicate (fn.ntmps - args.length) bw,H,z0⟩ with
   | (t,r)=>if t=pan then none else r
  | none=>none
 | none=>if pan=true then none else mE P C C' n (f - P.funcs.size) args H

def oP (P:Program):Nat→bL × bL
 | 0=>(fun _ _ _=>none,fun _ _ _=>none)
 | n+1=>(gu P (oP P n).1 (oP P n).2 (n+1) false,gu P (oP P n).1 (oP P n).2 (n+1) true)
def evN (P:Program) (n:Nat):bL:=(oP P n).1
def eP (P:Program) (n:Nat):bL:=(oP P n).2

end
structure Loc where
 blk:Nat
 base:Nat
 cap:Nat
abbrev Mu:=Nat→Option Loc

mutual
def aB (μ:Mu):AV→Option Value
 | .bool b=>some (.bool b)
 | .int k n=>some (.int k n)
 | .float k b=>some (.float k b)
 | .str s=>some (.string ⟨s.toArray⟩)
 | .ptr b o=>(μ b).map fun l=>.pointer (some ⟨l.blk,l.base+o,none⟩)
 | .fF=>some (.pointer none)
 | .slice b o n c=>(μ b).map fun l=>.slice (some ⟨l.blk,l.base+o,none⟩) n (match c with | .ex c=>c | .op k=>l.cap - k)
 | .aI=>some (.slice none 0 0)
 | .map r=>(μ r).map fun l=>.map (some l.blk)
 | .pW=>some (.map none)
 | .func fn f c=>(aA μ f).bind fun f=>(aA μ c).map fun c=>.func fn f.toArray c.toArray
 | .tS=>some .nilFunc
 | .iface t v=>(aB μ v).map (.iface t)
 | .de=>some .nilIface
 | .agg cs=>(aA μ cs).map fun l=>.agg l.toArray
 | .tuple cs=>(aA μ cs).map fun l=>.tuple l.toArray
 | .yld b=>(μ b).map fun l=>.func (.yield l.blk) #[] #[]
def aA (μ:Mu):List AV→Option (List Value)
 | []=>some []
 | v::vs=>(aB μ v).bind fun x=>(aA μ vs).map (x::·)
end

def Le (μ μ':Mu):Prop:=∀ b l,μ b=some l→μ' b=some l
theorem Le.refl (μ:Mu):Le μ μ:=fun _ _ h=>h
theorem Le.trans {a b c:Mu} (h:Le a b) (k:Le b c):Le a c:=fun x l e=>k x l (h x l e)

mutual
theorem xj {μ μ':Mu} (h:Le μ μ'):∀ (v:AV) {x:Value},aB μ v=some x→aB μ' v=some x
 | .bool _,_,e=>e
 | .int _ _,_,e=>e
 | .float _ _,_,e=>e
 | .str _,_,e=>e
 | .fF,_,e=>e
 | .aI,_,e=>e
 | .pW,_,e=>e
 | .tS,_,e=>e
 | .de,_,e=>e
 | .ptr b o,x,e=>by
  simp only [aB,Option.map_eq_some_iff] at e ⊢
  obtain ⟨l,hl,he⟩:=e
  exact ⟨l,h _ _ hl,he⟩
 | .slice b o n c,x,e=>by
  simp only [aB,Option.map_eq_some_iff] at e ⊢
  obtain ⟨l,hl,he⟩:=e
  exact ⟨l,h _ _ hl,he⟩
 | .map r,x,e=>by
  simp only [aB,Option.map_eq_some_iff] at e ⊢
  obtain ⟨l,hl,he⟩:=e
  exact ⟨l,h _ _ hl,he⟩
 | .func fn f c,x,e=>by
  simp only [aB,Option.bind_eq_some_iff,Option.map_eq_some_iff] at e ⊢
  obtain ⟨a,ha,b,hb,he⟩:=e
  exact ⟨a,cN h f ha,b,cN h c hb,he⟩
 | .iface t v,x,e=>by
  simp only [aB,Option.map_eq_some_iff] at e ⊢
  obtain ⟨l,hl,he⟩:=e
  exact ⟨l,xj h v hl,he⟩
 | .agg cs,x,e=>by
  simp only [aB,Option.map_eq_some_iff] at e ⊢
  obtain ⟨l,hl,he⟩:=e
  exact ⟨l,cN h cs hl,he⟩
 | .tuple cs,x,e=>by
  simp only [aB,Option.map_eq_some_iff] at e ⊢
  obtain ⟨l,hl,he⟩:=e
  exact ⟨l,cN h cs hl,he⟩
 | .yld b,x,e=>by
  simp only [aB,Option.map_eq_some_iff] at e ⊢
  obtain ⟨l,hl,he⟩:=e
  exact ⟨l,h b l hl,he⟩
theorem cN {μ μ':Mu} (h:Le μ μ'):∀ (vs:List AV) {x:List Value},aA μ vs=some x→aA μ' vs=some x
 | [],_,e=>e
 | v::vs,x,e=>by
  simp only [aA,Option.bind_eq_some_iff,Option.map_eq_some_iff] at e ⊢
  obtain ⟨a,ha,b,hb,he⟩:=e
  exact ⟨a,xj h v ha,b,cN h vs hb,he⟩
end

mutual
theorem qm (μ μ':Mu):∀ (v:AV),flat v=true→aB μ v=aB μ' v
 | .bool _,_=>rfl
 | .int _ _,_=>rfl
 | .float _ _,_=>rfl
 | .str _,_=>rfl
 | .fF,_=>rfl
 | .aI,_=>rfl
 | .pW,_=>rfl
 | .tS,_=>rfl
 | .de,_=>rfl
 | .ptr b o,e=>by simp [flat] at e
 | .slice b o n c,e=>by simp [flat] at e
 | .map r,e=>by simp [flat] at e
 | .yld b,e=>by simp [flat] at e
 | .func fn f c,e=>by
  simp only [flat,Bool.and_eq_true] at e
  simp only [aB,jl μ μ' f e.1,jl μ μ' c e.2]
 | .iface t v,e=>by
  simp only [flat] at e
  simp only [aB,qm μ μ' v e]
 | .agg cs,e=>by
  simp only [flat] at e
  simp only [aB,jl μ μ' cs e]
 | .tuple cs,e=>by
  simp only [flat] at e
  simp only [aB,jl μ μ' cs e]
theorem jl (μ μ':Mu):∀ (v:List AV),bK v=true→aA μ v=aA μ' v
 | [],_=>rfl
 | v::vs,e=>by
  simp only [bK,Bool.and_eq_true] at e
  simp only [aA,qm μ μ' v e.1,jl μ μ' vs e.2]
end

mutual
theorem jn (μ:Mu):∀ (v:AV),flat v=true→∃ x,aB μ v=some x
 | .bool _,_=>⟨_,rfl⟩
 | .int _ _,_=>⟨_,rfl⟩
 | .float _ _,_=>⟨_,rfl⟩
 | .str _,_=>⟨_,rfl⟩
 | .fF,_=>⟨_,rfl⟩
 | .aI,_=>⟨_,rfl⟩
 | .pW,_=>⟨_,rfl⟩
 | .tS,_=>⟨_,rfl⟩
 | .de,_=>⟨_,rfl⟩
 | .ptr b o,e=>by simp [flat] at e
 | .slice b o n c,e=>by simp [flat] at e
 | .map r,e=>by simp [flat] at e
 | .yld b,e=>by simp [flat] at e
 | .func fn f c,e=>by
  simp only [flat,Bool.and_eq_true] at e
  obtain ⟨a,ha⟩:=eM μ f e.1
  obtain ⟨b,hb⟩:=eM μ c e.2
  exact ⟨_,by simp only [aB,ha,hb,Option.bind_some,Option.map_some]; rfl⟩
 | .iface t v,e=>by
  simp only [flat] at e
  obtain ⟨a,ha⟩:=jn μ v e
  exact ⟨_,by simp only [aB,ha,Option.map_some]; rfl⟩
 | .agg cs,e=>by
  simp only [flat] at e
  obtain ⟨a,ha⟩:=eM μ cs e
  exact ⟨_,by simp only [aB,ha,Option.map_some]; rfl⟩
 | .tuple cs,e=>by
  simp only [flat] at e
  obtain ⟨a,ha⟩:=eM μ cs e
  exact ⟨_,by simp only [aB,ha,Option.map_some]; rfl⟩
theorem eM (μ:Mu):∀ (v:List AV),bK v=true→∃ x,aA μ v=some x
 | [],_=>⟨_,rfl⟩
 | v::vs,e=>by
  simp only [bK,Bool.and_eq_true] at e
  obtain ⟨a,ha⟩:=jn μ v e.1
  obtain ⟨b,hb⟩:=eM μ vs e.2
  exact ⟨_,by simp only [aA,ha,hb,Option.bind_some,Option.map_some]; rfl⟩
end

mutual
theorem o6 (μ:Mu):∀ (x:Value) {a:AV},lZ x=some a→aB μ a=some x
 | .bool _,_,e=>by cases e; rfl
 | .int _ _,_,e=>by cases e; rfl
 | .float _ _,_,e=>by cases e; rfl
 | .string s,_,e=>by cases e; rfl
 | .pointer none,_,e=>by cases e; rfl
 | .slice none 0 0,_,e=>by cases e; rfl
 | .map none,_,e=>by cases e; rfl
 | .func fn ⟨[]⟩ ⟨[]⟩,_,e=>by cases e; rfl
 | .nilFunc,_,e=>by cases e; rfl
 | .iface t v,a,e=>by
  simp only [lZ,Option.map_eq_some_iff] at e
  obtain ⟨b,hb,rfl⟩:=e
  simp only [aB,o6 μ v hb,Option.map_some]
 | .nilIface,_,e=>by cases e; rfl
 | .agg ⟨cs⟩,a,e=>by
  simp only [lZ,Option.map_eq_some_iff] at e
  obtain ⟨b,hb,rfl⟩:=e
  simp only [aB,gY μ cs hb,Option.map_some]
 | .tuple ⟨cs⟩,a,e=>by
  simp only [lZ,Option.map_eq_some_iff] at e
  obtain ⟨b,hb,rfl⟩:=e
  simp only [aB,gY μ cs hb,Option.map_some]
 | .complex _ _ _,_,e=>by simp [lZ] at e
 | .pointer (some _),_,e=>by simp [lZ] at e
 | .slice (some _) _ _,_,e=>by simp [lZ] at e
 | .slice none (_+1) _,_,e=>by simp [lZ] at e
 | .slice none 0 (_+1),_,e=>by simp [lZ] at e
 | .map (some _),_,e=>by simp [lZ] at e
 | .chan _,_,e=>by simp [lZ] at e
 | .func _ ⟨_::_⟩ _,_,e=>by simp [lZ] at e
 | .func _ ⟨[]⟩ ⟨_::_⟩,_,e=>by simp [lZ] at e
theorem gY (μ:Mu):∀ (xs:List Value) {a:List AV},vl xs=some a→aA μ a=some xs
 | [],_,e=>by cases e; rfl
 | v::vs,a,e=>by
  simp only [vl,Option.bind_eq_some_iff,Option.map_eq_some_iff] at e
  obtain ⟨b,hb,c,hc,rfl⟩:=e
  simp only [aA,o6 μ v hb,gY μ vs hc,Option.bind_some,Option.map_some]
end

theorem o4 {μ:Mu}:∀ (a b:List AV),aA μ (a++b)=(aA μ a).bind fun x=>(aA μ b).map (x++·)
 | [],b=>by simp [aA]
 | v::vs,b=>by
  simp only [List.cons_append,aA,o4 vs b]
  cases aB μ v <;> simp
  cases aA μ vs <;> simp
  cases aA μ b <;> simp

theorem aL {μ:Mu} {a b:List AV} {x y:List Value} (ha:aA μ a=some x) (hb:aA μ b=some y):aA μ (a++b)=some (x++y):=by
 simp [o4,ha,hb]

theorem aX {μ:Mu}:∀ {a:List AV} {x:List Value},aA μ a=some x→x.length=a.length
 | [],x,e=>by cases e; rfl
 | v::vs,x,e=>by
  simp only [aA,Option.bind_eq_some_iff,Option.map_eq_some_iff] at e
  obtain ⟨y,_,ys,hys,rfl⟩:=e
  simp [aX hys]

theorem gX {μ:Mu}:∀ {a:List AV} {x:List Value},aA μ a=some x→∀ i:Nat,x[i]?=(a[i]?).bind (aB μ)
 | [],x,e,i=>by cases e; simp
 | v::vs,x,e,i=>by
  simp only [aA,Option.bind_eq_some_iff,Option.map_eq_some_iff] at e
  obtain ⟨y,hy,ys,hys,rfl⟩:=e
  cases i with
  | zero=>simp [hy]
  | succ i=>simpa using gX hys i

theorem fB {μ:Mu}:∀ {a:List AV} {x:List Value},aA μ a=some x→∀ n:Nat,aA μ (a.take n)=some (x.take n)
 | _,_,_,0=>by simp [aA]
 | [],x,e,n+1=>by cases e; simp [aA]
 | v::vs,x,e,n+1=>by
  simp only [aA,Option.bind_eq_some_iff,Option.map_eq_some_iff] at e
  obtain ⟨y,hy,ys,hys,rfl⟩:=e
  simp [aA,hy,fB hys n]

theorem gp {μ:Mu}:∀ {a:List AV} {x:List Value},aA μ a=some x→∀ n:Nat,aA μ (a.drop n)=some (x.drop n)
 | _,_,e,0=>by simpa using e
 | [],x,e,n+1=>by cases e; simp [aA]
 | v::vs,x,e,n+1=>by
  simp only [aA,Option.bind_eq_some_iff,Option.map_eq_some_iff] at e
  obtain ⟨y,hy,ys,hys,rfl⟩:=e
  simpa using gp hys n

theorem j5 {μ:Mu}:∀ {a:List AV} {x:List Value} (d:Nat) {v:AV} {y:Value},aA μ a=some x→aB μ v=some y→aA μ (a.set d v)=some (x.set d y)
 | [],x,d,v,y,e,h=>by cases e; simp [aA]
 | u::us,x,d,v,y,e,h=>by
  simp only [aA,Option.bind_eq_some_iff,Option.map_eq_some_iff] at e
  obtain ⟨z,hz,zs,hzs,rfl⟩:=e
  cases d with
  | zero=>simp [aA,h,hzs]
  | succ d=>simp [aA,hz,j5 d hzs h]

theorem A5 {μ:Mu}:∀ (a:List AV),(∀ v ∈ a,∃ x,aB μ v=some x)→∃ x,aA μ a=some x
 | [],_=>⟨_,rfl⟩
 | v::vs,h=>by
  obtain ⟨x,hx⟩:=h v (by simp)
  obtain ⟨xs,hxs⟩:=A5 vs (fun u hu=>h u (by simp [hu]))
  exact ⟨x::xs,by simp [aA,hx,hxs]⟩

theorem mI {μ:Mu} {a:List AV} {x:List Value} (h:aA μ a=some x):∀ v ∈ a,∃ y,aB μ v=some y:=by
 intro v hv
 obtain ⟨i,hi,rfl⟩:=List.mem_iff_getElem.1 hv
 have hlen:=aX h
 have:=gX h i
 rw [List.getElem?_eq_getElem hi,List.getElem?_eq_getElem (by omega)] at this
 exact ⟨_,this.symm⟩

theorem oZ {μ:Mu} {c xs:List AV} {x y:List Value} (hc:aA μ c=some x) (hx:aA μ xs=some y) (o:Nat) :
  aA μ (splice c o xs)=some (x.take o++y++x.drop (o+y.length)):=by
 rw [aX hx]
 exact aL (aL (fB hc o) hx) (gp hc _)

theorem IK {μ:Mu} {v:AV} {x:Value} (h:aB μ v=some x) (hs:cK v=true):x.oneCell'=true:=by
 cases v <;> simp only [cK] at hs <;> simp only [aB] at h
 all_goals first
  | (cases hs; done)
  | (cases h; rfl)
  | (simp only [Option.map_eq_some_iff] at h; obtain ⟨_,_,rfl⟩:=h; rfl)
  | (simp only [Option.bind_eq_some_iff,Option.map_eq_some_iff] at h; obtain ⟨_,_,_,_,rfl⟩:=h; rfl)

theorem uz {μ:Mu} {a:List AV} {x:List Value} (h:aA μ a=some x) (hs:a.all cK=true):∀ v ∈ x,v.oneCell'=true:=by
 intro v hv
 obtain ⟨i,hi,rfl⟩:=List.mem_iff_getElem.1 hv
 have hlen:=aX h
 have:=gX h i
 rw [List.getElem?_eq_getElem hi,List.getElem?_eq_getElem (by omega)] at this
 exact IK this.symm (List.all_eq_true.1 hs _ (List.getElem_mem _))

theorem lq {μ:Mu} {v:AV} {x:Value} (h:aB μ v=some x):aA μ (bH v)=some x.cells.toList:=by
 cases v <;> simp only [bH,aA] <;> simp only [aB] at h
 case agg cs =>
  simp only [Option.map_eq_some_iff] at h
  obtain ⟨l,hl,rfl⟩:=h
  simpa [Value.cells] using hl
 all_goals first
  | (cases h; rfl)
  | (simp only [Option.map_eq_some_iff] at h; obtain ⟨l,hl,rfl⟩:=h; simp [aB,hl,Value.cells]; done)
  | (simp only [Option.bind_eq_some_iff,Option.map_eq_some_iff] at h; obtain ⟨l,hl,l',hl',rfl⟩:=h; simp [aB,hl,hl',Value.cells]; done)

def Ur (P:Program) (l:Loc) (n sz:Nat) (e:TypeId) (fr:Nat × Nat):Kd→Prop
 | .ro=>True
 | .rw=>l.base=0∧sz=n∧fr=(0,0)
 | .op fz st=>(∃ i,P.info? e=some i∧0 < i.size∧sz=l.base+l.cap*i.size)∧(fr.2≤l.base+fz∨(st=true∧fr=(sz,sz+1)))

def Ex.code:Ex→Option Code
 | .normal=>none
 | .exit id=>some (.exit id)
 | .goto l=>some (.goto l)
 | .ret=>some .ret
 | .pan=>some .skip
def Md.st:Md→LoopState
 | .ready=>.ready
 | .busy=>.busy
 | .done _=>.done
def Md.pe:Md→Option Code
 | .done e=>e.code
 | _=>none
def mO (P:Program) (μ:Mu) (w:World) (l:Loc):bp→Prop
 | .cells c e k=>∃ cc fr vs,w.heap[l.blk]?=some (.cells cc e fr)∧aA μ c=some vs∧l.base+c.length≤cc.size ∧
   (∀ (i:Nat) (v:Value),vs[i]?=some v→cc[l.base+i]?=some v)∧Ur P l c.length cc.size e fr k
 | .map es=>∃ ms ck,w.heap[l.blk]?=some (.map ms ck)∧aA μ (es.map (·.1))=some (ms.toList.map (·.key))∧aA μ (es.map (·.2))=some (ms.toList.map (·.val))
 | .iter s p=>w.heap[l.blk]?=some (.stringIter ⟨s.toArray⟩ p)∧l.base=0
 | .ghost=>True
 | .dead=>True
 | .void=>True
 | .loop σ ps az bd md=>∃ r:Loop,w.heap[l.blk]?=some (.loop r)∧aA μ σ=some r.tmps.toList∧r.params=ps.toArray∧r.assign=az∧r.body=bd∧r.state=md.st∧r.pending=md.pe

def wrt:bp→Bool
 | .cells _ _ .ro=>false
 | .cells _ _ _=>true
 | .map _=>true
 | .iter _ _=>true
 | .loop _ _ _ _ .busy=>false
 | .loop _ _ _ _ _=>true
 | _=>false
def B6:bp→Bool
 | .loop _ _ _ _ _=>true
 | _=>false
def apart (x:bp):Bool:=wrt x || B6 x
theorem xw {x:bp} (h:wrt x=true):apart x=true:=by unfold apart; rw [h]; rfl
def live:bp→Bool
 | .cells _ _ _=>true
 | .map _=>true
 | .iter _ _=>true
 | .loop _ _ _ _ _=>true
 | _=>false

structure Gh where
 Z:Nat→Prop
 W:World
 B:Nat→Prop
 X:List Deferred × Bool
def Gh.on (g:Gh) (X:List Deferred × Bool):Gh:={ g with B:=g.Z,X:=X }
def Gh.base (g:Gh):Gh:=g.on ([],false)

structure aY (P:Program) (g:Gh) (μ:Mu) (H:Hp) (w:World):Prop where
 dom:∀ b l,μ b=some l→b < H.length
 eK:∀ i,i < P.globals.size→∃ c,μ i=some ⟨i,0,c⟩
 lt:∀ b l,μ b=some l→l.blk < w.heap.size
 blk:∀ b l x,μ b=some l→H[b]?=some x→mO P μ w l x
 sep:∀ b b' l l' x x',b≠b'→μ b=some l→μ b'=some l'→H[b]?=some x→H[b']?=some x'→apart x=true→live x'=true→l.blk≠l'.blk
 own:∀ b l x,μ b=some l→H[b]?=some x→wrt x=true→¬ g.Z l.blk
 old:∀ k,g.Z k→k < w.heap.size∧w.heap[k]?=g.W.heap[k]?
 os:w.os=g.W.os
 tape:w.tape=g.W.tape
 output:w.output=g.W.output
 size:g.W.heap.size≤w.heap.size

theorem mO.mono {P:Program} {μ μ':Mu} {w w':World} {l:Loc} {x:bp} (h:mO P μ w l x) (hl:Le μ μ') (hw:live x=true→w'.heap[l.blk]?=w.heap[l.blk]?):mO P μ' w' l x:=by
 cases x with
 | cells c e k =>
  obtain ⟨cc,fr,vs,h1,h2,h3,h4,h5⟩:=h
  exact ⟨cc,fr,vs,(hw rfl).trans h1,cN hl _ h2,h3,h4,h5⟩
 | map es =>
  obtain ⟨ms,ck,h1,h2,h3⟩:=h
  exact ⟨ms,ck,(hw rfl).trans h1,cN hl _ h2,cN hl _ h3⟩
 | iter s p=>exact ⟨(hw rfl).trans h.1,h.2⟩
 | ghost=>trivial
 | dead=>trivial
 | void=>trivial
 | loop σ ps az bd md =>
  obtain ⟨r,h1,h2,h3⟩:=h
  exact ⟨r,(hw rfl).trans h1,cN hl _ h2,h3⟩

theorem aY.congr {P:Program} {g:Gh} {μ:Mu} {H:Hp} {w w':World} (h:aY P g μ H w) (hh:w'.heap=w.heap) (ho:w'.os=w.os) (ht:w'.tape=w.tape) (hp:w'.output=w.output):aY P g μ H w' where
 dom:=h.dom
 eK:=h.eK
 lt:=fun b l e=>by rw [hh]; exact h.lt b l e
 blk:=fun b l x e e'=>(h.blk b l x e e').mono (Le.refl μ) (fun _=>by rw [hh])
 sep:=h.sep
 own:=h.own
 old:=fun k hk=>by rw [hh]; exact h.old k hk
 os:=ho.trans h.os
 tape:=ht.trans h.tape
 output:=hp.trans h.output
 size:=by rw [hh]; exact h.size

theorem aY.drew {P:Program} {g:Gh} {μ:Mu} {H:Hp} {w:World} (h:aY P g μ H w):aY P g μ H w.drew:=h.congr rfl rfl rfl rfl

def upd (μ:Mu) (b:Nat) (l:Loc):Mu:=fun x=>if x=b then some l else μ x
theorem bI (μ:Mu) (b:Nat) (l:Loc):upd μ b l b=some l:=by simp [upd]
theorem bf (μ:Mu) {b x:Nat} (l:Loc) (h:x≠b):upd μ b l x=μ x:=by simp [upd,h]

theorem eS {μ:Mu} {n:Nat} {l:Loc}:∀ b,b < n→upd μ n l b=μ b:=fun b hb=>bf μ l (by omega)

theorem aY.fresh {P:Program} {g:Gh} {μ:Mu} {H:Hp} {w:World} (h:aY P g μ H w):μ H.length=none:=by
 cases e:μ H.length with
 | none=>rfl
 | some l=>exact absurd (h.dom _ _ e) (by omega)

theorem aY.dD {P:Program} {g:Gh} {μ:Mu} {H:Hp} {w:World} (h:aY P g μ H w) (l:Loc):Le μ (upd μ H.length l):=by
 intro b l' e
 rw [bf]
 ·exact e
 ·rintro rfl
  rw [h.fresh] at e
  cases e

theorem eL (H:Hp) (x:bp) (b:Nat):(H++[x])[b]?=if b=H.length then some x else H[b]?:=by
 by_cases h:b=H.length
 ·subst h; simp
 ·simp only [h,if_false]
  rcases Nat.lt_or_ge b H.length with hb | hb
  ·rw [List.getElem?_append_left hb]
  ·rw [List.getElem?_eq_none (by simp; omega),List.getElem?_eq_none hb]

theorem aY.new {P:Program} {g:Gh} {μ:Mu} {H:Hp} {w:World} (h:aY P g μ H w) (o:Obj) (x:bp) (cap:Nat)
  (hx:mO P μ (w.alloc o) ⟨w.heap.size,0,cap⟩ x):aY P g (upd μ H.length ⟨w.heap.size,0,cap⟩) (H++[x]) (w.alloc o) where
 dom:=fun b l e=>by
  by_cases hb:b=H.length
  ·subst hb; simp
  ·rw [bf _ _ hb] at e
   have:=h.dom b l e
   simp; omega
 eK:=fun i hi=>by
  obtain ⟨c,hc⟩:=h.eK i hi
  exact ⟨c,h.dD _ _ _ hc⟩
 lt:=fun b l e=>by
  by_cases hb:b=H.length
  ·subst hb; rw [bI] at e; cases e; simp
  ·rw [bf _ _ hb] at e
   have:=h.lt b l e
   simp; omega
 blk:=fun b l y e e'=>by
  rw [eL] at e'
  by_cases hb:b=H.length
  ·subst hb
   rw [bI] at e
   rw [if_pos rfl] at e'
   cases e; cases e'
   exact hx.mono (h.dD _) (fun _=>rfl)
  ·rw [bf _ _ hb] at e
   rw [if_neg hb] at e'
   exact (h.blk b l y e e').mono (h.dD _) (fun _=>by
    have:=h.lt b l e
    exact Go.RowKit.Below.heap_alloc w o _ this)
 sep:=fun b b' l l' y y' hne e e' f f' hw hl=>by
  rw [eL] at f f'
  by_cases hb:b=H.length <;> by_cases hb':b'=H.length
  ·omega
  ·subst hb
   rw [bI] at e; cases e
   rw [bf _ _ hb'] at e'
   have:=h.lt _ _ e'
   simp only; omega
  ·subst hb'
   rw [bI] at e'; cases e'
   rw [bf _ _ hb] at e
   have:=h.lt _ _ e
   simp only; omega
  ·rw [bf _ _ hb] at e
   rw [bf _ _ hb'] at e'
   rw [if_neg hb] at f
   rw [if_neg hb'] at f'
   exact h.sep b b' l l' y y' hne e e' f f' hw hl
 own:=fun b l y e f hw=>by
  rw [eL] at f
  by_cases hb:b=H.length
  ·subst hb
   rw [bI] at e; cases e
   intro hz
   have:=(h.old _ hz).1
   simp only at this
   omega
  ·rw [bf _ _ hb] at e
   rw [if_neg hb] at f
   exact h.own b l y e f hw
 old:=fun k hk=>by
  have:=h.old k hk
  exact ⟨by simp; omega,(Go.RowKit.Below.heap_alloc w o k this.1).trans this.2⟩
 os:=h.os
 tape:=h.tape
 output:=h.output
 size:=by have:=h.size; simp; omega

theorem aY.change' {P:Program} {g:Gh} {μ:Mu} {H:Hp} {w w':World} (h:aY P g μ H w) {b:Nat} {l:Loc} {x x':bp} (hb:μ b=some l) (hx:H[b]?=some x) (hw:apart x=true) (hlx:live x=true) (hnz:¬ g.Z l.blk)
  (hh:∀ k,k≠l.blk→w'.heap[k]?=w.heap[k]?) (hs:w'.heap.size=w.heap.size) (ho:w'.os=w.os) (ht:w'.tape=w.tape) (hp:w'.output=w.output)
  (hx':mO P μ w' l x'):aY P g μ (H.set b x') w':=by
 have hget:∀ c,(H.set b x')[c]?=if c=b then some x' else H[c]?:=by
  intro c
  have hlt:b < H.length:=(List.getElem?_eq_some_iff.1 hx).1
  rw [List.getElem?_set]
  by_cases hc:b=c
  ·subst hc; simp [hlt]
  ·rw [if_neg hc,if_neg (fun e=>hc e.symm)]
 exact {
  dom:=fun c m e=>by simpa using h.dom c m e
  eK:=h.eK
  lt:=fun c m e=>by rw [hs]; exact h.lt c m e
  blk:=fun c m y e f=>by
   rw [hget] at f
   by_cases hc:c=b
   ·subst hc
    rw [if_pos rfl] at f
    cases f
    rw [hb] at e; cases e
    exact hx'
   ·rw [if_neg hc] at f
    exact (h.blk c m y e f).mono (Le.refl μ) (fun hl=>hh _ (fun eq=>h.sep b c l m x y (fun z=>hc z.symm) hb e hx f hw hl eq.symm))
  sep:=fun c c' m m' y y' hne e e' f f' hwy hly=>by
   rw [hget] at f f'
   by_cases hc:c=b <;> by_cases hc':c'=b
   ·omega
   ·subst hc
    rw [if_neg hc'] at f'
    rw [hb] at e; cases e
    exact h.sep c c' l m' x y' hne hb e' hx f' hw hly
   ·subst hc'
    rw [if_neg hc] at f
    rw [hb] at e'; cases e'
    exact h.sep c c' m l y x hne e hb f hx hwy hlx
   ·rw [if_neg hc] at f
    rw [if_neg hc'] at f'
    exact h.sep c c' m m' y y' hne e e' f f' hwy hly
  own:=fun c m y e f hwy=>by
   rw [hget] at f
   by_cases hc:c=b
   ·subst hc
    rw [hb] at e; cases e
    exact hnz
   ·rw [if_neg hc] at f
    exact h.own c m y e f hwy
  old:=fun k hk=>by
   have:=h.old k hk
   have hne:k≠l.blk:=fun e=>hnz (e ▸ hk)
   exact ⟨by rw [hs]; exact this.1,(hh k hne).trans this.2⟩
  os:=ho.trans h.os
  tape:=ht.trans h.tape
  output:=hp.trans h.output
  size:=by rw [hs]; exact h.size }

theorem aY.change {P:Program} {g:Gh} {μ:Mu} {H:Hp} {w w':World} (h:aY P g μ H w) {b:Nat} {l:Loc} {x x':bp} (hb:μ b=some l) (hx:H[b]?=some x) (hw:wrt x=true)
  (hh:∀ k,k≠l.blk→w'.heap[k]?=w.heap[k]?) (hs:w'.heap.size=w.heap.size) (ho:w'.os=w.os) (ht:w'.tape=w.tape) (hp:w'.output=w.output)
  (hx':mO P μ w' l x'):aY P g μ (H.set b x') w' :=
 h.change' hb hx (xw hw) (by cases x <;> simp [wrt] at hw <;> rfl) (h.own b l x hb hx hw) hh hs ho ht hp hx'

theorem sP {x:bp} (h:live x=false):B6 x=false:=by cases x <;> first | rfl | cases h
theorem aY.kill {P:Program} {g:Gh} {μ:Mu} {H:Hp} {w:World} (h:aY P g μ H w) (b:Nat) {x:bp} (hx:live x=false) (hx2:wrt x=false) (hx3:∀ l,mO P μ w l x):aY P g μ (H.set b x) w where
 dom:=fun c m e=>by simpa using h.dom c m e
 eK:=h.eK
 lt:=h.lt
 blk:=fun c m y e f=>by
  rw [List.getElem?_set] at f
  split at f
  ·split at f
   ·cases f; exact hx3 m
   ·cases f
  ·exact h.blk c m y e f
 sep:=fun c c' m m' y y' hne e e' f f' hwy hly=>by
  rw [List.getElem?_set] at f f'
  split at f
  ·split at f
   ·cases f; simp [apart,hx2,sP hx] at hwy
   ·cases f
  ·split at f'
   ·split at f'
    ·cases f'; rw [hx] at hly; cases hly
    ·cases f'
   ·exact h.sep c c' m m' y y' hne e e' f f' hwy hly
 own:=fun c m y e f hwy=>by
  rw [List.getElem?_set] at f
  split at f
  ·split at f
   ·cases f; rw [hx2] at hwy; cases hwy
   ·cases f
  ·exact h.own c m y e f hwy
 old:=h.old
 os:=h.os
 tape:=h.tape
 output:=h.output
 size:=h.size

theorem aY.rename {P:Program} {g:Gh} {μ:Mu} {H:Hp} {w:World} (h:aY P g μ H w) {l:Loc} {x:bp} (hlt:l.blk < w.heap.size) (hz:¬ g.Z l.blk)
  (hno:∀ b m y,μ b=some m→H[b]?=some y→live y=true→m.blk≠l.blk) (hx:mO P μ w l x):aY P g (upd μ H.length l) (H++[x]) w where
 dom:=fun b m e=>by
  by_cases hb:b=H.length
  ·subst hb; simp
  ·rw [bf _ _ hb] at e
   have:=h.dom b m e
   simp; omega
 eK:=fun i hi=>by
  obtain ⟨c,hc⟩:=h.eK i hi
  exact ⟨c,h.dD _ _ _ hc⟩
 lt:=fun b m e=>by
  by_cases hb:b=H.length
  ·subst hb; rw [bI] at e; cases e; exact hlt
  ·rw [bf _ _ hb] at e
   exact h.lt b m e
 blk:=fun b m y e e'=>by
  rw [eL] at e'
  by_cases hb:b=H.length
  ·subst hb
   rw [bI] at e
   rw [if_pos rfl] at e'
   cases e; cases e'
   exact hx.mono (h.dD _) (fun _=>rfl)
  ·rw [bf _ _ hb] at e
   rw [if_neg hb] at e'
   exact (h.blk b m y e e').mono (h.dD _) (fun _=>rfl)
 sep:=fun b b' m m' y y' hne e e' f f' hw hl=>by
  rw [eL] at f f'
  by_cases hb:b=H.length <;> by_cases hb':b'=H.length
  ·omega
  ·subst hb
   rw [bI] at e; cases e
   rw [bf _ _ hb'] at e'
   rw [if_neg hb'] at f'
   exact (hno b' m' y' e' f' hl).symm
  ·subst hb'
   rw [bI] at e'; cases e'
   rw [bf _ _ hb] at e
   rw [if_neg hb] at f
   exact hno b m y e f (by cases y <;> simp [apart,wrt,B6] at hw <;> rfl)
  ·rw [bf _ _ hb] at e
   rw [bf _ _ hb'] at e'
   rw [if_neg hb] at f
   rw [if_neg hb'] at f'
   exact h.sep b b' m m' y y' hne e e' f f' hw hl
 own:=fun b m y e f hw=>by
  rw [eL] at f
  by_cases hb:b=H.length
  ·subst hb
   rw [bI] at e; cases e
   exact hz
  ·rw [bf _ _ hb] at e
   rw [if_neg hb] at f
   exact h.own b m y e f hw
 old:=h.old
 os:=h.os
 tape:=h.tape
 output:=h.output
 size:=h.size

theorem aY.rd {P:Program} {g:Gh} {μ:Mu} {H:Hp} {w:World} (h:aY P g μ H w) {b o n:Nat} {l:Loc} {c:List AV} (hb:μ b=some l) (hr:rd H b o n=some c) :
  ∃ vs,aA μ c=some vs∧vs.length=n∧w.rangeAt l.blk (l.base+o) vs:=by
 unfold V.rd at hr
 split at hr
 ·rename_i cs e k hx
  split at hr
  ·rename_i hle
   cases hr
   obtain ⟨cc,fr,vs,h1,h2,h3,h4,h5⟩:=h.blk b l _ hb hx
   have hlen:=aX h2
   refine ⟨(vs.drop o).take n,fB (gp h2 o) n,by simp; omega,?_⟩
   intro j v hv
   rw [List.getElem?_take] at hv
   split at hv
   ·rw [List.getElem?_drop] at hv
    have:=h4 (o+j) v hv
    simp only [World.cell?,h1,Option.isSome_none,Bool.false_eq_true,if_false]
    rw [Nat.add_assoc]; exact this
   ·cases hv
  ·cases hr
 ·split at hr
  ·rename_i hn
   cases hr
   exact ⟨[],rfl,hn.symm,fun j v hv=>by cases hv⟩
  ·cases hr
 ·cases hr

theorem aY.void {P:Program} {g:Gh} {μ:Mu} {H:Hp} {w:World} (h:aY P g μ H w) {l:Loc} (hl:l.blk < w.heap.size):aY P g (upd μ H.length l) (H++[.void]) w where
 dom:=fun b m e=>by
  by_cases hb:b=H.length
  ·subst hb; simp
  ·rw [bf _ _ hb] at e
   have:=h.dom b m e
   simp; omega
 eK:=fun i hi=>by
  obtain ⟨c,hc⟩:=h.eK i hi
  exact ⟨c,h.dD _ _ _ hc⟩
 lt:=fun b m e=>by
  by_cases hb:b=H.length
  ·subst hb; rw [bI] at e; cases e; exact hl
  ·rw [bf _ _ hb] at e; exact h.lt b m e
 blk:=fun b m x e e'=>by
  rw [eL] at e'
  by_cases hb:b=H.length
  ·rw [if_pos hb] at e'; cases e'; trivial
  ·rw [bf _ _ hb] at e
   rw [if_neg hb] at e'
   exact (h.blk b m x e e').mono (h.dD _) (fun _=>rfl)
 sep:=fun b b' l1 l2 x x' hne e1 e2 hx1 hx2 hw hv=>by
  rw [eL] at hx1 hx2
  by_cases hb:b=H.length
  ·rw [if_pos hb] at hx1; cases hx1; cases hw
  ·by_cases hb':b'=H.length
   ·rw [if_pos hb'] at hx2; cases hx2; cases hv
   ·rw [if_neg hb] at hx1; rw [if_neg hb'] at hx2
    rw [bf _ _ hb] at e1; rw [bf _ _ hb'] at e2
    exact h.sep b b' l1 l2 x x' hne e1 e2 hx1 hx2 hw hv
 own:=fun b l1 x e1 hx1 hw=>by
  rw [eL] at hx1
  by_cases hb:b=H.length
  ·rw [if_pos hb] at hx1; cases hx1; cases hw
  ·rw [if_neg hb] at hx1; rw [bf _ _ hb] at e1
   exact h.own b l1 x e1 hx1 hw
 old:=h.old
 os:=h.os
 tape:=h.tape
 output:=h.output
 size:=h.size

theorem ko (P:Program) (B o:Nat) (t:TypeId) (fz:Nat × Nat):∀ (vs:List Value) (i:Nat) (cur:Array Value) (w:World),w.heap[B]?=some (.cells cur t fz)→(∀ j,o+i≤j→j < o+i+vs.length→¬ (fz.1≤j∧j < fz.2))→o+i+vs.length≤cur.size→(∀ v ∈ vs,v.oneCell'=true) →
  (storeCells ⟨B,o,none⟩ vs i).run P w=.ok () (w.setRow B (cur.toList.take (o+i)++vs++cur.toList.drop (o+i+vs.length)).toArray)
 | [],i,cur,w,hg,_,_,_=>by
  simp only [storeCells,List.append_nil,List.length_nil,Nat.add_zero,List.take_append_drop,Array.toArray_toList]
  rw [setRow_self w B cur t fz hg]
  rfl
 | v::rest,i,cur,w,hg,hfz,hl,h1=>by
  have hi:o+i < cur.size:=by simp at hl; omega
  have hadd:(⟨B,o,none⟩:Addr).add i=⟨B,o+i,none⟩:=by unfold Addr.add; split <;> simp_all
  have hcell:w.cell? ⟨B,o+i,none⟩=some cur[o+i]:=by simp [World.cell?,hg,hi]
  have hfro:w.frozen? ⟨B,o+i,none⟩=false:=by
   have:=hfz (o+i) (by omega) (by simp)
   obtain ⟨lo,hi'⟩:=fz
   simp only [World.frozen?,hg]
   simp only at this
   rw [← Bool.not_eq_true]
   intro hc
   simp at hc
   exact this hc
  have hst:(store ((⟨B,o,none⟩:Addr).add i) v).run P w=.ok () (w.setRow B (cur.setIfInBounds (o+i) v)):=by
   rw [hadd,run_store P w _ v _ (h1 v (by simp)),hcell]
   simp [hfro,setCell_eq_setRow w B (o+i) cur t fz v hg]
  have ih:=ko P B o t fz rest (i+1) (cur.setIfInBounds (o+i) v) (w.setRow B (cur.setIfInBounds (o+i) v)) (setRow_heap w B cur _ t _ hg) (fun j h1 h2=>hfz j (by omega) (by simp; omega)) (by simp at hl ⊢; omega) (fun x hx=>h1 x (by simp [hx]))
  simp only [storeCells,Sem.run_bind,hst,Result.andThen_ok,ih,setRow_setRow]
  congr 3
  have e:=list_seg_step cur.toList (o+i) v rest (by simp at hl ⊢; omega)
  simpa [Array.toList_setIfInBounds,Nat.add_assoc] using e

theorem aY.wr {P:Program} {g:Gh} {μ:Mu} {H H':Hp} {w:World} {es:Ef} (h:aY P g μ H w) {b o:Nat} {l:Loc} {xs:List AV} {vs:List Value} (hb:μ b=some l) (hx:aA μ xs=some vs) (hr:wr H b o xs=some (H',es)) :
  ∃ w',(storeCells ⟨l.blk,l.base+o,none⟩ vs).run P w=.ok () w'∧aY P g μ H' w':=by
 unfold V.wr at hr
 split at hr
 ·rename_i c e k hbk
  split at hr
  ·rename_i hc
   obtain ⟨hc1,hc2,hc3⟩:=hc
   simp only [Option.some.injEq,Prod.mk.injEq] at hr
   obtain ⟨rfl,rfl⟩:=hr
   obtain ⟨cc,fr,us,h1,h2,h3,h4,h5⟩:=h.blk b l _ hb hbk
   have hlen:=aX h2
   have hlx:=aX hx
   have hst:=ko P l.blk (l.base+o) e fr vs 0 cc w h1 (fun j hj1 hj2=>by
     cases k with
     | ro=>simp [gE] at hc2
     | rw =>
      obtain ⟨_,_,hfr⟩:=h5
      rw [hfr]; simp
     | op fz st =>
      simp only [gE,decide_eq_true_eq] at hc2
      rcases h5.2 with hf | ⟨_,hf⟩
      ·omega
      ·rw [hf]; simp only; omega) (by omega) (uz hx hc3)
   refine ⟨_,hst,h.change hb hbk ?_ (fun k hk=>setRow_other w _ k _ hk) (setRow_size _ _ _) rfl rfl rfl ?_⟩
   ·cases k with
    | ro=>simp [gE] at hc2
    | rw=>rfl
    | op fz st=>rfl
   ·refine ⟨_,fr,_,setRow_heap w l.blk cc _ e fr h1,oZ h2 hx o,?_,?_,?_⟩
    ·simp only [splice,List.size_toArray,List.length_append,List.length_take,List.length_drop,Array.length_toList]
     omega
    ·intro i v hv
     simp only [Nat.add_zero]
     rw [List.getElem?_toArray]
     rw [List.append_assoc,List.getElem?_append] at hv
     rw [List.append_assoc,List.getElem?_append]
     simp only [List.length_take,Array.length_toList] at hv ⊢
     have e1:min (l.base+o) cc.size=l.base+o:=by omega
     have e2:min o us.length=o:=by omega
     rw [e1]; rw [e2] at hv
     by_cases hio:i < o
     ·rw [if_pos hio,List.getElem?_take,if_pos hio] at hv
      rw [if_pos (by omega),List.getElem?_take,if_pos (by omega)]
      simpa using h4 i v hv
     ·rw [if_neg hio,List.getElem?_append] at hv
      rw [if_neg (by omega),List.getElem?_append]
      have e3:l.base+i - (l.base+o)=i - o:=by omega
      rw [e3]
      by_cases hiv:i - o < vs.length
      ·rw [if_pos hiv] at hv
       rw [if_pos hiv]
       exact hv
      ·rw [if_neg hiv,List.getElem?_drop] at hv
       rw [if_neg hiv,List.getElem?_drop]
       have e4:l.base+o+vs.length+(i - o - vs.length)=l.base+i:=by omega
       have e5:o+vs.length+(i - o - vs.length)=i:=by omega
       rw [e4]; rw [e5] at hv
       simpa using h4 i v hv
    ·have hsl:(splice c o xs).length=c.length:=by
      simp only [splice,List.length_append,List.length_take,List.length_drop]
      omega
     rw [hsl]
     have hsz:(List.take (l.base+o+0) cc.toList++vs++List.drop (l.base+o+0+vs.length) cc.toList).toArray.size=cc.size:=by
      simp only [List.size_toArray,List.length_append,List.length_take,List.length_drop,Array.length_toList]
      omega
     rw [hsz]
     exact h5
  ·cases hr
 ·cases hr

section
variable {P:Program} {μ:Mu} {w:World}

theorem mK (s:List UInt8):(⟨s.toArray⟩:ByteArray).toList=s:=by
 rw [ByteArray.toList_eq]

theorem Kt {op : BinOp} {t : TypeId} {k : IntKind} {x y : Int} {v : AV} (h : eG op k x y = some v) :
    ∃ v', (Go.binOp op t (.int k x) (.int k y)).run P w = .ok v' w ∧ aB μ v = some v' := by
  unfold eG at h
  cases op <;> simp only [Option.some.injEq] at h <;>
    first
      | (subst h; exact ⟨_, by simp [Go.binOp, Op.intArith, Op.intBits, Op.intCmp], rfl⟩)
      | (split at h
         · cases h
         · rename_i hy
           simp only [Option.some.injEq] at h
           subst h
           exact ⟨_, by simp [Go.binOp, Op.intDiv, hy], rfl⟩)
      | (cases h; done)

theorem sZ {op:BinOp} {t:TypeId} {k k':IntKind} {x y:Int} {v:AV} (h:ig op k x y=some v) :
  ∃ v',(Go.binOp op t (.int k x) (.int k' y)).run P w=.ok v' w∧aB μ v=some v':=by
 unfold ig at h
 split at h
 ·cases h
 ·rename_i hy
  cases op <;> simp only [Option.some.injEq] at h <;>
   first
    | (cases h; done)
    | (subst h; exact ⟨_,by simp [Go.binOp,Op.shift,hy],rfl⟩)

theorem Kq {op : BinOp} {t : TypeId} {x y : List UInt8} {v : AV} (h : qS op x y = some v) :
    ∃ v', (Go.binOp op t (.string ⟨x.toArray⟩) (.string ⟨y.toArray⟩)).run P w = .ok v' w ∧ aB μ v = some v' := by
  unfold qS at h
  cases op <;> simp only [Option.some.injEq] at h <;>
    first
      | (cases h; done)
      | (subst h; exact ⟨_, by simp [Go.binOp, Op.stringOp, mK], rfl⟩)
      | (split at h
         · rename_i hl
           simp only [Option.some.injEq] at h
           subst h
           refine ⟨_, ?_, rfl⟩
           have h1 : ¬ ((((⟨x.toArray⟩ : ByteArray).size + (⟨y.toArray⟩ : ByteArray).size : Nat) : Int) > IntKind.i64.max) := by
             have e1 : (⟨x.toArray⟩ : ByteArray).size = x.length := by simp [ByteArray.size]
             have e2 : (⟨y.toArray⟩ : ByteArray).size = y.length := by simp [ByteArray.size]
             have e3 : IntKind.i64.max = 9223372036854775807 := by decide
             rw [e1, e2, e3]
             simp only [cg] at hl
             omega
           have h2 : (⟨x.toArray⟩ : ByteArray) ++ ⟨y.toArray⟩ = ⟨(x ++ y).toArray⟩ := by
             apply ByteArray.ext
             simp
           simp only [Go.binOp, Op.stringOp]
           rw [if_neg h1, h2]
           rfl
         · cases h)

theorem sR {t:TypeId} {b:Bool} (h:fN P t=some b):(isAgg t).run P w=.ok b w:=by
 unfold fN at h
 unfold isAgg
 rw [Sem.run_bind]
 split at h
 ·rename_i u; cases h; rw [run_underlying u]; rfl
 ·rename_i u; cases h; rw [run_underlying u]; rfl
 ·rename_i d hs ha u
  cases h
  rw [run_underlying u]
  cases d <;> first | rfl | (exact absurd rfl (hs _)) | (exact absurd rfl (ha _ _))
 ·cases h

theorem FL {t:TypeId} {b:Bool} (h:fN P t=some b):∃ d,P.underlying t=some d∧d.isRow=b:=by
 unfold fN at h
 split at h
 ·rename_i u; cases h; exact ⟨_,u,rfl⟩
 ·rename_i u; cases h; exact ⟨_,u,rfl⟩
 ·rename_i d hs ha u
  cases h
  refine ⟨d,u,?_⟩
  cases d <;> first | rfl | (exact absurd rfl (hs _)) | (exact absurd rfl (ha _ _))
 ·cases h

theorem mm {t:TypeId} {n:Nat} (h:cq P t=some n):(sizeOf t).run P w=.ok n w:=by
 unfold cq at h
 cases hi:P.info? t with
 | none=>simp [hi] at h
 | some i=>simp [hi] at h; simp [sizeOf,typeInfo,hi,h]

theorem mo {t:TypeId} {cs:List AV} {xs:List Value} {o:Nat} {v:AV} (hc:aA μ cs=some xs) (h:ox P t cs o=some v) :
  ∃ v',(part t xs.toArray o).run P w=.ok v' w∧aB μ v=some v':=by
 unfold ox at h
 split at h
 ·rename_i ht
  simp only [Option.bind_eq_some_iff] at h
  obtain ⟨n,hn,h⟩:=h
  split at h
  ·cases h
   refine ⟨.agg ((xs.drop o).take n).toArray,?_,by simp [aB,fB (gp hc o) n]⟩
   simp only [part,Sem.run_bind,sR (w:=w) ht,mm (w:=w) hn,Result.andThen_ok,if_true,Sem.run_pure]
   congr 2
   apply Array.ext'
   simp [List.extract_eq_take_drop]
  ·cases h
 ·rename_i ht
  have hg:=gX hc o
  rw [h] at hg
  simp only [Option.bind_some] at hg
  have hlt:o < cs.length:=(List.getElem?_eq_some_iff.1 h).1
  have hlen:=aX hc
  rw [List.getElem?_eq_getElem (by omega)] at hg
  refine ⟨_,?_,hg.symm⟩
  simp only [part,Sem.run_bind,sR (w:=w) ht,Result.andThen_ok]
  simp [List.getElem?_eq_getElem (show o < xs.length by omega)]
 ·cases h

theorem nJ {D:Nat} {eq:TypeId→AV→AV→Option Bool} (heq:∀ {t:TypeId} {x y:AV} {r:Bool} {x' y':Value},eq t x y=some r→aB μ x=some x'→aB μ y=some y'→(Op.equalIn D t x' y').run P w=.ok r w)
  {xs ys:List AV} {a b:List Value} (ha:aA μ xs=some a) (hb:aA μ ys=some b):∀ (l:List Field) {r:Bool},mH P eq l xs ys=some r→(Op.eqFields D a.toArray b.toArray l).run P w=.ok r w
 | [],r,h=>by simp only [mH] at h; cases h; rfl
 | f::l,r,h=>by
  simp only [mH] at h
  simp only [Op.eqFields]
  split at h
  ·rename_i hn
   simp only [hn,ne_eq,not_true_eq_false,if_false]
   exact nJ heq ha hb l h
  ·rename_i hn
   simp only [Option.bind_eq_some_iff] at h
   obtain ⟨x1,hx1,y1,hy1,r1,hr1,h⟩:=h
   obtain ⟨x2,ex,cx⟩:=mo (w:=w) ha hx1
   obtain ⟨y2,ey,cy⟩:=mo (w:=w) hb hy1
   have e1:=heq hr1 cx cy
   simp only [ne_eq,hn,not_false_eq_true,if_true,Sem.run_bind,ex,ey,e1,Result.andThen_ok]
   cases r1
   ·simp at h; subst h; simp
   ·simp at h
    simpa using nJ heq ha hb l h

theorem th {D n:Nat} {e:TypeId} {eq:TypeId→AV→AV→Option Bool} (heq:∀ {t:TypeId} {x y:AV} {r:Bool} {x' y':Value},eq t x y=some r→aB μ x=some x'→aB μ y=some y'→(Op.equalIn D t x' y').run P w=.ok r w)
  {xs ys:List AV} {a b:List Value} (ha:aA μ xs=some a) (hb:aA μ ys=some b):∀ (l:List Nat) {r:Bool},oR P eq e n xs ys l=some r→(Op.eqItems D e n a.toArray b.toArray l).run P w=.ok r w
 | [],r,h=>by simp only [oR] at h; cases h; rfl
 | i::l,r,h=>by
  simp only [oR,Option.bind_eq_some_iff] at h
  obtain ⟨x1,hx1,y1,hy1,r1,hr1,h⟩:=h
  obtain ⟨x2,ex,cx⟩:=mo (w:=w) ha hx1
  obtain ⟨y2,ey,cy⟩:=mo (w:=w) hb hy1
  have e1:=heq hr1 cx cy
  simp only [Op.eqItems,Sem.run_bind,ex,ey,e1,Result.andThen_ok]
  cases r1
  ·simp at h; subst h; simp
  ·simp at h
   simpa using th heq ha hb l h

set_option maxHeartbeats 2000000 in
theorem rz (d : Nat) : ∀ {t : TypeId} {x y : AV} {r : Bool} {x' y' : Value}, gj P d t x y = some r → aB μ x = some x' → aB μ y = some y' → ∀ D, d ≤ D → (Op.equalIn D t x' y').run P w = .ok r w := by
  induction d with
  | zero => intro _ _ _ _ _ _ h; simp [gj] at h
  | succ d ih =>
    intro t x y r x' y' h hx hy D hD
    obtain ⟨D, rfl⟩ : ∃ m, D = m + 1 := ⟨D - 1, by omega⟩
    have hD' : d ≤ D := by omega
    simp only [gj] at h
    split at h
    case h_10 tx vx ty vy u =>
      simp only [aB, Option.map_eq_some_iff] at hx hy
      obtain ⟨a, ha, rfl⟩ := hx
      obtain ⟨b, hb, rfl⟩ := hy
      split at h
      · cases h
        simp [Op.equalIn, run_underlying u, *]
      · rename_i he
        split at h
        · rename_i i hi
          split at h
          · rename_i hcmp
            have ih' := ih h ha hb D hD'
            have he' : tx = ty := by simpa using he
            subst he'
            simp [Op.equalIn, run_underlying u, typeInfo, hi, hcmp, ih']
          · cases h
        · cases h
    case h_11 fs xs ys u =>
      simp only [aB, Option.map_eq_some_iff] at hx hy
      obtain ⟨a, ha, rfl⟩ := hx
      obtain ⟨b, hb, rfl⟩ := hy
      split at h
      · cases h
      · rename_i hsi
        have hfo : P.fieldsOf t = fs := by simp [Program.fieldsOf, u]
        rw [run_equalIn_struct w D t a.toArray b.toArray (by rw [hfo]; exact u) (by simpa using hsi), hfo]
        exact nJ (fun h1 h2 h3 => ih h1 h2 h3 D hD') ha hb _ h
    case h_1 u => cases hx; cases hy; cases h; simp [Op.equalIn, run_underlying u]
    case h_2 u =>
      cases hx; cases hy
      split at h
      · rename_i hk; cases h; simp [Op.equalIn, run_underlying u, hk]
      · cases h
    case h_3 u => cases hx; cases hy; cases h; simp [Op.equalIn, run_underlying u, beq_toListBytes, mK]
    case h_4 u => cases hx; cases hy; cases h; simp [Op.equalIn, run_underlying u]
    case h_7 u => cases hx; cases hy; cases h; simp [Op.equalIn, run_underlying u]
    case h_12 l e xs ys u =>
      simp only [aB, Option.map_eq_some_iff] at hx hy
      obtain ⟨a, ha, rfl⟩ := hx
      obtain ⟨b, hb, rfl⟩ := hy
      simp only [Option.bind_eq_some_iff] at h
      obtain ⟨n, hn, h⟩ := h
      unfold cq at hn
      cases hi : P.info? e with
      | none => rw [hi] at hn; cases hn
      | some i =>
        rw [hi] at hn
        simp only [Option.map_some, Option.some.injEq] at hn
        rw [run_equalIn_array (w := w) D a.toArray b.toArray u hi]
        have hc : P.cellsOf e = n := by simp [Program.cellsOf, hi, hn]
        rw [hc]
        exact th (fun h1 h2 h3 => ih h1 h2 h3 D hD') ha hb _ h
    case h_13 u => cases hx; cases hy; cases h; simp [Op.equalIn, run_underlying u]
    case h_16 u => cases hx; cases hy; cases h; simp [Op.equalIn, run_underlying u]
    case h_19 u => cases hx; cases hy; cases h; simp [Op.equalIn, run_underlying u]
    case h_22 e b o b' o' u =>
      split at h
      · rename_i hh
        obtain ⟨rfl, rfl, hi⟩ := hh
        cases h
        rw [hx] at hy
        cases hy
        simp only [aB, Option.map_eq_some_iff] at hx
        obtain ⟨l, hl, rfl⟩ := hx
        obtain ⟨j, hj⟩ := Option.isSome_iff_exists.1 hi
        simp [Op.equalIn, run_underlying u, sizeOf, typeInfo, hj, run_sameAddr_same]
      · cases h
    case h_23 => cases h
    all_goals
      rename_i u
      cases h
      first
        | (cases hx
           simp only [aB, Option.map_eq_some_iff, Option.bind_eq_some_iff] at hy
           first | (obtain ⟨_, _, rfl⟩ := hy; simp [Op.equalIn, run_underlying u]; done) | (obtain ⟨_, _, _, _, rfl⟩ := hy; simp [Op.equalIn, run_underlying u]; done))
        | (cases hy
           simp only [aB, Option.map_eq_some_iff, Option.bind_eq_some_iff] at hx
           first | (obtain ⟨_, _, rfl⟩ := hx; simp [Op.equalIn, run_underlying u]; done) | (obtain ⟨_, _, _, _, rfl⟩ := hx; simp [Op.equalIn, run_underlying u]; done))
end
section
variable {P:Program} {μ:Mu} {w:World}

theorem tB {x:AV} {k:IntKind} {n:Int} (h:aB μ x=some (.int k n)):x=.int k n:=by
 cases x <;> simp [aB,Option.bind_eq_some_iff] at h
 obtain ⟨rfl,rfl⟩:=h
 rfl
theorem o5 {x:AV} {k:FloatKind} {n:Nat} (h:aB μ x=some (.float k n)):x=.float k n:=by
 cases x <;> simp [aB,Option.bind_eq_some_iff] at h
 obtain ⟨rfl,rfl⟩:=h
 rfl
theorem tA {x:AV} {s:ByteArray} (h:aB μ x=some (.string s)):x=.str s.data.toList:=by
 cases x <;> simp [aB,Option.bind_eq_some_iff] at h
 subst h
 simp
theorem tC {x:AV} {k:FloatKind} {a b:Nat} (h:aB μ x=some (.complex k a b)):False:=by
 cases x <;> simp [aB,Option.bind_eq_some_iff] at h
theorem qU {x:AV} (h:aB μ x=some .nilIface):x=.de:=by
 cases x <;> simp [aB,Option.bind_eq_some_iff] at h
 rfl
theorem tD {x:AV} {a:Array Value} (h:aB μ x=some (.agg a)):∃ cs,x=.agg cs∧aA μ cs=some a.toList:=by
 cases x <;> simp [aB,Option.bind_eq_some_iff] at h
 obtain ⟨l,hl,rfl⟩:=h
 exact ⟨_,rfl,by simpa using hl⟩

theorem wX {op:BinOp} {t:TypeId} {X Y:Operand} {x y:Value} (h:∀ a b,x=.agg a→y=.agg b→P.eqGuardType P.depth t=false) (h2:¬ (x=.nilIface∧y=.nilIface)) :
  (eqGuard op t X Y x y).run P w=.ok () w:=by
 unfold eqGuard
 cases op <;> try rfl
 all_goals
  cases x <;> first
   | rfl
   | (cases y <;> first
     | rfl
     | exact absurd ⟨rfl,rfl⟩ h2
     | (have e:=h _ _ rfl rfl; simp [e]))

theorem ue {t:TypeId} {x y:Value} (h1:∀ k a k' b,x=.int k a→y=.int k' b→False) (h2:∀ k a k' b,x=.float k a→y=.float k' b→False)
  (h3:∀ k a b k' c d,x=.complex k a b→y=.complex k' c d→False) (h4:∀ a b,x=.string a→y=.string b→False):Go.binOp .eql t x y=(do pure (.bool (← Op.equal t x y))):=by
 unfold Go.binOp
 split <;> first
  | rfl
  | contradiction
  | (exact (h1 _ _ _ _ rfl rfl).elim)
  | (exact (h2 _ _ _ _ rfl rfl).elim)
  | (exact (h3 _ _ _ _ _ _ rfl rfl).elim)
  | (exact (h4 _ _ rfl rfl).elim)
  | (rename_i hne _; exact absurd rfl hne)
  | (simp_all; done)

theorem ud {t:TypeId} {x y:Value} (h1:∀ k a k' b,x=.int k a→y=.int k' b→False) (h2:∀ k a k' b,x=.float k a→y=.float k' b→False)
  (h3:∀ k a b k' c d,x=.complex k a b→y=.complex k' c d→False) (h4:∀ a b,x=.string a→y=.string b→False):Go.binOp .neq t x y=(do pure (.bool (!(← Op.equal t x y)))):=by
 unfold Go.binOp
 split <;> first
  | rfl
  | contradiction
  | (exact (h1 _ _ _ _ rfl rfl).elim)
  | (exact (h2 _ _ _ _ rfl rfl).elim)
  | (exact (h3 _ _ _ _ _ _ rfl rfl).elim)
  | (exact (h4 _ _ rfl rfl).elim)
  | (simp_all; done)

theorem wU {d:Nat} {t:TypeId} {k k':FloatKind} {a b:Nat} {r:Bool} (h:gj P d t (.float k a) (.float k' b)=some r):False:=by
 cases d with
 | zero=>simp [gj] at h
 | succ d =>
  simp only [gj] at h
  split at h <;> first | (cases h; done) | contradiction

theorem wO {op:BinOp} {t:TypeId} {X Y:Operand} {x y:AV} {x' y':Value} {r:Bool} (hr:gj P 20 t x y=some r) (hx:aB μ x=some x') (hy:aB μ y=some y')
  (hg:∀ a b,x=.agg a→y=.agg b→P.eqGuardType P.depth t=false) (h1:∀ k a k' b,x=.int k a→y=.int k' b→False) (h4:∀ a b,x=.str a→y=.str b→False)
  (hn:x=.de→y=.de→False):(eqGuard op t X Y x' y').run P w=.ok () w∧Go.binOp .eql t x' y'=(do pure (.bool (← Op.equal t x' y')))∧Go.binOp .neq t x' y'=(do pure (.bool (!(← Op.equal t x' y')))):=by
 have k1:∀ k a k' b,x'=.int k a→y'=.int k' b→False:=by
  rintro k a k' b rfl rfl
  exact h1 _ _ _ _ (tB hx) (tB hy)
 have k2:∀ k a k' b,x'=.float k a→y'=.float k' b→False:=by
  rintro k a k' b rfl rfl
  rw [o5 hx,o5 hy] at hr
  exact wU hr
 have k3:∀ k a b k' c d,x'=.complex k a b→y'=.complex k' c d→False:=by
  rintro k a b k' c d rfl rfl
  exact tC hx
 have k4:∀ a b,x'=.string a→y'=.string b→False:=by
  rintro a b rfl rfl
  exact h4 _ _ (tA hx) (tA hy)
 refine ⟨wX ?_ ?_,ue k1 k2 k3 k4,ud k1 k2 k3 k4⟩
 ·rintro a b rfl rfl
  obtain ⟨c,rfl,_⟩:=tD hx
  obtain ⟨d,rfl,_⟩:=tD hy
  exact hg _ _ rfl rfl
 ·rintro ⟨rfl,rfl⟩
  exact hn (qU hx) (qU hy)

theorem Ku {op:BinOp} {t:TypeId} {X Y:Operand} {x y v:AV} {x' y':Value} (h:kS P op t x y=some v) (hx:aB μ x=some x') (hy:aB μ y=some y') :
  ∃ v',(do eqGuard op t X Y x' y'; Go.binOp op t x' y':Sem Value).run P w=.ok v' w∧aB μ v=some v':=by
 unfold kS at h
 split at h
 ·cases hx; cases hy
  rw [eqGuard_at_int]
  simpa using sZ (w:=w) (μ:=μ) (t:=t) h
 ·cases hx; cases hy
  rw [eqGuard_at_int]
  simpa using sZ (w:=w) (μ:=μ) (t:=t) h
 ·cases hx; cases hy
  rw [eqGuard_at_int]
  split at h
  ·rename_i hk; subst hk
   simpa using Kt (w:=w) (μ:=μ) (t:=t) h
  ·cases h
 ·cases hx; cases hy
  rw [eqGuard_at_string]
  simpa using Kq (w:=w) (μ:=μ) (t:=t) h
 ·split at h
  ·cases h
  ·rename_i hg
   simp only [Option.map_eq_some_iff] at h
   obtain ⟨r,hr,rfl⟩:=h
   have e1:=rz (w:=w) 20 hr hx hy Op.maxDepth (by decide)
   obtain ⟨g1,g2,g3⟩:=wO (op:=.eql) (X:=X) (Y:=Y) (w:=w) hr hx hy (fun _ _ _ _=>by simpa using hg) (fun _ _ _ _ e=>by cases e) (fun _ _ e=>by cases e) (fun e=>by cases e)
   exact ⟨.bool r,by rw [Sem.run_bind,g1,Result.andThen_ok,g2]; simp only [Op.equal,Sem.run_bind,e1,Result.andThen_ok,Sem.run_pure],rfl⟩
 ·split at h
  ·cases h
  ·rename_i hg
   simp only [Option.map_eq_some_iff] at h
   obtain ⟨r,hr,rfl⟩:=h
   have e1:=rz (w:=w) 20 hr hx hy Op.maxDepth (by decide)
   obtain ⟨g1,g2,g3⟩:=wO (op:=.neq) (X:=X) (Y:=Y) (w:=w) hr hx hy (fun _ _ _ _=>by simpa using hg) (fun _ _ _ _ e=>by cases e) (fun _ _ e=>by cases e) (fun e=>by cases e)
   exact ⟨.bool !r,by rw [Sem.run_bind,g1,Result.andThen_ok,g3]; simp only [Op.equal,Sem.run_bind,e1,Result.andThen_ok,Sem.run_pure],rfl⟩
 ·cases h
 ·cases h
 ·rename_i h1 h2 h3 h4
  simp only [Option.map_eq_some_iff] at h
  obtain ⟨r,hr,rfl⟩:=h
  have e1:=rz (w:=w) 20 hr hx hy Op.maxDepth (by decide)
  obtain ⟨g1,g2,g3⟩:=wO (op:=.eql) (X:=X) (Y:=Y) (w:=w) hr hx hy (fun a b ea eb=>(h3 a b ea eb).elim) (fun k a k' b ea eb=>h1 k a k' b ea eb) (fun a b ea eb=>h2 a b ea eb) (fun ea eb=>h4 ea eb)
  exact ⟨.bool r,by rw [Sem.run_bind,g1,Result.andThen_ok,g2]; simp only [Op.equal,Sem.run_bind,e1,Result.andThen_ok,Sem.run_pure],rfl⟩
 ·rename_i h1 h2 h3 h4
  simp only [Option.map_eq_some_iff] at h
  obtain ⟨r,hr,rfl⟩:=h
  have e1:=rz (w:=w) 20 hr hx hy Op.maxDepth (by decide)
  obtain ⟨g1,g2,g3⟩:=wO (op:=.neq) (X:=X) (Y:=Y) (w:=w) hr hx hy (fun a b ea eb=>(h3 a b ea eb).elim) (fun k a k' b ea eb=>h1 k a k' b ea eb) (fun a b ea eb=>h2 a b ea eb) (fun ea eb=>h4 ea eb)
  exact ⟨.bool !r,by rw [Sem.run_bind,g1,Result.andThen_ok,g3]; simp only [Op.equal,Sem.run_bind,e1,Result.andThen_ok,Sem.run_pure],rfl⟩
 ·cases h
end
def cont:bp→List AV
 | .cells c _ _=>c
 | .map es=>es.map (·.1)++es.map (·.2)
 | .loop σ _ _ _ _=>σ
 | _=>[]

def me (n:Nat) (H H':Hp) (es:Option Nat):Prop :=
 ∀ b,b < n→(∀ e,es=some e→b < e)→∀ x',H'[b]?=some x'→∃ x,H[b]?=some x∧∀ v ∈ cont x',v ∈ cont x∨flat v=true

theorem me.refl (n:Nat) (H:Hp) (es:Option Nat):me n H H es:=fun _ _ _ x' h=>⟨x',h,fun _ hv=>.inl hv⟩
theorem me.trans {n m:Nat} {H H1 H2:Hp} {e1 e2:Option Nat} (h:me n H H1 e1) (k:me m H1 H2 e2) (hn:n≤m):me n H H2 (eD e1 e2):=by
 intro b hb he x' hx'
 have h1:∀ e,e1=some e→b < e:=by
  intro e h; subst h
  cases e2 with
  | none=>exact he e rfl
  | some e2=>have:=he (min e e2) rfl; omega
 have h2:∀ e,e2=some e→b < e:=by
  intro e h; subst h
  cases e1 with
  | none=>exact he e rfl
  | some e1=>have:=he (min e1 e) rfl; omega
 obtain ⟨x1,hx1,k1⟩:=k b (by omega) h2 x' hx'
 obtain ⟨x,hx,k0⟩:=h b hb h1 x1 hx1
 refine ⟨x,hx,fun v hv=>?_⟩
 rcases k1 v hv with hv | hv
 ·exact k0 v hv
 ·exact .inr hv
theorem me.mono {n m:Nat} {H H':Hp} {e:Option Nat} (h:me n H H' e) (hm:m≤n):me m H H' e:=fun b hb he x' hx'=>h b (by omega) he x' hx'
theorem me.snoc {H:Hp} {x:bp} {es:Option Nat}:me H.length H (H++[x]) es:=fun b hb _ x' hx'=>by
 rw [List.getElem?_append_left hb] at hx'
 exact ⟨x',hx',fun _ hv=>.inl hv⟩
theorem me.set {n b:Nat} {H:Hp} {x y:bp} {es:Option Nat} (hx:H[b]?=some x) (hy:es=some b∨∀ v ∈ cont y,v ∈ cont x∨flat v=true):me n H (H.set b y) es:=fun c _ he x' hx'=>by
 rw [List.getElem?_set] at hx'
 split at hx'
 ·rename_i hbc
  subst hbc
  split at hx'
  ·cases hx'
   rcases hy with rfl | hy
   ·exact absurd (he b rfl) (by omega)
   ·exact ⟨x,hx,hy⟩
  ·cases hx'
 ·exact ⟨x',hx',fun _ hv=>.inl hv⟩

theorem u0:∀ {l:List AV},bK l=true→∀ v ∈ l,flat v=true
 | [],_,v,hv=>by cases hv
 | u::us,h,v,hv=>by
  simp only [bK,Bool.and_eq_true] at h
  cases hv with
  | head=>exact h.1
  | tail _ hv=>exact u0 h.2 v hv

def Uq (n:Nat) (H H':Hp) (ws:Option Nat):Prop:=∀ b,b < n→(∀ e,ws=some e→b < e)→H'[b]?=H[b]?

structure Inv (n:Nat) (H H':Hp) (e:Ef):Prop where
 ei:me n H H' e.es
 wi:Uq n H H' e.ws

theorem Inv.refl (n:Nat) (H:Hp) (e:Ef):Inv n H H e:=⟨me.refl _ _ _,fun _ _ _=>rfl⟩
theorem Inv.trans {n m:Nat} {H H1 H2:Hp} {e1 e2:Ef} (h:Inv n H H1 e1) (k:Inv m H1 H2 e2) (hn:n≤m):Inv n H H2 (e1.and e2):=by
 refine ⟨h.ei.trans k.ei hn,fun b hb he=>?_⟩
 have he':∀ e,eD e1.ws e2.ws=some e→b < e:=he
 have h1:∀ e,e1.ws=some e→b < e:=by
  intro e h
  rw [h] at he'
  cases h2:e2.ws with
  | none=>rw [h2] at he'; exact he' e rfl
  | some e2=>rw [h2] at he'; have:=he' (min e e2) rfl; omega
 have h2:∀ e,e2.ws=some e→b < e:=by
  intro e h
  rw [h] at he'
  cases h1:e1.ws with
  | none=>rw [h1] at he'; exact he' e rfl
  | some e1=>rw [h1] at he'; have:=he' (min e1 e) rfl; omega
 exact (k.wi b (by omega) h2).trans (h.wi b hb h1)
theorem Inv.mono {n m:Nat} {H H':Hp} {e:Ef} (h:Inv n H H' e) (hm:m≤n):Inv m H H' e:=⟨h.ei.mono hm,fun b hb he=>h.wi b (by omega) he⟩
theorem Inv.snoc {H:Hp} {x:bp} {e:Ef}:Inv H.length H (H++[x]) e:=⟨me.snoc,fun b hb _=>List.getElem?_append_left hb⟩
theorem Inv.set {n b:Nat} {H:Hp} {x y:bp} {e:Ef} (hx:H[b]?=some x) (hy:e.es=some b∨∀ v ∈ cont y,v ∈ cont x∨flat v=true) (hw:e.ws=some b):Inv n H (H.set b y) e :=
 ⟨me.set hx hy,fun c _ he=>by
  have:=he b hw
  rw [List.getElem?_set,if_neg (by omega)]⟩

theorem Inv.wr {n b o:Nat} {H H':Hp} {xs:List AV} {es:Ef} (h:wr H b o xs=some (H',es)):Inv n H H' es:=by
 unfold V.wr at h
 split at h
 ·rename_i c e k hb
  split at h
  ·simp only [Option.some.injEq,Prod.mk.injEq] at h
   obtain ⟨rfl,rfl⟩:=h
   refine Inv.set hb ?_ rfl
   by_cases hf:bK xs=true
   ·refine .inr fun v hv=>?_
    simp only [cont,splice,List.mem_append] at hv ⊢
    rcases hv with (hv | hv) | hv
    ·exact .inl (List.mem_of_mem_take hv)
    ·exact .inr (u0 hf v hv)
    ·exact .inl (List.mem_of_mem_drop hv)
   ·exact .inl (by simp [hf])
  ·cases h
 ·cases h

theorem vp {b o:Nat} {H H':Hp} {xs:List AV} {es:Ef} (h:wr H b o xs=some (H',es)):H'.length=H.length:=by
 unfold V.wr at h
 split at h
 ·split at h
  ·simp only [Option.some.injEq,Prod.mk.injEq] at h
   obtain ⟨rfl,rfl⟩:=h
   simp
  ·cases h
 ·cases h

structure Ok (P:Program) (g:Gh) (μ:Mu) (H:Hp) (r:AV × Hp × Ef) (μ':Mu) (v':Value) (w':World):Prop where
 le:Le μ μ'
 rel:aY P g μ' r.2.1 w'
 val:aB μ' r.1=some v'
 len:H.length≤r.2.1.length
 inv:Inv H.length H r.2.1 r.2.2
 dom:∀ b,b < H.length→μ' b=μ b

def Yields (P:Program) (g:Gh) (μ:Mu) (H:Hp) (w:World) (s:Sem Value) (r:AV × Hp × Ef):Prop :=
 ∃ μ' v' w',s.run P w=.ok v' w'∧Ok P g μ H r μ' v' w'
def TG (P:Program) (g:Gh) (μ:Mu) (H:Hp) (w:World) (s:Sem Unit) (r:AV × Hp × Ef):Prop :=
 ∃ μ' w',s.run P w=.ok () w'∧Ok P g μ H r μ' undef w'

section
variable {P:Program} {g:Gh} {μ:Mu} {H:Hp} {w:World}

theorem Yields.pure (h:aY P g μ H w) {s:Sem Value} {v:AV} (hv:∃ v',s.run P w=.ok v' w∧aB μ v=some v'):Yields P g μ H w s (v,H,z0) :=
 let ⟨v',h1,h2⟩:=hv
 ⟨μ,v',w,h1,Le.refl μ,h,h2,Nat.le_refl _,Inv.refl _ _ _,fun _ _=>rfl⟩

theorem EY (h:aY P g μ H w) {t:TypeId} {b o:Nat} {l:Loc} {v:AV} (hb:μ b=some l) (hv:ec P H t b o=some v) :
  ∃ v',(loadVar t ⟨l.blk,l.base+o,none⟩).run P w=.ok v' w∧aB μ v=some v':=by
 unfold ec at hv
 split at hv
 ·rename_i ht
  simp only [Option.bind_eq_some_iff,Option.map_eq_some_iff] at hv
  obtain ⟨n,hn,c,hc,rfl⟩:=hv
  obtain ⟨vs,h1,h2,h3⟩:=h.rd hb hc
  obtain ⟨d,hd,hr⟩:=FL ht
  exact ⟨_,run_loadVar_mid w _ _ t vs d h3 hd hr (by rw [h2]; exact hn),by simp [aB,h1]⟩
 ·rename_i ht
  simp only [Option.bind_eq_some_iff] at hv
  obtain ⟨c,hc,hv⟩:=hv
  obtain ⟨vs,h1,h2,h3⟩:=h.rd hb hc
  unfold one at hv
  split at hv
  ·rename_i v0
   cases hv
   simp only [aA,Option.bind_eq_some_iff,Option.map_eq_some_iff] at h1
   obtain ⟨x,hx,ys,hys,rfl⟩:=h1
   refine ⟨x,?_,hx⟩
   have:=h3 0 x rfl
   simp only [Nat.add_zero] at this
   simp only [loadVar,Sem.run_bind,sR (w:=w) ht,Result.andThen_ok,Bool.false_eq_true,if_false,run_load,this]
  ·cases hv
 ·cases hv

theorem Iv (h:aY P g μ H w) {t:TypeId} {b o:Nat} {l:Loc} {v:AV} {x:Value} {H':Hp} {es:Ef} (hb:μ b=some l) (hx:aB μ v=some x) (hv:jv P H t b o v=some (H',es)) :
  ∃ w',(storeVar t ⟨l.blk,l.base+o,none⟩ x).run P w=.ok () w'∧aY P g μ H' w'∧H'.length=H.length∧Inv H.length H H' es:=by
 unfold jv at hv
 split at hv
 ·rename_i n hn
  split at hv
  ·rename_i hl
   have hc:=lq hx
   obtain ⟨w',h1,h2⟩:=h.wr hb hc hv
   have hlen:=aX hc
   refine ⟨w',?_,h2,vp hv,Inv.wr hv⟩
   have hs:x.cells.size=n:=by rw [← Array.length_toList]; omega
   simp only [storeVar,Sem.run_bind,mm (w:=w) hn,Result.andThen_ok,hs,ne_eq,not_true_eq_false,if_false,h1]
  ·cases hv
 ·cases hv

theorem qZ {t:TypeId} {z:List AV} (h:cB P t=some z):∃ v,(zeroValue t).run P w=.ok v w∧aA μ z=some v.cells.toList:=by
 unfold cB at h
 simp only [Option.bind_eq_some_iff] at h
 obtain ⟨v,⟨i,hi,hz⟩,hv⟩:=h
 exact ⟨v,by simp [zeroValue,typeInfo,hi,hz],gY μ _ hv⟩

theorem xx {t:TypeId} {z:AV} (h:mZ P t=some z):∃ v,(zeroValue t).run P w=.ok v w∧aB μ z=some v:=by
 unfold mZ at h
 simp only [Option.bind_eq_some_iff] at h
 obtain ⟨v,⟨i,hi,hz⟩,hv⟩:=h
 exact ⟨v,by simp [zeroValue,typeInfo,hi,hz],o6 μ _ hv⟩

theorem mw (h:aY P g μ H w) (e:TypeId) {c:List AV} {xs:List Value} (hc:aA μ c=some xs) (cap:Nat) :
  aY P g (upd μ H.length ⟨w.heap.size,0,cap⟩) (H++[.cells c e .rw]) (w.alloc (.cells xs.toArray e)):=by
 refine h.new _ _ cap ⟨xs.toArray,(0,0),xs,heap_alloc_new w _,hc,?_,?_,?_⟩
 ·simp [aX hc]
 ·intro i v hv; simpa using hv
 ·exact ⟨rfl,by simp [aX hc],rfl⟩

theorem LG (h:aY P g μ H w) {e:TypeId} {z:List AV} (hz:cB P e=some z):Yields P g μ H w (Instr.alloc e true (.tuple #[])) (.ptr H.length 0,H++[.cells z e .rw],z0):=by
 obtain ⟨v,h1,h2⟩:=qZ (w:=w) (μ:=μ) hz
 refine ⟨_,.pointer (some ⟨w.heap.size,0,none⟩),_,?_,h.dD _,mw h e h2 0,?_,by simp,Inv.snoc,eS⟩
 ·simp [Instr.alloc,h1,newVar,newRow]
 ·simp [aB,bI]

theorem Rb (h:aY P g μ H w) {e:TypeId} {v:AV} {x:Value} (hx:aB μ v=some x):Yields P g μ H w (Instr.box e x) (.ptr H.length 0,H++[.cells (bH v) e .rw],z0):=by
 refine ⟨_,.pointer (some ⟨w.heap.size,0,none⟩),_,?_,h.dD _,mw h e (lq hx) 0,?_,by simp,Inv.snoc,eS⟩
 ·simp [Instr.box,newVar,newRow]
 ·simp [aB,bI]

theorem RE {op:UnOp} {x v:AV} {x':Value} (h:GS op x=some v) (hx:aB μ x=some x'):∃ v',(Op.unary op x').run P w=.ok v' w∧aB μ v=some v':=by
 unfold GS at h
 split at h
 ·cases hx; cases h; exact ⟨_,by simp [Op.unary,Op.intArith],rfl⟩
 ·cases hx
  unfold eG at h
  cases h; exact ⟨_,by simp [Op.unary,Op.intBits],rfl⟩
 ·cases hx; cases h; exact ⟨_,by simp [Op.unary],rfl⟩
 ·cases h

theorem b8 {t:TypeId} {e n b:Nat} (h:tsh P t=some (.slice e n b)):P.underlying t=some (.slice e)∧∃ i,P.info? e=some i∧i.size=n∧i.bytes=b:=by
 unfold tsh at h
 split at h <;> simp only [Option.map_eq_some_iff,Option.some.injEq,reduceCtorEq,Sh.slice.injEq,and_false,exists_false] at h
 rename_i u
 obtain ⟨i,hi,rfl,rfl,rfl⟩:=h
 exact ⟨u,i,hi,rfl,rfl⟩
theorem iT {t:TypeId} {l e n:Nat} (h:tsh P t=some (.array l e n)):P.underlying t=some (.array l e)∧∃ i,P.info? e=some i∧i.size=n:=by
 unfold tsh at h
 split at h <;> simp only [Option.map_eq_some_iff,Option.some.injEq,reduceCtorEq,Sh.array.injEq,and_false,exists_false] at h
 rename_i u
 obtain ⟨i,hi,rfl,rfl,rfl⟩:=h
 exact ⟨u,i,hi,rfl⟩
theorem iJ {t:TypeId} (h:tsh P t=some .str):P.underlying t=some .string:=by
 unfold tsh at h
 split at h <;> simp only [Option.map_eq_some_iff,Option.some.injEq,reduceCtorEq,and_false,exists_false] at h
 assumption
theorem mh {t k e:TypeId} (h:tsh P t=some (.map k e)):P.underlying t=some (.map k e):=by
 unfold tsh at h
 split at h <;> simp only [Option.map_eq_some_iff,Option.some.injEq,reduceCtorEq,Sh.map.injEq,and_false,exists_false] at h
 obtain ⟨rfl,rfl⟩:=h
 assumption
theorem n8 {t:TypeId} {k:IntKind} (h:tsh P t=some (.int k)):P.underlying t=some (.int k):=by
 unfold tsh at h
 split at h <;> simp only [Option.map_eq_some_iff,Option.some.injEq,reduceCtorEq,Sh.int.injEq,and_false,exists_false] at h
 subst h
 assumption
theorem Ih {t:TypeId} (h:tsh P t=some .bool):P.underlying t=some .bool:=by
 unfold tsh at h
 split at h <;> simp only [Option.map_eq_some_iff,Option.some.injEq,reduceCtorEq,and_false,exists_false] at h
 assumption
theorem nZ {t e:TypeId} (h:tsh P t=some (.ptr e)):P.underlying t=some (.pointer e):=by
 unfold tsh at h
 split at h <;> simp only [Option.map_eq_some_iff,Option.some.injEq,reduceCtorEq,Sh.ptr.injEq,and_false,exists_false] at h
 subst h
 assumption
theorem Et {t:TypeId} (h:tsh P t=some .upt):P.underlying t=some .unsafePointer:=by
 unfold tsh at h
 split at h <;> simp only [Option.map_eq_some_iff,Option.some.injEq,reduceCtorEq,and_false,exists_false] at h
 assumption
theorem ur {t:TypeId} (h:tsh P t=some .iface):∃ fs,P.underlying t=some (.interface fs):=by
 unfold tsh at h
 split at h <;> simp only [Option.map_eq_some_iff,Option.some.injEq,reduceCtorEq,and_false,exists_false] at h
 exact ⟨_,by assumption⟩
theorem ij {t:TypeId} {s:Sh} (h:tsh P t=some s):∃ d,P.underlying t=some d∧(s=.iface∨∀ ms,d≠.interface ms):=by
 unfold tsh at h
 split at h <;> simp only [Option.map_eq_some_iff,Option.some.injEq,reduceCtorEq] at h
 all_goals first
  | (rename_i u; exact ⟨_,u,.inl h.symm⟩)
  | (rename_i d h1 h2 h3 h4 h5 h6 h7 h8 h9 h10 h11 h12 u; exact ⟨_,u,.inr (fun ms e=>h10 ms e)⟩)
  | (rename_i u; exact ⟨_,u,.inr (fun ms e=>by cases e)⟩)

theorem dV {e n:Nat} {i:TypeInfo} (hi:P.info? e=some i) (hn:i.size=n):(sizeOf e).run P w=.ok n w:=mm (by simp [cq,hi,hn])

theorem AM {t f:Nat} {x:Nat × Nat × Bool} (h:bJ P t f=some x):∃ fs fl,P.underlying t=some (.struct fs)∧fs[f]?=some fl∧fl.offset=x.1∧cq P fl.type=some x.2.1∧fN P fl.type=some x.2.2:=by
 unfold bJ at h
 split at h
 ·rename_i fs u
  simp only [Option.bind_eq_some_iff,Option.map_eq_some_iff] at h
  obtain ⟨fl,h1,n,h2,a,h3,rfl⟩:=h
  exact ⟨fs,fl,u,h1,rfl,h2,h3⟩
 ·cases h

theorem wP {t f b o:Nat} {x:Nat × Nat × Bool} {l:Loc} (h:bJ P t f=some x) (hz:x.2.1≠0) (hb:μ b=some l) :
  ∃ v',(Instr.fieldAt t (.pointer (some ⟨l.blk,l.base+o,none⟩)) f).run P w=.ok v' w∧aB μ (.ptr b (o+x.1))=some v':=by
 obtain ⟨fs,fl,h1,h2,h3,h4,h5⟩:=AM h
 refine ⟨.pointer (some ⟨l.blk,l.base+(o+x.1),none⟩),?_,by simp [aB,hb]⟩
 simp only [Instr.fieldAt,Sem.run_bind,run_underlying h1,Result.andThen_ok,h2,Instr.sureAddr,Sem.run_pure,fieldPlace,mm (w:=w) h4,Sem.run_ite]
 rw [if_neg hz,h3]
 simp [Addr.add_mid,Nat.add_assoc]

theorem AN {t f:Nat} {x:Nat × Nat × Bool} {cs:List AV} {xs:List Value} {v:AV} (h:bJ P t f=some x) (hc:aA μ cs=some xs)
  (hv:(if x.2.2 then (if x.1+x.2.1≤cs.length then some (.agg ((cs.drop x.1).take x.2.1)) else none) else cs[x.1]?)=some v) :
  ∃ v',(Instr.field t (.agg xs.toArray) f).run P w=.ok v' w∧aB μ v=some v':=by
 obtain ⟨fs,fl,h1,h2,h3,h4,h5⟩:=AM h
 have hp:ox P fl.type cs x.1=some v:=by
  unfold ox
  rw [h5,h4]
  cases hx:x.2.2
  ·simpa [hx] using hv
  ·simpa [hx] using hv
 obtain ⟨v',e1,e2⟩:=mo (w:=w) hc hp
 refine ⟨v',?_,e2⟩
 simp only [Instr.field,Sem.run_bind,run_underlying h1,Result.andThen_ok,h2,asAgg,Sem.run_pure,h3,e1]

theorem JT {t:TypeId} {x i v:AV} {x' i':Value} (h:mG P t x i=some v) (hx:aB μ x=some x') (hi:aB μ i=some i') :
  ∃ v',(Instr.index t x' i').run P w=.ok v' w∧aB μ v=some v':=by
 unfold mG at h
 split at h
 ·rename_i s k i ht
  cases hx; cases hi
  split at h
  ·rename_i h0
   simp only [Option.map_eq_some_iff] at h
   obtain ⟨b,hb,rfl⟩:=h
   refine ⟨.int .u8 b.toNat,?_,rfl⟩
   have hb':(⟨s.toArray⟩:ByteArray)[i.toNat]?=some b:=by
    have hlt:i.toNat < s.length:=(List.getElem?_eq_some_iff.1 hb).1
    have hlt':i.toNat < (⟨s.toArray⟩:ByteArray).size:=by simpa [ByteArray.size] using hlt
    rw [getElem?_pos (⟨s.toArray⟩:ByteArray) i.toNat hlt']
    have:s[i.toNat]=b:=(List.getElem?_eq_some_iff.1 hb).2
    rw [← this]
    rfl
   simp only [Instr.index,asIntOf,Sem.run_bind,Sem.run_pure,Result.andThen_ok,run_underlying (iJ ht),h0,if_true,hb']
  ·cases h
 ·rename_i l e n cs k i ht
  obtain ⟨u,inf,hinf,hn⟩:=iT ht
  cases hi
  simp only [aB,Option.map_eq_some_iff] at hx
  obtain ⟨xs,hxs,rfl⟩:=hx
  split at h
  ·rename_i hb
   obtain ⟨v',e1,e2⟩:=mo (w:=w) hxs h
   refine ⟨v',?_,e2⟩
   simp only [Instr.index,asIntOf,Sem.run_bind,Sem.run_pure,Result.andThen_ok,run_underlying u,Sem.run_ite,if_pos hb,dV (w:=w) hinf hn,e1]
  ·cases h
 ·cases h

theorem wH {t:TypeId} {x i v:AV} {x' i':Value} (h:aN P t x i=some v) (hx:aB μ x=some x') (hi:aB μ i=some i') :
  ∃ v',(Instr.indexAt t x' i').run P w=.ok v' w∧aB μ v=some v':=by
 unfold aN at h
 split at h
 ·rename_i e z by_ b o n c k i ht
  obtain ⟨u,inf,hinf,hn,_⟩:=b8 ht
  cases hi
  simp only [aB,Option.map_eq_some_iff] at hx
  obtain ⟨l,hl,rfl⟩:=hx
  split at h
  ·rename_i hb
   cases h
   refine ⟨.pointer (some ⟨l.blk,l.base+(o+i.toNat*z),none⟩),?_,by simp [aB,hl]⟩
   simp only [Instr.indexAt,asIntOf,Sem.run_bind,Sem.run_pure,Result.andThen_ok,run_underlying u,Sem.run_ite,if_pos hb,dV (w:=w) hinf hn]
   simp [Addr.add_mid,Nat.add_assoc]
  ·cases h
 ·rename_i n e z b o k i ht
  obtain ⟨u,inf,hinf,hn⟩:=iT ht
  cases hi
  simp only [aB,Option.map_eq_some_iff] at hx
  obtain ⟨l,hl,rfl⟩:=hx
  split at h
  ·rename_i hb
   cases h
   refine ⟨.pointer (some ⟨l.blk,l.base+(o+i.toNat*z),none⟩),?_,by simp [aB,hl]⟩
   simp only [Instr.indexAt,Instr.sureAddr,asIntOf,Sem.run_bind,Sem.run_pure,Result.andThen_ok,run_underlying u,Sem.run_ite,if_pos hb,dV (w:=w) hinf hn]
   simp [Addr.add_mid,Nat.add_assoc]
  ·cases h
 ·cases h
end
section
variable {P:Program} {g:Gh} {μ:Mu} {H:Hp} {w:World}

theorem dc {k:IntKind} {i:Int} {y:Nat} {code:BoundsCode} (h:0≤i∧i≤(y:Int)):(Instr.sliceBound (.int k i) y code).run P w=.ok i.toNat w:=by
 simp only [Instr.sliceBound,asIntOf,Sem.run_bind,Sem.run_pure,Result.andThen_ok,Sem.run_ite,if_pos h]

theorem nP {isS:Bool} {low high:Option AV} {low' high':Option Value} {len cap:Nat} {r:Nat × Nat} (h:bnd low high len cap=some r)
  (hl:low'.map some=low.map (aB μ)) (hh:high'.map some=high.map (aB μ)) (cap':Nat) (hc:cap≤cap') :
  (Instr.sliceBounds isS len cap' low' high' none).run P w=.ok (r.1,r.2,cap') w:=by
 unfold bnd at h
 split at h
 ·rename_i k hv
  cases high' <;> simp [aB] at hh
  subst hh
  split at h
  ·rename_i h1
   have h1':0≤hv∧hv≤(cap':Int):=⟨h1.1,by omega⟩
   split at h
   ·rename_i k2 lv
    cases low' <;> simp [aB] at hl
    subst hl
    split at h
    ·rename_i h2
     cases h
     have h2':0≤lv∧lv≤((hv.toNat:Nat):Int):=⟨h2.1,by omega⟩
     simp only [Instr.sliceBounds,Sem.run_bind,Sem.run_pure,Result.andThen_ok,dc h1',dc h2']
    ·cases h
   ·cases low' <;> simp at hl
    cases h
    simp only [Instr.sliceBounds,Sem.run_bind,Sem.run_pure,Result.andThen_ok,dc h1']
   ·cases h
  ·cases h
 ·cases high' <;> simp at hh
  split at h
  ·rename_i k2 lv
   cases low' <;> simp [aB] at hl
   subst hl
   split at h
   ·rename_i h2
    cases h
    simp only [Instr.sliceBounds,Sem.run_bind,Sem.run_pure,Result.andThen_ok,dc h2]
   ·cases h
  ·cases low' <;> simp at hl
   cases h
   simp [Instr.sliceBounds]
  ·cases h
 ·cases h

theorem xm {low high:Option AV} {low' high':Option Value} {len cap:Nat} {m:Int} {k:IntKind} {r:Nat × Nat} (h0:0≤m) (h1:m≤cap) (hs:high.isSome=true) (h:bnd low high len m.toNat=some r)
  (hl:low'.map some=low.map (aB μ)) (hh:high'.map some=high.map (aB μ)) :
  (Instr.sliceBounds true len cap low' high' (some (.int k m))).run P w=.ok (r.1,r.2,m.toNat) w:=by
 unfold bnd at h
 have hm:0≤m∧m≤(cap:Int):=⟨h0,h1⟩
 split at h
 ·rename_i k hv
  cases high' <;> simp [aB] at hh
  subst hh
  split at h
  ·rename_i h1
   split at h
   ·rename_i k2 lv
    cases low' <;> simp [aB] at hl
    subst hl
    split at h
    ·rename_i h2
     cases h
     have h2':0≤lv∧lv≤((hv.toNat:Nat):Int):=⟨h2.1,by omega⟩
     simp only [Instr.sliceBounds,Sem.run_bind,Sem.run_pure,Result.andThen_ok,dc h1,dc h2',dc hm]
    ·cases h
   ·cases low' <;> simp at hl
    cases h
    simp only [Instr.sliceBounds,Sem.run_bind,Sem.run_pure,Result.andThen_ok,dc h1,dc hm]
   ·cases h
  ·cases h
 ·cases hs
 ·cases h

theorem K4 {low high:Option AV} {len cap:Nat} {r:Nat × Nat} (h:bnd low high len cap=some r):r.1≤r.2∧(r.2≤cap∨high=none∧r.2=len):=by
 unfold bnd at h
 split at h
 ·split at h
  ·split at h
   ·split at h
    ·cases h; simp only; omega
    ·cases h
   ·cases h; simp only; omega
   ·cases h
  ·cases h
 ·split at h
  ·split at h
   ·cases h; simp only; exact ⟨by omega,.inr (by simp)⟩
   ·cases h
  ·cases h; exact ⟨Nat.zero_le _,.inr (by simp)⟩
  ·cases h
 ·cases h

theorem sH (h:aY P g μ H w) {b o k z q:Nat} {e:TypeId} {l:Loc} (hb:μ b=some l) (hz:cq P e=some z) (hq:known H b o k z e=some q):q≤l.cap - k∧0 < z∧o=k*z:=by
 unfold known at hq
 split at hq
 ·rename_i c e' fz st hx
  split at hq
  ·rename_i hc
   cases hq
   obtain ⟨rfl,hz0,rfl⟩:=hc
   obtain ⟨cc,fr,vs,h1,h2,h3,h4,⟨⟨i,hi,hi0,hsz⟩,_⟩⟩:=h.blk b l _ hb hx
   have hiz:i.size=z:=by simpa [cq,hi] using hz
   rw [hiz] at hsz
   refine ⟨?_,hz0,rfl⟩
   have h5:c.length≤l.cap*z:=by omega
   have h6:(c.length - k*z)≤(l.cap - k)*z:=by rw [Nat.sub_mul]; omega
   calc (c.length - k*z) / z≤((l.cap - k)*z) / z:=Nat.div_le_div_right h6
    _=l.cap - k:=Nat.mul_div_cancel _ hz0
  ·cases hq
 ·cases hq

theorem IG (h:aY P g μ H w) {t:TypeId} {x v:AV} {x':Value} {low high mx:Option AV} {low' high' mx':Option Value} (hv:eJ P t x low high mx H=some v) (hx:aB μ x=some x')
  (hl:low'.map some=low.map (aB μ)) (hh:high'.map some=high.map (aB μ)) (hm:mx'.map some=mx.map (aB μ)) :
  ∃ v',(Instr.sliceAt t x' low' high' mx').run P w=.ok v' w∧aB μ v=some v':=by
 unfold eJ at hv
 split at hv
 ·rename_i s ht
  cases mx' <;> simp at hm
  simp only [Option.map_eq_some_iff] at hv
  obtain ⟨r,hr,rfl⟩:=hv
  cases hx
  have hb:=nP (P:=P) (w:=w) (isS:=false) hr hl hh s.length (Nat.le_refl _)
  refine ⟨_,?_,rfl⟩
  have hsz:(⟨s.toArray⟩:ByteArray).size=s.length:=by simp [ByteArray.size]
  simp only [Instr.sliceAt,Instr.slice,Sem.run_bind,run_underlying (iJ ht),Result.andThen_ok,Option.isSome_none,Bool.false_eq_true,if_false,hsz,hb,Sem.run_pure]
  congr 2
  apply ByteArray.ext
  apply Array.ext'
  simp [List.extract_eq_take_drop]
 ·rename_i e z by_ ht
  cases mx' <;> simp at hm
  simp only [Option.map_eq_some_iff] at hv
  obtain ⟨r,hr,rfl⟩:=hv
  cases hx
  obtain ⟨u,inf,hinf,hn,_⟩:=b8 ht
  have hb:=nP (P:=P) (w:=w) (isS:=true) hr hl hh 0 (Nat.le_refl _)
  have hle:=K4 hr
  have h1:r.1=0:=by omega
  have h2:r.2=0:=by omega
  rw [h1,h2] at hb
  refine ⟨.slice none 0 0,?_,rfl⟩
  simp only [Instr.sliceAt,Instr.slice,Sem.run_bind,run_underlying u,Result.andThen_ok,hb,dV (w:=w) hinf hn,Sem.run_pure,if_true]
 ·rename_i e z by_ k m ht
  cases mx' <;> simp [aB] at hm
  subst hm
  split at hv
  ·rename_i hcnd
   simp only [Option.map_eq_some_iff] at hv
   obtain ⟨r,hr,rfl⟩:=hv
   cases hx
   obtain ⟨rfl,hhs⟩:=hcnd
   obtain ⟨u,inf,hinf,hn,_⟩:=b8 ht
   have hb:=xm (P:=P) (w:=w) (k:=k) (m:=0) (cap:=0) (len:=0) (by omega) (by omega) hhs (by simpa using hr) hl hh
   have hle:=K4 hr
   have h1:r.1=0:=by omega
   have h2:r.2=0:=by omega
   rw [h1,h2] at hb
   refine ⟨.slice none 0 0,?_,rfl⟩
   simp only [Instr.sliceAt,Instr.slice,Sem.run_bind,run_underlying u,Result.andThen_ok,hb,dV (w:=w) hinf hn,Sem.run_pure]
   rfl
  ·cases hv
 ·rename_i e z by_ b o n c ht
  cases mx' <;> simp at hm
  simp only [Option.map_eq_some_iff] at hv
  obtain ⟨r,hr,rfl⟩:=hv
  simp only [aB,Option.map_eq_some_iff] at hx
  obtain ⟨l,hlb,rfl⟩:=hx
  obtain ⟨u,inf,hinf,hn,_⟩:=b8 ht
  have hb:=nP (P:=P) (w:=w) (isS:=true) hr hl hh c (Nat.le_refl _)
  refine ⟨_,?_,by simp only [aB,hlb,Option.map_some]; rfl⟩
  simp only [Instr.sliceAt,Instr.slice,Sem.run_bind,run_underlying u,Result.andThen_ok,hb,dV (w:=w) hinf hn,Sem.run_pure]
  by_cases hc:c=r.1 <;> simp [hc,Addr.add_mid,Nat.add_assoc]
 ·rename_i e z by_ b o n c k m ht
  cases mx' <;> simp [aB] at hm
  subst hm
  split at hv
  ·rename_i hcnd
   simp only [Option.map_eq_some_iff] at hv
   obtain ⟨r,hr,rfl⟩:=hv
   simp only [aB,Option.map_eq_some_iff] at hx
   obtain ⟨l,hlb,rfl⟩:=hx
   obtain ⟨u,inf,hinf,hn,_⟩:=b8 ht
   have hb:=xm (P:=P) (w:=w) (k:=k) hcnd.1 hcnd.2.1 hcnd.2.2 hr hl hh
   refine ⟨_,?_,by simp only [aB,hlb,Option.map_some]; rfl⟩
   simp only [Instr.sliceAt,Instr.slice,Sem.run_bind,run_underlying u,Result.andThen_ok,hb,dV (w:=w) hinf hn,Sem.run_pure]
   by_cases hc:m.toNat=r.1 <;> simp [hc,Addr.add_mid,Nat.add_assoc]
  ·cases hv
 ·rename_i e z by_ b o n k ht
  cases mx' <;> simp at hm
  simp only [Option.bind_eq_some_iff] at hv
  obtain ⟨q,hq,r,hr,hv⟩:=hv
  split at hv
  ·rename_i hcnd
   cases hv
   simp only [aB,Option.map_eq_some_iff] at hx
   obtain ⟨l,hlb,rfl⟩:=hx
   obtain ⟨u,inf,hinf,hn,_⟩:=b8 ht
   obtain ⟨k1,k2,k3⟩:=sH h hlb (by simp [cq,hinf,hn]) hq
   have hb:=nP (P:=P) (w:=w) (isS:=true) hr hl hh (l.cap - k) k1
   refine ⟨_,?_,by simp only [aB,hlb,Option.map_some]; rfl⟩
   simp only [Instr.sliceAt,Instr.slice,Sem.run_bind,run_underlying u,Result.andThen_ok,hb,dV (w:=w) hinf hn,Sem.run_pure]
   by_cases h0:r.1=0
   ·simp [h0]
    intro _
    simp [Addr.add]
   ·rw [if_neg (by omega)]
    simp [Addr.add_mid,Nat.add_assoc]
    omega
  ·cases hv
 ·rename_i e z by_ b o n k km m ht
  cases mx' <;> simp [aB] at hm
  subst hm
  simp only [Option.bind_eq_some_iff] at hv
  obtain ⟨q,hq,hv⟩:=hv
  split at hv
  ·rename_i hcnd
   simp only [Option.map_eq_some_iff] at hv
   obtain ⟨r,hr,rfl⟩:=hv
   simp only [aB,Option.map_eq_some_iff] at hx
   obtain ⟨l,hlb,rfl⟩:=hx
   obtain ⟨u,inf,hinf,hn,_⟩:=b8 ht
   obtain ⟨k1,k2,k3⟩:=sH h hlb (by simp [cq,hinf,hn]) hq
   have hb:=xm (P:=P) (w:=w) (k:=km) (cap:=l.cap - k) hcnd.1 (by omega) hcnd.2.2 hr hl hh
   refine ⟨_,?_,by simp only [aB,hlb,Option.map_some]; rfl⟩
   simp only [Instr.sliceAt,Instr.slice,Sem.run_bind,run_underlying u,Result.andThen_ok,hb,dV (w:=w) hinf hn,Sem.run_pure]
   by_cases hc:m.toNat=r.1 <;> simp [hc,Addr.add_mid,Nat.add_assoc]
  ·cases hv
 ·rename_i arr b o ht
  cases mx' <;> simp at hm
  split at hv
  ·rename_i n e z hta
   simp only [Option.map_eq_some_iff] at hv
   obtain ⟨r,hr,rfl⟩:=hv
   simp only [aB,Option.map_eq_some_iff] at hx
   obtain ⟨l,hlb,rfl⟩:=hx
   obtain ⟨u,inf,hinf,hn⟩:=iT hta
   have hb:=nP (P:=P) (w:=w) (isS:=false) hr hl hh n (Nat.le_refl _)
   refine ⟨_,?_,by simp only [aB,hlb,Option.map_some]; rfl⟩
   simp only [Instr.sliceAt,Instr.slice,Sem.run_bind,run_underlying (nZ ht),run_underlying u,Result.andThen_ok,asAddr,hb,dV (w:=w) hinf hn,Sem.run_pure]
   by_cases hc:n=r.1 <;> simp [hc,Addr.add_mid,Nat.add_assoc]
  ·cases hv
 ·rename_i n e z b o ht
  cases mx' <;> simp at hm
  simp only [Option.map_eq_some_iff] at hv
  obtain ⟨r,hr,rfl⟩:=hv
  simp only [aB,Option.map_eq_some_iff] at hx
  obtain ⟨l,hlb,rfl⟩:=hx
  obtain ⟨u,inf,hinf,hn⟩:=iT ht
  have hb:=nP (P:=P) (w:=w) (isS:=false) hr hl hh n (Nat.le_refl _)
  refine ⟨_,?_,by simp only [aB,hlb,Option.map_some]; rfl⟩
  simp only [Instr.sliceAt,Sem.run_bind,run_underlying u,Result.andThen_ok,Instr.sureAddr,hb,dV (w:=w) hinf hn,Sem.run_pure]
  by_cases hc:n=r.1 <;> simp [hc,Addr.add_mid,Nat.add_assoc]
 ·cases hv
theorem FT (h:aY P g μ H w) {t:TypeId} {x:AV} {r:AV × Hp} {x':Value} {low high mx:Option AV} {low' high' mx':Option Value} (hv:ew P t x low high mx H=some r) (hx:aB μ x=some x')
  (hl:low'.map some=low.map (aB μ)) (hh:high'.map some=high.map (aB μ)) (hm:mx'.map some=mx.map (aB μ)):Yields P g μ H w (Instr.sliceAt t x' low' high' mx') (r.1,r.2,z0):=by
 unfold ew at hv
 split at hv
 ·rename_i e z by_ b o n k ht
  cases mx' <;> simp at hm
  simp only [Option.bind_eq_some_iff] at hv
  obtain ⟨q,hq,r',hr,hv⟩:=hv
  split at hv
  ·rename_i hcnd
   cases hv
   simp only [aB,Option.map_eq_some_iff] at hx
   obtain ⟨l,hlb,rfl⟩:=hx
   obtain ⟨u,inf,hinf,hn,_⟩:=b8 ht
   obtain ⟨k1,k2,k3⟩:=sH h hlb (by simp [cq,hinf,hn]) hq
   have hb:=nP (P:=P) (w:=w) (isS:=true) hr hl hh (l.cap - k) k1
   have hlt:=h.lt b l hlb
   refine ⟨upd μ H.length ⟨l.blk,if l.cap - k=r'.1 then l.base+o else l.base+o+r'.1*z,l.cap - k - r'.1⟩,.slice (some ⟨l.blk,if l.cap - k=r'.1 then l.base+o else l.base+o+r'.1*z,none⟩) 0 (l.cap - k - r'.1),w,?_,h.dD _,h.void hlt,?_,by simp,Inv.snoc,eS⟩
   ·simp only [Instr.sliceAt,Instr.slice,Sem.run_bind,run_underlying u,Result.andThen_ok,hb,dV (w:=w) hinf hn,Sem.run_pure]
    rw [hcnd]
    by_cases hc:l.cap - k=r'.2
    ·simp [hc]
    ·simp [hc,Addr.add_mid]
   ·simp [aB,bI]
  ·cases hv
 ·cases hv
end
theorem aY.RJ {P:Program} {g:Gh} {μ:Mu} {H:Hp} {w w':World} (h:aY P g μ H w) {B:Nat} (hno:∀ b m y,μ b=some m→H[b]?=some y→live y=true→m.blk≠B) (hz:¬ g.Z B)
  (hh:∀ k,k≠B→w'.heap[k]?=w.heap[k]?) (hs:w'.heap.size=w.heap.size) (ho:w'.os=w.os) (ht:w'.tape=w.tape) (hp:w'.output=w.output):aY P g μ H w' where
 dom:=h.dom
 eK:=h.eK
 lt:=fun b l e=>by rw [hs]; exact h.lt b l e
 blk:=fun b l x e f=>(h.blk b l x e f).mono (Le.refl μ) (fun hl=>hh _ (hno b l x e f hl))
 sep:=h.sep
 own:=h.own
 old:=fun k hk=>by
  have:=h.old k hk
  have hne:k≠B:=fun e=>hz (e ▸ hk)
  exact ⟨by rw [hs]; exact this.1,(hh k hne).trans this.2⟩
 os:=ho.trans h.os
 tape:=ht.trans h.tape
 output:=hp.trans h.output
 size:=by rw [hs]; exact h.size

section
variable {P:Program} {g:Gh} {μ:Mu} {H:Hp} {w:World}

theorem qX (h:aY P g μ H w) {z:Nat} {x:AV} {x':Value} {a:List AV × Nat} (ha:appended H z x=some a) (hx:aB μ x=some x') :
  ∃ vs,aA μ a.1=some vs∧vs.length=a.2*z∧(∀ W:World,(Builtin.lenOf x').run P W=.ok a.2 W) ∧
   ∀ m,m≤a.2→∀ W:World,(W.heap=w.heap)→(Builtin.firstCells z m x').run P W=.ok (vs.take (m*z)).toArray W:=by
 unfold appended at ha
 split at ha
 ·cases ha; cases hx
  refine ⟨[],rfl,by simp,fun _=>rfl,fun m hm W _=>?_⟩
  have:m=0:=by simpa using hm
  subst this
  simp [Builtin.firstCells]
 ·rename_i b o n c
  simp only [Option.map_eq_some_iff] at ha
  obtain ⟨c',hc,rfl⟩:=ha
  simp only [aB,Option.map_eq_some_iff] at hx
  obtain ⟨l,hl,rfl⟩:=hx
  obtain ⟨vs,h1,h2,h3⟩:=h.rd hl hc
  refine ⟨vs,h1,h2,fun _=>rfl,fun m hm W hW=>?_⟩
  have hlen:(vs.take (m*z)).length=m*z:=by
   rw [List.length_take,h2]
   exact Nat.min_eq_left (Nat.mul_le_mul_right _ hm)
  exact run_firstCells_some (P:=P) W z m ⟨l.blk,l.base+o,none⟩ n (match c with | .ex c=>c | .op k=>l.cap - k) (vs.take (m*z)) hlen (fun j v hv=>by
   rw [Addr.add_mid]
   have:w.cell? ⟨l.blk,l.base+o+j,none⟩=some v:=h3 j v (by
    rw [List.getElem?_take] at hv
    split at hv
    ·exact hv
    ·cases hv)
   simpa [World.cell?,hW] using this)
 ·rename_i s
  split at ha
  ·rename_i hz
   subst hz
   cases ha; cases hx
   refine ⟨(s.map fun b=>Value.int .u8 b.toNat),?_,by simp,fun _=>?_,fun m hm W _=>?_⟩
   ·clear h
    induction s with
    | nil=>rfl
    | cons b r ih=>simp [aA,aB,ih]
   ·simp [Builtin.lenOf,ByteArray.size]
   ·simp only [Builtin.firstCells]
    simp only [Sem.run_pure]
    congr 1
    apply Array.ext'
    simp [List.extract_eq_take_drop,List.map_take]
  ·cases ha
 ·cases ha

def EM (P:Program) (t:TypeId):Prop:=∃ d,P.underlying t=some d∧∀ k,d≠.int k

theorem sQ {d:TypeDesc} (h:∀ k,d≠.int k):(match d with | .int _=>true | _=>false)=false:=by
 cases d <;> first | rfl | (exact absurd rfl (h _))

theorem Be {t u ty e:TypeId} {i:TypeInfo} (ht:P.underlying t=some (.slice e)) (hu:EM P u) (hi:P.info? e=some i) {B o n cap:Nat} {x:Value} {m:Nat} {vs:List Value}
  (hl:(Builtin.lenOf x).run P w=.ok m w) (hf:(Builtin.firstCells i.size m x).run P w=.ok vs.toArray w) (hroom:n+m≤cap) {w':World}
  (hst:(storeCells ⟨B,o+n*i.size,none⟩ vs).run P w=.ok () w') :
  (Builtin.append_ #[t,u] ty #[.slice (some ⟨B,o,none⟩) n cap,x]).run P w=.ok (.slice (some ⟨B,o,none⟩) (n+m) cap) w':=by
 obtain ⟨d,hd,hdi⟩:=hu
 have hm:=sQ hdi
 simp only [Builtin.append_,List.getElem?_toArray,List.getElem?_cons_zero,List.getElem?_cons_succ,Sem.run_bind,run_underlying ht,Result.andThen_ok,sizeOf,typeInfo,run_program,hi,Sem.run_pure,run_underlying hd,hm,Bool.false_eq_true,if_false,hl,Sem.run_ite,hroom,if_true,
  Bool.not_false,hf,Addr.add_mid,hst]

theorem Bg {t u ty e:TypeId} {i:TypeInfo} {zv:Value} (ht:P.underlying t=some (.slice e)) (hu:EM P u) (hi:P.info? e=some i) (hz:i.zero=some zv) {base:Option Addr} {n cap:Nat} {x:Value} {m:Nat} {vs olds:List Value}
  (hl:(Builtin.lenOf x).run P w=.ok m w) (hf:(Builtin.firstCells i.size m x).run P w.drew=.ok vs.toArray w.drew) (ho:(Builtin.firstCells i.size n (.slice base n cap)).run P w.drew=.ok olds.toArray w.drew)
  (hg:cap < n+m) (hfit:(n+m)*(i.bytes+1)≤70368744177664) :
  (Builtin.append_ #[t,u] ty #[.slice base n cap,x]).run P w=.ok (.slice (some ⟨w.heap.size,0,none⟩) (n+m) (grownCap w (n+m) cap e))
   (w.drew.alloc (.cells ((olds++vs).toArray++Builtin.zeroCells zv.cells (grownCap w (n+m) cap e - (n+m))) e)):=by
 obtain ⟨d,hd,hdi⟩:=hu
 have hm:=sQ hdi
 have e1:(n+m)*(i.bytes+1)=(n+m)*i.bytes+(n+m):=by rw [Nat.mul_add,Nat.mul_one]
 have hn:¬ (n+m≤cap):=by omega
 have h63':¬ (9223372036854775807 < ((n:Int)+(m:Int))):=by omega
 have h48':¬ (281474976710656 < Builtin.nextslicecap (n+m) cap*i.bytes):=by
  have:=growslice_fits (bytes:=i.bytes) hg (by omega)
  omega
 simp [Builtin.append_,run_underlying ht,run_underlying hd,hm,sizeOf,typeInfo,zeroValue,hi,hz,hl,hn,h63',h48',Question.forced,hf,ho,newRow,grownCap]
 congr 2
 apply Array.ext'
 simp [List.append_assoc]

theorem sU (h:aY P g μ H w) (e:TypeId) {i:TypeInfo} {zv:Value} (hi:P.info? e=some i) (hi0:0 < i.size) (hz:zv.cells.size=i.size) {c:List AV} {xs:List Value} (hc:aA μ c=some xs) {n cap:Nat}
  (hn:xs.length=n*i.size) (hcap:n≤cap) (fz:Nat) (st:Bool) :
  aY P g (upd μ H.length ⟨w.heap.size,0,cap⟩) (H++[.cells c e (.op fz st)]) (w.alloc (.cells (xs.toArray++Builtin.zeroCells zv.cells (cap - n)) e)):=by
 have hsz:(xs.toArray++Builtin.zeroCells zv.cells (cap - n)).size=cap*i.size:=by
  rw [Array.size_append,size_zeroCells,hz,List.size_toArray,hn,← Nat.add_mul]
  congr 1
  omega
 refine h.new _ _ cap ⟨_,(0,0),xs,heap_alloc_new w _,hc,?_,?_,?_⟩
 ·rw [hsz,← aX hc,hn]
  simp only [Nat.zero_add]
  exact Nat.mul_le_mul_right _ hcap
 ·intro j v hv
  simp only [Nat.zero_add]
  rw [Array.getElem?_append]
  have:j < xs.length:=(List.getElem?_eq_some_iff.1 hv).1
  simpa [this] using hv
 ·exact ⟨⟨i,hi,hi0,by simp [hsz]⟩,.inl (by simp)⟩

theorem Pa {e z:Nat} (h:zok P e z=true):∃ i zv,P.info? e=some i∧i.zero=some zv∧zv.cells.size=z:=by
 unfold zok at h
 split at h
 ·rename_i l hl
  unfold cB at hl
  simp only [Option.bind_eq_some_iff] at hl
  obtain ⟨v,⟨i,hi,hz⟩,hv⟩:=hl
  refine ⟨i,v,hi,hz,?_⟩
  have:=aX (gY (fun _=>none) _ hv)
  simp only [beq_iff_eq] at h
  rw [← Array.length_toList,this,h]
 ·cases h

theorem yO {cc:Array Value} {base o:Nat} {vs us:List Value} {i:Nat} {v:Value} {xs:List Value} (hx:∀ j v,us[j]?=some v→cc[base+j]?=some v) (hus:us.length=o) (hle:base+o≤cc.size) (hv:(us++vs)[i]?=some v) :
  ((cc.toList.take (base+o)++vs++xs).toArray)[base+i]?=some v:=by
 rw [List.getElem?_toArray,List.append_assoc,List.getElem?_append]
 simp only [List.length_take,Array.length_toList]
 rw [Nat.min_eq_left hle]
 rw [List.getElem?_append,hus] at hv
 by_cases h1:i < o
 ·rw [if_pos h1] at hv
  rw [if_pos (by omega),List.getElem?_take,if_pos (by omega)]
  simpa using hx i v hv
 ·rw [if_neg h1] at hv
  rw [if_neg (by omega),List.getElem?_append]
  have h2:i - o < vs.length:=(List.getElem?_eq_some_iff.1 hv).1
  rw [show base+i - (base+o)=i - o by omega,if_pos h2]
  exact hv

set_option maxHeartbeats 1000000 in
structure nR (P:Program) (w:World) (t u ty e:TypeId) (x:Value) (m:Nat) (vs:List Value):Prop where
 nil:m=0→(Builtin.append_ #[t,u] ty #[.slice none 0 0,x]).run P w=.ok (.slice none 0 0) w
 room:∀ {i:TypeInfo} {B o n cap:Nat} {w':World},P.info? e=some i→n+m≤cap→(storeCells ⟨B,o+n*i.size,none⟩ vs).run P w=.ok () w' →
  (Builtin.append_ #[t,u] ty #[.slice (some ⟨B,o,none⟩) n cap,x]).run P w=.ok (.slice (some ⟨B,o,none⟩) (n+m) cap) w'
 grow:∀ {i:TypeInfo} {zv:Value} {base:Option Addr} {n cap:Nat} {olds:List Value},P.info? e=some i→i.zero=some zv→(Builtin.firstCells i.size n (.slice base n cap)).run P w.drew=.ok olds.toArray w.drew →
  cap < n+m→(n+m)*(i.bytes+1)≤70368744177664 →
  (Builtin.append_ #[t,u] ty #[.slice base n cap,x]).run P w=.ok (.slice (some ⟨w.heap.size,0,none⟩) (n+m) (grownCap w (n+m) cap e))
   (w.drew.alloc (.cells ((olds++vs).toArray++Builtin.zeroCells zv.cells (grownCap w (n+m) cap e - (n+m))) e))
theorem tK (h:aY P g μ H w) {t u ty:TypeId} {e z by_:Nat} (ht:tsh P t=some (.slice e z by_)) {s:AV} {a:List AV × Nat} {s' x':Value} {r:AV × Hp × Ef} (hr:c9 P (.slice e z by_) s a H=some r) (hs:aB μ s=some s')
  {vs:List Value} (hvs:aA μ a.1=some vs) (hvl:vs.length=a.2*z) (A:nR P w t u ty e x' a.2 vs):Yields P g μ H w (Builtin.append_ #[t,u] ty #[s',x']) r:=by
 simp only [c9] at hr
 obtain ⟨un,inf,hinf,hsz,hby⟩:=b8 ht
 subst hsz; subst hby
 split at hr
 ·rename_i hz
  obtain ⟨i,zv,hi,hzv,hzs⟩:=Pa hz.2
  rw [hinf] at hi; cases hi
  split at hr
  ·-- nil
   cases hs
   split at hr
   ·rename_i hm
    cases hr
    exact Yields.pure h ⟨.slice none 0 0,A.nil hm,rfl⟩
   ·rename_i hm
    split at hr
    ·rename_i hf
     cases hr
     simp only [fits,decide_eq_true_eq] at hf
     have hg:=A.grow hinf hzv (base:=none) (n:=0) (cap:=0) (olds:=[])  (by simp [Builtin.firstCells]) (by omega) (by simpa using hf)
     simp only [List.nil_append,Nat.zero_add] at hg
     refine ⟨_,_,_,hg,h.dD _,sU h.drew e hinf hz.1 hzs hvs hvl (grownCap_ge _ _ _ _) 0 false,?_,by simp,Inv.snoc,eS⟩
     simp [aB,bI]
    ·cases hr
  ·-- a known capacity
   rename_i bl o n c
   simp only [aB,Option.map_eq_some_iff] at hs
   obtain ⟨l,hl,rfl⟩:=hs
   split at hr
   ·rename_i hroom
    simp only [Option.map_eq_some_iff] at hr
    obtain ⟨q,hq,rfl⟩:=hr
    obtain ⟨w',hst,hrel⟩:=h.wr hl hvs hq
    refine ⟨μ,_,w',A.room hinf hroom (by rw [Nat.add_assoc]; exact hst),Le.refl μ,hrel,by simp [aB,hl],by rw [vp hq]; exact Nat.le_refl _,Inv.wr hq,fun _ _=>rfl⟩
   ·rename_i hroom
    split at hr
    ·rename_i hf
     simp only [Option.map_eq_some_iff] at hr
     obtain ⟨old,hold,rfl⟩:=hr
     simp only [fits,decide_eq_true_eq] at hf
     obtain ⟨us,hus,husl,husr⟩:=h.rd hl hold
     have hfo:(Builtin.firstCells inf.size n (.slice (some ⟨l.blk,l.base+o,none⟩) n c)).run P w.drew=.ok us.toArray w.drew:=by
      refine run_firstCells_some (P:=P) w.drew inf.size n _ n c us husl (fun j v hv=>?_)
      rw [Addr.add_mid]
      exact husr j v hv
     have hg:=A.grow hinf hzv  hfo (by omega) hf
     refine ⟨_,_,_,hg,h.dD _,sU h.drew e hinf hz.1 hzs (aL hus hvs) (by rw [List.length_append,husl,hvl,Nat.add_mul]) (grownCap_ge _ _ _ _) 0 false,?_,by simp,Inv.snoc,eS⟩
     simp [aB,bI]
    ·cases hr
  ·-- an unknown one
   rename_i bl o n k
   simp only [aB,Option.map_eq_some_iff] at hs
   obtain ⟨l,hl,rfl⟩:=hs
   split at hr
   ·rename_i c e' fz st hblk
    split at hr
    ·rename_i hc
     obtain ⟨rfl,rfl,hc3⟩:=hc
     obtain ⟨cc,fr,us,h1,h2,h3,h4,⟨⟨i',hi',hi0,hcs⟩,hfr⟩⟩:=h.blk bl l _ hl hblk
     rw [hinf] at hi'; cases hi'
     have hulen:=aX h2
     have hk:k≤l.cap:=by
      have h5:k*inf.size≤l.cap*inf.size:=by omega
      exact Nat.le_of_mul_le_mul_right h5 hi0
     split at hr
     ·rename_i hin
      simp only [Option.map_eq_some_iff] at hr
      obtain ⟨q,hq,rfl⟩:=hr
      obtain ⟨w',hst,hrel⟩:=h.wr hl hvs hq
      have hcap:n+a.2≤l.cap - k:=by
       have h5:(k+(n+a.2))*inf.size≤l.cap*inf.size:=by rw [Nat.add_mul]; omega
       have:=Nat.le_of_mul_le_mul_right h5 hi0
       omega
      refine ⟨μ,_,w',A.room hinf hcap (by rw [Nat.add_assoc]; exact hst),Le.refl μ,hrel,by simp [aB,hl],by rw [vp hq]; exact Nat.le_refl _,Inv.wr hq,fun _ _=>rfl⟩
     ·rename_i hin
      split at hr
      ·rename_i hf
       obtain ⟨hf,hfz,hscal⟩:=hf
       cases hr
       simp only [fits,decide_eq_true_eq] at hf
       have holds:aA μ ((c.drop (k*inf.size)).take (n*inf.size))=some ((us.drop (k*inf.size)).take (n*inf.size)):=fB (gp h2 _) _
       have holdl:((us.drop (k*inf.size)).take (n*inf.size)).length=n*inf.size:=by
        rw [List.length_take,List.length_drop]; omega
       have hcells:∀ (j:Nat) (v:Value),((us.drop (k*inf.size)).take (n*inf.size))[j]?=some v→cc[l.base+k*inf.size+j]?=some v:=by
        intro j v hv
        rw [List.getElem?_take] at hv
        split at hv
        ·rw [List.getElem?_drop] at hv
         rw [Nat.add_assoc]
         exact h4 _ v hv
        ·cases hv
       have hkill:aY P g μ (H.set bl .dead) w:=h.kill bl rfl rfl (fun _=>trivial)
       have hlenset:(H.set bl bp.dead).length=H.length:=by simp
       by_cases hcap:n+a.2≤l.cap - k
       ·-- in place
        have hst:=ko P l.blk (l.base+(k*inf.size+n*inf.size)) e' fr vs 0 cc w h1 (fun j hj1 hj2=>by
         rcases hfr with hfr | ⟨_,hfr⟩
         ·omega
         ·have h6:(k+(n+a.2))*inf.size≤l.cap*inf.size:=Nat.mul_le_mul_right _ (by omega)
          rw [Nat.add_mul,Nat.add_mul] at h6
          rw [hfr]; simp only; omega) (by
         have h6:(k+(n+a.2))*inf.size≤l.cap*inf.size:=Nat.mul_le_mul_right _ (by omega)
         rw [Nat.add_mul,Nat.add_mul] at h6
         omega) (uz hvs hscal)
        have hno:∀ b m y,μ b=some m→(H.set bl bp.dead)[b]?=some y→live y=true→m.blk≠l.blk:=by
         intro b m y hb hy hly heq
         rw [List.getElem?_set] at hy
         split at hy
         ·split at hy
          ·cases hy; cases hly
          ·cases hy
         ·rename_i hne
          exact h.sep bl b l m _ y hne hl hb hblk hy rfl hly heq.symm
        have hZ:=h.own bl l _ hl hblk rfl
        have htouch:aY P g μ (H.set bl .dead) _:=hkill.RJ (w':=w.setRow l.blk (List.take (l.base+(k*inf.size+n*inf.size)+0) cc.toList++vs++List.drop (l.base+(k*inf.size+n*inf.size)+0+vs.length) cc.toList).toArray) hno hZ (fun j hj=>setRow_other w _ j _ hj) (setRow_size _ _ _) rfl rfl rfl
        have hnew:=htouch.rename (l:=⟨l.blk,l.base+k*inf.size,l.cap - k⟩) (x:=.cells ((c.drop (k*inf.size)).take (n*inf.size)++a.1) e' (.op (fz - k*inf.size) st)) (by rw [setRow_size]; exact h.lt bl l hl) hZ hno (by
         refine ⟨_,fr,_,setRow_heap w l.blk cc _ e' fr h1,aL holds hvs,?_,?_,?_⟩
         ·have h6:(k+(n+a.2))*inf.size≤l.cap*inf.size:=Nat.mul_le_mul_right _ (by omega)
          rw [Nat.add_mul,Nat.add_mul] at h6
          have h7:((c.drop (k*inf.size)).take (n*inf.size)++a.1).length=n*inf.size+a.2*inf.size:=by
           rw [← aX (aL holds hvs),List.length_append,holdl,hvl]
          rw [h7]
          simp only [List.size_toArray,List.length_append,List.length_take,List.length_drop,Array.length_toList]
          omega
         ·intro j v hv
          have:=yO (cc:=cc) (base:=l.base+k*inf.size) (o:=n*inf.size) (vs:=vs) (us:=(us.drop (k*inf.size)).take (n*inf.size)) (i:=j) (v:=v) (xs:=List.drop (l.base+(k*inf.size+n*inf.size)+0+vs.length) cc.toList) (fun j v hv=>hcells j v hv) holdl (by omega) hv
          rw [show l.base+(k*inf.size+n*inf.size)+0=l.base+k*inf.size+n*inf.size by omega] at *
          exact this
         ·have h8:(List.take (l.base+(k*inf.size+n*inf.size)+0) cc.toList++vs++List.drop (l.base+(k*inf.size+n*inf.size)+0+vs.length) cc.toList).toArray.size=cc.size:=by
           have h6:(k+(n+a.2))*inf.size≤l.cap*inf.size:=Nat.mul_le_mul_right _ (by omega)
           rw [Nat.add_mul,Nat.add_mul] at h6
           simp only [List.size_toArray,List.length_append,List.length_take,List.length_drop,Array.length_toList]
           omega
          rw [h8]
          refine ⟨⟨inf,hinf,hi0,?_⟩,?_⟩
          ·have:l.cap*inf.size=k*inf.size+(l.cap - k)*inf.size:=by rw [← Nat.add_mul]; congr 1; omega
           simp only; omega
          ·rcases hfr with hfr | hfr
           ·left; simp only; omega
           ·exact .inr hfr)
        rw [hlenset] at hnew
        refine ⟨_,_,_,A.room hinf hcap (by rw [Nat.add_assoc]; exact hst),h.dD _,hnew,?_,by simp,?_,eS⟩
        ·simp [aB,bI]
        ·have:=(Inv.set (n:=H.length) (e:=⟨none,some bl⟩) hblk (y:=.dead) (.inr (by simp [cont])) rfl).trans (Inv.snoc (H:=H.set bl .dead) (x:=.cells ((c.drop (k*inf.size)).take (n*inf.size)++a.1) e' (.op (fz - k*inf.size) st)) (e:=z0)) (by simp)
         exact this
       ·-- a new row
        have hfo:(Builtin.firstCells inf.size n (.slice (some ⟨l.blk,l.base+k*inf.size,none⟩) n (l.cap - k))).run P w.drew=.ok ((us.drop (k*inf.size)).take (n*inf.size)).toArray w.drew:=by
         refine run_firstCells_some (P:=P) w.drew inf.size n _ n _ _ holdl (fun j v hv=>?_)
         rw [Addr.add_mid]
         have:=hcells j v hv
         have h1':w.drew.heap[l.blk]?=some (.cells cc e' fr):=h1
         simp only [World.cell?,h1',Option.isSome_none,Bool.false_eq_true,if_false]
         exact this
        have hg:=A.grow hinf hzv  hfo (by omega) hf
        have hgr:=sU hkill.drew e' hinf hz.1 hzs (aL holds hvs) (n:=n+a.2) (by rw [List.length_append,holdl,hvl,Nat.add_mul]) (grownCap_ge w (n+a.2) (l.cap - k) e') (fz - k*inf.size) st
        rw [hlenset] at hgr
        refine ⟨_,_,_,hg,h.dD _,hgr,?_,by simp,?_,eS⟩
        ·simp [aB,bI]
        ·have:=(Inv.set (n:=H.length) (e:=⟨none,some bl⟩) hblk (y:=.dead) (.inr (by simp [cont])) rfl).trans (Inv.snoc (H:=H.set bl .dead) (x:=.cells ((c.drop (k*inf.size)).take (n*inf.size)++a.1) e' (.op (fz - k*inf.size) st)) (e:=z0)) (by simp)
         exact this
      ·cases hr
    ·cases hr
   ·cases hr
  ·cases hr
 ·cases hr
theorem nR.src {t u ty e:TypeId} (un:P.underlying t=some (.slice e)) (hu:EM P u) {x':Value} {m:Nat} {vs:List Value} {z:Nat} {inf:TypeInfo} (hinf:P.info? e=some inf) (hlen:∀ W:World,(Builtin.lenOf x').run P W=.ok m W)
  (hall:∀ W:World,W.heap=w.heap→(Builtin.firstCells inf.size m x').run P W=.ok vs.toArray W):nR P w t u ty e x' m vs where
 nil:=fun hm=>by
  obtain ⟨d,hd,hdi⟩:=hu
  have hi':=sQ hdi
  have hw:=hall w rfl
  rw [hm] at hw
  simp [Builtin.append_,run_underlying un,run_underlying hd,hi',sizeOf,typeInfo,hinf,hlen,hm,hw]
 room:=fun hi hroom hst=>by
  rw [hinf] at hi; cases hi
  exact Be un hu hinf (hlen w) (hall w rfl) hroom hst
 grow:=fun hi hz ho hg hf=>by
  rw [hinf] at hi; cases hi
  exact Bg un hu hinf hz (hlen w) (hall _ rfl) ho hg hf
theorem Hu (h:aY P g μ H w) {t u ty:TypeId} {s x:AV} {s' x':Value} {r:AV × Hp × Ef} (hr:j0 P t s x H=some r) (hs:aB μ s=some s') (hx:aB μ x=some x') (hu:EM P u) :
  Yields P g μ H w (Builtin.append_ #[t,u] ty #[s',x']) r:=by
 unfold j0 at hr
 split at hr
 ·rename_i e z by_ ht
  have hto:=@tK
  obtain ⟨un,inf,hinf,hsz,hby⟩:=b8 ht
  split at hr
  ·rename_i hz
   simp only [Option.bind_eq_some_iff] at hr
   obtain ⟨a,ha,hr⟩:=hr
   obtain ⟨vs,hvs,hvl,hlen,hfirst⟩:=qX h ha hx
   have hall:∀ W:World,W.heap=w.heap→(Builtin.firstCells inf.size a.2 x').run P W=.ok vs.toArray W:=by
    intro W hW
    have:=hfirst a.2 (Nat.le_refl _) W hW
    rw [hsz]
    rwa [← hvl,List.take_length] at this
   refine tK h ht (s:=s) (a:=a) ?_ hs hvs hvl (nR.src (z:=z) un hu hinf hlen hall)
   simp only [c9]
   rw [if_pos hz]
   exact hr
  ·cases hr
 ·cases hr
end

section
variable {P:Program} {g:Gh} {μ:Mu} {H:Hp} {w:World}

theorem Oa (h:aY P g μ H w) {t u ty:TypeId} {d x:AV} {d' x':Value} {r:AV × Hp × Ef} (hr:lR P t d x H=some r) (hd:aB μ d=some d') (hx:aB μ x=some x') :
  Yields P g μ H w (Builtin.copy_ #[t,u] ty #[d',x']) r:=by
 unfold lR at hr
 split at hr
 ·rename_i e z by_ ht
  obtain ⟨un,inf,hinf,hsz,_⟩:=b8 ht
  subst hsz
  simp only [Option.bind_eq_some_iff] at hr
  obtain ⟨a,ha,hr⟩:=hr
  obtain ⟨vs,hvs,hvl,hlen,hfirst⟩:=qX h ha hx
  split at hr
  ·cases hr; cases hd
   refine Yields.pure h ⟨goInt 0,?_,rfl⟩
   have hf:=hfirst 0 (Nat.zero_le _) w rfl
   simp [Builtin.copy_,run_underlying un,sizeOf,typeInfo,hinf,hlen,hf]
  ·rename_i b o n c
   simp only [Option.map_eq_some_iff] at hr
   obtain ⟨q,hq,rfl⟩:=hr
   simp only [aB,Option.map_eq_some_iff] at hd
   obtain ⟨l,hl,rfl⟩:=hd
   obtain ⟨w',hst,hrel⟩:=h.wr hl (fB hvs _) hq
   have hf:=hfirst (min a.2 n) (Nat.min_le_left _ _) w rfl
   refine ⟨μ,_,w',?_,Le.refl μ,hrel,rfl,by rw [vp hq]; exact Nat.le_refl _,Inv.wr hq,fun _ _=>rfl⟩
   have hm:Nat.min a.2 n=min a.2 n:=rfl
   simp only [Builtin.copy_,List.getElem?_toArray,List.getElem?_cons_zero,List.getElem?_cons_succ,Sem.run_bind,run_underlying un,Result.andThen_ok,sizeOf,typeInfo,run_program,hinf,Sem.run_pure,hlen,hm,hf,hst]
   rfl
  ·cases hr
 ·cases hr

theorem F1 (z:List Value) (n:Nat):(List.range (n*z.length)).map (fun i=>z[i % z.length]!)=(List.replicate n z).flatten:=by
 induction n with
 | zero=>simp
 | succ n ih =>
  have e1:(n+1)*z.length=z.length+n*z.length:=by rw [Nat.add_mul,Nat.one_mul,Nat.add_comm]
  rw [e1,List.range_add,List.map_append,List.map_map,List.replicate_succ,List.flatten_cons]
  congr 1
  ·apply List.ext_getElem
   ·simp
   ·intro i h1 h2
    simp only [List.length_map,List.length_range] at h1
    simp only [List.getElem_map,List.getElem_range]
    rw [Nat.mod_eq_of_lt h1,getElem!_pos z i h1]
  ·rw [← ih]
   apply List.map_congr_left
   intro i _
   simp

theorem I4 {z:List AV} {zs:List Value} (hz:aA μ z=some zs) (n:Nat):aA μ (rep z n)=some (List.replicate n zs).flatten:=by
 induction n with
 | zero=>rfl
 | succ n ih =>
  rw [rep,List.replicate_succ,List.flatten_cons]
  exact aL hz ih

theorem rD {e n:Nat} {z:List AV} (hz:cB P e=some z) (hn:z.length=n) (k:Nat):∃ zv:Value,(zeroValue e).run P w=.ok zv w∧aA μ (rep z k)=some ((Array.range (k*n)).map (zv.cells[· % zv.cells.size]!)).toList:=by
 obtain ⟨v,h1,h2⟩:=qZ (w:=w) (μ:=μ) hz
 refine ⟨v,h1,?_⟩
 rw [I4 h2]
 have hl:=aX h2
 have hs:v.cells.size=n:=by rw [← Array.length_toList]; omega
 have:=F1 v.cells.toList k
 rw [← this]
 congr 1
 simp only [Array.length_toList,hs,Array.toList_map,Array.toList_range]
 apply List.map_congr_left
 intro i _
 simp [getElem!_def]

theorem Na (h:aY P g μ H w) {t:TypeId} {len cap:AV} {len' cap':Value} {r:AV × Hp} (hr:jh P t len cap H=some r) (hl:aB μ len=some len') (hc:aB μ cap=some cap') :
  Yields P g μ H w (Instr.makeSlice t len' cap') (r.1,r.2,z0):=by
 unfold jh at hr
 split at hr
 ·rename_i e n b k1 lv k2 cv ht
  obtain ⟨un,inf,hinf,hsz,hby⟩:=b8 ht
  subst hsz; subst hby
  cases hl; cases hc
  split at hr
  ·rename_i hcnd
   obtain ⟨c1,c2,c3,c4⟩:=hcnd
   simp only [Option.bind_eq_some_iff] at hr
   obtain ⟨z,hz,hr⟩:=hr
   split at hr
   ·rename_i hzl
    cases hr
    obtain ⟨zv,e1,e2⟩:=rD (w:=w) (μ:=μ) hz hzl cv.toNat
    have h64:(2:Int) ^ 46=70368744177664:=by decide
    have h48:(2:Nat) ^ 48=281474976710656:=by decide
    have wl:IntKind.i64.wrap lv=lv:=by unfold IntKind.wrap; simp [IntKind.bits,IntKind.signed]; omega
    have wc:IntKind.i64.wrap cv=cv:=by unfold IntKind.wrap; simp [IntKind.bits,IntKind.signed]; omega
    have hlt:¬ ((cv < 0∨(281474976710656:Int) < (inf.bytes:Int)*cv)∨lv < 0):=by
     have:cv*((inf.bytes:Int)+1)=(inf.bytes:Int)*cv+cv:=by rw [Int.mul_add,Int.mul_comm]; omega
     omega
    have hle:¬ cv < lv:=by omega
    have hrel:=mw h e (c:=rep z cv.toNat) e2 0
    refine ⟨_,.slice (some ⟨w.heap.size,0,none⟩) lv.toNat cv.toNat,_,?_,h.dD _,hrel,?_,by simp,Inv.snoc,eS⟩
    ·by_cases h0:cv.toNat*inf.size=0
     ·simp [Instr.makeSlice,run_underlying un,typeInfo,hinf,asInt,asIntOf,wl,wc,hlt,hle,sizeOf,h0,newRow]
      rw [Array.range_zero',Array.map_empty]
     ·simp [Instr.makeSlice,run_underlying un,typeInfo,hinf,asInt,asIntOf,wl,wc,hlt,hle,sizeOf,h0,newRow,e1]
      congr 2
      apply Array.ext'
      simp
    ·simp [aB,bI]
   ·cases hr
  ·cases hr
 ·cases hr
theorem nR.RA {t u ty e:TypeId} {ki kq:IntKind} (un:P.underlying t=some (.slice e)) (hu:P.underlying u=some (.int ki)) {inf:TypeInfo} {zv:Value} {n:Nat} (hinf:P.info? e=some inf) (hz:inf.zero=some zv) (hz0:0 < inf.size) (hn:n*(inf.bytes+1)≤70368744177664) :
  nR P w t u ty e (.int kq (n:Nat)) n (Builtin.zeroCells zv.cells n).toList:=by
 have e1:n*(inf.bytes+1)=n*inf.bytes+n:=by rw [Nat.mul_add,Nat.mul_one]
 have hw:IntKind.i64.wrap (n:Int)=n:=by unfold IntKind.wrap; simp [IntKind.bits,IntKind.signed]; omega
 have w0:IntKind.i64.wrap 0=0:=by decide
 have hneg:¬ ((n:Int) < 0):=by omega
 have h48i:¬ (281474976710656 < (n:Int)*(inf.bytes:Int)):=by
  rw [← Int.natCast_mul]; omega
 constructor
 ·intro hm
  subst hm
  simp [Builtin.append_,run_underlying un,run_underlying hu,sizeOf,typeInfo,zeroValue,hinf,hz,asInt,asIntOf,w0]
 ·intro i B o k cap w' hi hroom hst
  rw [hinf] at hi; cases hi
  by_cases h0:n=0
  ·subst h0
   have hzc:(Builtin.zeroCells zv.cells 0).toList=[]:=by simp [Builtin.zeroCells]
   rw [hzc] at hst
   have hroom:k≤cap:=by omega
   simp [Builtin.append_,run_underlying un,run_underlying hu,sizeOf,typeInfo,zeroValue,hinf,hz,asInt,asIntOf,w0,hst,hroom,Addr.add_mid]
  ·have hns:¬ (n*inf.size=0):=Nat.mul_ne_zero h0 (by omega)
   simp [Builtin.append_,run_underlying un,run_underlying hu,sizeOf,typeInfo,zeroValue,hinf,hz,asInt,asIntOf,hw,hneg,hns,h48i,hroom,hst,Addr.add_mid]
 ·intro i zv' base k cap olds hi hz' ho hg hf
  rw [hinf] at hi; cases hi
  rw [hz] at hz'; cases hz'
  have e2:(k+n)*(inf.bytes+1)=(k+n)*inf.bytes+(k+n):=by rw [Nat.mul_add,Nat.mul_one]
  have hgn:¬ (k+n≤cap):=by omega
  have h63':¬ (9223372036854775807 < ((k:Int)+(n:Int))):=by omega
  have h48':¬ (281474976710656 < Builtin.nextslicecap (k+n) cap*inf.bytes):=by
   have:=growslice_fits (bytes:=inf.bytes) hg (by omega)
   omega
  by_cases h0:n=0
  ·subst h0
   have hzc:Builtin.zeroCells zv.cells 0=#[]:=by simp [Builtin.zeroCells]
   have hgn:¬ (k≤cap):=by omega
   have h63':¬ (9223372036854775807 < (k:Int)):=by omega
   simp only [Nat.add_zero] at h48'
   simp [Builtin.append_,run_underlying un,run_underlying hu,sizeOf,typeInfo,zeroValue,hinf,hz,asInt,asIntOf,w0,hgn,h63',h48',Question.forced,ho,newRow,grownCap,hzc]
  ·have hns:¬ (n*inf.size=0):=Nat.mul_ne_zero h0 (by omega)
   simp [Builtin.append_,run_underlying un,run_underlying hu,sizeOf,typeInfo,zeroValue,hinf,hz,asInt,asIntOf,hw,hneg,hns,h48i,hgn,h63',h48',Question.forced,ho,newRow,grownCap]
   congr 2
   apply Array.ext'
   simp [List.append_assoc]
theorem D8 (h:aY P g μ H w) {t u ty:TypeId} {s x:AV} {s' x':Value} {r:AV × Hp × Ef} (hr:qh P t s x H=some r) (hs:aB μ s=some s') (hx:aB μ x=some x') (hu:wF P u=true) :
  Yields P g μ H w (Builtin.append_ #[t,u] ty #[s',x']) r:=by
 unfold qh at hr
 split at hr
 ·rename_i e z b k n ht
  obtain ⟨un,inf,hinf,hsz,hby⟩:=b8 ht
  cases hx
  split at hr
  ·rename_i hc
   obtain ⟨hn,hf⟩:=hc
   simp only [Option.bind_eq_some_iff] at hr
   obtain ⟨zs,hzs,hr⟩:=hr
   split at hr
   ·rename_i hzl
    obtain ⟨zv,e1,e0⟩:=qZ (w:=w) (μ:=μ) hzs
    have hu':∃ ki,P.underlying u=some (.int ki):=by
     unfold wF at hu
     split at hu
     ·rename_i kk hk
      obtain ⟨d,hd,hdi⟩:=ij hk
      unfold tsh at hk
      rw [hd] at hk
      cases d <;> simp at hk
      exact ⟨_,hd⟩
     ·cases hu
    obtain ⟨ki,hu'⟩:=hu'
    obtain ⟨nn,rfl⟩:∃ nn:Nat,n=(nn:Int):=⟨n.toNat,by omega⟩
    simp only [Int.toNat_natCast] at *
    have hzv:inf.zero=some zv∧zv.cells.size=z:=by
     refine ⟨?_,by rw [← Array.length_toList]; have:=aX e0; omega⟩
     unfold zeroValue at e1
     simp [typeInfo,hinf] at e1
     cases hq:inf.zero with
     | none=>rw [hq] at e1; simp [stuck] at e1
     | some v=>rw [hq] at e1; simp at e1; rw [e1]
    have hz0:0 < inf.size:=by
     simp only [c9] at hr
     split at hr
     ·rename_i h0; rw [hsz]; exact h0.1
     ·cases hr
    have hvs:aA μ (rep zs nn)=some (Builtin.zeroCells zv.cells nn).toList:=by
     obtain ⟨zv',e1',e2⟩:=rD (w:=w) (μ:=μ) hzs hzl nn
     rw [e1] at e1'; cases e1'
     rw [e2]; simp [Builtin.zeroCells,hzv.2]
    refine tK h ht hr hs hvs ?_ (nR.RA un hu' hinf hzv.1 hz0 ?_)
    ·simp [Builtin.zeroCells,hzv.2]
    ·simp only [fits,decide_eq_true_eq] at hf
     rw [hby]; exact hf
   ·cases hr
  ·cases hr
 ·cases hr
theorem AL (xs:List Value):∀ (k:Nat) (c:Array Value) (o:Nat),o+k+xs.length≤c.size →
  ((xs.zipIdx k).foldl (fun cs (p:Value × Nat)=>cs.setIfInBounds (o+p.2) p.1) c).toList=c.toList.take (o+k)++xs++c.toList.drop (o+k+xs.length):=by
 induction xs with
 | nil=>intro k c o _; simp
 | cons x xs ih =>
  intro k c o h
  simp only [List.length_cons] at h
  rw [List.zipIdx_cons,List.foldl_cons,ih (k+1) _ o (by simp; omega)]
  have e:=list_seg_step c.toList (o+k) x xs (by simp; omega)
  simpa [Array.toList_setIfInBounds,Nat.add_assoc] using e

theorem ru {place:Nat→Option (Nat × Nat)}:∀ (parts:List (Nat × AV)) (parts':List (Nat × Value)) {c c':List AV} {cs:Array Value},fM place c parts=some c'→aA μ c=some cs.toList →
  parts'.map (·.1)=parts.map (·.1)→aA μ (parts.map (·.2))=some (parts'.map (·.2))→∃ cs':Array Value,Instr.fill place cs parts'=some cs'∧aA μ c'=some cs'.toList
 | [],parts',c,c',cs,h,hc,h1,_=>by
  cases parts' with
  | nil=>simp only [fM] at h; cases h; exact ⟨cs,rfl,hc⟩
  | cons _ _=>simp at h1
 | (i,v)::rest,parts',c,c',cs,h,hc,h1,h2=>by
  cases parts' with
  | nil=>simp at h1
  | cons p parts' =>
   obtain ⟨i',v'⟩:=p
   simp only [List.map_cons,List.cons.injEq] at h1 h2
   obtain ⟨rfl,h1⟩:=h1
   simp only [aA,Option.bind_eq_some_iff,Option.map_eq_some_iff,List.cons.injEq] at h2
   obtain ⟨x,hx,xs,hxs,rfl,rfl⟩:=h2
   simp only [fM,Option.bind_eq_some_iff] at h
   obtain ⟨⟨o,n⟩,hp,h⟩:=h
   split at h
   ·rename_i hcnd
    obtain ⟨hn,hle⟩:=hcnd
    have hv:=lq hx
    have hvl:=aX hv
    have hcl:=aX hc
    simp only [Array.length_toList] at hvl hcl
    have hsz:x.cells.size=n:=by omega
    have hsp:aA μ (splice c o (bH v))=some ((x.cells.zipIdx.foldl (fun cs (p:Value × Nat)=>cs.setIfInBounds (o+p.2) p.1) cs)).toList:=by
     rw [oZ hc hv o]
     have:=AL x.cells.toList 0 cs o (by simp; omega)
     simp only [Nat.add_zero] at this
     rw [← this]
     congr 2
     rw [← Array.foldl_toList]
     simp
    obtain ⟨cs',e1,e2⟩:=ru rest parts' h hsp h1 hxs
    refine ⟨cs',?_,e2⟩
    simp only [Instr.fill,hp]
    rw [if_neg (by simp [hsz]; omega)]
    exact e1
   ·cases h

theorem KZ {t:TypeId} {parts:List (Nat × AV)} {parts':List (Nat × Value)} {v:AV} (h:bq P t parts=some v) (h1:parts'.map (·.1)=parts.map (·.1)) (h2:aA μ (parts.map (·.2))=some (parts'.map (·.2))) :
  ∃ v',(Instr.build t parts'.toArray).run P w=.ok v' w∧aB μ v=some v':=by
 unfold bq at h
 split at h
 ·rename_i ht
  simp only [Option.bind_eq_some_iff,Option.map_eq_some_iff] at h
  obtain ⟨z,hz,ps,hps,c,hc,rfl⟩:=h
  have hz0:=hz
  unfold cB at hz
  simp only [Option.bind_eq_some_iff] at hz
  obtain ⟨zv,⟨i,hi,hzi⟩,hzv⟩:=hz
  have hzc:=gY μ _ hzv
  obtain ⟨cs',e1,e2⟩:=ru parts parts' hc hzc h1 h2
  refine ⟨.agg cs',run_build w t _ cs' ?_,by simp [aB,e2]⟩
  unfold fZ at hps
  split at hps
  ·rename_i fs u
   unfold Program.built
   simp only [hi,u,hzi,hps]
   simpa using e1
  ·cases hps
 ·rename_i l e n ht
  obtain ⟨u,inf,hinf,hn⟩:=iT ht
  simp only [Option.bind_eq_some_iff,Option.map_eq_some_iff] at h
  obtain ⟨z,hz,c,hc,rfl⟩:=h
  unfold cB at hz
  simp only [Option.bind_eq_some_iff] at hz
  obtain ⟨zv,⟨i,hi,hzi⟩,hzv⟩:=hz
  have hzc:=gY μ _ hzv
  obtain ⟨cs',e1,e2⟩:=ru parts parts' hc hzc h1 h2
  refine ⟨.agg cs',run_build w t _ cs' ?_,by simp [aB,e2]⟩
  unfold Program.built
  subst hn
  simp only [hi,u,hzi,hinf]
  simpa using e1
 ·cases h

theorem tZ (h:aY P g μ H w) {t:TypeId} {n:Nat} {parts:List (Nat × AV)} {parts':List (Nat × Value)} {r:AV × Hp} (hr:aO P t n parts H=some r) (h1:parts'.map (·.1)=parts.map (·.1)) (h2:aA μ (parts.map (·.2))=some (parts'.map (·.2))) :
  Yields P g μ H w (Instr.buildSlice t n parts'.toArray) (r.1,r.2,z0):=by
 unfold aO at hr
 split at hr
 ·rename_i e z b ht
  obtain ⟨un,inf,hinf,hsz,hby⟩:=b8 ht
  subst hsz
  split at hr
  ·rename_i hle
   simp only [Option.bind_eq_some_iff] at hr
   obtain ⟨zs,hz,hr⟩:=hr
   split at hr
   ·rename_i hzl
    simp only [Option.map_eq_some_iff] at hr
    obtain ⟨c,hc,rfl⟩:=hr
    obtain ⟨zv,e1,e2⟩:=rD (w:=w) (μ:=μ) hz hzl n
    obtain ⟨cs',f1,f2⟩:=ru parts parts' hc e2 h1 h2
    have hrel:=mw h e f2 0
    have hsm:¬ n*inf.size > 2 ^ 24:=by omega
    refine ⟨_,.slice (some ⟨w.heap.size,0,none⟩) n n,_,?_,h.dD _,hrel,by simp [aB,bI],by simp,Inv.snoc,eS⟩
    by_cases h0:n*inf.size=0
    ·have f1':Instr.fill (fun i=>some (i*inf.size,inf.size)) #[] parts'=some cs':=by
      rw [h0,Array.range_zero',Array.map_empty] at f1
      exact f1
     simp [Instr.buildSlice,run_underlying un,sizeOf,typeInfo,hinf,hsm,h0,newRow,f1',Array.range_zero']
    ·simp [Instr.buildSlice,run_underlying un,sizeOf,typeInfo,hinf,hsm,h0,newRow,e1,f1]
   ·cases hr
  ·cases hr
 ·cases hr

theorem PS (h:aY P g μ H w) {t ty:TypeId} {x v:AV} {x':Value} (hv:bY P t x H=some v) (hx:aB μ x=some x'):∃ v',(Builtin.len_ #[t] ty #[x']).run P w=.ok v' w∧aB μ v=some v':=by
 unfold bY at hv
 split at hv
 ·rename_i s ht
  cases hv; cases hx
  refine ⟨goInt s.length,?_,rfl⟩
  have hs:(⟨s.toArray⟩:ByteArray).size=s.length:=by simp [ByteArray.size]
  simp only [Builtin.len_,List.getElem?_toArray,List.getElem?_cons_zero,Sem.run_bind,run_underlying (iJ ht),Result.andThen_ok,Sem.run_pure,hs]
 ·rename_i n e z ht
  cases hv
  exact ⟨goInt n,by simp [Builtin.len_,run_underlying (iT ht).1],rfl⟩
 ·rename_i e z b bl o n c ht
  cases hv
  simp only [aB,Option.map_eq_some_iff] at hx
  obtain ⟨l,hl,rfl⟩:=hx
  exact ⟨goInt n,by simp [Builtin.len_,run_underlying (b8 ht).1],rfl⟩
 ·rename_i e z b ht
  cases hv; cases hx
  exact ⟨goInt 0,by simp [Builtin.len_,run_underlying (b8 ht).1],rfl⟩
 ·rename_i k e ht
  cases hv; cases hx
  exact ⟨goInt 0,by simp [Builtin.len_,run_underlying (mh ht)],rfl⟩
 ·rename_i k e r ht
  split at hv
  ·rename_i es hb
   cases hv
   simp only [aB,Option.map_eq_some_iff] at hx
   obtain ⟨l,hl,rfl⟩:=hx
   obtain ⟨ms,ck,h1,h2,h3⟩:=h.blk r l _ hl hb
   have hlen:=aX h2
   simp only [List.length_map,Array.length_toList] at hlen
   refine ⟨goInt es.length,?_,rfl⟩
   have hg:(getObj l.blk).run P w=.ok (.map ms ck) w:=by simp [getObj,Sem.run,h1]
   simp [Builtin.len_,run_underlying (mh ht),hg,hlen]
  ·cases hv
 ·cases hv

theorem Ra {t ty:TypeId} {x v:AV} {x':Value} (hv:qT P t x=some v) (hx:aB μ x=some x'):∃ v',(Builtin.cap_ #[t] ty #[x']).run P w=.ok v' w∧aB μ v=some v':=by
 unfold qT at hv
 split at hv
 ·rename_i e z b bl o n c ht
  cases hv
  simp only [aB,Option.map_eq_some_iff] at hx
  obtain ⟨l,hl,rfl⟩:=hx
  exact ⟨goInt c,by simp [Builtin.cap_,run_underlying (b8 ht).1],rfl⟩
 ·rename_i e z b ht
  cases hv; cases hx
  exact ⟨goInt 0,by simp [Builtin.cap_,run_underlying (b8 ht).1],rfl⟩
 ·cases hv

theorem PK {ts:Array TypeId} {ty:TypeId} {x y v:AV} {x' y':Value} (hv:qd x y=some v) (hx:aB μ x=some x') (hy:aB μ y=some y'):∃ v',(Builtin.min_ ts ty #[x',y']).run P w=.ok v' w∧aB μ v=some v':=by
 unfold qd at hv
 split at hv
 ·cases hv; cases hx; cases hy
  exact ⟨_,by simp [Builtin.min_,Builtin.min2,List.foldlM_cons],rfl⟩
 ·cases hv
theorem PL {ts:Array TypeId} {ty:TypeId} {x y v:AV} {x' y':Value} (hv:wT x y=some v) (hx:aB μ x=some x') (hy:aB μ y=some y'):∃ v',(Builtin.max_ ts ty #[x',y']).run P w=.ok v' w∧aB μ v=some v':=by
 unfold wT at hv
 split at hv
 ·cases hv; cases hx; cases hy
  exact ⟨_,by simp [Builtin.max_,Builtin.max2,List.foldlM_cons],rfl⟩
 ·cases hv
end
section
variable {P:Program} {g:Gh} {μ:Mu} {H:Hp} {w:World}

theorem DD (w:World) (c:Array Value) (e:TypeId) (n:Nat):(w.alloc (.cells c e)).freeze ⟨w.heap.size,n,none⟩ 1=w.alloc (.cells c e (n,n+1)):=by
 unfold World.freeze World.alloc
 simp only [Nat.one_ne_zero,if_false]
 congr 1
 apply Array.ext
 ·simp
 ·intro i h1 h2
  simp only [Array.getElem_modify,Array.getElem_push]
  simp only [Array.size_modify,Array.size_push] at h1
  by_cases hi:i < w.heap.size
  ·simp [hi,show w.heap.size≠i by omega]
  ·have:i=w.heap.size:=by omega
   subst this
   simp

theorem nO (s:List UInt8):aA μ (s.map fun b=>AV.int .u8 b.toNat)=some (s.map fun b=>Value.int .u8 b.toNat):=by
 induction s with
 | nil=>rfl
 | cons b r ih=>simp [aA,aB,ih]

theorem tF:∀ {c:List AV} {s:List UInt8} {vs:List Value},aZ.bytesOf c=some s→aA μ c=some vs→∃ ns:List Int,vs=ns.map (Value.int .u8)∧s=ns.map fun n=>UInt8.ofNat n.toNat
 | [],s,vs,h,hc=>by
  simp only [aZ.bytesOf] at h; cases h; cases hc
  exact ⟨[],rfl,rfl⟩
 | v::c,s,vs,h,hc=>by
  unfold aZ.bytesOf at h
  split at h
  ·rename_i he; cases he
  ·rename_i n r he
   cases he
   simp only [Option.map_eq_some_iff] at h
   obtain ⟨s',hs',rfl⟩:=h
   simp only [aA,aB,Option.bind_some,Option.map_eq_some_iff] at hc
   obtain ⟨vs',hvs',rfl⟩:=hc
   obtain ⟨ns,rfl,rfl⟩:=tF hs' hvs'
   exact ⟨n::ns,rfl,rfl⟩
  ·cases h

theorem foldl_push (ns:List Int):∀ (b:ByteArray),ns.foldl (fun r n=>r.push (UInt8.ofNat n.toNat)) b=⟨(b.data.toList++ns.map fun n=>UInt8.ofNat n.toNat).toArray⟩:=by
 induction ns with
 | nil=>intro b; simp
 | cons n ns ih =>
  intro b
  rw [List.foldl_cons,ih]
  congr 1
  simp [ByteArray.push]

theorem Oc (h : aY P g μ H w) {src dst : TypeId} {x : AV} {x' : Value} {r : AV × Hp} (hr : aZ P src dst x H = some r) (hx : aB μ x = some x') :
    Yields P g μ H w (convert src dst x') (r.1, r.2, z0) := by
  unfold aZ at hr
  split at hr
  · rename_i sh k kk n hs hd
    cases hr; cases hx
    obtain ⟨d, hsd, _⟩ := ij hs
    refine Yields.pure h ⟨_, ?_, rfl⟩
    simp [convert, run_underlying hsd, run_underlying (n8 hd), Conv.intToInt]
  · rename_i sh kk n hs hd
    cases hr; cases hx
    obtain ⟨d, hsd, _⟩ := ij hs
    refine Yields.pure h ⟨.string (Utf8.encode n), ?_, by simp [aB]⟩
    simp [convert, run_underlying hsd, run_underlying (iJ hd), Conv.intToString]
  · rename_i sh s hs hd
    cases hr; cases hx
    obtain ⟨d, hsd, _⟩ := ij hs
    refine Yields.pure h ⟨_, ?_, rfl⟩
    simp [convert, run_underlying hsd, run_underlying (iJ hd)]
  · rename_i sh e s hs hd
    obtain ⟨d, hsd, _⟩ := ij hs
    obtain ⟨un, inf, hinf, hsz, hby⟩ := b8 hd
    cases hx
    split at hr
    · rename_i he
      cases hr
      have hss : (⟨s.toArray⟩ : ByteArray).size = s.length := by simp [ByteArray.size]
      have hcap := grownCap_ge w s.length 0 e
      have hrel := h.drew.new (.cells ((s.map fun b => Value.int .u8 b.toNat).toArray ++ Array.replicate (grownCap w s.length 0 e - s.length) (.int .u8 0)) e (grownCap w s.length 0 e, grownCap w s.length 0 e + 1)) (.cells (s.map fun b => .int .u8 b.toNat) e (.op 0 true)) (grownCap w s.length 0 e) (by
        refine ⟨_, _, _, heap_alloc_new w.drew _, nO s, ?_, ?_, ?_⟩
        · simp
        · intro j v hv
          simp only [Nat.zero_add]
          have hj : j < (s.map fun b => Value.int .u8 (b.toNat : Int)).length := (List.getElem?_eq_some_iff.1 hv).1
          rw [Array.getElem?_append_left (by simpa using hj)]
          simpa using hv
        · have hz : ((s.map fun b => Value.int .u8 (b.toNat : Int)).toArray ++ Array.replicate (grownCap w s.length 0 e - s.length) (Value.int .u8 0)).size = grownCap w s.length 0 e := by
            simp; omega
          rw [hz]
          exact ⟨⟨inf, hinf, by omega, by simp [hsz]⟩, .inr ⟨rfl, rfl⟩⟩)
      refine ⟨_, .slice (some ⟨w.heap.size, 0, none⟩) s.length (grownCap w s.length 0 e), _, ?_, h.dD _, hrel, by simp [aB, bI], by simp, Inv.snoc, eS⟩
      have hz : ((s.map fun b => Value.int .u8 (b.toNat : Int)).toArray ++ Array.replicate (grownCap w s.length 0 e - s.length) (Value.int .u8 0)).size = grownCap w s.length 0 e := by
        simp; omega
      have hfr := DD w.drew ((s.map fun b => Value.int .u8 (b.toNat : Int)).toArray ++ Array.replicate (grownCap w s.length 0 e - s.length) (Value.int .u8 0)) e (grownCap w s.length 0 e)
      simp only [World.size_drew] at hfr
      have hsh : (w.drew.alloc (.cells ((s.map fun b => Value.int .u8 (b.toNat : Int)).toArray ++ Array.replicate (grownCap w s.length 0 e - s.length) (Value.int .u8 0)) e)).shape? w.heap.size = some (e, grownCap w s.length 0 e) := by
        have := heap_alloc_new w.drew (.cells ((s.map fun b => Value.int .u8 (b.toNat : Int)).toArray ++ Array.replicate (grownCap w s.length 0 e - s.length) (Value.int .u8 0)) e)
        simp only [World.size_drew] at this
        simp only [World.shape?, this, hz]
      simp only [convert, Sem.run_bind, run_underlying hsd, run_underlying un, Result.andThen_ok, run_underlying (n8 he), Conv.stringToBytes, hss, run_choose, Question.forced, Bool.false_eq_true, if_false, newRow, run_newObj, markStringish, run_shape, run_freeze, Sem.run_pure]
      have harr : Array.map (fun b : UInt8 => Value.int .u8 (b.toNat : Int)) s.toArray = (s.map fun b => Value.int .u8 (b.toNat : Int)).toArray := by simp
      rw [harr]
      have key : ∀ (A : Array Value) (q : Nat), (w.drew.alloc (.cells A e)).shape? w.heap.size = some (e, q) → (w.drew.alloc (.cells A e)).freeze ⟨w.heap.size, q, none⟩ 1 = w.drew.alloc (.cells A e (q, q + 1)) →
          ((Sem.run P (match (w.drew.alloc (.cells A e)).shape? w.heap.size with | some (_, n) => freeze ⟨w.heap.size, n, none⟩ 1 | _ => pure ()) (w.drew.alloc (.cells A e))).andThen fun _ w' => Result.ok (Value.slice (some ⟨w.heap.size, 0, none⟩) s.length (grownCap w s.length 0 e)) w') =
            Result.ok (Value.slice (some ⟨w.heap.size, 0, none⟩) s.length (grownCap w s.length 0 e)) (w.drew.alloc (.cells A e (q, q + 1))) := by
        intro A q h1 h2
        rw [h1]
        simp only [run_freeze, Result.andThen_ok, h2]
      exact key _ _ hsh hfr
    · cases hr
  · rename_i e hs hd
    obtain ⟨un, _⟩ := b8 hs
    split at hr
    · rename_i he
      cases hr; cases hx
      refine Yields.pure h ⟨.string .empty, ?_, rfl⟩
      simp [convert, run_underlying un, run_underlying (iJ hd), run_underlying (n8 he), Conv.bytesToString]
    · cases hr
  · rename_i e b o n c hs hd
    obtain ⟨un, _⟩ := b8 hs
    split at hr
    · rename_i he
      simp only [Option.bind_eq_some_iff, Option.map_eq_some_iff] at hr
      obtain ⟨cs, hcs, s, hsb, rfl⟩ := hr
      simp only [aB, Option.map_eq_some_iff] at hx
      obtain ⟨l, hl, rfl⟩ := hx
      obtain ⟨vs, h1, h2, h3⟩ := h.rd hl hcs
      obtain ⟨ns, rfl, rfl⟩ := tF hsb h1
      have hlc : (loadCells ⟨l.blk, l.base + o, none⟩ n).run P w = .ok (ns.map (Value.int .u8)).toArray w := by
        have := run_loadCells_list (P := P) w ⟨l.blk, l.base + o, none⟩ (ns.map (Value.int .u8)) (fun j v hv => by rw [Addr.add_mid]; exact h3 j v hv)
        rwa [h2] at this
      refine Yields.pure h ⟨_, ?_, rfl⟩
      rw [run_convert_bytes_string w src dst e _ _ _ un (n8 he) (iJ hd), run_bytesToString w _ _ _ ns hlc, foldl_push]
      simp
    · cases hr
  · rename_i t b o hs hd
    split at hr
    · rename_i c e kd j hb hj
      split at hr
      · rename_i hc
        cases hr
        have hx0 := hx
        simp only [aB, Option.map_eq_some_iff] at hx
        obtain ⟨l, hl, rfl⟩ := hx
        obtain ⟨cc, fz, vs, hw, hv, hle, _, _⟩ := h.blk b l _ hl hb
        refine Yields.pure h ⟨_, ?_, hx0⟩
        refine Lib.run_to_unsafe w _ (nZ hs) (Et hd) hj hc.1 (e := e) (cells := cc.size) ?_ ?_
        · simp [World.shape?, hw]
        · have := hc.2
          show l.base + o < cc.size
          omega
      · cases hr
    · cases hr
  · rename_i u b o hs hd
    split at hr
    · rename_i c e j hb hj
      split at hr
      · rename_i hc
        cases hr
        have hx0 := hx
        simp only [aB, Option.map_eq_some_iff] at hx
        obtain ⟨l, hl, rfl⟩ := hx
        obtain ⟨cc, fz, vs, hw, hv, hle, _, hk⟩ := h.blk b l _ hl hb
        obtain ⟨hb0, hsz, _⟩ := hk
        refine Yields.pure h ⟨_, ?_, hx0⟩
        refine Lib.run_from_unsafe w _ (Et hs) (nZ hd) hj (e := e) (cells := c.length) ?_ ?_
        · simp [World.shape?, hw, hsz]
        · simp only [hb0, Nat.zero_add]
          exact hc
      · cases hr
    · cases hr
  · cases hr
end
inductive ShD:Sh→TypeDesc→Prop
 | int (k):ShD (.int k) (.int k)
 | str:ShD .str .string
 | bool:ShD .bool .bool

section
variable {P:Program} {g:Gh} {μ:Mu} {H:Hp} {w:World}

theorem sx {t:TypeId} {m:Sh × TypeId} (h:oD P t=some m):∃ kt d,P.underlying t=some (.map kt m.2)∧P.underlying kt=some d∧ShD m.1 d:=by
 unfold oD at h
 split at h
 ·rename_i kt et ht
  split at h
  ·rename_i hk; cases h; exact ⟨kt,_,mh ht,n8 hk,.int _⟩
  ·rename_i hk; cases h; exact ⟨kt,_,mh ht,iJ hk,.str⟩
  ·rename_i hk; cases h; exact ⟨kt,_,mh ht,Ih hk,.bool⟩
  ·cases h
 ·cases h

theorem Ba {s:Sh} {kt:TypeId} {d:TypeDesc} (hk:P.underlying kt=some d) (hd:ShD s d) (b:Bool) (v:Value) (n:Nat):(Instr.checkKey b (n+1) kt v).run P w=.ok () w:=by
 simp only [Instr.checkKey,Sem.run_bind,run_underlying hk,Result.andThen_ok]
 cases hd <;> cases v <;> rfl
theorem dY {s:Sh} {kt:TypeId} {d:TypeDesc} (hk:P.underlying kt=some d) (hd:ShD s d) (b:Bool) (v:Value):(Instr.checkKey b 10000 kt v).run P w=.ok () w:=Ba hk hd b v 9999

theorem map_eraseIdx {α β:Type} (f:α→β):∀ (l:List α) (i:Nat),(l.eraseIdx i).map f=(l.map f).eraseIdx i
 | [],_=>rfl
 | _::_,0=>rfl
 | a::l,i+1=>by simp [map_eraseIdx f l i]

theorem r6 {s:Sh} {d:TypeDesc} (hd:ShD s d) {a b:AV} {a' b':Value} {r:Bool} (h:sameKey s a b=some r) (ha:aB μ a=some a') (hb:aB μ b=some b'):Instr.sameNow d a' b'=some r:=by
 unfold sameKey at h
 split at h
 ·cases hd; cases ha; cases hb
  split at h
  ·rename_i hk; cases h; simp [Instr.sameNow,hk]
  ·cases h
 ·cases hd; cases ha; cases hb; cases h
  simp only [Instr.sameNow]
  rw [beq_toListBytes,mK,mK]
 ·cases hd; cases ha; cases hb; cases h; rfl
 ·cases h

theorem vT {s:Sh} {a b:AV} {a' b':Value} (h:sameKey s a b=some true) (ha:aB μ a=some a') (hb:aB μ b=some b'):Instr.sameBits 10000 b' a'=true:=by
 unfold sameKey at h
 split at h
 ·cases ha; cases hb
  split at h
  ·rename_i hk; subst hk
   simp only [Option.some.injEq,beq_iff_eq] at h
   subst h
   simp [Instr.sameBits]
  ·cases h
 ·cases ha; cases hb
  simp only [Option.some.injEq,beq_iff_eq] at h
  subst h
  simp only [Instr.sameBits]
  rw [beq_toListBytes]; simp
 ·cases ha; cases hb
  simp only [Option.some.injEq,beq_iff_eq] at h
  subst h
  simp [Instr.sameBits]
 ·cases h

theorem oN {s:Sh} {d:TypeDesc} (hd:ShD s d) {k:AV} {k':Value} (hk:aB μ k=some k'):∀ (es:List (AV × AV)) (ms:List MapEntry) (i:Nat) {r:Option (Nat × AV)},eu s k es i=some r →
  aA μ (es.map (·.1))=some (ms.map (·.key))→aA μ (es.map (·.2))=some (ms.map (·.val)) →
  match r with
  | none=>Instr.findNow d k' ms i=some none
  | some y=>∃ v',aB μ y.2=some v'∧Instr.findNow d k' ms i=some (some (y.1,v'))∧i≤y.1∧∃ e,ms[y.1 - i]?=some e∧Instr.sameBits 10000 e.key k'=true
 | [],ms,i,r,h,h1,h2=>by
  simp only [eu] at h; cases h
  cases ms with
  | nil=>rfl
  | cons m ms=>simp [aA] at h1
 | e::es,ms,i,r,h,h1,h2=>by
  cases ms with
  | nil=>simp [aA,Option.bind_eq_some_iff] at h1
  | cons m ms =>
   simp only [List.map_cons,aA,Option.bind_eq_some_iff,Option.map_eq_some_iff,List.cons.injEq] at h1 h2
   obtain ⟨a,ha,az,has,rfl,hrest⟩:=h1
   obtain ⟨b,hb,bs,hbs,rfl,hrest2⟩:=h2
   subst hrest; subst hrest2
   simp only [eu] at h
   split at h
   ·rename_i hs
    cases h
    have e1:=r6 hd hs hk ha
    exact ⟨_,hb,by simp [Instr.findNow,e1],Nat.le_refl _,m,by simp,vT hs hk ha⟩
   ·rename_i hs
    have e1:=r6 hd hs hk ha
    have ih:=oN hd hk es ms (i+1) h has hbs
    cases r with
    | none=>simpa [Instr.findNow,e1] using ih
    | some y =>
     obtain ⟨v',i1,i2,i3,e,i4,i5⟩:=ih
     refine ⟨v',i1,by simpa [Instr.findNow,e1] using i2,by omega,e,?_,i5⟩
     rw [show y.1 - i=(y.1 - (i+1))+1 by omega]
     simpa using i4
   ·cases h

theorem fu {s:Sh} {d:TypeDesc} {kt:TypeId} (hkt:P.underlying kt=some d) {k':Value} {ms:List MapEntry} {r:Option (Nat × Value)} (h:Instr.findNow d k' ms 0=some r):(Instr.findKey kt k' ms).run P w=.ok r w:=by
 simp only [Instr.findKey,Sem.run_bind,run_underlying hkt,Result.andThen_ok,h,Sem.run_pure]

theorem iV {r:Nat} {ms:Array MapEntry} {ck:Nat} (h:w.heap[r]?=some (.map ms ck)):(getObj r).run P w=.ok (.map ms ck) w:=by simp [getObj,Sem.run,h]

theorem Gy (h:aY P g μ H w) {t:TypeId} {x i v:AV} {ok:Bool} {x' i':Value} (hv:ir P t x i ok H=some v) (hx:aB μ x=some x') (hi:aB μ i=some i') :
  ∃ v',(Instr.lookup t x' i' ok).run P w=.ok v' w∧aB μ v=some v':=by
 unfold ir at hv
 simp only [Option.bind_eq_some_iff] at hv
 obtain ⟨m,hm,es,hes,r,hr,hv⟩:=hv
 obtain ⟨kt,d,u1,u2,hd⟩:=sx hm
 -- the entries, there
 obtain ⟨ms,hms,k1,k2⟩:∃ ms:Array MapEntry,((x'=.map none∧ms=#[])∨∃ l ck,x'=.map (some l)∧w.heap[l]?=some (.map ms ck)) ∧
   aA μ (es.map (·.1))=some (ms.toList.map (·.key))∧aA μ (es.map (·.2))=some (ms.toList.map (·.val)):=by
  split at hes
  ·cases hes; cases hx
   exact ⟨#[],.inl ⟨rfl,rfl⟩,rfl,rfl⟩
  ·rename_i q
   split at hes
   ·rename_i es' hb
    cases hes
    simp only [aB,Option.map_eq_some_iff] at hx
    obtain ⟨l,hl,rfl⟩:=hx
    obtain ⟨ms,ck,h1,h2,h3⟩:=h.blk q l _ hl hb
    exact ⟨ms,.inr ⟨_,ck,rfl,h1⟩,h2,h3⟩
   ·cases hes
  ·cases hes
 have hf:=oN hd hi es ms.toList 0 hr k1 k2
 cases r with
 | none =>
  simp only [Option.map_eq_some_iff] at hv
  obtain ⟨z,hz,rfl⟩:=hv
  obtain ⟨zv,e1,e2⟩:=xx (w:=w) (μ:=μ) hz
  refine ⟨if ok then .tuple #[zv,.bool false] else zv,?_,by cases ok <;> simp [aB,aA,e2]⟩
  rcases hms with ⟨rfl,rfl⟩ | ⟨l,ck,rfl,hg⟩
  ·have f0:=fu (P:=P) (w:=w) (s:=m.1) u2 hf
   simp only [Instr.lookup,Sem.run_bind,run_underlying u1,Result.andThen_ok,Sem.run_pure,dY u2 hd,f0,e1]
  ·simp only [Instr.lookup,Sem.run_bind,run_underlying u1,Result.andThen_ok,Sem.run_pure,iV hg,dY u2 hd,fu (s:=m.1) u2 hf,e1]
 | some y =>
  obtain ⟨v',f1,f2,_⟩:=hf
  simp only [Option.some.injEq] at hv
  subst hv
  refine ⟨if ok then .tuple #[v',.bool true] else v',?_,by cases ok <;> simp [aB,aA,f1]⟩
  rcases hms with ⟨rfl,rfl⟩ | ⟨l,ck,rfl,hg⟩
  ·have f0:=fu (P:=P) (w:=w) (s:=m.1) u2 f2
   simp only [Instr.lookup,Sem.run_bind,run_underlying u1,Result.andThen_ok,Sem.run_pure,dY u2 hd,f0]
  ·simp only [Instr.lookup,Sem.run_bind,run_underlying u1,Result.andThen_ok,Sem.run_pure,iV hg,dY u2 hd,fu (s:=m.1) u2 f2]

theorem jQ {r:Nat} {o o':Obj} (h:w.heap[r]?=some o') (hm:∀ c e f,o'≠.cells c e f):(setObj r o).run P w=.ok () { w with heap:=w.heap.setIfInBounds r o }:=by
 simp only [setObj,Sem.run,h]

theorem fP (w:World) (r k:Nat) (o:Obj) (h:k≠r):({ w with heap:=w.heap.setIfInBounds r o }:World).heap[k]?=w.heap[k]?:=by
 simp [Array.getElem?_setIfInBounds,Ne.symm h]
theorem gw (w:World) (r:Nat) (o o':Obj) (h:w.heap[r]?=some o'):({ w with heap:=w.heap.setIfInBounds r o }:World).heap[r]?=some o:=by
 have:r < w.heap.size:=(Array.getElem?_eq_some_iff.1 h).1
 simp [Array.getElem?_setIfInBounds,this]

theorem uM (h:aY P g μ H w) {t:TypeId} {m k v:AV} {m' k' v':Value} {r:Hp × Ef} (hr:fS P t m k v H=some r) (hm:aB μ m=some m') (hk:aB μ k=some k') (hv:aB μ v=some v') :
  TG P g μ H w (Instr.mapUpdate t m' k' v') (bw,r.1,r.2):=by
 unfold fS at hr
 simp only [Option.bind_eq_some_iff] at hr
 obtain ⟨s,hs,hr⟩:=hr
 obtain ⟨kt,d,u1,u2,hd⟩:=sx hs
 split at hr
 ·rename_i q
  split at hr
  ·rename_i es hb
   simp only [Option.map_eq_some_iff] at hr
   obtain ⟨x,hx,rfl⟩:=hr
   simp only [aB,Option.map_eq_some_iff] at hm
   obtain ⟨l,hl,rfl⟩:=hm
   obtain ⟨ms,ck,h1,h2,h3⟩:=h.blk q l _ hl hb
   have hf:=oN hd hk es ms.toList 0 hx h2 h3
   have hinv:∀ y:List (AV × AV),(∀ p ∈ y,p ∈ es∨p=(k,v))→Inv H.length H (H.set q (.map y)) ⟨if (flat k && flat v)=true then none else some q,some q⟩:=by
    intro y hy
    refine Inv.set hb ?_ rfl
    by_cases hfl:(flat k && flat v)=true
    ·right
     rw [Bool.and_eq_true] at hfl
     intro u hu
     simp only [cont,List.mem_append,List.mem_map] at hu ⊢
     rcases hu with ⟨p,hp,rfl⟩ | ⟨p,hp,rfl⟩
     ·rcases hy p hp with hp | rfl
      ·exact .inl (.inl ⟨p,hp,rfl⟩)
      ·exact .inr hfl.1
     ·rcases hy p hp with hp | rfl
      ·exact .inl (.inr ⟨p,hp,rfl⟩)
      ·exact .inr hfl.2
    ·left; simp [hfl]
   cases x with
   | none =>
    refine ⟨μ,_,?_,Le.refl μ,h.change hl hb rfl (fun j hj=>fP w l.blk j (.map (ms.push { key:=k',val:=v',born:=ck }) (ck+1)) hj) (by simp) rfl rfl rfl ⟨_,_,gw w l.blk _ _ h1,?_,?_⟩,rfl,by simp,hinv _ (fun p hp=>by simpa using hp),fun _ _=>rfl⟩
    ·simp only [Instr.mapUpdate,Sem.run_bind,run_underlying u1,Result.andThen_ok,iV h1,dY u2 hd,fu (s:=s.1) u2 hf]
     exact jQ h1 (by simp)
    ·simp only [List.map_append,List.map_cons,List.map_nil,Array.toList_push]
     exact aL h2 (by simp [aA,hk])
    ·simp only [List.map_append,List.map_cons,List.map_nil,Array.toList_push]
     exact aL h3 (by simp [aA,hv])
   | some y =>
    obtain ⟨v0,f1,f2,_,e,f4,f5⟩:=hf
    simp only [Nat.sub_zero] at f4
    have hlt:y.1 < ms.size:=by simpa using (List.getElem?_eq_some_iff.1 f4).1
    have hge:ms[y.1]?=some e:=by simpa using f4
    have hmod:(ms.modify y.1 fun e=>{ e with key:=k',val:=v' }).toList=ms.toList.modify y.1 fun e=>{ e with key:=k',val:=v' }:=by simp
    refine ⟨μ,_,?_,Le.refl μ,h.change hl hb rfl (fun j hj=>fP w l.blk j (.map (ms.modify y.1 fun e=>{ e with key:=k',val:=v' }) ck) hj) (by simp) rfl rfl rfl ⟨_,_,gw w l.blk _ _ h1,?_,?_⟩,rfl,by simp,hinv _ (fun p hp=>(List.mem_or_eq_of_mem_set hp)),fun _ _=>rfl⟩
    ·simp only [Instr.mapUpdate,Sem.run_bind,run_underlying u1,Result.andThen_ok,iV h1,dY u2 hd,fu (s:=s.1) u2 f2,hge,Option.map_some,Option.getD_some,Instr.keyThatStays,f5,if_true,Sem.run_pure]
     exact jQ h1 (by simp)
    ·rw [hmod]
     have:=j5 y.1 h2 hk
     rw [List.map_set] 
     rw [this]
     congr 1
     apply List.ext_getElem?
     intro j
     simp only [List.getElem?_set,List.getElem?_map,List.getElem?_modify]
     by_cases hj:y.1=j
     ·subst hj; simp [hlt]
     ·simp [hj]
    ·rw [hmod]
     have:=j5 y.1 h3 hv
     rw [List.map_set]
     rw [this]
     congr 1
     apply List.ext_getElem?
     intro j
     simp only [List.getElem?_set,List.getElem?_map,List.getElem?_modify]
     by_cases hj:y.1=j
     ·subst hj; simp [hlt]
     ·simp [hj]
  ·cases hr
 ·cases hr

theorem jm:∀ {a:List AV} {x:List Value} (d:Nat),aA μ a=some x→aA μ (a.eraseIdx d)=some (x.eraseIdx d)
 | [],x,d,e=>by cases e; simp [aA]
 | u::us,x,d,e=>by
  simp only [aA,Option.bind_eq_some_iff,Option.map_eq_some_iff] at e
  obtain ⟨z,hz,zs,hzs,rfl⟩:=e
  cases d with
  | zero=>simpa using hzs
  | succ d=>simp [aA,hz,jm d hzs]

theorem G2 (h:aY P g μ H w) {t:TypeId} {ts:Array TypeId} {ty:TypeId} {m k:AV} {m' k':Value} {r:Hp × Ef} (hr:tf P t m k H=some r) (hm:aB μ m=some m') (hk:aB μ k=some k') (hts:ts[0]?=some t) :
  Yields P g μ H w (Builtin.delete_ ts ty #[m',k']) (bw,r.1,r.2):=by
 unfold tf at hr
 simp only [Option.bind_eq_some_iff] at hr
 obtain ⟨s,hs,hr⟩:=hr
 obtain ⟨kt,d,u1,u2,hd⟩:=sx hs
 split at hr
 ·cases hr; cases hm
  refine Yields.pure h ⟨undef,?_,rfl⟩
  simp only [Builtin.delete_,hts,List.getElem?_toArray,List.getElem?_cons_zero,List.getElem?_cons_succ,Sem.run_bind,run_underlying u1,Result.andThen_ok,dY u2 hd,Sem.run_pure]
  rfl
 ·rename_i q
  split at hr
  ·rename_i es hb
   simp only [Option.map_eq_some_iff] at hr
   obtain ⟨x,hx,rfl⟩:=hr
   simp only [aB,Option.map_eq_some_iff] at hm
   obtain ⟨l,hl,rfl⟩:=hm
   obtain ⟨ms,ck,h1,h2,h3⟩:=h.blk q l _ hl hb
   have hf:=oN hd hk es ms.toList 0 hx h2 h3
   have hinv:∀ y:List (AV × AV),(∀ p ∈ y,p ∈ es)→Inv H.length H (H.set q (.map y)) ⟨none,some q⟩:=by
    intro y hy
    refine Inv.set hb (.inr fun u hu=>?_) rfl
    simp only [cont,List.mem_append,List.mem_map] at hu ⊢
    rcases hu with ⟨p,hp,rfl⟩ | ⟨p,hp,rfl⟩
    ·exact .inl (.inl ⟨p,hy p hp,rfl⟩)
    ·exact .inl (.inr ⟨p,hy p hp,rfl⟩)
   cases x with
   | none =>
    refine ⟨μ,undef,_,?_,Le.refl μ,h.change hl hb rfl (fun j hj=>fP w l.blk j (.map ms ck) hj) (by simp) rfl rfl rfl ⟨_,_,gw w l.blk _ _ h1,h2,h3⟩,rfl,by simp,hinv _ (fun p hp=>hp),fun _ _=>rfl⟩
    simp only [Builtin.delete_,hts,List.getElem?_toArray,List.getElem?_cons_zero,List.getElem?_cons_succ,Sem.run_bind,run_underlying u1,Result.andThen_ok,iV h1,dY u2 hd,fu (s:=s.1) u2 hf,jQ h1 (by simp:∀ c e f,Obj.map ms ck≠.cells c e f),Sem.run_pure]
    rfl
   | some y =>
    obtain ⟨v0,f1,f2,_,e,f4,f5⟩:=hf
    have hera:(ms.eraseIdxIfInBounds y.1).toList=ms.toList.eraseIdx y.1:=by simp
    refine ⟨μ,undef,_,?_,Le.refl μ,h.change hl hb rfl (fun j hj=>fP w l.blk j (.map (ms.eraseIdxIfInBounds y.1) ck) hj) (by simp) rfl rfl rfl ⟨_,_,gw w l.blk _ _ h1,?_,?_⟩,rfl,by simp,hinv _ (fun p hp=>List.mem_of_mem_eraseIdx hp),fun _ _=>rfl⟩
    ·simp only [Builtin.delete_,hts,List.getElem?_toArray,List.getElem?_cons_zero,List.getElem?_cons_succ,Sem.run_bind,run_underlying u1,Result.andThen_ok,iV h1,dY u2 hd,fu (s:=s.1) u2 f2,jQ h1 (by simp:∀ c e f,Obj.map ms ck≠.cells c e f),Sem.run_pure]
     rfl
    ·rw [hera]
     have:=jm y.1 h2
     simpa only [map_eraseIdx] using this
    ·rw [hera]
     have:=jm y.1 h3
     simpa only [map_eraseIdx] using this
  ·cases hr
 ·cases hr

theorem sy (h:aY P g μ H w) {t k e:TypeId} (ht:tsh P t=some (.map k e)) (rv:Option Value) (hrv:∀ v,rv=some v→∃ kk n,v=.int kk n):Yields P g μ H w (Instr.makeMap t rv) (.map H.length,H++[.map []],z0):=by
 have hrel:=h.new (.map #[] 0) (.map []) 0 ⟨#[],0,heap_alloc_new w _,rfl,rfl⟩
 refine ⟨_,.map (some w.heap.size),_,?_,h.dD _,hrel,by simp [aB,bI],by simp,Inv.snoc,eS⟩
 cases rv with
 | none=>simp [Instr.makeMap]
 | some v =>
  obtain ⟨kk,n,rfl⟩:=hrv v rfl
  simp [Instr.makeMap,run_underlying (mh ht),asInt,asIntOf]

theorem I9 (h:aY P g μ H w) {t:TypeId} {s:List UInt8} (ht:tsh P t=some .str):Yields P g μ H w (Instr.range t (.string ⟨s.toArray⟩)) (.ptr H.length 0,H++[.iter s 0],z0):=by
 have hrel:=h.new (.stringIter ⟨s.toArray⟩ 0) (.iter s 0) 0 ⟨heap_alloc_new w _,rfl⟩
 refine ⟨_,.pointer (some ⟨w.heap.size,0,none⟩),_,?_,h.dD _,hrel,by simp [aB,bI],by simp,Inv.snoc,eS⟩
 simp [Instr.range,run_underlying (iJ ht)]

theorem MY (h:aY P g μ H w) {b:Nat} {s:List UInt8} {p:Nat} {ty:TypeId} {x':Value} (hb:H[b]?=some (.iter s p)) (hx:aB μ (.ptr b 0)=some x') :
  Yields P g μ H w (Instr.next x' true ty) ((aJ s p).1,H.set b (.iter s (aJ s p).2),⟨none,some b⟩):=by
 simp only [aB,Option.map_eq_some_iff] at hx
 obtain ⟨l,hl,rfl⟩:=hx
 obtain ⟨h1,h2⟩:=h.blk b l _ hl hb
 have hss:(⟨s.toArray⟩:ByteArray).size=s.length:=by simp [ByteArray.size]
 have hg:(getObj l.blk).run P w=.ok (.stringIter ⟨s.toArray⟩ p) w:=by simp [getObj,Sem.run,h1]
 by_cases hp:p < s.length
 ·have e0:aJ s p=(.tuple [.bool true,.int .i64 p,.int .i32 (Utf8.decode ⟨s.toArray⟩ p).1],p+(Utf8.decode ⟨s.toArray⟩ p).2):=by simp [aJ,hp]
  rw [e0]
  refine ⟨μ,.tuple #[.bool true,goInt p,.int .i32 (Utf8.decode ⟨s.toArray⟩ p).1],_,?_,Le.refl μ,h.change hl hb rfl (fun j hj=>fP w l.blk j (.stringIter ⟨s.toArray⟩ (p+(Utf8.decode ⟨s.toArray⟩ p).2)) hj) (by simp) rfl rfl rfl ⟨gw w l.blk _ _ h1,h2⟩,by simp [aB,aA,goInt],by simp,Inv.set hb (.inr (by simp [cont])) rfl,fun _ _=>rfl⟩
  rw [h2]
  simp only [Instr.next,Nat.add_zero,Sem.run_bind,hg,Result.andThen_ok,hss,hp,if_true,jQ h1 (by simp:∀ c e f,Obj.stringIter ⟨s.toArray⟩ p≠.cells c e f),Sem.run_pure]
 ·have e0:aJ s p=(.tuple [.bool false],p):=by simp [aJ,hp]
  rw [e0]
  have hset:H.set b (.iter s p)=H:=by
   apply List.ext_getElem?
   intro j
   rw [List.getElem?_set]
   have hlt:b < H.length:=(List.getElem?_eq_some_iff.1 hb).1
   by_cases hj:b=j
   ·subst hj; simp only [if_true,hlt]; exact hb.symm
   ·simp [hj]
  rw [show (AV.tuple [AV.bool false],p).2=p from rfl,hset]
  refine ⟨μ,.tuple #[.bool false],w,?_,Le.refl μ,h,by simp [aB,aA],Nat.le_refl _,Inv.refl _ _ _,fun _ _=>rfl⟩
  rw [h2]
  simp only [Instr.next,Nat.add_zero,Sem.run_bind,hg,Result.andThen_ok,hss,hp,if_false,Sem.run_pure]
end
section
variable {P:Program} {g:Gh} {μ:Mu} {H:Hp} {w:World}

theorem vQ (h:aY P g μ H w) {ts:Array TypeId} {ty:TypeId} {x v:AV} {x':Value} (hv:fA P x H=some v) (hx:aB μ x=some x'):∃ v',(Builtin.unsafeSliceData_ ts ty #[x']).run P w=.ok v' w∧aB μ v=some v':=by
 unfold fA at hv
 split at hv
 ·cases hv; cases hx
  exact ⟨_,Lib.run_unsafeSliceData_nil w ts ty 0 0,rfl⟩
 ·rename_i b o n c
  split at hv
  ·rename_i hc
   cases hv
   simp only [aB,Option.map_eq_some_iff] at hx
   obtain ⟨l,hl,rfl⟩:=hx
   exact ⟨_,Lib.run_unsafeSliceData_row w ts ty _ _ _ hc,by simp [aB,hl]⟩
  ·cases hv
 ·rename_i b o n k
  split at hv
  ·rename_i c e fz st hb
   simp only [Option.bind_eq_some_iff] at hv
   obtain ⟨z,hz,hv⟩:=hv
   split at hv
   ·rename_i hc
    cases hv
    simp only [aB,Option.map_eq_some_iff] at hx
    obtain ⟨l,hl,rfl⟩:=hx
    obtain ⟨cc,fr,vs,hw,hvv,hle,_,hk⟩:=h.blk b l _ hl hb
    obtain ⟨⟨i,hi,hi0,hsz⟩,_⟩:=hk
    have hzi:z=i.size:=by simp [cq,hi] at hz; exact hz.symm
    subst hzi
    obtain ⟨h0,ho,hn,hnc⟩:=hc
    have hcap:l.cap - k≠0:=by
     have h1:(k+n)*i.size≤l.cap*i.size:=by rw [Nat.add_mul]; omega
     have h2:=Nat.le_of_mul_le_mul_right h1 h0
     omega
    exact ⟨_,Lib.run_unsafeSliceData_row w ts ty _ _ _ hcap,by simp [aB,hl]⟩
   ·cases hv
  ·cases hv
 ·cases hv

theorem sC {e:TypeId} (hc:P.cellsOf e=1) (count off n:Nat) (hn:off+n≤count):liesAt P P.depth e count off e n=true:=by
 have hd:P.depth=(2*(P.types.size+Made.depth)+1)+1:=rfl
 rw [hd]
 simp only [liesAt,Bool.or_eq_true]
 left
 rw [hd]
 simp [rowAt,hc,hn,sameLayout,Nat.mod_one]

theorem iG (pt it ty e:TypeId) (hp:P.underlying pt=some (.pointer e)) (hc:P.cellsOf e=1) (b off cells:Nat) (hsh:w.shape? b=some (e,cells)) (l:List UInt8) (h0:l≠[]) (hn:off+l.length≤cells) (h63:l.length≤9223372036854775807)
  (hcell:∀ (j:Nat) x,l[j]?=some x→w.cell? ((⟨b,off,none⟩:Addr).add j)=some (.int .u8 x.toNat)) :
  (Builtin.unsafeString_ #[pt,it] ty #[.pointer (some ⟨b,off,none⟩),.int .i64 l.length]).run P w=.ok (.string ⟨l.toArray⟩) (w.freeze ⟨b,off,none⟩ l.length):=by
 have hl:l.length≠0:=by simpa using h0
 have hlb:=Lib.run_loadBytes (P:=P) w l ⟨b,off,none⟩ .empty hcell
 have hlies:=sC (P:=P) hc (cells / P.cellsOf e) off l.length (by rw [hc]; simpa using hn)
 have h63':¬ (9223372036854775807:Int) < (l.length:Int):=by omega
 have hmax:IntKind.i64.max=9223372036854775807:=rfl
 have hneg:¬ (l.length:Int) < 0:=by omega
 show Sem.run P (asInt (.int .i64 l.length) >>= _) w=_
 simp [asInt,asIntOf,hmax,h63',hneg,hl,variablesAt,hsh,elemOf,run_underlying hp,hlies,hlb]

theorem uY {b off n:Nat} {cc:Array Value} {e:TypeId} {fr:Nat × Nat} (hw:w.heap[b]?=some (.cells cc e fr)) (hn:n≠0) :
  ∃ fr':Nat × Nat,(w.freeze ⟨b,off,none⟩ n).heap[b]?=some (.cells cc e fr')∧(fr'.2≤fr.2∨fr'.2≤off+n):=by
 unfold World.freeze
 rw [if_neg hn]
 obtain ⟨lo,hi⟩:=fr
 refine ⟨_,by simp [Array.getElem?_modify,hw]; rfl,?_⟩
 split
 ·exact .inr (Nat.le_refl _)
 ·simp only
  omega
theorem oL {b off n k:Nat} (hk:k≠b):(w.freeze ⟨b,off,none⟩ n).heap[k]?=w.heap[k]?:=by
 unfold World.freeze
 split
 ·rfl
 ·simp [Array.getElem?_modify,Ne.symm hk]
theorem qQ {a:Addr} {n:Nat}:(w.freeze a n).heap.size=w.heap.size:=by
 unfold World.freeze
 split
 ·rfl
 ·simp

theorem ji:∀ {c:List AV} {s:List UInt8},iQ c=some s→c=s.map fun b=>AV.int .u8 b.toNat
 | [],s,h=>by simp only [iQ] at h; cases h; rfl
 | v::c,s,h=>by
  unfold iQ at h
  split at h
  ·rename_i he; cases he
  ·rename_i n r he
   cases he
   split at h
   ·rename_i hn
    simp only [Option.map_eq_some_iff] at h
    obtain ⟨s',hs',rfl⟩:=h
    rw [ji hs',List.map_cons]
    congr 2
    have:n.toNat < 256:=by omega
    rw [UInt8.toNat_ofNat_of_lt' (by simpa using this)]
    omega
   ·cases h
  ·cases h

theorem FO (h:aY P g μ H w) {pt it ty:TypeId} {x i:AV} {x' i':Value} {r:AV × Hp × Ef} (hr:gA P pt x i H=some r) (hx:aB μ x=some x') (hi:aB μ i=some i') :
  Yields P g μ H w (Builtin.unsafeString_ #[pt,it] ty #[x',i']) r:=by
 unfold gA at hr
 split at hr
 ·rename_i n
  cases hi
  split at hr
  ·rename_i hn
   subst hn
   split at hr
   ·cases hr; cases hx
    exact Yields.pure h ⟨_,Lib.run_unsafeString_none w pt it ty none,rfl⟩
   ·cases hr
    simp only [aB,Option.map_eq_some_iff] at hx
    obtain ⟨l,hl,rfl⟩:=hx
    exact Yields.pure h ⟨_,Lib.run_unsafeString_none w pt it ty _,rfl⟩
   ·cases hr
  ·split at hr
   ·rename_i hn0 hn
    split at hr
    ·rename_i b o e hpt
     split at hr
     ·rename_i c e' fz hb
      split at hr
      ·rename_i hc
       obtain ⟨rfl,hz,hcell,hoc⟩:=hc
       simp only [Option.map_eq_some_iff] at hr
       obtain ⟨s,hs,rfl⟩:=hr
       simp only [aB,Option.map_eq_some_iff] at hx
       obtain ⟨l,hl,rfl⟩:=hx
       obtain ⟨cc,fr,vs,hw,hvv,hle,hcc,hk⟩:=h.blk b l _ hl hb
       have hvs:aA μ ((c.drop o).take n.toNat)=some ((vs.drop o).take n.toNat):=fB (gp hvv o) _
       rw [ji hs,nO] at hvs
       have hvs:=Option.some.inj hvs
       have hsl:s.length=n.toNat:=by
        have h1:=congrArg List.length (ji hs)
        rw [List.length_map,List.length_take,List.length_drop] at h1
        omega
       have hpos:0 < n.toNat:=by omega
       have hns:n=(s.length:Int):=by omega
       have hcs:∀ (j:Nat) y,s[j]?=some y→w.cell? ((⟨l.blk,l.base+o,none⟩:Addr).add j)=some (.int .u8 y.toNat):=by
        intro j y hy
        have h2:((vs.drop o).take n.toNat)[j]?=some (.int .u8 y.toNat):=by rw [← hvs,List.getElem?_map,hy]; rfl
        have hj:j < n.toNat:=by rw [← hsl]; exact (List.getElem?_eq_some_iff.1 hy).1
        rw [List.getElem?_take_of_lt hj,List.getElem?_drop] at h2
        rw [Addr.add_mid]
        have h3:=hcc _ _ h2
        simp only [World.cell?,hw]
        rw [← h3]
        simp [Nat.add_assoc]
       have hrun:=iG (P:=P) (w:=w) pt it ty e' (nZ hpt) hcell l.blk (l.base+o) cc.size (by simp [World.shape?,hw]) s (by intro e; subst e; simp at hsl; omega) (by omega) (by omega) hcs
       obtain ⟨fr',hfr,hfr2⟩:=uY (w:=w) (off:=l.base+o) (n:=s.length) hw (by omega)
       rw [hns]
       obtain ⟨⟨inf,hinf,hi0,hsz⟩,hkf⟩:=hk
       refine ⟨μ,_,_,hrun,Le.refl μ,?_,by simp [aB],by simp,Inv.set hb (.inr (fun v hv=>.inl hv)) rfl,fun _ _=>rfl⟩
       refine h.change hl hb rfl (fun k hk'=>oL hk') qQ (by unfold World.freeze; split <;> rfl) (by unfold World.freeze; split <;> rfl) (by unfold World.freeze; split <;> rfl) ?_
       refine ⟨cc,fr',vs,hfr,hvv,hle,hcc,⟨inf,hinf,hi0,hsz⟩,.inl ?_⟩
       rcases hkf with hkf | ⟨hkf,_⟩
       ·simp only [Int.toNat_natCast]
        have hsc:s.length=n.toNat:=hsl
        omega
       ·cases hkf
      ·cases hr
     ·rename_i c e' hb
      split at hr
      ·rename_i hc
       obtain ⟨rfl,hz,hcell,hoc⟩:=hc
       simp only [Option.map_eq_some_iff] at hr
       obtain ⟨s,hs,rfl⟩:=hr
       simp only [aB,Option.map_eq_some_iff] at hx
       obtain ⟨l,hl,rfl⟩:=hx
       obtain ⟨cc,fr,vs,hw,hvv,hle,hcc,hk⟩:=h.blk b l _ hl hb
       have hvs:aA μ ((c.drop o).take n.toNat)=some ((vs.drop o).take n.toNat):=fB (gp hvv o) _
       rw [ji hs,nO] at hvs
       have hvs:=Option.some.inj hvs
       have hsl:s.length=n.toNat:=by
        have h1:=congrArg List.length (ji hs)
        rw [List.length_map,List.length_take,List.length_drop] at h1
        omega
       have hpos:0 < n.toNat:=by omega
       have hns:n=(s.length:Int):=by omega
       have hcs:∀ (j:Nat) y,s[j]?=some y→w.cell? ((⟨l.blk,l.base+o,none⟩:Addr).add j)=some (.int .u8 y.toNat):=by
        intro j y hy
        have h2:((vs.drop o).take n.toNat)[j]?=some (.int .u8 y.toNat):=by rw [← hvs,List.getElem?_map,hy]; rfl
        have hj:j < n.toNat:=by rw [← hsl]; exact (List.getElem?_eq_some_iff.1 hy).1
        rw [List.getElem?_take_of_lt hj,List.getElem?_drop] at h2
        rw [Addr.add_mid]
        have h3:=hcc _ _ h2
        simp only [World.cell?,hw]
        rw [← h3]
        simp [Nat.add_assoc]
       have hrun:=iG (P:=P) (w:=w) pt it ty e' (nZ hpt) hcell l.blk (l.base+o) cc.size (by simp [World.shape?,hw]) s (by intro e; subst e; simp at hsl; omega) (by omega) (by omega) hcs
       obtain ⟨fr',hfr,hfr2⟩:=uY (w:=w) (off:=l.base+o) (n:=s.length) hw (by omega)
       rw [hns]
       refine ⟨μ,_,_,hrun,Le.refl μ,?_,by simp [aB],by simp,Inv.set hb (.inr (by simp [cont])) rfl,fun _ _=>rfl⟩
       exact h.change hl hb rfl (fun k hk'=>oL hk') qQ (by unfold World.freeze; split <;> rfl) (by unfold World.freeze; split <;> rfl) (by unfold World.freeze; split <;> rfl) trivial
      ·cases hr
     ·cases hr
    ·cases hr
   ·cases hr
 ·cases hr
end
structure cJ (P:Program) (C:bL):Prop where
 fn:∀ f args H r,f < P.funcs.size→C f args H=some r→∀ g μ w vs,aY P g μ H w→aA μ args=some vs →
  Calls P f vs.toArray w (fun e w'=>∃ μ' v',e=.returned v'∧Ok P g μ H r μ' v' w')
 yl:∀ b args H r,C (P.funcs.size+b) args H=some r→∀ g μ w vs l,aY P g μ H w→aA μ args=some vs→μ b=some l →
  ∃ rec:Loop,w.heap[l.blk]?=some (.loop rec)∧vs.length=rec.params.size ∧
   ∀ n,RoundIn Fence.wide n P l.blk rec.fn ((rec.params.zip vs.toArray).foldl (fun t (p,v)=>t.setIfInBounds p v) rec.tmps) rec.assign rec.body w (fun e w'=>∃ μ' v',e=.returned v'∧Ok P g μ H r μ' v' w')
def JM (P:Program) (σ:List AV):Op→Bool
 | .call c=>match c.callee with
  | .value f=>match aG P σ f with
   | some (.yld _)=>true
   | _=>false
  | _=>false
 | _=>false

section
variable {P:Program} {g:Gh} {μ:Mu} {H:Hp} {w:World} {a:Act} {σ:List AV} {C:bL}

theorem bE (h:aY P g μ H w) (hσ:aA μ σ=some a.tmps.toList) {x:Operand} {v:AV} (hv:aG P σ x=some v):aB μ v=some (a.eval x):=by
 cases x with
 | tmp t =>
  simp only [aG,Option.some.injEq] at hv
  subst hv
  have hg:=gX hσ t
  have hl:=aX hσ
  simp only [Act.eval]
  cases ht:σ[t]? with
  | none =>
   rw [ht] at hg
   simp only [Option.bind_none,Array.getElem?_toList] at hg
   simp only [Option.getD_none]
   have:a.tmps.getD t undef=undef:=by simp [Array.getD_eq_getD_getElem?,hg]
   rw [this]
   rfl
  | some u =>
   rw [ht] at hg
   simp only [Option.bind_some,Array.getElem?_toList] at hg
   simp only [Option.getD_some]
   have hlt:t < a.tmps.size:=by
    have:=(List.getElem?_eq_some_iff.1 ht).1
    simp only [Array.length_toList] at hl
    exact Nat.lt_of_lt_of_eq this hl.symm
   have:a.tmps[t]?=some (a.tmps.getD t undef):=by simp [Array.getD_eq_getD_getElem?,hlt]
   rw [← hg,this]
 | const c=>exact o6 μ c hv
 | global i =>
  simp only [aG] at hv
  split at hv
  ·rename_i hi
   cases hv
   obtain ⟨c,hc⟩:=h.eK i hi
   simp [aB,hc,Act.eval]
  ·cases hv
 | func f=>cases hv; rfl

theorem jB (h:aY P g μ H w) (hσ:aA μ σ=some a.tmps.toList):∀ {xs:List Operand} {vs:List AV},bO P σ xs=some vs→aA μ vs=some (xs.map a.eval)
 | [],vs,e=>by cases e; rfl
 | x::xs,vs,e=>by
  simp only [bO,Option.bind_eq_some_iff,Option.map_eq_some_iff] at e
  obtain ⟨v,hv,us,hus,rfl⟩:=e
  simp [aA,bE h hσ hv,jB h hσ hus]

theorem sj (h:aY P g μ H w) (hσ:aA μ σ=some a.tmps.toList):∀ {xs:List (Nat × Operand)} {vs:List (Nat × AV)},fI P σ xs=some vs →
  (xs.map fun (i,x)=>(i,a.eval x)).map (·.1)=vs.map (·.1)∧aA μ (vs.map (·.2))=some ((xs.map fun (i,x)=>(i,a.eval x)).map (·.2))
 | [],vs,e=>by cases e; exact ⟨rfl,rfl⟩
 | (i,x)::xs,vs,e=>by
  simp only [fI,Option.bind_eq_some_iff,Option.map_eq_some_iff] at e
  obtain ⟨v,hv,us,hus,rfl⟩:=e
  obtain ⟨h1,h2⟩:=sj h hσ hus
  refine ⟨by simpa using h1,?_⟩
  simp only [List.map_cons,aA,bE h hσ hv,Option.bind_some]
  rw [h2]
  rfl

theorem pU (h:aY P g μ H w) (hσ:aA μ σ=some a.tmps.toList) {x:Option Operand} {v:Option AV} (e:jZ P σ x=some v):(x.map a.eval).map some=v.map (aB μ):=by
 cases x with
 | none=>cases e; rfl
 | some x =>
  simp only [jZ,Option.map_eq_some_iff] at e
  obtain ⟨u,hu,rfl⟩:=e
  simp [bE h hσ hu]

def cQ (P:Program) (g:Gh) (μ:Mu) (H:Hp) (w:World) (a:Act) (o:Oper) (r:AV × Hp × Ef):Prop :=
 ∀ K Q,(∀ μ' v' w',Ok P g μ H r μ' v' w'→K (a.put o.dst v') w')→o.wp P a w K Q

theorem cQ.value {o:Oper} {s:Sem Value} {r:AV × Hp × Ef} (hs:(execOp a.eval o).run P w=(do pure (.value (← s)):Sem Next).run P w) (h:Yields P g μ H w s r):cQ P g μ H w a o r:=by
 intro K Q hK
 obtain ⟨μ',v',w',h1,h2⟩:=h
 unfold Oper.wp
 rw [hs]
 simp only [Sem.run_bind,h1,Result.andThen_ok,Sem.run_pure]
 exact hK _ _ _ h2

theorem cQ.unit {o:Oper} {s:Sem Unit} {r:AV × Hp × Ef} (hs:(execOp a.eval o).run P w=(do s; pure .skip:Sem Next).run P w) (h:TG P g μ H w s r):cQ P g μ H w a o r:=by
 intro K Q hK
 obtain ⟨μ',w',h1,h2⟩:=h
 unfold Oper.wp
 rw [hs]
 simp only [Sem.run_bind,h1,Result.andThen_ok,Sem.run_pure]
 exact hK _ _ _ h2

theorem cQ.same (h:aY P g μ H w) {o:Oper} {v:AV} {r:AV × Hp × Ef} {v':Value} (hr:r=(v,H,z0)) (hs:(execOp a.eval o).run P w=.ok (.value v') w) (hv:aB μ v=some v'):cQ P g μ H w a o r:=by
 subst hr
 intro K Q hK
 unfold Oper.wp
 rw [hs]
 exact hK μ v' w ⟨Le.refl μ,h,hv,Nat.le_refl _,Inv.refl _ _ _,fun _ _=>rfl⟩

theorem cQ.val (h:aY P g μ H w) {o:Oper} {v:AV} {r:AV × Hp × Ef} {s:Sem Value} (hr:r=(v,H,z0)) (hs:(execOp a.eval o).run P w=(do pure (.value (← s)):Sem Next).run P w) (hv:∃ v',s.run P w=.ok v' w∧aB μ v=some v'):cQ P g μ H w a o r:=by
 subst hr
 exact cQ.value hs (Yields.pure h hv)

theorem bQ {H:Hp} {v:Option AV} {r:AV × Hp × Ef} (h:ret H v=some r):∃ u,v=some u∧r=(u,H,z0):=by
 simp only [ret,Option.map_eq_some_iff] at h
 obtain ⟨u,hu,rfl⟩:=h
 exact ⟨u,hu,rfl⟩
theorem pP {v:Option (AV × Hp)} {r:AV × Hp × Ef} (h:BB v=some r):∃ u,v=some u∧r=(u.1,u.2,z0):=by
 simp only [BB,Option.map_eq_some_iff] at h
 obtain ⟨u,hu,rfl⟩:=h
 exact ⟨u,hu,rfl⟩

theorem Km {fn:Func} {x:Xn} (h:rE fn.name=some x):∃ e,Extern.find fn=some e ∧
  ∀ az v xs,td x az=some v→aA μ az=some xs→∃ v',(e xs.toArray).run P w=.ok v' w∧aB μ v=some v':=by
 unfold rE at h
 split at h
 ·rename_i hn
  cases h
  refine ⟨Extern.AbiNoEscape.same,by unfold Extern.find; rw [hn]; kernel_rfl,?_⟩
  intro az v xs hv hx
  unfold td at hv
  split at hv
  case h_1=>
   cases hv
   simp only [aA,Option.bind_eq_some_iff,Option.map_eq_some_iff,Option.some.injEq] at hx
   obtain ⟨y,hy,_,rfl,rfl⟩:=hx
   exact ⟨y,rfl,hy⟩
  all_goals first | contradiction | cases hv
 split at h
 ·rename_i hn
  cases h
  refine ⟨Extern.BytealgIndexByte.indexByte,by unfold Extern.find; rw [hn]; kernel_rfl,?_⟩
  intro az v xs hv hx
  unfold td at hv
  split at hv
  case h_2 =>
   cases hv
   simp only [aA,aB,Option.bind_some,Option.map_some,Option.some.injEq] at hx
   subst hx
   exact ⟨_,Lib.run_indexByteString _ _ _,by simp [aB]⟩
  all_goals first | contradiction | cases hv
 split at h
 ·rename_i hn
  cases h
  refine ⟨Extern.BytealgCount.count,by unfold Extern.find; rw [hn]; kernel_rfl,?_⟩
  intro az v xs hv hx
  unfold td at hv
  split at hv
  case h_3 =>
   cases hv
   simp only [aA,aB,Option.bind_some,Option.map_some,Option.some.injEq] at hx
   subst hx
   exact ⟨_,Lib.run_countString _ _ _,by simp [aB]⟩
  all_goals first | contradiction | cases hv
 split at h
 ·rename_i hn
  cases h
  refine ⟨Extern.BytealgCompare.compare,by unfold Extern.find; rw [hn]; kernel_rfl,?_⟩
  intro az v xs hv hx
  unfold td at hv
  split at hv
  case h_4 =>
   cases hv
   simp only [aA,aB,Option.bind_some,Option.map_some,Option.some.injEq] at hx
   subst hx
   exact ⟨_,Lib.run_compareString _ _ _,by simp [aB]⟩
  all_goals first | contradiction | cases hv
 split at h
 ·rename_i hn
  cases h
  refine ⟨Extern.BytealgIndex.index,by unfold Extern.find; rw [hn]; kernel_rfl,?_⟩
  intro az v xs hv hx
  unfold td at hv
  split at hv
  all_goals first | contradiction | cases hv
 cases h
theorem PF (h : aY P g μ H w) {m : Int} (hm : mxL P H = some m) : ∃ q, P.globals.findIdx? (·.name == "internal/bytealg.MaxLen") = some q ∧ w.cell? ⟨q, 0, none⟩ = some (.int .i64 m) := by
 unfold mxL at hm
 split at hm
 ·rename_i q hq
  split at hm
  ·rename_i hlt
   split at hm
   ·rename_i x hr
    cases hm
    obtain ⟨c,hc⟩:=h.eK q hlt
    obtain ⟨vs,h1,h2,h3⟩:=h.rd hc hr
    simp only [aA,aB,Option.bind_some,Option.map_some,Option.some.injEq] at h1
    subst h1
    exact ⟨q,hq,h3 0 _ rfl⟩
   ·cases hm
  ·cases hm
 ·cases hm
theorem GQ (hr:aY P g μ H w) {fn:Func} {x:Xn} (h:rE fn.name=some x):∃ e,Extern.find fn=some e ∧
  ∀ az v xs,jL P H x az=some v→aA μ az=some xs→∃ v',(e xs.toArray).run P w=.ok v' w∧aB μ v=some v':=by
 obtain ⟨e,he,hall⟩:=Km (P:=P) (μ:=μ) (w:=w) h
 refine ⟨e,he,fun az v xs hv hx=>?_⟩
 unfold jL at hv
 split at hv
 ·rename_i a b
  rw [Option.bind_eq_some_iff] at hv
  obtain ⟨m,hm,hv⟩:=hv
  split at hv
  ·rename_i hc
   cases hv
   obtain ⟨q,h1,h2⟩:=PF hr hm
   have hn : fn.name = "internal/bytealg.IndexString" := by
    unfold rE at h
    split at h
    ·cases h
    split at h
    ·cases h
    split at h
    ·cases h
    split at h
    ·cases h
    split at h
    ·assumption
    ·cases h
   have he':Extern.find fn=some Extern.BytealgIndex.index:=by unfold Extern.find; rw [hn]; kernel_rfl
   rw [he'] at he
   cases he
   simp only [aA,aB,Option.bind_some,Option.map_some,Option.some.injEq] at hx
   subst hx
   have:=Lib.run_indexString (P:=P) ⟨a.toArray⟩ ⟨b.toArray⟩ w q m h1 h2 (by show 2≤b.toArray.size; simpa using hc.1) (by show ((b.toArray.size:Nat):Int)≤m; simpa using hc.2.1) (by show a.toArray.size < _; simpa using hc.2.2)
   exact ⟨_,this,by simp [aB]⟩
  ·cases hv
 ·exact hall az v xs hv hx

theorem aY.below {w':World} (h:aY P g μ H w) (hb:Go.RowKit.Below w.heap.size w w'):aY P g μ H w' where
 dom:=h.dom
 eK:=h.eK
 lt:=fun b l e=>Nat.lt_of_lt_of_le (h.lt b l e) hb.size
 blk:=fun b l x e e'=>(h.blk b l x e e').mono (Le.refl μ) (fun _=>hb.block _ (h.lt b l e))
 sep:=h.sep
 own:=h.own
 old:=fun k hk=>by
  obtain ⟨h1,h2⟩:=h.old k hk
  exact ⟨Nat.lt_of_lt_of_le h1 hb.size,(hb.block k h1).trans h2⟩
 os:=hb.os.trans h.os
 tape:=hb.tape.trans h.tape
 output:=hb.output.trans h.output
 size:=Nat.le_trans h.size hb.size
theorem r7 {f:FuncId} (h:enters P f=true) (az:Array Value) (w:World):(callFunc f az).run P w=.ok (.enter f az) w:=by
 unfold enters at h
 split at h
 ·rename_i fn hfn
  simp only [Bool.and_eq_true,Bool.not_eq_true',beq_eq_false_iff_ne] at h
  unfold callFunc
  simp only [run_program,hfn,Sem.run_bind,Result.andThen_ok]
  rw [if_neg (by simpa using h.2),if_neg (by cases hbb:fn.body <;> simp [hbb] at h ⊢)]
  rfl
 ·cases h
theorem LN {a b:Nat} (h:aY P g μ H w) (hu:U8H P H a b):Lib.Utf8Tabs a b w:=by
 obtain ⟨ha,hb,h1,h2⟩:=hu
 have key:∀ (q c:Nat) (v:AV) (v':Value),q < P.globals.size→rd H q c 1=some [v]→aB μ v=some v'→w.cell? ⟨q,c,none⟩=some v':=by
  intro q c v v' hq hr hv
  obtain ⟨n,hn⟩:=h.eK q hq
  obtain ⟨vs,k1,k2,k3⟩:=h.rd hn hr
  simp only [aA,hv,Option.bind_some,Option.map_some,Option.some.injEq] at k1
  subst k1
  have:=k3 0 _ rfl
  simpa using this
 exact ⟨fun c hc=>key a c _ _ ha (h1 c hc) rfl,fun i hi=>⟨key b _ _ _ hb (h2 i hi).1 rfl,key b _ _ _ hb (h2 i hi).2 rfl⟩⟩
theorem Kr (h:aY P g μ H w) {o:Oper} {c:Call} (ho:o.op=.call c) {f:Operand} (hcal:c.callee=.value f) {gg:FuncId} {first captured az:List AV} {fs cs:List Value} (hev:.func (.func gg) fs.toArray cs.toArray=a.eval f)
  {r:AV × Hp × Ef} (hr:evS P gg (first++az++captured) H=some r) (hargs:aA μ (first++az++captured)=some (fs++c.args.toList.map a.eval++cs)):cQ P g μ H w a o r:=by
 unfold evS at hr
 split at hr
 ·rename_i g2 s haz
  rw [Option.bind_eq_some_iff] at hr
  obtain ⟨F,_,hr⟩:=hr
  split at hr
  ·rename_i hc
   cases hr
   obtain ⟨⟨ρ,L,X,hf,he,he2,hu,hF,hF2⟩,hs⟩:=hc
   rw [haz] at hargs
   simp only [aA,aB,Option.bind_some,Option.map_some,Option.some.injEq] at hargs
   have hcall:=Any.strings_Map_runes L X g2 #[] (fun az w=>r7 he2 az w) F ⟨s.toArray⟩ w (by show s.toArray.size < _; simpa using hs) (fun W x hx _=>hF W x hx) hF2 (LN h hu)
   rw [hf] at hcall
   intro K Q hK
   unfold Oper.wp
   have hrun:(execOp a.eval o).run P w=.ok (.enter gg #[.func (.func g2) #[] #[],.string ⟨s.toArray⟩]) w:=by
    unfold execOp
    simp only [ho,resolve,hcal,Deferred.ofValue,← hev,Sem.run_bind,Sem.run_pure,Result.andThen_ok,invoke]
    have hcf:=r7 he (fs++c.args.toList.map a.eval++cs).toArray w
    rw [← hargs] at hcf
    rw [show (#[.func (.func g2) #[] #[],.string ⟨s.toArray⟩]:Array Value)=[Value.func (.func g2) #[] #[],.string ⟨s.toArray⟩].toArray from rfl]
    rw [← hcf]
    congr 2
    apply Array.ext'
    rw [hargs]
    simp
   rw [hrun]
   refine hcall.mono (fun e w' he=>?_)
   obtain ⟨rfl,hb⟩:=he
   exact hK _ _ _ ⟨Le.refl μ,h.below hb,rfl,Nat.le_refl _,Inv.refl _ _ _,fun _ _=>rfl⟩
  ·cases hr
 ·cases hr

theorem Om (hC:cJ P C) (h:aY P g μ H w) (hσ:aA μ σ=some a.tmps.toList) {o:Oper} {c:Call} (ho:o.op=.call c) (hy:JM P σ o.op=false) {r:AV × Hp × Ef} (hr:dz P C σ H c=some r):cQ P g μ H w a o r:=by
 unfold dz at hr
 split at hr
 ·rename_i f hcal
  simp only [Option.bind_eq_some_iff] at hr
  obtain ⟨fv,hf,az,has,hr⟩:=hr
  have hfc:=bE h hσ hf
  have hac:=jB h hσ has
  split at hr
  ·rename_i gg first captured
   split at hr
   ·rename_i hb
    simp only [aB,Option.bind_eq_some_iff,Option.map_eq_some_iff] at hfc
    obtain ⟨fs,hfs,cs,hcs,hev⟩:=hfc
    have hargs:=aL (aL hfs hac) hcs
    have hlt:gg < P.funcs.size:=by
     unfold aj at hb
     split at hb
     ·rename_i fn hfn; exact (Array.getElem?_eq_some_iff.1 hfn).1
     ·cases hb
    have hcall:=hC.fn _ _ _ _ hlt hr g μ w _ h hargs
    intro K Q hK
    unfold Oper.wp
    have hrun:(execOp a.eval o).run P w=.ok (.enter gg (fs++c.args.toList.map a.eval++cs).toArray) w:=by
     unfold aj at hb
     split at hb
     ·rename_i fn hfn
      simp only [Bool.and_eq_true,Bool.not_eq_true',beq_eq_false_iff_ne] at hb
      unfold execOp
      simp only [ho,resolve,hcal,Deferred.ofValue,← hev,Sem.run_bind,Sem.run_pure,Result.andThen_ok,invoke,callFunc,run_program,hfn]
      rw [if_neg (by simpa using hb.1.2),if_neg (by cases hbb:fn.body <;> simp [hbb] at hb ⊢)]
      simp only [Sem.run_pure]
      congr 2
      apply Array.ext'
      simp
     ·cases hb
    rw [hrun]
    exact hcall.mono (fun e w' he=>by
     obtain ⟨μ',v',rfl,hok⟩:=he
     exact hK _ _ _ hok)
   ·unfold evX at hr
    split at hr
    ·rename_i e0 hnz
     simp only [aB,Option.bind_eq_some_iff,Option.map_eq_some_iff] at hfc
     obtain ⟨fs,hfs,cs,hcs,hev⟩:=hfc
     have hargs:=aL (aL hfs hac) hcs
     unfold sO at hnz
     split at hnz
     ·rename_i fn hfn
      split at hnz
      ·rename_i hb
       simp only [Bool.and_eq_true,Bool.not_eq_true',decide_eq_true_eq] at hb
       obtain ⟨⟨⟨⟨hb1,hb2⟩,hb3⟩,hname⟩,hrs⟩:=hb
       split at hnz
       ·rename_i e1 ht
        cases hnz
        unfold Qz at hr
        split at hr
        ·rename_i n hasn
         split at hr
         ·rename_i hn
          cases hr
          obtain ⟨t,ht1,ht2⟩:=Option.bind_eq_some_iff.1 ht
          obtain ⟨hu,inf,hinf,hsz,hby⟩:=b8 ht2
          have hrt:fn.resultTypes=#[t]:=by
           clear ht
           generalize fn.resultTypes=rt at hrs ht1
           obtain ⟨l⟩:=rt
           match l,hrs,ht1 with
           | [x],_,h=>simp at h; rw [h]
          have hfind:Extern.find fn=some (Extern.BytealgMakeNoZero.makeNoZero fn.params fn.resultTypes):=by unfold Extern.find; rw [hname]; kernel_rfl
          rw [hrt] at hfind
          rw [hasn] at hargs
          simp only [aA,aB,Option.bind_some,Option.map_some,Option.some.injEq] at hargs
          obtain ⟨m,rfl⟩:∃ m:Nat,n=(m:Int):=⟨n.toNat,by omega⟩
          obtain ⟨cells,hrun,hle,_⟩:=Lib.run_makeNoZero (P:=P) w fn.params t e0 hu m (by omega)
          have hnew:=h.drew.drew.new (.cells cells e0) (.cells [] e0 (.op 0 false)) cells.size (by
           refine ⟨cells,(0,0),[],heap_alloc_new _ _,rfl,by simp,(fun i v hv=>by simp at hv),⟨⟨inf,hinf,by omega,by simp [hsz]⟩,.inl (by simp)⟩⟩)
          intro K Q hK
          unfold Oper.wp
          have hex:(execOp a.eval o).run P w=.ok (.value (.slice (some ⟨w.heap.size,0,none⟩) m cells.size)) (w.drew.drew.alloc (.cells cells e0)):=by
           unfold execOp
           simp only [ho,resolve,hcal,Deferred.ofValue,← hev,Sem.run_bind,Sem.run_pure,Result.andThen_ok,invoke]
           have hcf:=run_callFunc_extern (P:=P) hfn hb2 hb1 (by simpa using hb3) hfind (fs++c.args.toList.map a.eval++cs).toArray w
           rw [← hargs] at hcf
           rw [show (#[Value.int IntKind.i64 (m:Int)]:Array Value)=[Value.int IntKind.i64 (m:Int)].toArray from rfl] at hrun
           rw [hrun] at hcf
           simp only [Result.andThen_ok] at hcf
           rw [← hcf]
           congr 2
           apply Array.ext'
           rw [hargs]
           simp
          rw [hex]
          refine hK _ _ _ ⟨h.dD _,hnew,by simp [aB,bI],by simp,Inv.snoc,eS⟩
         ·cases hr
        ·cases hr
       ·cases hnz
      ·cases hnz
     ·cases hnz
    split at hr
    rotate_left
    ·simp only [aB,Option.bind_eq_some_iff,Option.map_eq_some_iff] at hfc
     obtain ⟨fs,hfs,cs,hcs,hev⟩:=hfc
     exact Kr h ho hcal hev hr (aL (aL hfs hac) hcs)
    rename_i xn hxn
    obtain ⟨u,hu,rfl⟩:=bQ hr
    simp only [aB,Option.bind_eq_some_iff,Option.map_eq_some_iff] at hfc
    obtain ⟨fs,hfs,cs,hcs,hev⟩:=hfc
    have hargs:=aL (aL hfs hac) hcs
    unfold mT at hxn
    split at hxn
    ·rename_i fn hfn
     split at hxn
     ·rename_i hb
      simp only [Bool.and_eq_true,Bool.not_eq_true'] at hb
      obtain ⟨e,he,hall⟩:=GQ h hxn
      obtain ⟨v',e1,e2⟩:=hall _ _ _ hu hargs
      refine cQ.same h rfl (v':=v') ?_ e2
      unfold execOp
      simp only [ho,resolve,hcal,Deferred.ofValue,← hev,Sem.run_bind,Sem.run_pure,Result.andThen_ok,invoke]
      have harr:(c.args.map a.eval)=(c.args.toList.map a.eval).toArray:=by apply Array.ext'; simp
      have:=run_callFunc_extern (P:=P) hfn hb.1.2 hb.1.1 (by simpa using hb.2) he (fs++c.args.toList.map a.eval++cs).toArray w
      rw [e1] at this
      simp only [Result.andThen_ok] at this
      rw [← this]
      congr 2
      apply Array.ext'
      simp
     ·cases hxn
    ·cases hxn
  ·rename_i b
   rw [ho] at hy
   simp only [JM,hcal,hf] at hy
   cases hy
  ·cases hr
 ·rename_i b hcal
  simp only [Option.bind_eq_some_iff] at hr
  obtain ⟨az,has,hr⟩:=hr
  have hac:=jB h hσ has
  have hres:∀ nx:Sem Value,(∀ cs,builtin b c.argTypes o.type cs (c.args.toList.map a.eval).toArray=(do pure (.value (← nx))))→(execOp a.eval o).run P w=(do pure (.value (← nx)):Sem Next).run P w:=by
   intro nx hnx
   unfold execOp
   simp only [ho,resolve,hcal]
   simp only [pure_bind,invoke]
   rw [← hnx]
   congr 2
   apply Array.ext'
   simp
  have hl:=aX hac
  split at hr
  ·-- len
   rename_i x t ts ht
   obtain ⟨u,hu,rfl⟩:=bQ hr
   simp only [aA,Option.bind_eq_some_iff,Option.map_eq_some_iff,Option.some.injEq] at hac
   obtain ⟨x',hx',_,rfl,hmap⟩:=hac
   refine cQ.val h rfl (hres (Builtin.len_ c.argTypes o.type #[x']) (fun cs=>by rw [← hmap]; rfl)) ?_
   obtain ⟨v',e1,e2⟩:=PS (w:=w) (ty:=o.type) h hu hx'
   refine ⟨v',?_,e2⟩
   have:c.argTypes[0]?=some t:=by rw [← Array.getElem?_toList,ht]; rfl
   simpa [Builtin.len_,this] using e1
  ·rename_i x t ts ht
   obtain ⟨u,hu,rfl⟩:=bQ hr
   simp only [aA,Option.bind_eq_some_iff,Option.map_eq_some_iff,Option.some.injEq] at hac
   obtain ⟨x',hx',_,rfl,hmap⟩:=hac
   refine cQ.val h rfl (hres (Builtin.cap_ c.argTypes o.type #[x']) (fun cs=>by rw [← hmap]; rfl)) ?_
   obtain ⟨v',e1,e2⟩:=Ra (w:=w) (ty:=o.type) hu hx'
   refine ⟨v',?_,e2⟩
   have:c.argTypes[0]?=some t:=by rw [← Array.getElem?_toList,ht]; rfl
   simpa [Builtin.cap_,this] using e1
  ·rename_i s x t u ht
   split at hr
   ·rename_i hu
    simp only [aA,Option.bind_eq_some_iff,Option.map_eq_some_iff,Option.some.injEq] at hac
    obtain ⟨s',hs',_,⟨x',hx',_,rfl,rfl⟩,hmap⟩:=hac
    have hat:c.argTypes=#[t,u]:=by apply Array.ext'; simpa using ht
    refine cQ.value (hres (Builtin.append_ c.argTypes o.type #[s',x']) (fun cs=>by rw [← hmap]; rfl)) ?_
    rw [hat]
    refine Hu h hr hs' hx' ?_
    unfold js at hu
    split at hu
    ·cases hu
    ·rename_i sh hsh hne
     obtain ⟨d,hd,_⟩:=ij hne
     refine ⟨d,hd,?_⟩
     rintro k rfl
     unfold tsh at hne
     rw [hd] at hne
     simp only [Option.some.injEq] at hne
     exact hsh k hne.symm
    ·cases hu
   ·split at hr
    ·rename_i hu
     simp only [aA,Option.bind_eq_some_iff,Option.map_eq_some_iff,Option.some.injEq] at hac
     obtain ⟨s',hs',_,⟨x',hx',_,rfl,rfl⟩,hmap⟩:=hac
     have hat:c.argTypes=#[t,u]:=by apply Array.ext'; simpa using ht
     refine cQ.value (hres (Builtin.append_ c.argTypes o.type #[s',x']) (fun cs=>by rw [← hmap]; rfl)) ?_
     rw [hat]
     exact D8 h hr hs' hx' hu
    ·cases hr
  ·rename_i d x t ts ht
   simp only [aA,Option.bind_eq_some_iff,Option.map_eq_some_iff,Option.some.injEq] at hac
   obtain ⟨d',hd',_,⟨x',hx',_,rfl,rfl⟩,hmap⟩:=hac
   refine cQ.value (hres (Builtin.copy_ c.argTypes o.type #[d',x']) (fun cs=>by rw [← hmap]; rfl)) ?_
   have hok:=Oa (u:=t) (ty:=o.type) h hr hd' hx'
   have h0:c.argTypes[0]?=some t:=by rw [← Array.getElem?_toList,ht]; rfl
   obtain ⟨μ',v',w',e1,e2⟩:=hok
   exact ⟨μ',v',w',by simpa [Builtin.copy_,h0] using e1,e2⟩
  ·rename_i x y ht
   obtain ⟨u,hu,rfl⟩:=bQ hr
   simp only [aA,Option.bind_eq_some_iff,Option.map_eq_some_iff,Option.some.injEq] at hac
   obtain ⟨x',hx',_,⟨y',hy',_,rfl,rfl⟩,hmap⟩:=hac
   refine cQ.val h rfl (hres (Builtin.min_ c.argTypes o.type #[x',y']) (fun cs=>by rw [← hmap]; rfl)) (PK hu hx' hy')
  ·rename_i x y ht
   obtain ⟨u,hu,rfl⟩:=bQ hr
   simp only [aA,Option.bind_eq_some_iff,Option.map_eq_some_iff,Option.some.injEq] at hac
   obtain ⟨x',hx',_,⟨y',hy',_,rfl,rfl⟩,hmap⟩:=hac
   refine cQ.val h rfl (hres (Builtin.max_ c.argTypes o.type #[x',y']) (fun cs=>by rw [← hmap]; rfl)) (PL hu hx' hy')
  ·rename_i m k t ts ht
   simp only [Option.map_eq_some_iff] at hr
   obtain ⟨H',hH,rfl⟩:=hr
   simp only [aA,Option.bind_eq_some_iff,Option.map_eq_some_iff,Option.some.injEq] at hac
   obtain ⟨m',hm',_,⟨k',hk',_,rfl,rfl⟩,hmap⟩:=hac
   have h0:c.argTypes[0]?=some t:=by rw [← Array.getElem?_toList,ht]; rfl
   exact cQ.value (hres (Builtin.delete_ c.argTypes o.type #[m',k']) (fun cs=>by rw [← hmap]; rfl)) (G2 h hH hm' hk' h0)
  ·rename_i x ht
   obtain ⟨u,hu,rfl⟩:=bQ hr
   simp only [aA,Option.bind_eq_some_iff,Option.map_eq_some_iff,Option.some.injEq] at hac
   obtain ⟨x',hx',_,rfl,hmap⟩:=hac
   exact cQ.val h rfl (hres (Builtin.unsafeSliceData_ c.argTypes o.type #[x']) (fun cs=>by rw [← hmap]; rfl)) (vQ h hu hx')
  ·rename_i x i pt it ht
   simp only [aA,Option.bind_eq_some_iff,Option.map_eq_some_iff,Option.some.injEq] at hac
   obtain ⟨x',hx',_,⟨i',hi',_,rfl,rfl⟩,hmap⟩:=hac
   have hat:c.argTypes=#[pt,it]:=by apply Array.ext'; simpa using ht
   refine cQ.value (hres (Builtin.unsafeString_ c.argTypes o.type #[x',i']) (fun cs=>by rw [← hmap]; rfl)) ?_
   rw [hat]
   exact FO h hr hx' hi'
  ·cases hr
 ·cases hr
end
section
variable {P:Program} {g:Gh} {μ:Mu} {H:Hp} {w:World} {a:Act} {σ:List AV} {C:bL}

theorem lT {b o:Nat} {x:Value} (h:aB μ (.ptr b o)=some x):∃ l,μ b=some l∧x=.pointer (some ⟨l.blk,l.base+o,none⟩):=by
 simp only [aB,Option.map_eq_some_iff] at h
 obtain ⟨l,hl,rfl⟩:=h
 exact ⟨l,hl,rfl⟩

theorem Hr {t xt:TypeId} {v q:AV} {x:Value} (h:fU P t v=some q) (hx:aB μ v=some x):∃ v',(Instr.typeAssert x xt t true).run P w=.ok v' w∧aB μ q=some v':=by
 unfold fU at h
 split at h
 ·cases h
 ·rename_i s hs hne
  obtain ⟨d,hd,hdi⟩:=ij hne
  have hdi':∀ ms,d≠.interface ms:=hdi.resolve_left (fun e=>hs e)
  have zer:∀ z,mZ P t=some z→q=.tuple [z,.bool false]→∃ v',(do pure (Value.tuple #[← zeroValue t,.bool false]):Sem Value).run P w=.ok v' w∧aB μ q=some v':=by
   rintro z hz rfl
   obtain ⟨zv,e1,e2⟩:=xx (μ:=μ) (w:=w) hz
   refine ⟨.tuple #[zv,.bool false],?_,?_⟩
   ·simp only [Sem.run_bind,e1,Result.andThen_ok,Sem.run_pure]
   ·simp only [aB,aA,e2,Option.bind_some,Option.map_some]
  split at h
  ·simp only [Option.map_eq_some_iff] at h
   obtain ⟨z,hz,rfl⟩:=h
   obtain ⟨v',e1,e2⟩:=zer z hz rfl
   cases hx
   refine ⟨v',?_,e2⟩
   unfold Instr.typeAssert
   simp only [Sem.run_bind,run_underlying hd,Result.andThen_ok]
   cases d <;> first | exact e1 | exact absurd rfl (hdi' _)
  ·rename_i u y
   simp only [aB,Option.map_eq_some_iff] at hx
   obtain ⟨y',hy,rfl⟩:=hx
   split at h
   ·rename_i hut
    cases h
    refine ⟨.tuple #[y',.bool true],?_,by simp only [aB,aA,hy,Option.bind_some,Option.map_some]⟩
    unfold Instr.typeAssert
    simp only [Sem.run_bind,run_underlying hd,Result.andThen_ok]
    cases d <;> first | (exact absurd rfl (hdi' _)) | (simp only [hut,if_true]; rfl)
   ·rename_i hut
    simp only [Option.map_eq_some_iff] at h
    obtain ⟨z,hz,rfl⟩:=h
    obtain ⟨v',e1,e2⟩:=zer z hz rfl
    refine ⟨v',?_,e2⟩
    unfold Instr.typeAssert
    simp only [Sem.run_bind,run_underlying hd,Result.andThen_ok]
    cases d <;> first | (exact absurd rfl (hdi' _)) | (simp only [hut,if_false]; exact e1)
  ·cases h
 ·cases h

set_option maxHeartbeats 1000000 in
theorem Si (hC:cJ P C) (h:aY P g μ H w) (hσ:aA μ σ=some a.tmps.toList) {o:Oper} (hy:JM P σ o.op=false) {r:AV × Hp × Ef} (hr:bu P C σ H o.op=some r):cQ P g μ H w a o r:=by
 unfold bu at hr
 split at hr
 case h_1 x ho =>
  obtain ⟨u,hu,hr⟩:=bQ hr
  exact cQ.same h hr (by unfold execOp; simp only [ho]; rfl) (bE h hσ hu)
 case h_2 x ho =>
  obtain ⟨u,hu,hr⟩:=bQ hr
  exact cQ.same h hr (by unfold execOp; simp only [ho]; rfl) (bE h hσ hu)
 case h_3 c x y ho =>
  simp only [Option.bind_eq_some_iff] at hr
  obtain ⟨cv,hc,hr⟩:=hr
  split at hr
  ·rename_i t
   have hcc:=bE h hσ hc
   cases t <;> obtain ⟨u,hu,hr⟩:=bQ hr
   ·refine cQ.same h hr ?_ (bE h hσ hu)
    unfold execOp
    simp only [ho,← (Option.some.inj hcc),asBool,Sem.run_bind,Sem.run_pure,Result.andThen_ok]
    rfl
   ·refine cQ.same h hr ?_ (bE h hσ hu)
    unfold execOp
    simp only [ho,← (Option.some.inj hcc),asBool,Sem.run_bind,Sem.run_pure,Result.andThen_ok]
    rfl
  ·cases hr
 case h_4 e ho =>
  simp only [Option.map_eq_some_iff] at hr
  obtain ⟨z,hz,rfl⟩:=hr
  exact cQ.value (by unfold execOp; simp only [ho]) (LG h hz)
 case h_5 e x ho =>
  simp only [Option.map_eq_some_iff] at hr
  obtain ⟨v,hv,rfl⟩:=hr
  exact cQ.value (by unfold execOp; simp only [ho]) (Rb h (bE h hσ hv))
 case h_6 t parts ho =>
  simp only [Option.bind_eq_some_iff] at hr
  obtain ⟨ps,hps,hr⟩:=hr
  obtain ⟨u,hu,hr⟩:=bQ hr
  obtain ⟨p1,p2⟩:=sj h hσ hps
  obtain ⟨v',e1,e2⟩:=KZ (w:=w) hu p1 p2
  refine cQ.val h hr (s:=Instr.build t (parts.map fun (i,x)=>(i,a.eval x))) (by unfold execOp; simp only [ho]) ⟨v',?_,e2⟩
  rw [← e1]
  congr 2
  apply Array.ext'
  simp
 case h_7 t n parts ho =>
  simp only [Option.bind_eq_some_iff] at hr
  obtain ⟨ps,hps,hr⟩:=hr
  obtain ⟨u,hu,rfl⟩:=pP hr
  obtain ⟨p1,p2⟩:=sj h hσ hps
  refine cQ.value (s:=Instr.buildSlice t n (parts.map fun (i,x)=>(i,a.eval x))) (by unfold execOp; simp only [ho]) ?_
  have:=tZ h hu p1 p2
  have e:(parts.map fun (i,x)=>(i,a.eval x))=(parts.toList.map fun (i,x)=>(i,a.eval x)).toArray:=by
   apply Array.ext'
   simp
  rw [e]
  exact this
 case h_8 t x ho =>
  simp only [Option.bind_eq_some_iff] at hr
  obtain ⟨av,hav,hr⟩:=hr
  split at hr
  ·rename_i b off
   obtain ⟨u,hu,hr⟩:=bQ hr
   obtain ⟨l,hl,hx⟩:=lT (bE h hσ hav)
   obtain ⟨v',e1,e2⟩:=EY h hl hu
   exact cQ.val h hr (s:=Instr.loadAt t (a.eval x)) (by unfold execOp; simp only [ho]) ⟨v',by simpa [hx,Instr.loadAt,Instr.sureAddr] using e1,e2⟩
  ·cases hr
 case h_9 t x y ho =>
  simp only [Option.bind_eq_some_iff] at hr
  obtain ⟨av,hav,v,hv,hr⟩:=hr
  split at hr
  ·rename_i b off
   simp only [Option.map_eq_some_iff] at hr
   obtain ⟨q,hq,rfl⟩:=hr
   obtain ⟨l,hl,hx⟩:=lT (bE h hσ hav)
   obtain ⟨w',e1,e2,e3,e4⟩:=Iv h hl (bE h hσ hv) hq
   refine cQ.unit (s:=Instr.storeAt t (a.eval x) (a.eval y)) (by unfold execOp; simp only [ho]) ⟨μ,w',?_,Le.refl μ,e2,rfl,by rw [e3]; exact Nat.le_refl _,e4,fun _ _=>rfl⟩
   simpa [hx,Instr.storeAt,Instr.sureAddr] using e1
  ·cases hr
 case h_10 x ho =>
  simp only [Option.bind_eq_some_iff] at hr
  obtain ⟨v,hv,hr⟩:=hr
  have hx:=bE h hσ hv
  split at hr
  ·rename_i b off
   cases hr
   obtain ⟨l,hl,hx'⟩:=lT hx
   exact cQ.same h rfl (by unfold execOp; simp only [ho,hx']; rfl) (hx'.symm ▸ hx)
  ·rename_i f fs cs
   cases hr
   have hx2:=hx
   simp only [aB,Option.bind_eq_some_iff,Option.map_eq_some_iff] at hx2
   obtain ⟨x1,_,x2,_,hx'⟩:=hx2
   exact cQ.same h rfl (by unfold execOp; simp only [ho,← hx']; rfl) (hx'.symm ▸ hx)
  ·cases hr
 case h_11 op t x y yt ho =>
  simp only [Option.bind_eq_some_iff] at hr
  obtain ⟨u,hu,v,hv,hr⟩:=hr
  have hx:=bE h hσ hu
  have hy:=bE h hσ hv
  split at hr
  ·have hx':a.eval x=.nilIface:=(Option.some.inj hx).symm
   have hy':a.eval y=.nilIface:=(Option.some.inj hy).symm
   split at hr
   ·rename_i hcst
    have hg:∀ op',eqGuard op' t x y .nilIface .nilIface=Pure.pure ():=by
     intro op'
     cases x <;> cases y <;> simp [bu.isConst] at hcst <;> first | exact eqGuard_nil_constR _ _ _ _ | exact eqGuard_nil_constL _ _ _ _
    split at hr
    ·obtain ⟨q,hq,hr⟩:=bQ hr
     split at hq
     ·rename_i hif
      cases hq
      have hif':tsh P t=some .iface:=by
       revert hif
       cases tsh P t with
       | none=>simp
       | some s=>cases s <;> simp
      obtain ⟨ms,hms⟩:=ur hif'
      refine cQ.same h hr (v':=.bool true) ?_ rfl
      unfold execOp
      simp only [ho,hx',hy',hg,pure_bind,binOp,Op.equal,Op.maxDepth,Sem.run_bind]
      have:(Op.equalIn 10000 t .nilIface .nilIface).run P w=.ok true w:=by
       show (Op.equalIn (9999+1) t .nilIface .nilIface).run P w=.ok true w
       rw [Op.equalIn,Sem.run_bind,run_underlying hms]; rfl
      simp only [this,Result.andThen_ok,Sem.run_pure]
     ·cases hq
    ·obtain ⟨q,hq,hr⟩:=bQ hr
     split at hq
     ·rename_i hif
      cases hq
      have hif':tsh P t=some .iface:=by
       revert hif
       cases tsh P t with
       | none=>simp
       | some s=>cases s <;> simp
      obtain ⟨ms,hms⟩:=ur hif'
      refine cQ.same h hr (v':=.bool false) ?_ rfl
      unfold execOp
      simp only [ho,hx',hy',hg,pure_bind,binOp,Op.equal,Op.maxDepth,Sem.run_bind]
      have:(Op.equalIn 10000 t .nilIface .nilIface).run P w=.ok true w:=by
       show (Op.equalIn (9999+1) t .nilIface .nilIface).run P w=.ok true w
       rw [Op.equalIn,Sem.run_bind,run_underlying hms]; rfl
      simp only [this,Result.andThen_ok,Sem.run_pure]
      rfl
     ·cases hq
    ·cases hr
   ·cases hr
  ·obtain ⟨q,hq,hr⟩:=bQ hr
   exact cQ.val h hr (s:=do eqGuard op t x y (a.eval x) (a.eval y); binOp op t (a.eval x) (a.eval y)) (by unfold execOp; simp only [ho]) (Ku hq hx hy)
 case h_12 op t x ho =>
  simp only [Option.bind_eq_some_iff] at hr
  obtain ⟨u,hu,hr⟩:=hr
  obtain ⟨q,hq,hr⟩:=bQ hr
  exact cQ.val h hr (by unfold execOp; simp only [ho]) (RE hq (bE h hσ hu))
 case h_13 s d x ho =>
  simp only [Option.bind_eq_some_iff] at hr
  obtain ⟨u,hu,hr⟩:=hr
  obtain ⟨q,hq,rfl⟩:=pP hr
  exact cQ.value (by unfold execOp; simp only [ho]) (Oc h hq (bE h hσ hu))
 case h_14 t x ho =>
  simp only [Option.bind_eq_some_iff] at hr
  obtain ⟨u,hu,hr⟩:=hr
  split at hr
  ·cases hr
  ·rename_i s hs hne
   obtain ⟨q,hq,hr⟩:=bQ hr
   cases hq
   obtain ⟨d,hd,hdi⟩:=ij hne
   have hdi':∀ ms,d≠.interface ms:=hdi.resolve_left (fun e=>hs e)
   have hx:=bE h hσ hu
   refine cQ.val h hr (s:=Instr.makeInterface t (a.eval x)) (by unfold execOp; simp only [ho]) ⟨.iface t (a.eval x),?_,by simp [aB,hx]⟩
   simp only [Instr.makeInterface,Sem.run_bind,run_underlying hd,Result.andThen_ok]
   cases d <;> first | rfl | (exact absurd rfl (hdi' _))
  ·cases hr
 case h_15 fn f c ho =>
  simp only [Option.bind_eq_some_iff] at hr
  obtain ⟨fs,hfs,cs,hcs,hr⟩:=hr
  obtain ⟨q,hq,hr⟩:=bQ hr
  cases hq
  have h1:=jB h hσ hfs
  have h2:=jB h hσ hcs
  refine cQ.same h hr (v':=.func fn (f.map a.eval) (c.map a.eval)) (by unfold execOp; simp only [ho]; rfl) ?_
  simp only [aB,h1,h2,Option.bind_some,Option.map_some]
  congr 2 <;> (apply Array.ext'; simp)
 case h_16 t ho =>
  split at hr
  ·rename_i k e ht
   cases hr
   exact cQ.value (by unfold execOp; simp only [ho]; rfl) (sy h ht none (by simp))
  ·cases hr
 case h_17 t x ho =>
  simp only [Option.bind_eq_some_iff] at hr
  obtain ⟨u,hu,hr⟩:=hr
  split at hr
  ·rename_i k e kk n ht
   cases hr
   have hx:=bE h hσ hu
   refine cQ.value (s:=Instr.makeMap t (some (a.eval x))) (by unfold execOp; simp only [ho]; rfl) (sy h ht _ ?_)
   intro v hv
   cases hv
   exact ⟨kk,n,(Option.some.inj hx).symm⟩
  ·cases hr
 case h_18 t l c ho =>
  simp only [Option.bind_eq_some_iff] at hr
  obtain ⟨u,hu,v,hv,hr⟩:=hr
  obtain ⟨q,hq,rfl⟩:=pP hr
  exact cQ.value (by unfold execOp; simp only [ho]) (Na h hq (bE h hσ hu) (bE h hσ hv))
 case h_19 t x lo hi mx ho =>
  simp only [Option.bind_eq_some_iff] at hr
  obtain ⟨u,hu,lo',hlo,hi',hhi,mx',hmx,hr⟩:=hr
  split at hr
  rotate_left
  ·simp only [Option.map_eq_some_iff] at hr
   obtain ⟨q,hq,rfl⟩:=hr
   exact cQ.value (by unfold execOp; simp only [ho]) (FT h hq (bE h hσ hu) (pU h hσ hlo) (pU h hσ hhi) (pU h hσ hmx))
  rename_i q hq
  simp only [Option.some.injEq] at hr
  exact cQ.val h hr.symm (by unfold execOp; simp only [ho]) (IG h hq (bE h hσ hu) (pU h hσ hlo) (pU h hσ hhi) (pU h hσ hmx))
 case h_20 t x f ho =>
  simp only [Option.bind_eq_some_iff] at hr
  obtain ⟨u,hu,hr⟩:=hr
  split at hr
  ·rename_i b off
   simp only [Option.bind_eq_some_iff] at hr
   obtain ⟨q,hq,hr⟩:=hr
   split at hr
   ·cases hr
   ·rename_i hz
    cases hr
    obtain ⟨l,hl,hx⟩:=lT (bE h hσ hu)
    exact cQ.val h rfl (s:=Instr.fieldAt t (a.eval x) f) (by unfold execOp; simp only [ho]) (by rw [hx]; exact wP hq hz hl)
  ·cases hr
 case h_21 t x f ho =>
  simp only [Option.bind_eq_some_iff] at hr
  obtain ⟨u,hu,hr⟩:=hr
  split at hr
  ·rename_i cs
   simp only [Option.bind_eq_some_iff] at hr
   obtain ⟨q,hq,hr⟩:=hr
   obtain ⟨v,hv,hr⟩:=bQ hr
   have hx:=bE h hσ hu
   simp only [aB,Option.map_eq_some_iff] at hx
   obtain ⟨xs,hxs,hx'⟩:=hx
   exact cQ.val h hr (s:=Instr.field t (a.eval x) f) (by unfold execOp; simp only [ho]) (by rw [← hx']; exact AN hq hxs hv)
  ·cases hr
 case h_22 t x i ho =>
  simp only [Option.bind_eq_some_iff] at hr
  obtain ⟨u,hu,v,hv,hr⟩:=hr
  obtain ⟨q,hq,hr⟩:=bQ hr
  exact cQ.val h hr (by unfold execOp; simp only [ho]) (wH hq (bE h hσ hu) (bE h hσ hv))
 case h_23 t x i ho =>
  simp only [Option.bind_eq_some_iff] at hr
  obtain ⟨u,hu,v,hv,hr⟩:=hr
  obtain ⟨q,hq,hr⟩:=bQ hr
  exact cQ.val h hr (by unfold execOp; simp only [ho]) (JT hq (bE h hσ hu) (bE h hσ hv))
 case h_24 t x i ok ho =>
  simp only [Option.bind_eq_some_iff] at hr
  obtain ⟨u,hu,v,hv,hr⟩:=hr
  obtain ⟨q,hq,hr⟩:=bQ hr
  exact cQ.val h hr (by unfold execOp; simp only [ho]) (Gy h hq (bE h hσ hu) (bE h hσ hv))
 case h_25 t m k v ho =>
  simp only [Option.bind_eq_some_iff,Option.map_eq_some_iff] at hr
  obtain ⟨m',hm,k',hk,v',hv,q,hq,rfl⟩:=hr
  exact cQ.unit (by unfold execOp; simp only [ho]) (uM h hq (bE h hσ hm) (bE h hσ hk) (bE h hσ hv))
 case h_26 t m k v ho =>
  simp only [Option.bind_eq_some_iff,Option.map_eq_some_iff] at hr
  obtain ⟨m',hm,k',hk,v',hv,q,hq,rfl⟩:=hr
  exact cQ.unit (by unfold execOp; simp only [ho]) (uM h hq (bE h hσ hm) (bE h hσ hk) (bE h hσ hv))
 case h_27 t x ho =>
  simp only [Option.bind_eq_some_iff] at hr
  obtain ⟨u,hu,hr⟩:=hr
  split at hr
  ·rename_i s ht
   cases hr
   have hx:a.eval x=.string ⟨s.toArray⟩:=(Option.some.inj (bE h hσ hu)).symm
   exact cQ.value (s:=Instr.range t (a.eval x)) (by unfold execOp; simp only [ho]) (by rw [hx]; exact I9 h ht)
  ·cases hr
 case h_28 it ho =>
  simp only [Option.bind_eq_some_iff] at hr
  obtain ⟨u,hu,hr⟩:=hr
  split at hr
  ·rename_i b
   split at hr
   ·rename_i s p hb
    cases hr
    exact cQ.value (s:=Instr.next (a.eval it) true o.type) (by unfold execOp; simp only [ho]) (MY h hb (bE h hσ hu))
   ·cases hr
  ·cases hr
 case h_29 x i ho =>
  simp only [Option.bind_eq_some_iff] at hr
  obtain ⟨u,hu,hr⟩:=hr
  split at hr
  ·rename_i vs
   obtain ⟨v,hv,hr⟩:=bQ hr
   have hx:=bE h hσ hu
   simp only [aB,Option.map_eq_some_iff] at hx
   obtain ⟨xs,hxs,hx'⟩:=hx
   have hg:=gX hxs i
   rw [hv,Option.bind_some] at hg
   have hlt:i < vs.length:=(List.getElem?_eq_some_iff.1 hv).1
   have hl:=aX hxs
   rw [List.getElem?_eq_getElem (by omega)] at hg
   refine cQ.val h hr (s:=Instr.extract (a.eval x) i) (by unfold execOp; simp only [ho]) ⟨xs[i]'(by omega),?_,hg.symm⟩
   rw [← hx']
   simp [Instr.extract,show i < xs.length by omega]
  ·cases hr
 case h_30 c ho=>exact Om hC h hσ ho hy hr
 case h_31 x xt t ho =>
  simp only [Option.bind_eq_some_iff] at hr
  obtain ⟨u,hu,hr⟩:=hr
  obtain ⟨q,hq,hr⟩:=bQ hr
  exact cQ.val h hr (s:=Instr.typeAssert (a.eval x) xt t true) (by unfold execOp; simp only [ho]) (Hr hq (bE h hσ hu))
 case h_32=>cases hr
end
end Go.Proofs.YtdppgaphcmhffaaGreatDoor.V
