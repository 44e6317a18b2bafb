/- Joined by mkclaim.py: VSim VPan VTab VOpen VLaid WLib WName WNameB WByte WText WBld WEsc. No conditions. -/
import Derived.Test.YtdppgaphcmhffaaGreatDoorJ1
import Derived.KernelRfl
import Derived.Laws.RangeString
import Derived.Test.YtdppgaphcmhffaaGreatDoorProg
import Derived.ProofKit
import Derived.OpenShut
import Derived.LaidMore
import Derived.Handed
set_option linter.unusedSimpArgs false
set_option linter.unusedVariables false
set_option maxRecDepth 100000
namespace Go.Proofs.YtdppgaphcmhffaaGreatDoor.V
open Go

def aq {α:Type} (o:Option α) (f:α→Prop) (_:Ph f:=⟨⟩):Prop :=
 match o with
 | some a=>f a
 | none=>False
theorem aD {α:Type} {a:α} {f:α→Prop}:aq (some a) f=f a:=rfl
def fr (σ:List AV) (t:Nat):AV:=(σ[t]?).getD bz
def cB (v:AV) (w:Bool) (A B:Prop) (_:Ph (A,B):=⟨⟩):Prop :=
 match v with
 | .bool b=>if (b == w)=true then A else B
 | _=>B
theorem cZ {A B:Prop}:cB (.bool true) true A B=A:=rfl
theorem uY {A B:Prop}:cB (.bool true) false A B=B:=rfl
theorem cq {A B:Prop}:cB (.bool false) true A B=B:=rfl
theorem uZ {A B:Prop}:cB (.bool false) false A B=A:=rfl
theorem J0 {w:Bool} {A B:Prop}:cB bz w A B=B:=rfl
attribute [go_sem ↓] J0
def tC (v:Option AV) (A B:Prop) (_:Ph (A,B):=⟨⟩):Prop :=
 match v with
 | some (.bool true)=>A
 | some (.bool false)=>B
 | _=>False
theorem Fo {A B:Prop}:tC (some (.bool true)) A B=A:=rfl
theorem Fp {A B:Prop}:tC (some (.bool false)) A B=B:=rfl
theorem A9 {b:Bool} {A B:Prop} (h1:b=true→A) (h2:b=false→B):tC (some (.bool b)) A B:=by
 cases b <;> first | exact h1 rfl | exact h2 rfl

section
variable {P:Program} {Q:Ex→St→Prop} {k:List It} {σ:List AV} {H:Hp} {e:Ef} {ops:List Oper} {K:St→Prop} {l:List Oper}

theorem B3 {id j:Nat} (h:(id == j)=false):aI P Q id (.inBlock j::k) ⟨σ,H,e⟩=aI P Q id k ⟨σ,H,e⟩:=tX (by simpa using h)
attribute [go_sem ↓] Qf wL sY J3 DE tW NN zM wG dI dZ qR nF J6 DF NO wC wB B3 wM GR qf wQ
attribute [go_sem] Ef.fF Ef.j9

theorem zF {id:Nat}:aI P Q id [] ⟨σ,H,e⟩=Q (.exit id) ⟨σ,H,e⟩:=rfl
theorem SY {d t:Nat} {v:AV} (h:(d == t)=false):fr (σ.set d v) t=fr σ t:=by
 unfold fr; rw [List.getElem?_set_ne (by simpa using h)]
theorem SZ {d:Nat} {v:AV} (h:decide (d < σ.length)=true):fr (σ.set d v) d=v:=by
 unfold fr; rw [List.getElem?_set_self (by simpa using h)]; rfl
attribute [go_sem] SY SZ List.length_set aD cZ uY cq uZ Fo Fp
attribute [go_sem ↓] zF aD cZ uY cq uZ Fo Fp

theorem SV {c:Operand} {a b:Code}:go P Q (.code (.cond c a b)::k) ⟨σ,H,e⟩=tC (aG P σ c) (go P Q (.code a::k) ⟨σ,H,e⟩) (go P Q (.code b::k) ⟨σ,H,e⟩):=by
 by_cases ht:aG P σ c=some (.bool true)
 ·rw [NM ht,ht]; rfl
 by_cases hf:aG P σ c=some (.bool false)
 ·rw [J5 hf,hf]; rfl
 apply propext
 constructor
 ·rintro ⟨n,ex,s',hs,hq⟩
  have:aL P (evN P n) (eS P n) n (.cond c a b) ⟨σ,H,e⟩=none:=by
   show (match aG P σ c with | some (.bool true)=>_ | some (.bool false)=>_ | _=>none)=none
   split
   ·exact absurd ‹_› ht
   ·exact absurd ‹_› hf
   ·rfl
  rw [this] at hs; cases hs
 ·intro h
  unfold tC at h
  split at h
  ·exact absurd ‹_› ht
  ·exact absurd ‹_› hf
  ·exact h.elim

theorem SU {dst:Option Tmp} {op:Op} {ty:TypeId} {pos:String} {af:Array Edge}:bw P ops K (⟨dst,op,ty,pos,af,none⟩::l) ⟨σ,H,e⟩=opK P σ H op (bE P ops K l σ e dst):=kF rfl
def nG (ops:List Oper) (j:Nat):Option Nat:=(ops[j]?).bind (·.dst)
theorem Qo {o:Oper} {l:List Oper}:nG (o::l) 0=o.dst:=rfl
theorem Qp {o:Oper} {l:List Oper} {j:Nat}:nG (o::l) (j+1)=nG l j:=rfl
def jY (σ:List AV):Option Nat→AV
 | some d=>fr σ d
 | none=>bz
theorem NL {d:Nat}:jY σ (some d)=fr σ d:=rfl
theorem Qe {dst:Option Tmp} {op:Op} {ty:TypeId} {pos:String} {af:Array Edge} {j:Nat} {w:Bool} :
  bw P ops K (⟨dst,op,ty,pos,af,some (j,w)⟩::l) ⟨σ,H,e⟩=cB (jY σ (nG ops j)) w (opK P σ H op (bE P ops K l σ e dst)) (bw P ops K l ⟨put σ dst bz,H,e⟩):=by
 cases hw:cp ops σ ⟨dst,op,ty,pos,af,some (j,w)⟩ with
 | true =>
  rw [kF hw]
  unfold cp at hw
  simp only at hw
  unfold jY nG
  split at hw
  ·rename_i d hd
   rw [hd]
   split at hw
   ·rename_i b hb
    unfold fr; simp only [hb,Option.getD_some,cB]; rw [if_pos hw]
   ·cases hw
  ·cases hw
 | false =>
  rw [sZ hw]
  unfold cp at hw
  simp only at hw
  unfold jY nG
  split at hw
  ·rename_i d hd
   rw [hd]
   split at hw
   ·rename_i b hb
    unfold fr; simp only [hb,Option.getD_some,cB]; rw [if_neg (by rw [hw]; exact Bool.false_ne_true)]
   ·rename_i hne
    simp only
    unfold fr cB
    split
    ·rename_i b hb
     cases hd2:σ[d]? with
     | none=>rw [hd2] at hb; cases hb
     | some v=>rw [hd2] at hb; simp only [Option.getD_some] at hb; rw [hb] at hd2; exact absurd hd2 (hne b)
    ·rfl
  ·rename_i hd
   rw [hd]; rfl

theorem wP {K:St→List Nat→Prop} {l:List (Nat × Oper)} {i:Nat} {dst:Option Tmp} {op:Op} {ty:TypeId} {pos:String} {af:Array Edge}:goD P ops K ((i,⟨dst,op,ty,pos,af,none⟩)::l) ⟨σ,H,e⟩=opK P σ H op (qM P ops K l σ H e i ⟨dst,op,ty,pos,af,none⟩):=tc rfl
theorem Jt {dst:Option Tmp} {v:AV} {H':Hp} {e':Ef}:bE P ops K l σ e dst (v,H',e')=bw P ops K l ⟨put σ dst v,H',e.and e'⟩:=rfl
theorem rX {r:AV × Hp × Ef} {kk:AV × Hp × Ef→Prop}:aF (some r) kk=kk r:=rfl
theorem OA {g:FuncId} {az:List AV} {kk:AV × Hp × Ef→Prop} (hb:aj P g=true):iz P g az H kk=ag P g az H kk:=if_pos hb
theorem Oy {g:FuncId} {az:List AV} {kk:AV × Hp × Ef→Prop} (hb:aj P g=false) (hz:sR P g=none) (hx:(mV P g).isSome=true):iz P g az H kk=aq (mV P g) fun x=>aq (jN P H x az) fun v=>kk (v,H,z0):=by
 unfold iz evX
 rw [if_neg (by rw [hb]; exact Bool.false_ne_true),hz]
 cases hq:mV P g with
 | none=>rw [hq] at hx; cases hx
 | some x=>cases h:jN P H x az <;> simp [aF,ret,aq,h]
theorem Oz {g:FuncId} {az:List AV} {kk:AV × Hp × Ef→Prop} (hb:aj P g=false) (hz:sR P g=none) (hx:mV P g=none):iz P g az H kk=aF (evS P g az H) kk:=by
 unfold iz evX
 rw [if_neg (by rw [hb]; exact Bool.false_ne_true),hz,hx]
theorem Ox {g:FuncId} {n:Int} {kk:AV × Hp × Ef→Prop} (hb:aj P g=false) (hz:(sR P g).isSome=true):iz P g [.int .i64 n] H kk=aq (sR P g) fun e=>((0≤n∧n≤281474976710656)∧kk (.slice H.length 0 n.toNat (.op 0),H++[.cells [] e (.op 0 false)],z0)):=by
 obtain ⟨e,he⟩:=Option.isSome_iff_exists.1 hz
 unfold iz evX
 rw [if_neg (by rw [hb]; exact Bool.false_ne_true),he]
 simp only [QF,aq]
 by_cases h:0≤n∧n≤281474976710656
 ·rw [if_pos h]; simp [aF,h]
 ·rw [if_neg h]; simp [aF,h]
attribute [go_sem] Option.isSome_some
theorem D8 {g:FuncId} {az:List AV} {kk:AV × Hp × Ef→Prop}:bA P (some (.fn g az)) H kk=iz P g az H kk:=rfl
theorem OB {b:Nat} {az:List AV} {kk:AV × Hp × Ef→Prop}:bA P (some (.yl b az)) H kk=ag P (P.funcs.size+b) az H kk:=rfl
theorem Kq {x:AV}:jN P H .same [x]=some x:=rfl
theorem Ks {s:List UInt8} {c:Int}:jN P H .NI [.str s,.int .u8 c]=some (.int .i64 (Lib.indexByte s c.toNat.toUInt8)):=rfl
theorem Ku {s:List UInt8} {c:Int}:jN P H .Om [.str s,.int .u8 c]=some (.int .i64 (Lib.countByte s c.toNat.toUInt8)):=rfl
theorem N7 {a b:List UInt8}:jN P H .cmp [.str a,.str b]=some (.int .i64 (Lib.compareBytes a b)):=rfl
theorem Kr {a b:List UInt8} {f:AV→Prop}:aq (jN P H .Qc [.str a,.str b]) f=aq (mxL P H) fun m=>((2≤b.length∧(b.length:Int)≤m∧a.length < 4294967281)∧f (.int .i64 (Lib.index a b))):=by
 show aq (Option.bind _ _) f=_
 cases mxL P H with
 | none=>rfl
 | some m =>
  simp only [Option.bind_some,aD]
  by_cases h:2≤b.length∧(b.length:Int)≤m∧a.length < 4294967281
  ·rw [if_pos h]; simp [h,aD]
  ·rw [if_neg h]; simp [h,aq]
attribute [go_sem] Kq Ks Ku N7
attribute [go_sem ↓] Kr
attribute [go_sem ↓] OA Oy Ox Oz
theorem Si {d:Tmp} {v:AV}:put σ (some d) v=σ.set d v:=rfl
theorem Sj {v:AV}:put σ none v=σ:=rfl
attribute [go_sem] Qo Qp NL Si Sj rX
attribute [go_sem ↓] SV SU Qe Jt rX D8 OB wP

theorem R7 {v:AV}:ret H (some v)=some (v,H,z0):=rfl
theorem Px {v:AV × Hp}:BG (some v)=some (v.1,v.2,z0):=rfl
attribute [go_sem] R7 Px

theorem LC {t:Nat}:aG P σ (.tmp t)=some (fr σ t):=rfl
theorem LJ {f:FuncId}:aG P σ (.func f)=some (.func (.func f) [] []):=rfl
theorem TG {kk:IntKind} {n:Int}:aG P σ (.const (.int kk n))=some (.int kk n):=rfl
theorem TJ {b:Bool}:aG P σ (.const (.bool b))=some (.bool b):=rfl
theorem TF {s:Array UInt8}:aG P σ (.const (.string ⟨s⟩))=some (.str s.toList):=rfl
theorem LF:aG P σ (.const (.pointer none))=some .fH:=rfl
theorem LD:aG P σ (.const (.slice none 0 0))=some .aJ:=rfl
theorem LG:aG P σ (.const (.map none))=some .pY:=rfl
theorem LH:aG P σ (.const .nilIface)=some .dh:=rfl
theorem LB:bQ P σ []=some []:=rfl
theorem HB {x:Operand} {xs:List Operand}:bQ P σ (x::xs)=(aG P σ x).bind fun a=>(bQ P σ xs).map (a::·):=rfl
theorem Gp:fK P σ []=some []:=rfl
theorem BR {i:Nat} {x:Operand} {xs:List (Nat × Operand)}:fK P σ ((i,x)::xs)=(aG P σ x).bind fun a=>(fK P σ xs).map ((i,a)::·):=rfl
theorem Sn:j3 P σ none=some none:=rfl
theorem Sm {x:Operand}:j3 P σ (some x)=(aG P σ x).map some:=rfl
attribute [go_sem] LC LJ TG TJ TF LF LD LG LH LB HB Gp BR Sn Sm Option.bind_some Option.map_some

section
variable {kk:AV × Hp × Ef→Prop}
theorem aS {α:Type} {o:Option α} {f g:α→Prop} (h:∀ a,f a=g a):aq o f=aq o g:=by
 cases o
 ·rfl
 ·exact h _
theorem cE {v:Option AV}:aF (ret H v) kk=aq v fun v=>kk (v,H,z0):=by cases v <;> rfl
theorem nq {v:Option (AV × Hp)}:aF (BG v) kk=aq v fun v=>kk (v.1,v.2,z0):=by cases v <;> rfl
theorem aU {α:Type} {o:Option α} {f:α→Rs}:aF (o.bind f) kk=aq o fun a=>aF (f a) kk:=by cases o <;> rfl
theorem fG {α:Type} {o:Option α} {f:α→AV × Hp × Ef}:aF (o.map f) kk=aq o fun a=>kk (f a):=by cases o <;> rfl
theorem dU {α β:Type} {o:Option α} {f:α→Option β} {g:β→Prop}:aq (o.bind f) g=aq o fun a=>aq (f a) g:=by cases o <;> rfl
theorem dP {α β:Type} {o:Option α} {f:α→β} {g:β→Prop}:aq (o.map f) g=aq o fun a=>g (f a):=by cases o <;> rfl
theorem eD {α:Type} {c:Prop} [Decidable c] {o:Option α} {g:α→Prop}:aq (if c then o else none) g=(c∧aq o g):=by
 split
 ·rename_i h; simp [h]
 ·rename_i h; simp [h,aq]
attribute [go_sem] dU dP eD
attribute [go_sem ↓] dU dP

theorem P3 {x:Operand}:opK P σ H (.move x) kk=aq (aG P σ x) fun v=>kk (v,H,z0):=cE
theorem JP {x:Operand}:opK P σ H (.assign x) kk=aq (aG P σ x) fun v=>kk (v,H,z0):=cE
theorem P1 {c x y:Operand}:opK P σ H (.pick c x y) kk=aq (aG P σ c) fun c=>aq (match c with | .bool t=>if t then aG P σ x else aG P σ y | _=>none) fun v=>kk (v,H,z0):=by
 show aF _ _=_
 simp only [bx]
 rw [aU]
 refine aS fun c=>?_; cases c <;> first | rfl | exact cE
theorem E6 {t:TypeId}:opK P σ H (.alloc t) kk=aq (cD P t) fun z=>kk (.ptr H.length 0,H++[.cells z t .rw],z0):=fG
theorem SA {t:TypeId} {x:Operand}:opK P σ H (.box t x) kk=aq (aG P σ x) fun v=>kk (.ptr H.length 0,H++[.cells (bJ v) t .rw],z0):=fG
def qZ:AV→Option (Nat × Nat)
 | .ptr b o=>some (b,o)
 | _=>none
theorem OI {b o:Nat}:qZ (.ptr b o)=some (b,o):=rfl
theorem P5 {t:TypeId} {x:Operand}:opK P σ H (.load t x) kk=aq (aG P σ x) fun v=>aq (qZ v) fun p=>aq (ek P H t p.1 p.2) fun v=>kk (v,H,z0):=by
 show aF _ _=_
 simp only [bx]
 rw [aU]
 refine aS fun c=>?_; cases c <;> first | rfl | exact cE
theorem Ns {t:TypeId} {x y:Operand}:opK P σ H (.store t x y) kk=aq (aG P σ x) fun p=>aq (aG P σ y) fun v=>aq (qZ p) fun p=>aq (jy P H t p.1 p.2 v) fun r=>kk (bz,r.1,r.2):=by
 show aF _ _=_
 simp only [bx]
 rw [aU]
 refine aS fun c=>?_
 rw [aU]
 refine aS fun v=>?_; cases c <;> first | rfl | exact fG
def Rh:AV→Option AV
 | .ptr b o=>some (.ptr b o)
 | .func (.func f) a b=>some (.func (.func f) a b)
 | _=>none
theorem Rf {b o:Nat}:Rh (.ptr b o)=some (.ptr b o):=rfl
theorem Rg {f:FuncId} {a b:List AV}:Rh (.func (.func f) a b)=some (.func (.func f) a b):=rfl
theorem B7 {x:Operand}:opK P σ H (.nilCheck x) kk=aq (aG P σ x) fun v=>aq (Rh v) fun v=>kk (v,H,z0):=by
 show aF _ _=_
 simp only [bx]
 rw [aU]
 refine aS fun c=>?_
 cases c <;> try rfl
 rename_i f _ _
 cases f <;> rfl
theorem Ue {op:UnOp} {t:TypeId} {x:Operand}:opK P σ H (.unOp op t x) kk=aq (aG P σ x) fun v=>aq (GZ op v) fun v=>kk (v,H,z0):=by
 show aF _ _=_
 simp only [bx]
 rw [aU]
 refine aS fun c=>?_; exact cE
theorem P7 {s d:TypeId} {x:Operand}:opK P σ H (.convert s d x) kk=aq (aG P σ x) fun v=>aq (bn P s d v H) fun r=>kk (r.1,r.2,z0):=by
 show aF _ _=_
 simp only [bx]
 rw [aU]
 refine aS fun c=>?_; exact nq
def N6 (b o:Nat) (x:Nat × Nat × Bool):Option AV:=if (x.2.1 == 0)=true then none else some (.ptr b (o+x.1))
theorem QB {b o p n:Nat} {g:Bool} (h:(n == 0)=false):N6 b o (p,n,g)=some (.ptr b (o+p)):=by simp [N6,h]
theorem zL {t:TypeId} {x:Operand} {f:Nat}:opK P σ H (.fieldAddr t x f) kk=aq (aG P σ x) fun v=>aq (qZ v) fun p=>aq (bL P t f) fun x=>aq (N6 p.1 p.2 x) fun v=>kk (v,H,z0):=by
 show aF _ _=_
 simp only [bx]
 rw [aU]
 refine aS fun c=>?_
 cases c <;> try rfl
 show aF (Option.bind _ _) _=_
 rw [aU]
 show _=aq _ _
 refine aS fun x=>?_
 unfold N6
 by_cases hx:x.2.1=0
 ·simp [hx,aF,aq,qZ]
 ·simp [hx,aF,aq,qZ]
def QA (cs:List AV) (x:Nat × Nat × Bool):Option AV:=if x.2.2=true then (if x.1+x.2.1≤cs.length then some (.agg ((cs.drop x.1).take x.2.1)) else none) else cs[x.1]?
theorem Qz {cs:List AV} {p n:Nat}:QA cs (p,n,false)=cs[p]?:=rfl
theorem Qy {cs:List AV} {p n:Nat}:QA cs (p,n,true)=if p+n≤cs.length then some (.agg ((cs.drop p).take n)) else none:=rfl
def asAgg:AV→Option (List AV)
 | .agg cs=>some cs
 | _=>none
theorem OO {cs:List AV}:asAgg (.agg cs)=some cs:=rfl
theorem Nx {t:TypeId} {x:Operand} {f:Nat}:opK P σ H (.field t x f) kk=aq (aG P σ x) fun v=>aq (asAgg v) fun cs=>aq (bL P t f) fun x=>aq (QA cs x) fun v=>kk (v,H,z0):=by
 show aF _ _=_
 simp only [bx]
 rw [aU]
 refine aS fun c=>?_
 cases c <;> try rfl
 show aF (Option.bind _ _) _=_
 rw [aU]
 show _=aq _ _
 refine aS fun x=>?_
 exact cE
theorem zK {t:TypeId} {x i:Operand}:opK P σ H (.indexAddr t x i) kk=aq (aG P σ x) fun v=>aq (aG P σ i) fun w=>aq (aO P t v w) fun v=>kk (v,H,z0):=by
 show aF _ _=_
 simp only [bx]
 rw [aU]; refine aS fun c=>?_
 rw [aU]; refine aS fun c=>?_
 exact cE
theorem Nv {t:TypeId} {x i:Operand}:opK P σ H (.index t x i) kk=aq (aG P σ x) fun v=>aq (aG P σ i) fun w=>aq (mI P t v w) fun v=>kk (v,H,z0):=by
 show aF _ _=_
 simp only [bx]
 rw [aU]; refine aS fun c=>?_
 rw [aU]; refine aS fun c=>?_
 exact cE
def Pf:AV→Option (List AV)
 | .tuple cs=>some cs
 | _=>none
theorem OH {cs:List AV}:Pf (.tuple cs)=some cs:=rfl
theorem GN {x:Operand} {i:Nat}:opK P σ H (.extract x i) kk=aq (aG P σ x) fun v=>aq (Pf v) fun vs=>aq (vs[i]?) fun v=>kk (v,H,z0):=by
 show aF _ _=_
 simp only [bx]
 rw [aU]; refine aS fun c=>?_
 cases c <;> first | rfl | exact cE
theorem B8 {fn:Fn} {f c:Array Operand}:opK P σ H (.makeFunc fn f c) kk=aq (bQ P σ f.toList) fun fs=>aq (bQ P σ c.toList) fun cs=>kk (.func fn fs cs,H,z0):=by
 show aF _ _=_
 simp only [bx]
 rw [aU]; refine aS fun c=>?_
 rw [aU]; rfl
def slK (P:Program) (t:TypeId) (v:AV) (lo hi mx:Option AV) (H:Hp) (kk:AV × Hp × Ef→Prop) (_:Ph kk:=⟨⟩):Prop :=
 match eL P t v lo hi mx H with
 | some v=>kk (v,H,z0)
 | none=>aq (eA P t v lo hi mx H) fun r=>kk (r.1,r.2,z0)
theorem nt {t:TypeId} {v:AV} {lo hi mx:Option AV} (h:eA P t v lo hi mx H=none):slK P t v lo hi mx H kk=aq (eL P t v lo hi mx H) fun v=>kk (v,H,z0):=by
 unfold slK
 cases eL P t v lo hi mx H with
 | none=>rw [h]; rfl
 | some v=>rfl
theorem Nt {t:TypeId} {x:Operand} {lo hi mx:Option Operand}:opK P σ H (.slice t x lo hi mx) kk=aq (aG P σ x) fun v=>aq (j3 P σ lo) fun a=>aq (j3 P σ hi) fun b=>aq (j3 P σ mx) fun c=>slK P t v a b c H kk:=by
 show aF _ _=_
 simp only [bx]
 rw [aU]; refine aS fun c=>?_
 rw [aU]; refine aS fun c=>?_
 rw [aU]; refine aS fun c=>?_
 rw [aU]; refine aS fun c=>?_
 unfold slK
 cases eL P t _ _ _ _ H with
 | some v=>rfl
 | none=>exact fG
theorem NA {t:TypeId} {ps:Array (Nat × Operand)}:opK P σ H (.build t ps) kk=aq (fK P σ ps.toList) fun vs=>aq (bt P t vs) fun v=>kk (v,H,z0):=by
 show aF _ _=_
 simp only [bx]
 rw [aU]; refine aS fun c=>?_
 exact cE
theorem wF {t:TypeId} {n:Nat} {ps:Array (Nat × Operand)}:opK P σ H (.buildSlice t n ps) kk=aq (fK P σ ps.toList) fun vs=>aq (aP P t n vs H) fun r=>kk (r.1,r.2,z0):=by
 show aF _ _=_
 simp only [bx]
 rw [aU]; refine aS fun c=>?_
 exact nq
def jK (P:Program) (t:TypeId) (v:AV):Option AV :=
 match tsh P t with
 | some .iface=>none
 | some _=>some (.iface t v)
 | none=>none
theorem Nw {t:TypeId} {x:Operand}:opK P σ H (.makeInterface t x) kk=aq (aG P σ x) fun v=>aq (jK P t v) fun v=>kk (v,H,z0):=by
 show aF _ _=_
 simp only [bx]
 rw [aU]; refine aS fun c=>?_
 unfold jK
 cases tsh P t with
 | none=>rfl
 | some s=>cases s <;> rfl
theorem JQ {xt t:TypeId} {x:Operand}:opK P σ H (.typeAssert x xt t true) kk=aq (aG P σ x) fun v=>aq (fW P t v) fun v=>kk (v,H,z0):=by
 show aF _ _=_
 simp only [bx]
 rw [aU]; refine aS fun c=>?_
 exact cE
theorem Lu {t:TypeId} {v:AV} (ht:(match tsh P t with | some .iface=>false | some _=>true | none=>false)=true):fW P t (.iface t v)=some (.tuple [v,.bool true]):=by
 unfold fW
 split at ht
 ·cases ht
 ·rename_i s hs hne
  rw [hne]
  cases s <;> first | (exact (hs rfl).elim) | (simp; done)
 ·cases ht
theorem Lt {t:TypeId} (ht:(match tsh P t with | some .iface=>false | some _=>true | none=>false)=true):fW P t .dh=(ng P t).map fun z=>.tuple [z,.bool false]:=by
 unfold fW
 split at ht
 ·cases ht
 ·rename_i s hs hne
  rw [hne]
  cases s <;> first | (exact (hs rfl).elim) | rfl
 ·cases ht
attribute [go_sem ↓] JQ
attribute [go_sem] Lu Lt
theorem P4 {t:TypeId} {x y:Operand}:opK P σ H (.makeSlice t x y) kk=aq (aG P σ x) fun v=>aq (aG P σ y) fun w=>aq (jj P t v w H) fun r=>kk (r.1,r.2,z0):=by
 show aF _ _=_
 simp only [bx]
 rw [aU]; refine aS fun c=>?_
 rw [aU]; refine aS fun c=>?_
 exact nq
theorem JN {t:TypeId} {x i:Operand} {ok:Bool}:opK P σ H (.lookup t x i ok) kk=aq (aG P σ x) fun v=>aq (aG P σ i) fun w=>aq (iw P t v w ok H) fun v=>kk (v,H,z0):=by
 show aF _ _=_
 simp only [bx]
 rw [aU]; refine aS fun c=>?_
 rw [aU]; refine aS fun c=>?_
 exact cE
theorem JM {t:TypeId} {m x y:Operand}:opK P σ H (.mapUpdate t m x y) kk=aq (aG P σ m) fun u=>aq (aG P σ x) fun v=>aq (aG P σ y) fun w=>aq (fV P t u v w H) fun r=>kk (bz,r.1,r.2):=by
 show aF _ _=_
 simp only [bx]
 rw [aU]; refine aS fun c=>?_
 rw [aU]; refine aS fun c=>?_
 rw [aU]; refine aS fun c=>?_
 exact fG
def gJ (P:Program) (op:BinOp) (t:TypeId) (a b:AV) (cst:Bool):Option AV :=
 match a,b with
 | .dh,.dh=>if cst=true then (match op with | .eql=>(if (tsh P t matches some .iface) then some (.bool true) else none) | .neq=>(if (tsh P t matches some .iface) then some (.bool false) else none) | _=>none) else none
 | a,b=>kV P op t a b
theorem SB {op:BinOp} {t u:TypeId} {x y:Operand}:opK P σ H (.binOp op t x y u) kk=aq (aG P σ x) fun a=>aq (aG P σ y) fun b=>aq (gJ P op t a b (bx.isConst x || bx.isConst y)) fun v=>kk (v,H,z0):=by
 show aF _ _=_
 simp only [bx]
 rw [aU]; refine aS fun a=>?_
 rw [aU]; refine aS fun b=>?_
 rw [← cE]
 unfold gJ
 split
 ·split
  ·cases op <;> rfl
  ·rfl
 ·split
  ·rename_i h; exact (h rfl rfl).elim
  ·rfl
theorem B9 {f:Operand} {args:Array Operand} {ts:Array TypeId}:opK P σ H (.call ⟨.value f,args,ts⟩) kk=bA P (target P σ f args.toList) H kk:=rfl
theorem Nz {g:FuncId} {args:Array Operand} {ts:Array TypeId}:opK P σ H (.call ⟨.value (.func g),args,ts⟩) kk=aq (bQ P σ args.toList) fun az=>iz P g az H kk:=by
 rw [B9]
 unfold target
 rw [LJ]
 simp only [Option.bind_some,List.nil_append,List.append_nil]
 cases bQ P σ args.toList <;> rfl
def apV (v:AV) (az:List AV):Option Tg :=
 match v with
 | .func (.func g) first captured=>some (.fn g (first++az++captured))
 | .yld b=>some (.yl b az)
 | _=>none
theorem TM {g:FuncId} {az fs cs:List AV}:apV (.func (.func g) fs cs) az=some (.fn g (fs++az++cs)):=rfl
theorem TL {b:Nat} {az:List AV}:apV (.yld b) az=some (.yl b az):=rfl
theorem Ny {t:Nat} {args:Array Operand} {ts:Array TypeId}:opK P σ H (.call ⟨.value (.tmp t),args,ts⟩) kk=aq (bQ P σ args.toList) fun az=>bA P (apV (fr σ t) az) H kk:=by
 rw [B9]
 unfold target
 rw [LC]
 simp only [Option.bind_some]
 cases bQ P σ args.toList with
 | none=>rfl
 | some az=>rfl
theorem Sy {t:TypeId} {ts:List TypeId} {x:Operand}:opK P σ H (.call ⟨.builtin .len,⟨[x]⟩,⟨t::ts⟩⟩) kk=aq (aG P σ x) fun v=>aq (b7 P t v H) fun v=>kk (v,H,z0):=by
 show aF _ _=_
 simp only [bx,dB,bQ]
 cases aG P σ x with
 | none=>rfl
 | some v=>exact cE
theorem JR {t u:TypeId} {x y:Operand} (hu:ju P u=true):opK P σ H (.call ⟨.builtin .append,⟨[x,y]⟩,⟨[t,u]⟩⟩) kk=aq (aG P σ x) fun v=>aq (aG P σ y) fun w=>aF (j4 P t v w H) kk:=by
 show aF _ _=_
 simp only [bx,dB,bQ]
 cases aG P σ x with
 | none=>rfl
 | some v =>
  cases aG P σ y with
  | none=>rfl
  | some w=>show aF (if ju P u=true then _ else _) kk=_; rw [if_pos hu]; rfl
theorem GO {t u:TypeId} {x y:Operand} (hu:ju P u=false) (hi:(match tsh P u with | some (.int _)=>true | _=>false)=true):opK P σ H (.call ⟨.builtin .append,⟨[x,y]⟩,⟨[t,u]⟩⟩) kk=aq (aG P σ x) fun v=>aq (aG P σ y) fun w=>aF (qk P t v w H) kk:=by
 have hi:wI P u=true:=hi
 show aF _ _=_
 simp only [bx,dB,bQ]
 cases aG P σ x with
 | none=>rfl
 | some v =>
  cases aG P σ y with
  | none=>rfl
  | some w=>show aF (if ju P u=true then _ else _) kk=_; rw [if_neg (by rw [hu]; simp),if_pos hi]; rfl
theorem P6 {t:TypeId} {ts:List TypeId} {x y:Operand}:opK P σ H (.call ⟨.builtin .copy,⟨[x,y]⟩,⟨t::ts⟩⟩) kk=aq (aG P σ x) fun v=>aq (aG P σ y) fun w=>aF (lT P t v w H) kk:=by
 show aF _ _=_
 simp only [bx,dB,bQ]
 cases aG P σ x with
 | none=>rfl
 | some v =>
  cases aG P σ y with
  | none=>rfl
  | some w=>rfl
end
attribute [go_sem] OI Rf Rg QB Qz Qy OO OH TM TL
attribute [go_sem ↓] P3 JP P1 E6 SA P5 Ns B7 Ue P7 zL Nx zK Nv GN B8 Nt NA wF Nw P4 JN JM SB Nz Ny Sy JR GO P6

theorem TB {op:BinOp} {t:TypeId} {kd:IntKind} {a b:Int} {c:Bool} (h1:(match op with | .shl=>true | .shr=>true | _=>false)=false):gJ P op t (.int kd a) (.int kd b) c=eI op kd a b:=by
 cases op <;> first | (cases h1; done) | simp [gJ,kV]
theorem Tx {t:TypeId} {kd kd':IntKind} {a b:Int} {c:Bool}:gJ P .shl t (.int kd a) (.int kd' b) c=iq .shl kd a b:=rfl
theorem Tw {t:TypeId} {kd kd':IntKind} {a b:Int} {c:Bool}:gJ P .shr t (.int kd a) (.int kd' b) c=iq .shr kd a b:=rfl
theorem Tv {op:BinOp} {t:TypeId} {a b:List UInt8} {c:Bool}:gJ P op t (.str a) (.str b) c=qV op a b:=by
 cases op <;> rfl
theorem Ty {t:TypeId} {a b:Bool} {c:Bool} (ht:P.underlying t=some .bool):gJ P .neq t (.bool a) (.bool b) c=some (.bool (!(a == b))):=by simp [gJ,kV,gr,ht]
theorem TC {t:TypeId} {a b:List AV} {c:Bool}:gJ P .eql t (.agg a) (.agg b) c=if (P.eqGuardType P.depth t)=true then none else (gr P 20 t (.agg a) (.agg b)).map .bool:=rfl
theorem Tz {t:TypeId} {a b:List AV} {c:Bool}:gJ P .neq t (.agg a) (.agg b) c=if (P.eqGuardType P.depth t)=true then none else (gr P 20 t (.agg a) (.agg b)).map fun r=>.bool !r:=rfl
theorem SS {kd:IntKind} {a b:Int}:eI .add kd a b=some (.int kd (kd.wrap (a+b))):=rfl
theorem SI {kd:IntKind} {a b:Int}:eI .sub kd a b=some (.int kd (kd.wrap (a - b))):=rfl
theorem SM {kd:IntKind} {a b:Int}:eI .mul kd a b=some (.int kd (kd.wrap (a*b))):=rfl
theorem SR {kd:IntKind} {a b:Int}:eI .eql kd a b=some (.bool (a == b)):=rfl
theorem SL {kd:IntKind} {a b:Int}:eI .neq kd a b=some (.bool (a != b)):=rfl
theorem SN {kd:IntKind} {a b:Int}:eI .lss kd a b=some (.bool (decide (a < b))):=rfl
theorem SO {kd:IntKind} {a b:Int}:eI .leq kd a b=some (.bool (decide (a≤b))):=rfl
theorem SP {kd:IntKind} {a b:Int}:eI .gtr kd a b=some (.bool (decide (a > b))):=rfl
theorem SQ {kd:IntKind} {a b:Int}:eI .geq kd a b=some (.bool (decide (a≥b))):=rfl
theorem R6 {a b:List UInt8}:qV .eql a b=some (.bool (a == b)):=rfl
theorem R5 {a b:List UInt8}:qV .neq a b=some (.bool !(a == b)):=rfl
theorem OV {a b:List UInt8}:qV .add a b=if a.length+b.length≤cn then some (.str (a++b)) else none:=rfl
theorem RM {b:Bool}:GZ .not (.bool b)=some (.bool !b):=rfl
theorem Nn {t:TypeId} {s:List UInt8} (h:tsh P t=some .str):b7 P t (.str s) H=some (.int .i64 s.length):=by simp [b7,h]
theorem PX {t:TypeId} {x o n:Nat} {c:Cap} (h:(match tsh P t with | some (.slice _ _ _)=>true | _=>false)=true):b7 P t (.slice x o n c) H=some (.int .i64 n):=by
 unfold b7; split at h
 ·rename_i ht; rw [ht]
 ·cases h
theorem JF {t:TypeId} (h:(match tsh P t with | some (.slice _ _ _)=>true | _=>false)=true):b7 P t .aJ H=some (.int .i64 0):=by
 unfold b7; split at h
 ·rename_i ht; rw [ht]
 ·cases h
attribute [go_sem] TB Tx Tw Tv Ty TC Tz SS SI SM SR SL SN SO SP SQ R6 R5 OV RM Nn PX JF

theorem Ul {b:Bool}:flat (.bool b)=true:=by simp only [flat]
theorem Uk {k:IntKind} {n:Int}:flat (.int k n)=true:=by simp only [flat]
theorem Ui {s:List UInt8}:flat (.str s)=true:=by simp only [flat]
theorem Th:flat .aJ=true:=by simp only [flat]
theorem Ti:flat .dh=true:=by simp only [flat]
theorem Uj {b o:Nat}:flat (.ptr b o)=false:=by simp only [flat]
theorem Tf {b o n:Nat} {c:Cap}:flat (.slice b o n c)=false:=by simp only [flat]
theorem Tj {t:TypeId} {v:AV}:flat (.iface t v)=flat v:=by simp only [flat]
theorem Um {cs:List AV}:flat (.agg cs)=bM cs:=by simp only [flat]
theorem Uh {cs:List AV}:flat (.tuple cs)=bM cs:=by simp only [flat]
theorem Tc:bM []=true:=by simp only [bM]
theorem Td {v:AV} {vs:List AV}:bM (v::vs)=(flat v && bM vs):=by simp only [bM]
theorem TY {b:Bool}:cM (.bool b)=true:=by simp only [cM]
theorem TX {k:IntKind} {n:Int}:cM (.int k n)=true:=by simp only [cM]
theorem TV {s:List UInt8}:cM (.str s)=true:=by simp only [cM]
theorem R3:cM .aJ=true:=by simp only [cM]
theorem TW {b o:Nat}:cM (.ptr b o)=true:=by simp only [cM]
theorem R1 {b o n:Nat} {c:Cap}:cM (.slice b o n c)=true:=by simp only [cM]
attribute [go_sem] Ul Uk Ui Th Ti Uj Tf Tj Um Uh Tc Td TY TX TV R3 TW R1

theorem bZ {l:Hp} {i:Nat}:(H++l)[H.length+i]?=l[i]?:=by rw [List.getElem?_append_right (by omega)]; congr 1; omega
theorem dm {l:Hp}:(H++l)[H.length]?=l[0]?:=by rw [List.getElem?_append_right (by omega)]; congr 1; omega
theorem iE {l:Hp} {b:Nat} {x:br} (h:H[b]?=some x):(H++l)[b]?=some x:=by rw [List.getElem?_append_left (List.getElem?_eq_some_iff.1 h).1]; exact h
theorem gB {l:Hp} {i:Nat} {v:br}:(H++l).set (H.length+i) v=H++l.set i v:=by
 rw [List.set_append_right _ _ (by omega)]; congr 2; omega
theorem NJ {l:Hp} {v:br}:(H++l).set H.length v=H++l.set 0 v:=by
 rw [List.set_append_right _ _ (by omega)]; congr 2; omega
def ldC (o n:Nat) (g:Bool):br→Option AV
 | .cells c _ _=>if g=true then (if o+n≤c.length then some (.agg ((c.drop o).take n)) else none) else c[o]?
 | .void=>if g=true then (if n=0 then some (.agg []) else none) else none
 | _=>none
theorem sH {c:List AV} {e:TypeId} {kd:Kd} {o n:Nat}:ldC o n false (.cells c e kd)=c[o]?:=rfl
theorem O0 {c:List AV} {e:TypeId} {kd:Kd} {o n:Nat}:ldC o n true (.cells c e kd)=if o+n≤c.length then some (.agg ((c.drop o).take n)) else none:=rfl
theorem N8 {t b o:Nat}:ek P H t b o=(fP P t).bind fun g=>(if g=true then ct P t else some 1).bind fun n=>(H[b]?).bind (ldC o n g):=by
 unfold ek
 cases fP P t with
 | none=>rfl
 | some g =>
  cases g with
  | true =>
   simp only [Option.bind_some,if_true]
   congr 1; funext n
   unfold rd
   cases H[b]? with
   | none=>rfl
   | some x =>
    cases x <;> try rfl
    all_goals
     show Option.map AV.agg (if _ then _ else _)=if _ then _ else _
     split <;> rfl
  | false =>
   simp only [Option.bind_some,Bool.false_eq_true,if_false]
   unfold rd
   cases H[b]? with
   | none=>rfl
   | some x =>
    cases x <;> try rfl
    rename_i c e kd
    show Option.bind (if _ then _ else _) one=c[o]?
    split
    ·rename_i h
     have:o < c.length:=by omega
     rw [List.getElem?_eq_getElem this,List.drop_eq_getElem_cons this]
     rfl
    ·rename_i h
     rw [List.getElem?_eq_none (by omega)]
     rfl
def szT (P:Program) (t:TypeId) (g:Bool):Option Nat:=if g=true then ct P t else some 1
theorem RT {t:TypeId}:szT P t true=ct P t:=rfl
theorem RU {t:TypeId}:szT P t false=some 1:=rfl
theorem Hy {t b o:Nat} {f:AV→Prop}:aq (ek P H t b o) f=aq (fP P t) fun g=>aq (szT P t g) fun n=>aq (H[b]?) fun x=>aq (ldC o n g x) f:=by
 rw [N8,dU]
 refine aS fun g=>?_
 rw [dU]
 refine aS fun n=>?_
 rw [dU]
def wrC (H:Hp) (b o:Nat) (xs:List AV):br→Option (Hp × Ef)
 | .cells c e k=>if o+xs.length≤c.length∧gG k o=true∧xs.all cM=true then some (H.set b (.cells (splice c o xs) e k),⟨if bM xs=true then none else some b,some b⟩) else none
 | _=>none
theorem RI {b o:Nat} {xs c:List AV} {e:TypeId} {k:Kd}:wrC H b o xs (.cells c e k)=if o+xs.length≤c.length∧gG k o=true∧xs.all cM=true then some (H.set b (.cells (splice c o xs) e k),⟨if bM xs=true then none else some b,some b⟩) else none:=rfl
theorem O8 {b o:Nat} {xs:List AV}:wr H b o xs=(H[b]?).bind (wrC H b o xs):=by
 unfold wr
 cases H[b]? with
 | none=>rfl
 | some x=>cases x <;> rfl
theorem Kv {t b o:Nat} {v:AV}:jy P H t b o v=(ct P t).bind fun n=>if (bJ v).length=n then (H[b]?).bind (wrC H b o (bJ v)) else none:=by
 unfold jy
 cases ct P t with
 | none=>rfl
 | some n=>simp only [Option.bind_some,O8]
theorem Eb {t b o:Nat} {v:AV} {f:Hp × Ef→Prop}:aq (jy P H t b o v) f=aq (ct P t) fun n=>(bJ v).length=n∧aq (H[b]?) fun x=>aq (wrC H b o (bJ v) x) f:=by
 rw [Kv,dU]
 refine aS fun n=>?_
 rw [eD,dU]
theorem HP {cs:List AV}:bJ (.agg cs)=cs:=rfl
theorem HK {s:List UInt8}:bJ (.str s)=[.str s]:=rfl
theorem HN {kd:IntKind} {n:Int}:bJ (.int kd n)=[.int kd n]:=rfl
theorem HO {b:Bool}:bJ (.bool b)=[.bool b]:=rfl
theorem HL {b o:Nat}:bJ (.ptr b o)=[.ptr b o]:=rfl
theorem FG:bJ .fH=[.fH]:=rfl
theorem FE {b o n:Nat} {c:Cap}:bJ (.slice b o n c)=[.slice b o n c]:=rfl
theorem FF:bJ .aJ=[.aJ]:=rfl
theorem HM {r:Nat}:bJ (.map r)=[.map r]:=rfl
theorem FI {t:TypeId} {v:AV}:bJ (.iface t v)=[.iface t v]:=rfl
theorem FH:bJ .dh=[.dh]:=rfl
theorem IM {a x:AV} {c xs:List AV} {o:Nat}:splice (a::c) o (x::xs)=(a::c).take o++(x::xs)++(a::c).drop (o+(x::xs).length):=rfl
theorem P0 {v:AV} {c:List AV} {e:TypeId} {kd:Kd} {o n:Nat}:ldC o n false (.cells (v::c) e kd)=(v::c)[o]?:=rfl
theorem PZ {v:AV} {c:List AV} {e:TypeId} {kd:Kd} {o n:Nat}:ldC o n true (.cells (v::c) e kd)=if o+n≤(v::c).length then some (.agg (((v::c).drop o).take n)) else none:=rfl
attribute [go_sem] P0 PZ IM
attribute [go_sem ↓] Hy Eb
attribute [go_sem] bZ dm gB NJ RT RU RI O8 HP HK HN HO HL FG FE FF HM FI FH
attribute [go_sem] List.append_assoc List.cons_append List.nil_append List.length_append List.length_cons List.length_nil List.getElem?_cons_zero List.getElem?_cons_succ List.drop_zero List.drop_succ_cons List.take_zero List.take_succ_cons List.take_nil List.drop_nil List.set_cons_zero List.set_cons_succ Nat.zero_add Nat.add_zero if_true gG List.all_cons List.all_nil Bool.and_true Bool.true_and Bool.and_self decide_true decide_false Nat.add_assoc true_and and_true eq_self Option.getD_some Bool.false_eq_true if_false Bool.or_false Bool.or_true Bool.false_or Bool.true_or
attribute [go_sem] Int.toNat_natCast Int.natCast_nonneg Int.ofNat_lt beq_self_eq_true bne_self_eq_false Bool.not_true Bool.not_false
attribute [go_sem] Nat.sub_zero true_or or_true Nat.zero_le

def rdC (o n:Nat):br→Option (List AV)
 | .cells c _ _=>if o+n≤c.length then some ((c.drop o).take n) else none
 | .void=>if n=0 then some [] else none
 | _=>none
theorem Sc {o:Nat}:rdC o 0 .void=some []:=rfl
attribute [go_sem] Sc
theorem zb {o n:Nat} {c:List AV} {e:TypeId} {k:Kd}:rdC o n (.cells c e k)=if o+n≤c.length then some ((c.drop o).take n) else none:=rfl
theorem Fw {b o n:Nat} {f:List AV→Prop}:aq (rd H b o n) f=aq (H[b]?) fun x=>aq (rdC o n x) f:=by
 have:rd H b o n=(H[b]?).bind (rdC o n):=by
  unfold rd
  cases H[b]? with
  | none=>rfl
  | some x=>cases x <;> rfl
 rw [this,dU]
theorem OQ {z:Nat} {f:List AV × Nat→Prop}:aq (appended H z .aJ) f=f ([],0):=rfl
theorem TK {z b o n:Nat} {c:Cap} {f:List AV × Nat→Prop}:aq (appended H z (.slice b o n c)) f=aq (H[b]?) fun x=>aq (rdC o (n*z) x) fun l=>f (l,n):=by
 show aq ((rd H b o (n*z)).map _) f=_
 rw [dP,Fw]
theorem Rz {z:Nat} {s:List UInt8} {f:List AV × Nat→Prop} (h:(z == 1)=true):aq (appended H z (.str s)) f=f (s.map fun b=>.int .u8 b.toNat,s.length):=by
 have:z=1:=by simpa using h
 subst this; rfl
theorem EI {e z b:Nat}:shZ (.slice e z b)=z:=rfl
theorem GY {t:TypeId} {s x:AV} {kk:AV × Hp × Ef→Prop}:aF (j4 P t s x H) kk=aq (tsh P t) fun sh=>aq (appended H (shZ sh) x) fun a=>aF (de P sh s a H) kk:=by
 unfold j4
 cases tsh P t with
 | none=>rfl
 | some sh =>
  cases sh <;> try (rw [aD]; generalize appended H _ x=q; cases q <;> rfl)
  rename_i e z b
  simp only [aD,shZ]
  by_cases hz:0 < z∧zok P e z=true
  ·rw [if_pos hz,aU]
   refine aS fun a=>?_
   simp only [de]
   rw [if_pos hz]
   try (cases s <;> rfl)
  ·rw [if_neg hz]
   cases appended H z x with
   | none=>rfl
   | some a =>
    rw [aD]
    simp only [de]
    rw [if_neg hz]
def shB:Sh→Nat
 | .slice _ _ b=>b
 | _=>0
def shE:Sh→TypeId
 | .slice e _ _=>e
 | _=>0
theorem RX {e z b:Nat}:shB (.slice e z b)=b:=rfl
theorem RW {e z b:Nat}:shE (.slice e z b)=e:=rfl
theorem N9 {t:TypeId} {s:AV} {k:IntKind} {n:Int} {kk:AV × Hp × Ef→Prop}:aF (qk P t s (.int k n) H) kk=aq (tsh P t) fun sh=>(0≤n∧fits n.toNat (shB sh)=true)∧aq (cD P (shE sh)) fun zs=>zs.length=shZ sh∧aF (de P sh s (rep zs n.toNat,n.toNat) H) kk:=by
 unfold qk
 cases ht:tsh P t with
 | none=>rfl
 | some sh =>
  cases sh with
  | slice e z b =>
   simp only [aD,shB,shE,shZ]
   by_cases hc:0≤n∧fits n.toNat b=true
   ·rw [if_pos hc]
    cases cD P e with
    | none=>simp [aF,aq]
    | some zs =>
     by_cases hz:zs.length=z
     ·simp [hz,hc,aq]
     ·simp [hz,aq,aF]
   ·rw [if_neg hc]; simp [hc,aF]
  | _=>simp only [aD]; simp [aF,de,aq]; intros; cases cD P _ <;> simp
theorem om {p:Prop} [Decidable p] {r:Rs} {kk:AV × Hp × Ef→Prop}:aF (if p then r else none) kk=(p∧aF r kk):=by
 by_cases h:p
 ·rw [if_pos h]; simp [h]
 ·rw [if_neg h]; simp [h,aF]
theorem pM {p:Prop} [Decidable p] {r q:Rs} {kk:AV × Hp × Ef→Prop}:aF (if p then r else q) kk=cB (.bool (decide p)) true (aF r kk) (aF q kk):=by
 by_cases h:p
 ·rw [if_pos h]
  have:decide p=true:=by simpa using h
  rw [this]; rfl
 ·rw [if_neg h]
  have:decide p=false:=by simpa using h
  rw [this]; rfl
theorem dV {e z b n:Nat} {cs:List AV} {kk:AV × Hp × Ef→Prop} (hz:decide (0 < z)=true) (hk:zok P e z=true) :
  aF (de P (.slice e z b) .aJ (cs,n) H) kk=cB (.bool (decide (n=0))) true (kk (.aJ,H,z0)) (fits n b=true∧kk (.slice H.length 0 n (.op 0),H++[.cells cs e (.op 0 false)],z0)):=by
 simp only [de]
 rw [if_pos ⟨by simpa using hz,hk⟩,pM,om]
 rfl
def OP (H : Hp) (e z b bl o n k : Nat) (a : List AV × Nat) (kk : AV × Hp × Ef → Prop) : br → Prop
  | .cells c e' (.op fz st) =>
    (e' = e ∧ o = k * z ∧ o + n * z ≤ c.length) ∧ cB (.bool (decide (o + (n + a.2) * z ≤ c.length))) true
      (aq (wr H bl (o + n * z) a.1) fun r => kk (.slice bl o (n + a.2) (.op k), r.1, r.2))
      ((fits (n + a.2) b = true ∧ fz ≤ o + n * z ∧ a.1.all cM = true) ∧
        kk (.slice H.length 0 (n + a.2) (.op 0), H.set bl .dead ++ [.cells ((c.drop o).take (n * z) ++ a.1) e (.op (fz - o) st)], ⟨none, some bl⟩))
  | _ => False
theorem eE {e z b bl o n k:Nat} {a:List AV × Nat} {kk:AV × Hp × Ef→Prop} (hz:decide (0 < z)=true) (hk:zok P e z=true) :
  aF (de P (.slice e z b) (.slice bl o n (.op k)) a H) kk=aq (H[bl]?) (OP H e z b bl o n k a kk):=by
 simp only [de]
 rw [if_pos ⟨by simpa using hz,hk⟩]
 cases H[bl]? with
 | none=>rfl
 | some x =>
  rw [aD]
  cases x <;> try rfl
  rename_i c e' kd
  cases kd <;> try rfl
  rename_i fz st
  simp only [OP]
  rw [om,pM,om,fG]
  rfl
theorem ic {e z b bl o n k fz : Nat} {st : Bool} {c : List AV} {e' : TypeId} {a : List AV × Nat} {kk : AV × Hp × Ef → Prop} :
    OP H e z b bl o n k a kk (.cells c e' (.op fz st)) = ((e' = e ∧ o = k * z ∧ o + n * z ≤ c.length) ∧ cB (.bool (decide (o + (n + a.2) * z ≤ c.length))) true
      (aq (wr H bl (o + n * z) a.1) fun r => kk (.slice bl o (n + a.2) (.op k), r.1, r.2))
      ((fits (n + a.2) b = true ∧ fz ≤ o + n * z ∧ a.1.all cM = true) ∧
        kk (.slice H.length 0 (n + a.2) (.op 0), H.set bl .dead ++ [.cells ((c.drop o).take (n * z) ++ a.1) e (.op (fz - o) st)], ⟨none, some bl⟩))) := rfl
theorem mc {e z b bl o n c:Nat} {a:List AV × Nat} {kk:AV × Hp × Ef→Prop} (hz:decide (0 < z)=true) (hk:zok P e z=true) :
  aF (de P (.slice e z b) (.slice bl o n (.ex c)) a H) kk=cB (.bool (decide (n+a.2≤c))) true (aq (wr H bl (o+n*z) a.1) fun r=>kk (.slice bl o (n+a.2) (.ex c),r.1,r.2))
   (fits (n+a.2) b=true∧aq (rd H bl o (n*z)) fun old=>kk (.slice H.length 0 (n+a.2) (.op 0),H++[.cells (old++a.1) e (.op 0 false)],z0)):=by
 simp only [de]
 rw [if_pos ⟨by simpa using hz,hk⟩]
 rw [pM,om,fG,fG]
attribute [go_sem ↓] Fw OQ TK Rz GY N9 dV eE mc
attribute [go_sem] EI RX RW ic
theorem PC {o n:Nat} {v:AV} {c:List AV} {e:TypeId} {k:Kd}:rdC o n (.cells (v::c) e k)=if o+n≤(v::c).length then some (((v::c).drop o).take n) else none:=rfl
attribute [go_sem] PC

def knC (o k:Nat) (sh:Sh):br→Option Nat
 | .cells c e' (.op _ _)=>match sh with
  | .slice e z _=>if e'=e∧0 < z∧o=k*z then some ((c.length - o) / z) else none
  | _=>none
 | _=>none
theorem zI {o k e z b fz:Nat} {st:Bool} {c:List AV} {e':TypeId}:knC o k (.slice e z b) (.cells c e' (.op fz st))=if e'=e∧0 < z∧o=k*z then some ((c.length - o) / z) else none:=rfl
theorem Rk {l c:Nat} {f:Nat × Nat→Prop}:aq (bnd none none l c) f=f (0,l):=rfl
theorem K8 {l c:Nat} {k:IntKind} {h:Int} {f:Nat × Nat→Prop}:aq (bnd none (some (.int k h)) l c) f=((0≤h∧h≤c)∧f (0,h.toNat)):=by
 simp only [bnd,eD,aD]
theorem Ea {l c:Nat} {k:IntKind} {a:Int} {f:Nat × Nat→Prop}:aq (bnd (some (.int k a)) none l c) f=((0≤a∧a≤l)∧f (a.toNat,l)):=by
 simp only [bnd,eD,aD]
theorem K9 {l c:Nat} {k k':IntKind} {a h:Int} {f:Nat × Nat→Prop}:aq (bnd (some (.int k a)) (some (.int k' h)) l c) f=((0≤h∧h≤c)∧(0≤a∧a≤h)∧f (a.toNat,h.toNat)):=by
 simp only [bnd,eD,aD]
section
variable {kk:AV × Hp × Ef→Prop}
theorem uV {b o k e z bb:Nat}:known H b o k z e=(H[b]?).bind (knC o k (.slice e z bb)):=by
 unfold known
 cases H[b]? with
 | none=>rfl
 | some x =>
  cases x <;> try rfl
  rename_i c e' kd
  cases kd <;> rfl
def wH:Option Sh→Bool
 | some (.slice _ _ _)=>true
 | _=>false
theorem Qa {e z b:Nat}:wH (some (.slice e z b))=true:=rfl
theorem mE {x:Option Sh} (h:wH x=true):∃ e z b,x=some (.slice e z b):=by
 unfold wH at h
 split at h
 ·exact ⟨_,_,_,rfl⟩
 ·cases h
theorem r5 {t:TypeId} {b o n k:Nat} {lo hi:Option AV} (ht:wH (tsh P t)=true):slK P t (.slice b o n (.op k)) lo hi none H kk=aq (tsh P t) fun sh=>aq (H[b]?) fun x=>aq (knC o k sh x) fun q=>aq (bnd lo hi n q) fun r =>
  cB (.bool (decide (r.1=0∨r.1 < q))) true (kk (.slice b (o+r.1*shZ sh) (r.2 - r.1) (.op (k+r.1)),H,z0)) (r.1=r.2∧kk (.slice H.length 0 0 (.op 0),H++[.void],z0)):=by
 obtain ⟨e,z,bb,he⟩:=mE ht
 unfold slK
 simp only [eL,eA,he,uV (bb:=bb),aD]
 cases hx:H[b]? with
 | none=>rfl
 | some x =>
  simp only [Option.bind_some,aD]
  cases hq:knC o k (.slice e z bb) x with
  | none=>rfl
  | some q =>
   simp only [Option.bind_some,aD]
   cases hr:bnd lo hi n q with
   | none=>rfl
   | some r =>
    simp only [Option.bind_some,aD,shZ]
    by_cases hc:r.1=0∨r.1 < q
    ·rw [if_pos hc,decide_eq_true hc]; rfl
    ·rw [if_neg hc,decide_eq_false hc,cq]
     by_cases h2:r.1=r.2
     ·rw [if_pos h2]; simp [h2,aD]
     ·rw [if_neg h2]; simp [h2]; exact fun h=>h
theorem MC {t:TypeId} {b o n k:Nat} {lo hi:Option AV} {km:IntKind} {m:Int} (ht:wH (tsh P t)=true):slK P t (.slice b o n (.op k)) lo hi (some (.int km m)) H kk=aq (tsh P t) fun sh=>aq (H[b]?) fun x=>aq (knC o k sh x) fun q =>
  (0≤m∧m≤q∧hi.isSome=true)∧aq (bnd lo hi n m.toNat) fun r=>kk (.slice b (if m.toNat=r.1 then o else o+r.1*shZ sh) (r.2 - r.1) (.ex (m.toNat - r.1)),H,z0):=by
 obtain ⟨e,z,bb,he⟩:=mE ht
 rw [nt (by simp [eA])]
 simp only [eL,he,uV (bb:=bb),aD,dU]
 refine aS fun x=>aS fun q=>?_
 rw [eD,dP]
 rfl
theorem Pv {t:TypeId} {b o n c:Nat} {lo hi:Option AV} (ht:wH (tsh P t)=true):slK P t (.slice b o n (.ex c)) lo hi none H kk=aq (tsh P t) fun sh=>aq (bnd lo hi n c) fun r=>kk (.slice b (if c=r.1 then o else o+r.1*shZ sh) (r.2 - r.1) (.ex (c - r.1)),H,z0):=by
 obtain ⟨e,z,bb,he⟩:=mE ht
 rw [nt (by simp [eA])]
 simp only [eL,he,dP,aD,shZ]
theorem MD {t:TypeId} {b o n c:Nat} {lo hi:Option AV} {km:IntKind} {m:Int} (ht:wH (tsh P t)=true):slK P t (.slice b o n (.ex c)) lo hi (some (.int km m)) H kk=aq (tsh P t) fun sh =>
  (0≤m∧m≤c∧hi.isSome=true)∧aq (bnd lo hi n m.toNat) fun r=>kk (.slice b (if m.toNat=r.1 then o else o+r.1*shZ sh) (r.2 - r.1) (.ex (m.toNat - r.1)),H,z0):=by
 obtain ⟨e,z,bb,he⟩:=mE ht
 rw [nt (by simp [eA])]
 simp only [eL,he,dP,aD,eD,shZ]
theorem IQ {t:TypeId} {lo hi:Option AV} (ht:wH (tsh P t)=true):slK P t .aJ lo hi none H kk=aq (bnd lo hi 0 0) fun _=>kk (.aJ,H,z0):=by
 obtain ⟨e,z,bb,he⟩:=mE ht
 rw [nt (by simp [eA])]
 simp only [eL,he,dP]
theorem F0 {t:TypeId} {lo hi:Option AV} {km:IntKind} {m:Int} (ht:wH (tsh P t)=true):slK P t .aJ lo hi (some (.int km m)) H kk=((m=0∧hi.isSome=true)∧aq (bnd lo hi 0 0) fun _=>kk (.aJ,H,z0)):=by
 obtain ⟨e,z,bb,he⟩:=mE ht
 rw [nt (by simp [eA])]
 simp only [eL,he,dP,eD]
def isStr:Option Sh→Bool
 | some .str=>true
 | _=>false
theorem MB {t:TypeId} {s:List UInt8} {lo hi:Option AV} (ht:isStr (tsh P t)=true):slK P t (.str s) lo hi none H kk=aq (bnd lo hi s.length s.length) fun r=>kk (.str ((s.drop r.1).take (r.2 - r.1)),H,z0):=by
 have he:tsh P t=some .str:=by
  unfold isStr at ht
  split at ht
  ·assumption
  ·cases ht
 rw [nt (by simp [eA])]
 simp only [eL,he,dP]
def shA:Sh→Nat × Nat
 | .array l _ z=>(l,z)
 | _=>(0,0)
theorem RY {l e z:Nat}:shA (.array l e z)=(l,z):=rfl
def JY:Option Sh→Bool
 | some (.array _ _ _)=>true
 | _=>false
theorem ME {t:TypeId} {b o:Nat} {lo hi:Option AV} (ht:JY (tsh P t)=true) :
  slK P t (.ptr b o) lo hi none H kk=aq (tsh P t) fun sh=>aq (bnd lo hi (shA sh).1 (shA sh).1) fun r=>kk (.slice b (if (shA sh).1=r.1 then o else o+r.1*(shA sh).2) (r.2 - r.1) (.ex ((shA sh).1 - r.1)),H,z0):=by
 unfold JY at ht
 split at ht
 ·rename_i e z w he
  rw [nt (by simp [eA])]
  simp only [eL,he,dP,aD,shA]
  rfl
 ·cases ht
end
theorem ND:isStr (some .str)=true:=rfl
theorem NH {l e z:Nat}:JY (some (.array l e z))=true:=rfl
attribute [go_sem] Qa ND NH RY
attribute [go_sem ↓] Rk K8 Ea K9 r5 MC Pv MD IQ F0 MB ME
attribute [go_sem] zI
attribute [go_sem] Int.ofNat_le

def clean (n:Nat) (e:Ef):Prop:=low n e.es=none∧low n e.ws=none
theorem oH {n:Nat} {a b:Option Nat} (ha:low n a=none) (hb:low n b=none):low n (eG a b)=none:=by
 cases a with
 | none=>cases b <;> exact hb
 | some a =>
  cases b with
  | none=>exact ha
  | some b =>
   simp only [low,eG] at *
   split at ha
   ·split at hb
    ·rw [if_pos (by omega)]
    ·cases hb
   ·cases ha
theorem iy {n:Nat}:clean n z0=True:=eq_true ⟨rfl,rfl⟩
theorem bq {n:Nat} {a b:Ef} (ha:clean n a) (hb:clean n b):clean n (a.and b):=⟨oH ha.1 hb.1,oH ha.2 hb.2⟩
theorem xq {n b:Nat} (h:n≤b):clean n ⟨none,some b⟩:=⟨rfl,by simp [low,h]⟩
theorem o9 {n b c:Nat} (h:n≤b) (h':n≤c):clean n ⟨some c,some b⟩:=⟨by simp [low,h'],by simp [low,h]⟩
theorem oG {n b:Nat}:(low n (some b)=none)=(n≤b):=by simp [low]
theorem JA {n:Nat} {a b:Option Nat}:(low n (eG a b)=none)=(low n a=none∧low n b=none):=by
 cases a with
 | none=>cases b <;> simp [eG,low]
 | some a =>
  cases b with
  | none=>simp [eG,low]
  | some b =>
   apply propext
   simp only [eG,oG]
   omega
theorem hU {n:Nat} {a b:Ef}:clean n (a.and b)=(clean n a∧clean n b):=by
 show (low n (eG a.es b.es)=none∧low n (eG a.ws b.ws)=none)=((_∧_)∧(_∧_))
 rw [JA,JA]
 apply propext; constructor
 ·rintro ⟨⟨p,q⟩,r,s⟩; exact ⟨⟨p,r⟩,q,s⟩
 ·rintro ⟨⟨p,r⟩,q,s⟩; exact ⟨⟨p,q⟩,r,s⟩
theorem lW {n b:Nat}:clean n ⟨none,some b⟩=(n≤b):=by
 show (low n none=none∧low n (some b)=none)=_
 rw [oG]; simp [low]
theorem j8 {n b c:Nat}:clean n ⟨some c,some b⟩=(n≤c∧n≤b):=by
 show (low n (some c)=none∧low n (some b)=none)=_
 rw [oG,oG]
theorem ja {n b:Nat} {c:Prop} [Decidable c] (h:n≤b):clean n ⟨if c then none else some b,some b⟩=True:=by
 split
 ·rw [lW]; exact eq_true h
 ·rw [j8]; exact eq_true ⟨h,h⟩
theorem zG {n k:Nat}:(n≤n+k)=True:=eq_true (Nat.le_add_right n k)
theorem Np {n:Nat}:(n≤n)=True:=eq_true (Nat.le_refl n)
attribute [go_sem] iy hU lW j8 ja zG Np

def tu (P:Program) (rs:List ResultVar) (n:Nat) (k:AV × Hp × Ef→Prop):Ex→St→Prop:=fun ex s =>
 (ex=.normal∨ex=.ret)∧match cU P s rs with
  | some vs=>k (leave n (pack vs) s.H s.ef)
  | none=>False
instance {rs:List ResultVar} {n:Nat} {k:AV × Hp × Ef→Prop}:Calm (tu P rs n k):=⟨fun _ h=>by rcases h.1 with h | h <;> cases h⟩
theorem KF {rs:List ResultVar} {n:Nat} {k:AV × Hp × Ef→Prop}:tu P rs n k .normal ⟨σ,H,e⟩=aq (cU P ⟨σ,H,e⟩ rs) fun vs=>k (leave n (pack vs) H e):=by
 apply propext
 constructor
 ·rintro ⟨_,h⟩; unfold aq; split at h <;> simp_all
 ·intro h; refine ⟨.inl rfl,?_⟩; unfold aq at h; split at h <;> simp_all
theorem xe {rs:List ResultVar} {n:Nat} {k:AV × Hp × Ef→Prop}:tu P rs n k .ret ⟨σ,H,e⟩=aq (cU P ⟨σ,H,e⟩ rs) fun vs=>k (leave n (pack vs) H e):=by
 apply propext
 constructor
 ·rintro ⟨_,h⟩; unfold aq; split at h <;> simp_all
 ·intro h; refine ⟨.inr rfl,?_⟩; unfold aq at h; split at h <;> simp_all
theorem MJ {t:Nat} {r:List ResultVar}:cU P ⟨σ,H,e⟩ (.tmp t::r)=(cU P ⟨σ,H,e⟩ r).map (fr σ t::·):=rfl
theorem I8 {a:Nat} {t:TypeId} {r:List ResultVar}:cU P ⟨σ,H,e⟩ (.cell a t::r)=(qZ (fr σ a)).bind fun p=>(ek P H t p.1 p.2).bind fun v=>(cU P ⟨σ,H,e⟩ r).map (v::·):=by
 simp only [cU]
 unfold fr
 cases (σ[a]?).getD bz <;> rfl
theorem xx {t:Nat} {r:List ResultVar} {f:List AV→Prop}:aq (cU P ⟨σ,H,e⟩ (.tmp t::r)) f=aq (cU P ⟨σ,H,e⟩ r) fun vs=>f (fr σ t::vs):=by
 rw [MJ,dP]
theorem uf {a:Nat} {t:TypeId} {r:List ResultVar} {f:List AV→Prop}:aq (cU P ⟨σ,H,e⟩ (.cell a t::r)) f=aq (qZ (fr σ a)) fun p=>aq (ek P H t p.1 p.2) fun v=>aq (cU P ⟨σ,H,e⟩ r) fun vs=>f (v::vs):=by
 rw [I8,dU]
 refine aS fun p=>?_
 rw [dU]
 refine aS fun v=>?_
 rw [dP]
theorem xy {f:List AV→Prop}:aq (cU P ⟨σ,H,e⟩ []) f=f []:=rfl
theorem Jl {v:AV}:pack [v]=v:=rfl
theorem Jm:pack []=.tuple []:=rfl
theorem Jk {v w:AV} {vs:List AV}:pack (v::w::vs)=.tuple (v::w::vs):=rfl
attribute [go_sem ↓] KF xe
attribute [go_sem ↓] xx uf xy
attribute [go_sem] Jl Jm Jk

theorem aY {v:AV} {l:Hp} (hv:flat v=true) (h:clean H.length e):leave H.length v (H++l) e=(v,H,z0):=by
 unfold leave
 rw [h.1,h.2,if_pos ⟨hv,rfl⟩,List.take_left]; rfl
theorem dL {v:AV} (hv:flat v=true) (h:clean H.length e):leave H.length v H e=(v,H,z0):=by
 unfold leave
 rw [h.1,h.2,if_pos ⟨hv,rfl⟩,List.take_length]; rfl
theorem gj {n:Nat} {v:AV} (hv:flat v=false) (h:clean n e):leave n v H e=(v,H,z0):=by
 unfold leave
 rw [h.1,h.2,if_neg (by simp [hv])]; rfl

attribute [go_sem] aY dL gj

theorem aa {f:FuncId} {fn:Func} {c:Code} {args:List AV} {kk:AV × Hp × Ef→Prop} {rs:List ResultVar} {n:Nat} (hf:P.funcs[f]?=some fn) (hb:fn.body=some c) (hr:fn.results.toList=rs) (hn:args.length+(fn.ntmps - args.length)=n)
  (h:∀ σ:List AV,σ.length=n→(∀ i:Nat,i < args.length→fr σ i=(args[i]?).getD bz)→go P (tu P rs H.length kk) [.code c] ⟨σ,H,z0⟩) (hd:iU c=none:=by kernel_rfl):ag P f args H kk:=by
 rw [tH hf hb hd]
 subst hr; subst hn
 refine h _ (by simp) (fun i hi=>?_)
 unfold fr
 rw [List.getElem?_append_left hi]

def goZ (P:Program) (ops:List Oper) (K:St→List Nat→Prop) (i:Nat) (l:List Oper) (s:St) (_:Ph (ops,K,l):=⟨⟩):Prop:=goD P ops K ((l.zipIdx i).map fun (o,i)=>(i,o)) s
def qK (P:Program) (ops:List Oper) (K:St→List Nat→Prop) (l:List Oper) (σ:List AV) (H:Hp) (e:Ef) (i:Nat) (dst:Option Tmp):AV × Hp × Ef→Prop :=
 fun r=>goZ P ops (fun s es=>K s (if quiet r H=true then es else tg i r.2.2::es)) (i+1) l ⟨put σ dst r.1,r.2.1,e.and r.2.2⟩
theorem EN {v:AV}:quiet (v,H,z0) H=true:=by simp [quiet,z0]
theorem O2 {K K':St→List Nat→Prop} {i:Nat} {s:St} (h:K=K'):goZ P ops K i l s=goZ P ops K' i l s:=by subst h; rfl
theorem OY {op:Op} {kk kk':AV × Hp × Ef→Prop} (h:kk=kk'):opK P σ H op kk=opK P σ H op kk':=by subst h; rfl
theorem M7 {K:St→List Nat→Prop} {dst:Option Tmp} {i:Nat} {v:AV} {σ:List AV}:qK P ops K l σ H e i dst (v,H,z0)=goZ P ops K (i+1) l ⟨put σ dst v,H,e⟩:=by
 show goZ P ops (fun s es=>K s (if quiet (v,H,z0) H=true then es else tg i z0::es)) (i+1) l ⟨put σ dst v,H,e.and z0⟩=_
 rw [Ef.fF]
 refine O2 ?_
 funext s es
 rw [EN]; rfl
theorem M6 {K:St→List Nat→Prop} {dst:Option Tmp} {i:Nat} {v:AV} {H':Hp} {e':Ef} (h:quiet (v,H',e') H=false):qK P ops K l σ H e i dst (v,H',e')=goZ P ops (fun s es=>K s (tg i e'::es)) (i+1) l ⟨put σ dst v,H',e.and e'⟩:=by
 refine O2 ?_
 funext s es
 rw [h]; rfl
theorem NQ {K:St→List Nat→Prop} {i:Nat}:goZ P ops K i [] ⟨σ,H,e⟩=K ⟨σ,H,e⟩ []:=wQ
@[reducible] def oC:Op→Bool
 | .alloc _=>false
 | _=>true
theorem Qg {K:St→List Nat→Prop} {i:Nat} {dst:Option Tmp} {op:Op} {ty:TypeId} {pos:String} {af:Array Edge} (hf:oC op=true) :
  goZ P ops K i (⟨dst,op,ty,pos,af,none⟩::l) ⟨σ,H,e⟩=opK P σ H op (qK P ops K l σ H e i dst):=by
 show goD P ops K ((i,_)::(l.zipIdx (i+1)).map fun (o,i)=>(i,o)) _=_
 rw [wP]
 have:bC ⟨dst,op,ty,pos,af,none⟩=false:=by cases op <;> first | rfl | cases hf
 refine OY ?_
 funext r
 unfold qM qK goZ
 rw [this]
 rfl
theorem NP {K:St→List Nat→Prop} {i:Nat} {dst:Option Tmp} {op:Op} {ty:TypeId} {pos:String} {af:Array Edge} {j:Nat} {w:Bool} :
  goZ P ops K i (⟨dst,op,ty,pos,af,some (j,w)⟩::l) ⟨σ,H,e⟩=cB (jY σ (nG ops j)) w (opK P σ H op (qK P ops K l σ H e i dst)) (goZ P ops K (i+1) l ⟨put σ dst bz,H,e⟩):=by
 have hfr:bC ⟨dst,op,ty,pos,af,some (j,w)⟩=false:=by cases op <;> simp [bC]
 show goD P ops K ((i,_)::(l.zipIdx (i+1)).map fun (o,i)=>(i,o)) _=cB _ _ _ (goD P ops K ((l.zipIdx (i+1)).map fun (o,i)=>(i,o)) _)
 cases hw:cp ops σ ⟨dst,op,ty,pos,af,some (j,w)⟩ with
 | true =>
  rw [tc hw]
  have e1:qM P ops K (List.map (fun x=>(x.snd,x.fst)) (l.zipIdx (i+1))) σ H e i ⟨dst,op,ty,pos,af,some (j,w)⟩=qK P ops K l σ H e i dst:=by
   funext r; unfold qM qK goZ; rw [hfr]; rfl
  unfold cp at hw
  simp only at hw
  unfold jY nG
  split at hw
  ·rename_i d hd
   rw [hd]
   split at hw
   ·rename_i b hb
    unfold fr; simp only [hb,Option.getD_some,cB]; rw [if_pos hw]; show opK _ _ _ _ _=_; rw [← e1]
   ·cases hw
  ·cases hw
 | false =>
  rw [AL hw]
  unfold cp at hw
  simp only at hw
  unfold jY nG
  split at hw
  ·rename_i d hd
   rw [hd]
   split at hw
   ·rename_i b hb
    unfold fr; simp only [hb,Option.getD_some,cB]; rw [if_neg (by rw [hw]; exact Bool.false_ne_true)]
   ·rename_i hne
    simp only
    unfold fr cB
    split
    ·rename_i b hb
     cases hd2:σ[d]? with
     | none=>rw [hd2] at hb; cases hb
     | some v=>rw [hd2] at hb; simp only [Option.getD_some] at hb; rw [hb] at hd2; exact absurd hd2 (hne b)
    ·rfl
  ·rename_i hd
   rw [hd]; rfl
theorem ER {l:List Oper} (h:l.all (fun o=>!bC o)=true):order l=(l.zipIdx 0).map fun (o,i)=>(i,o):=by
 have hz:∀ p ∈ num l,bC p.2=false:=by
  intro p hp
  unfold num at hp
  simp only [List.mem_map] at hp
  obtain ⟨q,hq,rfl⟩:=hp
  have:=List.all_eq_true.1 h q.1 (List.fst_mem_of_mem_zipIdx hq)
  simpa using this
 unfold order
 have h1:(num l).filter (fun p=>bC p.2)=[]:=List.filter_eq_nil_iff.2 fun p hp=>by rw [hz p hp]; exact Bool.false_ne_true
 have h2:(num l).filter (fun p=>!bC p.2)=num l:=List.filter_eq_self.2 fun p hp=>by rw [hz p hp]; rfl
 rw [h1,h2]; rfl
theorem td {K K':St→List Nat→Prop} {l:List (Nat × Oper)} {s:St} (hK:∀ s es,K s es→K' s es) (h:goD P ops K l s):goD P ops K' l s:=by
 unfold goD at h ⊢
 obtain ⟨n,s',es,h1,h2⟩:=h
 exact ⟨n,s',es,h1,hK _ _ h2⟩
theorem ay {id:Nat} {ops:Array Oper} (hm:P.follows .mixedOrders=true) (hs:(nr ops.toList && ops.toList.all (fun o=>!bC o))=true)
  (h:goZ P ops.toList (fun s es=>bP P ops.toList es=true∧go P Q k s) 0 ops.toList ⟨σ,H,e⟩):go P Q (.code (.region id ops true)::k) ⟨σ,H,e⟩:=by
 rw [Bool.and_eq_true] at hs
 rw [wO hm hs.1,ER hs.2]
 exact td (fun s es h=>⟨.inl h.1,h.2⟩) h
def stB (ops : List Oper) (x : (Nat × Nat) × (Nat × Nat)) : Bool :=
  (match ops[x.1.1]?, ops[x.1.2]? with
   | some oi, some oj => (match oi.op, oj.op with
     | .store _ (.tmp c) _, .load _ (.tmp a) => c == x.2.1 && a == x.2.2
     | _, _ => false)
   | _, _ => false) && (num ops).all fun (k, o) => (o.dst != some x.2.1 || decide (k < x.1.1)) && (o.dst != some x.2.2 || decide (k < x.1.2))
def apF (σ:List AV) (x:(Nat × Nat) × (Nat × Nat)):Prop:=∃ b o b' o',fr σ x.2.1=.ptr b o∧fr σ x.2.2=.ptr b' o'∧b≠b'
theorem RA {ops:List Oper} {σ:List AV} {x:(Nat × Nat) × (Nat × Nat)} (hs:stB ops x=true) (h:apF σ x):apS ops σ x.1:=by
 obtain ⟨⟨i,j⟩,c,a⟩:=x
 obtain ⟨b,o,b',o',h1,h2,h3⟩:=h
 unfold stB at hs
 rw [Bool.and_eq_true] at hs
 obtain ⟨hs,hd⟩:=hs
 have hfr:∀ {t b o},fr σ t=.ptr b o→σ[t]?=some (.ptr b o):=by
  intro t b o h
  unfold fr at h
  cases hx:σ[t]? with
  | none=>rw [hx] at h; cases h
  | some z=>rw [hx] at h; rw [← h]; rfl
 have hlate:∀ k x,ops[k]?=some x→(x.dst=some c→k < i)∧(x.dst=some a→k < j):=by
  intro k x hk
  have hm:(k,x) ∈ num ops:=by
   simp only [num,List.mem_map,Prod.mk.injEq,Prod.exists]
   exact ⟨x,k,by rw [List.mem_zipIdx_iff_getElem?]; exact hk,rfl,rfl⟩
  have:=List.all_eq_true.1 hd _ hm
  simp only [Bool.and_eq_true,Bool.or_eq_true,bne_iff_ne,ne_eq,decide_eq_true_eq] at this
  exact ⟨fun h=>this.1.resolve_left (fun hn=>hn h),fun h=>this.2.resolve_left (fun hn=>hn h)⟩
 split at hs
 ·rename_i oi oj hi hj
  split at hs
  ·rename_i t c' v t' a' ho1 ho2
   simp only [Bool.and_eq_true,beq_iff_eq] at hs
   obtain ⟨rfl,rfl⟩:=hs
   exact ⟨oi,oj,_,_,b,o,b',o',t,t',v,hi,hj,ho1,ho2,hfr h1,hfr h2,h3,fun k x hk=>(hlate k x hk).1,fun k x hk=>(hlate k x hk).2⟩
  ·cases hs
 ·cases hs
theorem u0 {id:Nat} {ops:Array Oper} (bad:List ((Nat × Nat) × (Nat × Nat))) (hm:P.follows .mixedOrders=true) (hs:(nr ops.toList && ops.toList.all (fun o=>!bC o) && bad.all (stB ops.toList))=true)
  (h:goZ P ops.toList (fun s es=>KJ ops.toList es (bad.map (·.1))=true∧(∀ x ∈ bad,apF s.σ x)∧go P Q k s) 0 ops.toList ⟨σ,H,e⟩):go P Q (.code (.region id ops true)::k) ⟨σ,H,e⟩:=by
 rw [Bool.and_eq_true,Bool.and_eq_true] at hs
 rw [wO hm hs.1.1,ER hs.1.2]
 refine td (fun s es h=>⟨.inr ⟨_,h.1,fun p hp=>?_⟩,h.2.2⟩) h
 obtain ⟨x,hx,rfl⟩:=List.mem_map.1 hp
 exact RA (List.all_eq_true.1 hs.2 x hx) (h.2.1 x hx)
theorem TO {i:Nat}:tg i z0=2*i+1:=rfl
theorem TP {i x:Nat} {o:Option Nat}:tg i ⟨o,some x⟩=2*i:=by unfold tg; simp
theorem uz (i:Nat) (e:Ef):tg i e=2*i∨tg i e=2*i+1:=by unfold tg; split <;> simp
attribute [go_sem] TO TP
theorem G7 {ops:List Oper}:bP P ops []=true:=rfl
theorem Bh {α:Type} {f:FuncId} {args:List AV} (g:α→AV × Hp × Ef) (h:ag P f args H (fun q=>∃ b,q=g b)):∃ b,∀ k,ag P f args H k=k (g b):=by
 obtain ⟨n,r,hn,b,rfl⟩:=h
 exact ⟨b,fun k=>propext (pg hn)⟩
theorem wrap_u8 {n:Int} (h:0≤n∧n < 256):IntKind.u8.wrap n=n:=by
 simp only [IntKind.wrap,IntKind.bits,IntKind.signed,Bool.false_and,Bool.true_and,Bool.false_eq_true,if_false,decide_eq_true_eq,Nat.reduceSub,Int.reducePow,ge_iff_le]; first | omega | (split <;> omega)
theorem wrap_u16 {n:Int} (h:0≤n∧n < 65536):IntKind.u16.wrap n=n:=by
 simp only [IntKind.wrap,IntKind.bits,IntKind.signed,Bool.false_and,Bool.true_and,Bool.false_eq_true,if_false,decide_eq_true_eq,Nat.reduceSub,Int.reducePow,ge_iff_le]; first | omega | (split <;> omega)
theorem wrap_u32 {n:Int} (h:0≤n∧n < 4294967296):IntKind.u32.wrap n=n:=by
 simp only [IntKind.wrap,IntKind.bits,IntKind.signed,Bool.false_and,Bool.true_and,Bool.false_eq_true,if_false,decide_eq_true_eq,Nat.reduceSub,Int.reducePow,ge_iff_le]; first | omega | (split <;> omega)
theorem wrap_u64 {n:Int} (h:0≤n∧n < 18446744073709551616):IntKind.u64.wrap n=n:=by
 simp only [IntKind.wrap,IntKind.bits,IntKind.signed,Bool.false_and,Bool.true_and,Bool.false_eq_true,if_false,decide_eq_true_eq,Nat.reduceSub,Int.reducePow,ge_iff_le]; first | omega | (split <;> omega)
theorem wrap_i64 {n:Int} (h:-9223372036854775808≤n∧n < 9223372036854775808):IntKind.i64.wrap n=n:=by
 simp only [IntKind.wrap,IntKind.bits,IntKind.signed,Bool.false_and,Bool.true_and,Bool.false_eq_true,if_false,decide_eq_true_eq,Nat.reduceSub,Int.reducePow,ge_iff_le]; first | omega | (split <;> omega)
theorem aT {n:Nat} (h:n < 9223372036854775807):IntKind.i64.wrap ((n:Int)+1)=((n+1:Nat):Int):=by
 rw [wrap_i64 (by omega)]; rfl
attribute [go_sem ↓] M7 M6 NQ Qg NP
attribute [go_sem] G7 oC

def asS:AV→Option (List UInt8)
 | .str s=>some s
 | _=>none
theorem TE {s:List UInt8}:asS (.str s)=some s:=rfl
theorem Nu {kk:AV × Hp × Ef→Prop} {t:TypeId} {x:Operand} (ht:isStr (tsh P t)=true):opK P σ H (.range t x) kk=aq (aG P σ x) fun v=>aq (asS v) fun s=>kk (.ptr H.length 0,H++[.iter s 0],z0):=by
 have he:tsh P t=some .str:=by
  unfold isStr at ht
  split at ht
  ·assumption
  ·cases ht
 show aF _ _=_
 simp only [bx,he]
 rw [aU]; refine aS fun c=>?_
 cases c <;> rfl
def itC:br→Option (List UInt8 × Nat)
 | .iter s p=>some (s,p)
 | _=>none
theorem SE {s:List UInt8} {p:Nat}:itC (.iter s p)=some (s,p):=rfl
def Lx:AV→Option Nat
 | .ptr b 0=>some b
 | _=>none
theorem Lw {b:Nat}:Lx (.ptr b 0)=some b:=rfl
theorem P2 {kk:AV × Hp × Ef→Prop} {it:Operand}:opK P σ H (.next it true) kk=aq (aG P σ it) fun v=>aq (Lx v) fun b=>aq (H[b]?) fun x=>aq (itC x) fun q=>kk ((aK q.1 q.2).1,H.set b (.iter q.1 (aK q.1 q.2).2),⟨none,some b⟩):=by
 show aF _ _=_
 simp only [bx]
 rw [aU]; refine aS fun c=>?_
 cases c <;> try rfl
 rename_i b o
 cases o with
 | succ o=>rfl
 | zero =>
  show aF _ _=aq (some b) _
  rw [aD]
  cases hx:H[b]? with
  | none=>simp only [hx]; rfl
  | some x=>simp only [hx]; cases x <;> rfl
def itN (s:List UInt8) (p:Nat):AV × Nat :=
 match s[p]? with
 | some c=>(.tuple [.bool true,.int .i64 (p:Nat),.int .i32 c.toNat],p+1)
 | none=>(.tuple [.bool false],p)
theorem aE {s:List UInt8} {p:Nat} (h:s.all (fun c=>decide (c.toNat < 128))=true):aK s p=itN s p:=by
 unfold aK itN
 by_cases hp:p < s.length
 ·rw [if_pos hp,List.getElem?_eq_getElem hp]
  have hc:s[p].toNat < 128:=by
   have:=List.all_eq_true.1 h s[p] (List.getElem_mem hp)
   simpa using this
  have hs:(⟨s.toArray⟩:ByteArray).size=s.length:=by simp [ByteArray.size]
  have hg:((⟨s.toArray⟩:ByteArray)[p]'(by rw [hs]; exact hp))=s[p]:=by
   show (s.toArray)[p]=s[p]
   simp
  have:=decode_ascii ⟨s.toArray⟩ p (by rw [hs]; exact hp) (by rw [hg]; exact hc)
  rw [hg] at this
  simp only [this]
 ·rw [if_neg hp,List.getElem?_eq_none (by omega)]
theorem lK {s:List UInt8} {p:Nat} {c:UInt8} (h:s[p]?=some c):itN s p=(.tuple [.bool true,.int .i64 (p:Nat),.int .i32 c.toNat],p+1):=by unfold itN; rw [h]
theorem SD {s:List UInt8} {p:Nat} (h:s[p]?=none):itN s p=(.tuple [.bool false],p):=by unfold itN; rw [h]
attribute [go_sem ↓] Nu P2
attribute [go_sem] TE SE Lw

theorem OJ {g:FuncId} {a b:List AV}:tL (.func (.func g) a b)=some (g,a,b):=rfl
theorem OM {τ:List AV} {ps:List Tmp} {az bd:Code}:tM (some (.loop τ ps az bd .ready))=some .normal:=rfl
theorem ON {τ:List AV} {ps:List Tmp} {az bd:Code} {i:Nat}:tM (some (.loop τ ps az bd (.done (.exit i))))=some (.exit i):=rfl
theorem Lz {τ:List AV} {ps:List Tmp} {az bd:Code}:tM (some (.loop τ ps az bd (.done .ret)))=some .ret:=rfl
theorem HA {τ:List AV} {ps:List Tmp} {az bd:Code}:rF (some (.loop τ ps az bd .ready))=some ⟨τ,ps,az,bd⟩:=rfl
theorem LA {τ:List AV} {ps:List Tmp} {az bd:Code}:lZ (some (.loop τ ps az bd .busy))=some ⟨τ,ps,az,bd⟩:=rfl
def wh (P:Program) (Q:Ex→St→Prop) (k:List It) (x:Option (FuncId × List AV × List AV)) (ps:List Tmp) (az bd:Code) (σ:List AV) (H:Hp) (e:Ef) (_:Ph (Q,k,az,bd):=⟨⟩):Prop :=
 match x with
 | some x=>aj P x.1=true∧ag P x.1 (x.2.1++[.yld H.length]++x.2.2) (H++[.loop σ ps az bd .ready]) (F5 P Q k σ H.length e)
 | none=>False
theorem GS {f:Operand} {ps:Array Tmp} {az bd:Code}:go P Q (.code (.rangeFunc f ps az bd)::k) ⟨σ,H,e⟩=aq (aG P σ f) fun v=>wh P Q k (tL v) ps.toList az bd σ H e:=by
 cases hf:aG P σ f with
 | none =>
  refine propext ⟨?_,fun h=>h.elim⟩
  rintro ⟨n,ex,s',hc,_⟩
  simp only [aL,gW,hf,Option.bind_none] at hc
  cases hc
 | some v =>
  show _=wh P Q k (tL v) ps.toList az bd σ H e
  cases hv:tL v with
  | none =>
   refine propext ⟨?_,fun h=>h.elim⟩
   rintro ⟨n,ex,s',hc,_⟩
   simp only [aL,gW,hf,hv,Option.bind_some,Option.bind_none] at hc
   cases hc
  | some x =>
   show _=(aj P x.1=true∧_)
   by_cases hb:aj P x.1=true
   ·rw [J4 hf hv hb]
    simp [hb]
   ·refine propext ⟨?_,fun h=>absurd h.1 hb⟩
    rintro ⟨n,ex,s',hc,_⟩
    simp only [aL,gW,hf,hv,Option.bind_some,if_neg hb] at hc
    cases hc
theorem Jg {g:FuncId} {a b:List AV} {ps:List Tmp} {az bd:Code} (hb:aj P g=true):wh P Q k (some (g,a,b)) ps az bd σ H e=ag P g (a++[.yld H.length]++b) (H++[.loop σ ps az bd .ready]) (F5 P Q k σ H.length e):=by
 show (_∧_)=_
 simp [hb]
def KG (P:Program) (Q:Ex→St→Prop) (k:List It) (x:Option Ex) (s:St) (_:Ph (Q,k):=⟨⟩):Prop :=
 match x with
 | some ex=>gF P Q k ex s
 | none=>False
theorem MI {τ:List AV} {n:Nat} {v:AV} {H':Hp} {e':Ef}:F5 P Q k τ n e (v,H',e')=KG P Q k (tM (H'[n]?)) ⟨τ,H'.set n .dead,e.and (e'.and ⟨none,some n⟩)⟩:=rfl
theorem QM:KG P Q k (some .normal) ⟨σ,H,e⟩=go P Q k ⟨σ,H,e⟩:=rfl
theorem QN {i:Nat}:KG P Q k (some (.exit i)) ⟨σ,H,e⟩=aI P Q i k ⟨σ,H,e⟩:=rfl
theorem QL:KG P Q k (some .ret) ⟨σ,H,e⟩=Q .ret ⟨σ,H,e⟩:=gY k _
theorem Sb {b n:Nat} {bd:Code} {kk:AV × Hp × Ef→Prop}:rdQ P b n bd kk .normal ⟨σ,H,e⟩=aq (rF (H[b]?)) fun L=>go P (reQ b n kk) [.code bd] ⟨σ,H.set b (.loop L.σ L.ps L.az L.bd .busy),e.and ⟨none,some b⟩⟩:=by
 unfold rdQ
 simp only [true_and]
 cases rF (H[b]?) <;> rfl
theorem R9 {b n:Nat} {kk:AV × Hp × Ef→Prop}:reQ b n kk .normal ⟨σ,H,e⟩=aq (lZ (H[b]?)) fun L=>kk (leave n (.bool true) (H.set b (.loop L.σ L.ps L.az L.bd .ready)) (e.and ⟨none,some b⟩)):=by
 unfold reQ
 simp only
 cases lZ (H[b]?) <;> rfl
theorem Sa {b n i:Nat} {kk:AV × Hp × Ef→Prop}:reQ b n kk (.exit i) ⟨σ,H,e⟩=aq (lZ (H[b]?)) fun L=>kk (leave n (.bool false) (H.set b (.loop L.σ L.ps L.az L.bd (.done (.exit i)))) (e.and ⟨none,some b⟩)):=by
 unfold reQ
 simp only
 cases lZ (H[b]?) <;> rfl
theorem R8 {b n:Nat} {kk:AV × Hp × Ef→Prop}:reQ b n kk .ret ⟨σ,H,e⟩=aq (lZ (H[b]?)) fun L=>kk (leave n (.bool false) (H.set b (.loop L.σ L.ps L.az L.bd (.done .ret))) (e.and ⟨none,some b⟩)):=by
 unfold reQ
 simp only
 cases lZ (H[b]?) <;> rfl
theorem zf {p:Tmp} {ps:List Tmp} {v:AV} {vs:List AV}:ny σ (p::ps) (v::vs)=ny (σ.set p v) ps vs:=rfl
attribute [go_sem ↓] GS Jg MI QM QN QL Sb R9 Sa R8
attribute [go_sem] OJ OM ON Lz HA LA zf

def kz (P:Program) (Q:Ex→St→Prop) (k:List It) (I:Nat→St→Prop) (n:Nat):Ex→St→Prop
 | .normal,s=>∃ m,m < n∧I m s
 | .exit i,s=>aI P Q i k s
 | ex,s=>gF P Q k ex s
instance {I:Nat→St→Prop} {n:Nat} [hc:Calm Q]:Calm (kz P Q k I n):=⟨fun s h=>hc.no s ((fN (P:=P) (Q:=Q) k s) ▸ h)⟩
theorem I5 {I:Nat→St→Prop} {n:Nat}:kz P Q k I n .normal ⟨σ,H,e⟩=∃ m,m < n∧I m ⟨σ,H,e⟩:=rfl
theorem I6 {I:Nat→St→Prop} {n i:Nat}:kz P Q k I n (.exit i) ⟨σ,H,e⟩=aI P Q i k ⟨σ,H,e⟩:=rfl
theorem I3 {I:Nat→St→Prop} {n:Nat}:kz P Q k I n .ret ⟨σ,H,e⟩=Q .ret ⟨σ,H,e⟩:=gY k _
attribute [go_sem ↓] I5 I6 I3
theorem aW {c:Code} (I:Nat→St→Prop) (n:Nat) {s:St} (h0:I n s) (round:∀ n s,I n s→go P (kz P Q k I n) [.code c] s):go P Q (.code (.loop c)::k) s:=by
 refine J2 I n h0 (fun n s hs=>?_)
 have:=round n s hs
 refine lQ (Q:=kz P Q k I n) this (fun ex s hq=>?_)
 cases ex <;> exact hq
end
section
variable {P:Program} {Q:Ex→St→Prop} {k:List It} {σ:List AV} {H:Hp} {e:Ef} {ops:List Oper} {l:List Oper} {kk:AV × Hp × Ef→Prop}

theorem TH {g:Nat} (h:decide (g < P.globals.size)=true):aG P σ (.global g)=some (.ptr g 0):=by
 simp only [aG]; rw [if_pos (by simpa using h)]
attribute [go_sem] TH

theorem JL {ts:Array TypeId} {x:Operand}:opK P σ H (.call ⟨.builtin .unsafeSliceData,⟨[x]⟩,ts⟩) kk=aq (aG P σ x) fun v=>aq (fC P v H) fun v=>kk (v,H,z0):=by
 show aF _ _=_
 simp only [bx,dB,bQ]
 cases aG P σ x with
 | none=>rfl
 | some v=>exact cE
theorem JK {pt it:TypeId} {x y:Operand}:opK P σ H (.call ⟨.builtin .unsafeString,⟨[x,y]⟩,⟨[pt,it]⟩⟩) kk=aq (aG P σ x) fun v=>aq (aG P σ y) fun w=>aF (gC P pt v w H) kk:=by
 show aF _ _=_
 simp only [bx,dB,bQ]
 cases aG P σ x with
 | none=>rfl
 | some v =>
  cases aG P σ y with
  | none=>rfl
  | some w=>rfl
theorem Sz {t:TypeId} {ts:List TypeId} {x:Operand}:opK P σ H (.call ⟨.builtin .cap,⟨[x]⟩,⟨t::ts⟩⟩) kk=aq (aG P σ x) fun v=>aq (qW P t v) fun v=>kk (v,H,z0):=by
 show aF _ _=_
 simp only [bx,dB,bQ]
 cases aG P σ x with
 | none=>rfl
 | some v=>exact cE
theorem Sw {ts:Array TypeId} {x y:Operand}:opK P σ H (.call ⟨.builtin .min,⟨[x,y]⟩,ts⟩) kk=aq (aG P σ x) fun v=>aq (aG P σ y) fun w=>aq (qh v w) fun v=>kk (v,H,z0):=by
 show aF _ _=_
 simp only [bx,dB,bQ]
 cases aG P σ x with
 | none=>rfl
 | some v =>
  cases aG P σ y with
  | none=>rfl
  | some w=>exact cE
theorem Sx {ts:Array TypeId} {x y:Operand}:opK P σ H (.call ⟨.builtin .max,⟨[x,y]⟩,ts⟩) kk=aq (aG P σ x) fun v=>aq (aG P σ y) fun w=>aq (wZ v w) fun v=>kk (v,H,z0):=by
 show aF _ _=_
 simp only [bx,dB,bQ]
 cases aG P σ x with
 | none=>rfl
 | some v =>
  cases aG P σ y with
  | none=>rfl
  | some w=>exact cE
attribute [go_sem ↓] JL JK Sz Sw Sx

theorem SK {kd:IntKind} {a b:Int} (h:(b == 0)=false):eI .quo kd a b=some (.int kd (kd.wrap (a.tdiv b))):=by
 have:¬ b=0:=by simpa using h
 simp [eI,this]
theorem SJ {kd:IntKind} {a b:Int} (h:(b == 0)=false):eI .rem kd a b=some (.int kd (a.tmod b)):=by
 have:¬ b=0:=by simpa using h
 simp [eI,this]
theorem RN {kd:IntKind} {n:Int}:GZ .neg (.int kd n)=some (.int kd (kd.wrap (0 - n))):=rfl
attribute [go_sem] SK SJ RN

theorem Lo {t:TypeId} {s:List UInt8} {kd:IntKind} {i:Int} {f:AV→Prop} (ht:(match tsh P t with | some .str=>true | _=>false)=true):aq (mI P t (.str s) (.int kd i)) f=(0≤i∧aq (s[i.toNat]?) fun b=>f (.int .u8 b.toNat)):=by
 split at ht
 ·rename_i he
  simp only [mI,he]
  rw [eD,dP]
 ·cases ht
attribute [go_sem ↓] Lo

theorem Ub {T l:Hp} {j:Nat} {v:br} (h:decide (j < T.length)=true):(T++l).set j v=T.set j v++l:=by
 rw [List.set_append_left _ _ (by simpa using h)]
attribute [go_sem] Ub

def u8s (s:List UInt8):List AV:=s.map fun b=>.int .u8 b.toNat
theorem bB {s:List UInt8}:(u8s s).length=s.length:=by simp [u8s]
theorem kg {s t:List UInt8}:u8s (s++t)=u8s s++u8s t:=by simp [u8s]
theorem jd:∀ {s:List UInt8},(u8s s).all cM=true
 | []=>rfl
 | b::s=>by show (cM _ && (u8s s).all cM)=true; rw [jd]; rfl
theorem rJ:∀ {s:List UInt8},bM (u8s s)=true
 | []=>by simp only [u8s,List.map_nil,bM]
 | b::s=>by
  show bM (_::u8s s)=true
  simp only [bM,flat,rJ,Bool.and_self]
theorem qw:∀ (s:List UInt8),iS (u8s s)=some s
 | []=>rfl
 | b::s=>by
  show iS (.int .u8 b.toNat::u8s s)=_
  unfold iS
  have:=b.toNat_lt
  rw [if_pos ⟨by omega,by omega⟩,qw s]
  simp
theorem lU:∀ (s:List UInt8),bn.bytesOf (u8s s)=some s
 | []=>rfl
 | b::s=>by
  show bn.bytesOf (.int .u8 b.toNat::u8s s)=_
  unfold bn.bytesOf
  rw [lU s]
  simp
theorem KK {s:List UInt8} {n:Nat}:(u8s s).drop n=u8s (s.drop n):=by simp [u8s,List.map_drop]
attribute [go_sem] bB jd rJ

def fA:List Oper→Nat→List (Nat × Oper)
 | [],_=>[]
 | o::l,i=>if bC o=true then (i,o)::fA l (i+1) else fA l (i+1)
def others:List Oper→Nat→List (Nat × Oper)
 | [],_=>[]
 | o::l,i=>if bC o=true then others l (i+1) else (i,o)::others l (i+1)
theorem AN:∀ (l:List Oper) (i:Nat),((l.zipIdx i).map fun (o,i)=>(i,o)).filter (fun p=>bC p.2)=fA l i
 | [],i=>rfl
 | o::l,i=>by
  simp only [List.zipIdx_cons,List.map_cons,List.filter_cons,fA,AN l (i+1)]
theorem uM:∀ (l:List Oper) (i:Nat),((l.zipIdx i).map fun (o,i)=>(i,o)).filter (fun p=>!bC p.2)=others l i
 | [],i=>rfl
 | o::l,i=>by
  simp only [List.zipIdx_cons,List.map_cons,List.filter_cons,others,uM l (i+1)]
  cases bC o <;> rfl
theorem MZ {l:List Oper}:order l=fA l 0++others l 0:=by
 unfold order num
 rw [AN,uM]
def goF (P:Program) (ops:List Oper) (K:St→List Nat→Prop) (i:Nat) (l:List Oper) (s:St) (_:Ph (ops,K,l):=⟨⟩):Prop:=goD P ops K (fA l i++others ops 0) s
def goN (P:Program) (ops:List Oper) (K:St→List Nat→Prop) (i:Nat) (l:List Oper) (s:St) (_:Ph (ops,K,l):=⟨⟩):Prop:=goD P ops K (others l i) s
def qL (P:Program) (ops:List Oper) (K:St→List Nat→Prop) (l:List Oper) (σ:List AV) (H:Hp) (e:Ef) (i:Nat) (dst:Option Tmp):AV × Hp × Ef→Prop :=
 fun r=>goN P ops (fun s es=>K s (if quiet r H=true then es else tg i r.2.2::es)) (i+1) l ⟨put σ dst r.1,r.2.1,e.and r.2.2⟩
theorem O3 {K K':St→List Nat→Prop} {i:Nat} {s:St} (h:K=K'):goN P ops K i l s=goN P ops K' i l s:=by subst h; rfl
theorem M9 {K:St→List Nat→Prop} {dst:Option Tmp} {i:Nat} {v:AV} {σ:List AV}:qL P ops K l σ H e i dst (v,H,z0)=goN P ops K (i+1) l ⟨put σ dst v,H,e⟩:=by
 show goN P ops (fun s es=>K s (if quiet (v,H,z0) H=true then es else tg i z0::es)) (i+1) l ⟨put σ dst v,H,e.and z0⟩=_
 rw [Ef.fF]
 refine O3 ?_
 funext s es
 rw [EN]; rfl
theorem M8 {K:St→List Nat→Prop} {dst:Option Tmp} {i:Nat} {v:AV} {H':Hp} {e':Ef} (h:quiet (v,H',e') H=false):qL P ops K l σ H e i dst (v,H',e')=goN P ops (fun s es=>K s (tg i e'::es)) (i+1) l ⟨put σ dst v,H',e.and e'⟩:=by
 refine O3 ?_
 funext s es
 rw [h]; rfl
theorem MP {v:AV} {H':Hp} {x:Option Nat} {b:Nat}:quiet (v,H',⟨x,some b⟩) H=false:=by simp [quiet]
theorem NU {K:St→List Nat→Prop} {i:Nat}:goN P ops K i [] ⟨σ,H,e⟩=K ⟨σ,H,e⟩ []:=wQ
theorem NW {K:St→List Nat→Prop} {i:Nat}:goF P ops K i [] ⟨σ,H,e⟩=goN P ops K 0 ops ⟨σ,H,e⟩:=rfl
theorem DK {dst:Option Tmp} {t ty:TypeId} {pos:String}:bC ⟨dst,.alloc t,ty,pos,⟨[]⟩,none⟩=true:=rfl
theorem Ka {K:St→List Nat→Prop} {i:Nat} {dst:Option Tmp} {t ty:TypeId} {pos:String} :
  goF P ops K i (⟨dst,.alloc t,ty,pos,⟨[]⟩,none⟩::l) ⟨σ,H,e⟩=aq (cD P t) fun z=>goF P ops K (i+1) l ⟨put σ dst (.ptr H.length 0),H++[.cells z t .rw],e⟩:=by
 show goD P ops K (fA (_::l) i++others ops 0) _=_
 have:fA (⟨dst,.alloc t,ty,pos,⟨[]⟩,none⟩::l) i=(i,⟨dst,.alloc t,ty,pos,⟨[]⟩,none⟩)::fA l (i+1):=by simp only [fA,DK,if_true]
 rw [this,List.cons_append,wP,E6]
 refine aS fun z=>?_
 show goD P ops (fun s es=>K s (if bC ⟨dst,.alloc t,ty,pos,⟨[]⟩,none⟩ || quiet _ H then es else tg i _::es)) _ _=_
 rw [DK,Ef.fF]
 rfl
theorem J9 {K:St→List Nat→Prop} {i:Nat} {o:Oper} (h:bC o=false):goF P ops K i (o::l) ⟨σ,H,e⟩=goF P ops K (i+1) l ⟨σ,H,e⟩:=by
 show goD P ops K (fA (o::l) i++others ops 0) _=_
 have:fA (o::l) i=fA l (i+1):=by simp only [fA,h,Bool.false_eq_true,if_false]
 rw [this]; rfl
theorem Kh {o:Oper} (h:oC o.op=true):bC o=false:=by
 obtain ⟨d,op,ty,pos,af,g⟩:=o
 cases op <;> first | rfl | cases h
theorem NV {K:St→List Nat→Prop} {i:Nat} {dst:Option Tmp} {op:Op} {ty:TypeId} {pos:String} {af:Array Edge} {g:Option (Nat × Bool)} (h:oC op=true):goF P ops K i (⟨dst,op,ty,pos,af,g⟩::l) ⟨σ,H,e⟩=goF P ops K (i+1) l ⟨σ,H,e⟩ :=
 J9 (Kh h)
theorem J8 {K:St→List Nat→Prop} {i:Nat} {dst:Option Tmp} {t ty:TypeId} {pos:String} :
  goN P ops K i (⟨dst,.alloc t,ty,pos,⟨[]⟩,none⟩::l) ⟨σ,H,e⟩=goN P ops K (i+1) l ⟨σ,H,e⟩:=by
 show goD P ops K (others (_::l) i) _=_
 have:others (⟨dst,.alloc t,ty,pos,⟨[]⟩,none⟩::l) i=others l (i+1):=by simp only [others,DK,if_true]
 rw [this]; rfl
theorem Qi {K:St→List Nat→Prop} {i:Nat} {dst:Option Tmp} {op:Op} {ty:TypeId} {pos:String} {af:Array Edge} (hf:oC op=true) :
  goN P ops K i (⟨dst,op,ty,pos,af,none⟩::l) ⟨σ,H,e⟩=opK P σ H op (qL P ops K l σ H e i dst):=by
 have hfr:bC ⟨dst,op,ty,pos,af,none⟩=false:=Kh hf
 show goD P ops K (others (_::l) i) _=_
 have:others (⟨dst,op,ty,pos,af,none⟩::l) i=(i,⟨dst,op,ty,pos,af,none⟩)::others l (i+1):=by simp only [others,hfr,Bool.false_eq_true,if_false]
 rw [this,wP]
 refine OY ?_
 funext r
 unfold qM qL goN
 rw [hfr]
 rfl
theorem NT {K:St→List Nat→Prop} {i:Nat} {dst:Option Tmp} {op:Op} {ty:TypeId} {pos:String} {af:Array Edge} {j:Nat} {w:Bool} :
  goN P ops K i (⟨dst,op,ty,pos,af,some (j,w)⟩::l) ⟨σ,H,e⟩=cB (jY σ (nG ops j)) w (opK P σ H op (qL P ops K l σ H e i dst)) (goN P ops K (i+1) l ⟨put σ dst bz,H,e⟩):=by
 have hfr:bC ⟨dst,op,ty,pos,af,some (j,w)⟩=false:=by cases op <;> simp [bC]
 have e0:others (⟨dst,op,ty,pos,af,some (j,w)⟩::l) i=(i,⟨dst,op,ty,pos,af,some (j,w)⟩)::others l (i+1):=by simp only [others,hfr,Bool.false_eq_true,if_false]
 show goD P ops K (others (_::l) i) _=cB _ _ _ (goD P ops K (others l (i+1)) _)
 rw [e0]
 cases hw:cp ops σ ⟨dst,op,ty,pos,af,some (j,w)⟩ with
 | true =>
  rw [tc hw]
  have e1:qM P ops K (others l (i+1)) σ H e i ⟨dst,op,ty,pos,af,some (j,w)⟩=qL P ops K l σ H e i dst:=by
   funext r; unfold qM qL goN; rw [hfr]; rfl
  rw [e1]
  unfold cp at hw
  simp only at hw
  unfold jY nG
  split at hw
  ·rename_i d hd
   rw [hd]
   split at hw
   ·rename_i b hb
    unfold fr; simp only [hb,Option.getD_some]; unfold cB; simp only; rw [if_pos hw]
   ·cases hw
  ·cases hw
 | false =>
  rw [AL hw]
  unfold cp at hw
  simp only at hw
  unfold jY nG
  split at hw
  ·rename_i d hd
   rw [hd]
   split at hw
   ·rename_i b hb
    unfold fr; simp only [hb,Option.getD_some]; unfold cB; simp only; rw [if_neg (by rw [hw]; exact Bool.false_ne_true)]
   ·rename_i hne
    simp only
    unfold fr cB
    split
    ·rename_i b hb
     cases hd2:σ[d]? with
     | none=>rw [hd2] at hb; cases hb
     | some v=>rw [hd2] at hb; simp only [Option.getD_some] at hb; rw [hb] at hd2; exact absurd hd2 (hne b)
    ·rfl
  ·rename_i hd
   rw [hd]; unfold cB; rfl
theorem AJ {id:Nat} {ops:Array Oper} (hm:P.follows .mixedOrders=true) (hs:nr ops.toList=true)
  (h:goF P ops.toList (fun s es=>bP P ops.toList es=true∧go P Q k s) 0 ops.toList ⟨σ,H,e⟩):go P Q (.code (.region id ops true)::k) ⟨σ,H,e⟩:=by
 rw [wO hm hs,MZ]
 exact td (fun s es h=>⟨.inl h.1,h.2⟩) h
attribute [go_sem ↓] M9 M8 NW Ka NV NU J8 Qi NT
attribute [go_sem] MP
end
attribute [irreducible] cB tC aq kz tu goZ qK goF goN qL wh KG slK
section
variable (P:Program)
def Ft (f:FuncId) (args:List AV) (H:Hp) (kp:AV × Hp × Ef→Prop) (_:Ph kp:=⟨⟩):Prop:=∃ n r,eS P n f args H=some r∧kp r
def gI (f:FuncId) (args:List AV) (H:Hp) (k kp:AV × Hp × Ef→Prop) (_:Ph (k,kp):=⟨⟩):Prop:=ag P f args H k∨Ft P f args H kp
def kM (g:FuncId) (az:List AV) (H:Hp) (k kp:AV × Hp × Ef→Prop) (_:Ph (k,kp):=⟨⟩):Prop:=if aj P g=true then gI P g az H k kp else aF (evX P g az H) k
def qs (t:Option Tg) (H:Hp) (k kp:AV × Hp × Ef→Prop) (_:Ph (k,kp):=⟨⟩):Prop :=
 match t with
 | some (.fn g az)=>kM P g az H k kp
 | some (.yl b az)=>ag P (P.funcs.size+b) az H k
 | none=>False
def opC (σ:List AV) (H:Hp) (op:Op) (k kp:AV × Hp × Ef→Prop) (_:Ph (op,k,kp):=⟨⟩):Prop:=opK P σ H op k∨∃ n r,dW P (eS P n) σ H op=some r∧kp r
def EU (ops:List Oper) (K KP:St→Prop) (l:List Oper) (σ:List AV) (e:Ef) (dst:Option Tmp):AV × Hp × Ef→Prop:=fun r=>iF P ops K KP l ⟨put σ dst r.1,r.2.1,e.and r.2.2⟩
def MW (KP:St→Prop) (σ:List AV) (e:Ef):AV × Hp × Ef→Prop:=fun r=>KP ⟨r.1::σ,r.2.1,e.and r.2.2⟩
end

section
variable {P:Program} {Q:Ex→St→Prop} {k:List It} {σ:List AV} {H:Hp} {e:Ef} {ops:List Oper} {K KP:St→Prop} {l:List Oper} {kk kp:AV × Hp × Ef→Prop}

theorem Bj {α:Type} {f:α→Prop}:aq none f=False:=by unfold aq; rfl
theorem xu {f:FuncId} {args:List AV} {n:Nat} {r:AV × Hp × Ef} (h:eS P n f args H=some r):Ft P f args H kp↔kp r:=by
 constructor
 ·rintro ⟨m,q,hq,hk⟩
  have h1:=eC (P:=P) (Nat.le_max_left n m) _ _ _ _ h
  have h2:=eC (P:=P) (Nat.le_max_right n m) _ _ _ _ hq
  rw [h1] at h2
  cases h2
  exact hk
 ·intro hk; exact ⟨n,r,h,hk⟩
theorem vp {f:FuncId} {args:List AV} (h:Ft P f args H kp):¬ ag P f args H kk:=by
 rintro ⟨m,q,hq,_⟩
 obtain ⟨n,r,hr,_⟩:=h
 exact Ky hr hq
theorem OC {f:FuncId} {args:List AV} (h:ag P f args H (fun _=>True)):gI P f args H kk kp=ag P f args H kk:=by
 refine propext ⟨?_,.inl⟩
 rintro (h1 | h1)
 ·exact h1
 ·exact absurd h (vp h1)
theorem Hq {f:FuncId} {args:List AV} {r:AV × Hp × Ef} (h:gI P f args H (fun _=>False) (fun q=>q=r)) (kk kp:AV × Hp × Ef→Prop):gI P f args H kk kp=kp r:=by
 rcases h with ⟨_,_,_,h⟩ | ⟨n,q,hq,rfl⟩
 ·exact h.elim
 ·refine propext ⟨?_,fun h=>.inr ⟨n,q,hq,h⟩⟩
  rintro (h1 | h1)
  ·exact absurd h1 (vp ⟨n,q,hq,trivial⟩ (kp:=fun _=>True))
  ·exact (xu hq).1 h1
theorem ia {f:FuncId} {args:List AV} {kk' kp':AV × Hp × Ef→Prop} (h:gI P f args H kk kp) (h1:∀ r,kk r→kk' r) (h2:∀ r,kp r→kp' r):gI P f args H kk' kp':=by
 rcases h with h | ⟨n,r,hr,hk⟩
 ·exact .inl (bI h h1)
 ·exact .inr ⟨n,r,hr,h2 r hk⟩

theorem NS:iF P ops K KP [] ⟨σ,H,e⟩=K ⟨σ,H,e⟩:=by
 refine propext ⟨?_,fun h=>.inl (by rw [qf]; exact h)⟩
 rintro (h | ⟨n,s',h,_⟩)
 ·rw [qf] at h; exact h
 ·simp [eR] at h

theorem AK {o:Oper} (hw:cp ops σ o=true):iF P ops K KP (o::l) ⟨σ,H,e⟩=opC P σ H o.op (EU P ops K KP l σ e o.dst) (MW KP σ e):=by
 apply propext
 unfold opC
 rw [mw]
 constructor
 ·rintro (h | ⟨n,s',h,hk⟩)
  ·rw [kF hw,mw] at h
   obtain ⟨n,r,hr,h⟩:=h
   exact .inl ⟨n,r,hr,.inl h⟩
  ·simp only [eR,hw,if_true] at h
   split at h
   ·rename_i r hr
    simp only [Option.some.injEq] at h
    subst h
    exact .inr ⟨n,r,hr,hk⟩
   ·simp only [Option.bind_eq_some_iff] at h
    obtain ⟨r,hr,h⟩:=h
    exact .inl ⟨n,r,hr,.inr ⟨n,s',h,hk⟩⟩
 ·rintro (⟨n,r,hr,h⟩ | ⟨n,r,hr,hk⟩)
  ·rcases h with ⟨m,s',h,hk⟩ | ⟨m,s',h,hk⟩
   ·left
    rw [kF hw,mw]
    exact ⟨n,r,hr,m,s',h,hk⟩
   ·right
    refine ⟨max n m,s',?_,hk⟩
    have h1:=iY (dA (P:=P) (Nat.le_max_left n m)) hr
    have h2:dW P (eS P (max n m)) σ H o.op=none:=by
     cases hp:dW P (eS P (max n m)) σ H o.op with
     | none=>rfl
     | some q=>rw [kH (dH _) hp] at h1; cases h1
    simp only [eR,hw,if_true,h2,h1,Option.bind_some]
    exact jA (dA (Nat.le_max_right n m)) (eC (Nat.le_max_right n m)) (dH _) h
  ·right
   refine ⟨n,_,?_,hk⟩
   simp only [eR,hw,if_true,hr]

theorem J7 {o:Oper} (hw:cp ops σ o=false):iF P ops K KP (o::l) ⟨σ,H,e⟩=iF P ops K KP l ⟨put σ o.dst bz,H,e⟩:=by
 unfold iF
 rw [sZ hw]
 simp only [eR,hw,Bool.false_eq_true,if_false]

theorem Qh {dst:Option Tmp} {op:Op} {ty:TypeId} {pos:String} {af:Array Edge}:iF P ops K KP (⟨dst,op,ty,pos,af,none⟩::l) ⟨σ,H,e⟩=opC P σ H op (EU P ops K KP l σ e dst) (MW KP σ e):=AK rfl
theorem NR {dst:Option Tmp} {op:Op} {ty:TypeId} {pos:String} {af:Array Edge} {j:Nat} {w:Bool} :
  iF P ops K KP (⟨dst,op,ty,pos,af,some (j,w)⟩::l) ⟨σ,H,e⟩=cB (jY σ (nG ops j)) w (opC P σ H op (EU P ops K KP l σ e dst) (MW KP σ e)) (iF P ops K KP l ⟨put σ dst bz,H,e⟩):=by
 cases hw:cp ops σ ⟨dst,op,ty,pos,af,some (j,w)⟩ with
 | true =>
  rw [AK hw]
  unfold cp at hw
  simp only at hw
  unfold jY nG
  split at hw
  ·rename_i d hd
   rw [hd]
   split at hw
   ·rename_i b hb
    unfold fr; simp only [hb,Option.getD_some]; unfold cB; simp only; rw [if_pos hw]
   ·cases hw
  ·cases hw
 | false =>
  rw [J7 hw]
  unfold cp at hw
  simp only at hw
  unfold jY nG
  split at hw
  ·rename_i d hd
   rw [hd]
   split at hw
   ·rename_i b hb
    unfold fr; simp only [hb,Option.getD_some]; unfold cB; simp only; rw [if_neg (by rw [hw]; exact Bool.false_ne_true)]
   ·rename_i hne
    simp only
    unfold fr cB
    split
    ·rename_i b hb
     cases hd2:σ[d]? with
     | none=>rw [hd2] at hb; cases hb
     | some v=>rw [hd2] at hb; simp only [Option.getD_some] at hb; rw [hb] at hd2; exact absurd hd2 (hne b)
    ·rfl
  ·rename_i hd
   rw [hd]; unfold cB; rfl

@[reducible] def KZ:Op→Bool
 | .panic _=>false
 | .call c=>(match c.callee with | .value _=>false | _=>true)
 | _=>true
theorem Jn {op:Op} (h:KZ op=true):opC P σ H op kk kp=opK P σ H op kk:=by
 refine propext ⟨?_,.inl⟩
 rintro (h1 | ⟨n,r,hr,_⟩)
 ·exact h1
 ·unfold dW at hr
  split at hr
  ·cases h
  ·split at hr
   ·rename_i hc; simp only [KZ,hc] at h; cases h
   ·cases hr
  ·cases hr
def Rx:AV→Option AV
 | .iface t u=>some (.iface t u)
 | _=>none
theorem Ly {t:TypeId} {u:AV}:Rx (.iface t u)=some (.iface t u):=rfl
theorem Gs {x:Operand}:opC P σ H (.panic x) kk kp=aq (aG P σ x) fun v=>aq (Rx v) fun v=>kp (v,H,z0):=by
 apply propext
 have hno:¬ opK P σ H (.panic x) kk:=by
  rw [mw]
  rintro ⟨n,r,hr,_⟩
  simp [bx] at hr
 constructor
 ·rintro (h | ⟨n,r,hr,hk⟩)
  ·exact absurd h hno
  ·simp only [dW,Option.bind_eq_some_iff] at hr
   obtain ⟨v,hv,hr⟩:=hr
   rw [hv]
   split at hr
   ·cases hr
    rw [aD,Ly,aD]
    exact hk
   ·cases hr
 ·intro h
  right
  refine ⟨0,?_⟩
  unfold aq at h
  split at h
  ·rename_i v hv
   split at h
   ·rename_i u hu
    have:∃ t y,v=.iface t y∧u=.iface t y:=by
     unfold Rx at hu
     split at hu
     ·cases hu; exact ⟨_,_,rfl,rfl⟩
     ·cases hu
    obtain ⟨t,y,rfl,rfl⟩:=this
    exact ⟨_,by simp only [dW,hv,Option.bind_some],h⟩
   ·exact h.elim
  ·exact h.elim
theorem Ho {g:FuncId} {az:List AV}:kM P g az H kk kp↔iz P g az H kk∨(aj P g=true∧Ft P g az H kp):=by
 unfold kM iz gI
 by_cases hb:aj P g=true
 ·simp [hb]
 ·simp [hb]
theorem zn {f:Operand} {args:Array Operand} {ts:Array TypeId}:opC P σ H (.call ⟨.value f,args,ts⟩) kk kp=qs P (target P σ f args.toList) H kk kp:=by
 apply propext
 unfold opC
 rw [B9]
 unfold bA qs target dW
 simp only
 cases hf:aG P σ f with
 | none=>simp
 | some fv =>
  cases ha:bQ P σ args.toList with
  | none=>simp
  | some az =>
   simp only [Option.bind_some]
   cases fv with
   | func fn first captured =>
    cases fn with
    | func g =>
     simp only
     rw [Ho]
     refine or_congr_right ?_
     by_cases hb:aj P g=true
     ·simp only [hb,if_true,true_and]; rfl
     ·simp [hb]
    | _=>simp
   | yld b=>simp
   | _=>simp
theorem Gu {g:FuncId} {args:Array Operand} {ts:Array TypeId}:opC P σ H (.call ⟨.value (.func g),args,ts⟩) kk kp=aq (bQ P σ args.toList) fun az=>kM P g az H kk kp:=by
 rw [zn]
 unfold target
 rw [LJ]
 simp only [Option.bind_some,List.nil_append,List.append_nil]
 cases bQ P σ args.toList with
 | none=>rw [Bj]; rfl
 | some az=>rw [aD]; rfl
theorem Gt {t:Nat} {args:Array Operand} {ts:Array TypeId}:opC P σ H (.call ⟨.value (.tmp t),args,ts⟩) kk kp=aq (bQ P σ args.toList) fun az=>qs P (apV (fr σ t) az) H kk kp:=by
 rw [zn]
 unfold target
 rw [LC]
 simp only [Option.bind_some]
 cases bQ P σ args.toList with
 | none=>rw [Bj]; rfl
 | some az=>rw [aD]; rfl
theorem K5 {g:FuncId} {az:List AV}:qs P (some (.fn g az)) H kk kp=kM P g az H kk kp:=rfl
theorem K4 {b:Nat} {az:List AV}:qs P (some (.yl b az)) H kk kp=ag P (P.funcs.size+b) az H kk:=rfl
theorem K3 {g:FuncId} {az:List AV} (hb:aj P g=true):kM P g az H kk kp=gI P g az H kk kp:=if_pos hb
theorem K1 {g:FuncId} {az:List AV} (hb:aj P g=false):kM P g az H kk kp=iz P g az H kk:=by
 unfold kM iz
 rw [if_neg (by rw [hb]; exact Bool.false_ne_true),if_neg (by rw [hb]; exact Bool.false_ne_true)]
theorem Js {dst:Option Tmp} {v:AV} {H':Hp} {e':Ef}:EU P ops K KP l σ e dst (v,H',e')=iF P ops K KP l ⟨put σ dst v,H',e.and e'⟩:=rfl
theorem MV {v:AV} {H':Hp} {e':Ef}:MW KP σ e (v,H',e')=KP ⟨v::σ,H',e.and e'⟩:=rfl
attribute [go_sem ↓ 10] DD
attribute [go_sem ↓] NS Qh NR Jn Gs Gu Gt K5 K4 K3 K1 Js MV
attribute [go_sem] Ly OC

def A3 (P:Program) (rs:List ResultVar) (n:Nat) (kk kp:AV × Hp × Ef→Prop):Ex→St→Prop
 | .pan,s=>(match s.σ with | v::_=>kp (leave n v s.H s.ef) | []=>False)
 | ex,s=>tu P rs n kk ex s
theorem QW {rs:List ResultVar} {n:Nat}:A3 P rs n kk kp .normal ⟨σ,H,e⟩=aq (cU P ⟨σ,H,e⟩ rs) fun vs=>kk (leave n (pack vs) H e):=KF
theorem QU {rs:List ResultVar} {n:Nat}:A3 P rs n kk kp .ret ⟨σ,H,e⟩=aq (cU P ⟨σ,H,e⟩ rs) fun vs=>kk (leave n (pack vs) H e):=xe
theorem QV {rs:List ResultVar} {n:Nat} {v:AV}:A3 P rs n kk kp .pan ⟨v::σ,H,e⟩=kp (leave n v H e):=rfl
attribute [go_sem ↓] QW QU QV
theorem I4 {I:Nat→St→Prop} {n:Nat}:kz P Q k I n .pan ⟨σ,H,e⟩=Q .pan ⟨σ,H,e⟩:=by
 unfold kz; exact fN k _
attribute [go_sem ↓] I4

theorem lY {f:FuncId} {fn:Func} {c:Code} {args:List AV} {rs:List ResultVar} {n:Nat} (hf:P.funcs[f]?=some fn) (hb:fn.body=some c) (hr:fn.results.toList=rs) (hn:args.length+(fn.ntmps - args.length)=n)
  (h:∀ σ:List AV,σ.length=n→(∀ i:Nat,i < args.length→fr σ i=(args[i]?).getD bz)→go P (A3 P rs H.length kk kp) [.code c] ⟨σ,H,z0⟩) (hd:iU c=none:=by kernel_rfl):gI P f args H kk kp:=by
 subst hr; subst hn
 have h1:=h (args++List.replicate (fn.ntmps - args.length) bz) (by simp) (fun i hi=>by unfold fr; rw [List.getElem?_append_left hi])
 obtain ⟨m,ex,s,hc,hq⟩:=h1
 by_cases hp:ex=.pan
 ·subst hp
  have hq':A3 P fn.results.toList H.length kk kp .pan s:=hq
  simp only [A3] at hq'
  split at hq'
  ·rename_i v τ hσ
   right
   refine ⟨m+1,_,?_,hq'⟩
   show gw P (evN P m) (eS P m) (m+1) true f args H=_
   simp only [gw,hf,hb,iG,hd,cz (fun _ _ _ _ h=>h) (fun _ _ _ _ h=>h) (dH _) (Nat.le_succ m) hc,iK,hσ]
   rfl
  ·exact hq'.elim
 ·left
  rw [tH hf hb hd]
  refine ⟨m,ex,s,hc,?_⟩
  have hq':A3 P fn.results.toList H.length kk kp ex s:=by cases ex <;> first | exact hq | exact absurd rfl hp
  show KH P fn H.length kk ex s
  cases ex <;> first | (exact absurd rfl hp) | (simp only [A3] at hq'; unfold tu at hq'; exact hq')

def qm (P:Program) (d:Dc) (u:Option AV) (H:Hp) (K:Hp × Ef→Prop) (_:Ph K:=⟨⟩):Prop:=∃ n q,kU P (evN P n) (eS P n) n d u H=some q∧K q
def DV (K:Hp × Ef→Prop):Ex→St→Prop:=fun ex s=>(ex=.normal∨ex=.ret)∧K (s.H,s.ef)
instance {K:Hp × Ef→Prop}:Calm (DV K):=⟨fun _ h=>by rcases h.1 with h | h <;> cases h⟩
theorem Q1 {K:Hp × Ef→Prop}:DV K .normal ⟨σ,H,e⟩=K (H,e):=by unfold DV; simp
theorem Q0 {K:Hp × Ef→Prop}:DV K .ret ⟨σ,H,e⟩=K (H,e):=by unfold DV; simp
theorem nO {gg : FuncId} {first az captured : List AV} {u : Option AV} {K : Hp × Ef → Prop} {fn : Func} {c b : Code} {o : Oper} {l : List Oper} {n : Nat} (hf : P.funcs[gg]? = some fn) (hn : (fn.name == "runtime.NumGoroutine") = false) (hb : fn.body = some c) (hc : Q5 c = some (o, l, b)) (hr : fn.results.toList = []) (hnr : cF b = true) (hlen : (first ++ az ++ captured).length + (fn.ntmps - (first ++ az ++ captured).length) = n)
  (h:∀ σ:List AV,σ.length=n→(∀ i:Nat,i < (first++az++captured).length→fr σ i=((first++az++captured)[i]?).getD bz)→bw P (o::l) (fun s=>go P (DV K) [.code b] s) l ⟨put σ o.dst (u.getD .dh),H,z0⟩):qm P (.func (.func gg) first captured,az) u H K:=by
 subst hlen
 obtain ⟨m,s1,h1,m2,ex,s2,h2,hq⟩:=h ((first++az++captured)++List.replicate (fn.ntmps - (first++az++captured).length) bz) (by simp only [List.length_append,List.length_replicate]) (fun i hi=>by unfold fr; rw [List.getElem?_append_left hi])
 have hq':DV K ex s2:=by cases ex <;> exact hq
 refine ⟨max m m2,(s2.H,s2.ef),?_,hq'.2⟩
 unfold kU
 simp only [hf,hn,hb,hc,hr,Bool.false_eq_true,if_false,if_true,gX (dA (Nat.le_max_left m m2)) h1,Option.bind_some,mY (Nat.le_max_right m m2) h2,if_pos (And.intro hq'.1 hnr)]

def uc (P:Program) (rs:List ResultVar) (n:Nat) (d:Dc) (kk:AV × Hp × Ef→Prop):Ex→St→Prop
 | .pan,s=>(match s.σ with | v::σ=>qm P d (some v) s.H (fun q=>aq (cU P ⟨σ,q.1,s.ef.and q.2⟩ rs) fun vs=>kk (leave n (pack vs) q.1 (s.ef.and q.2))) | []=>False)
 | .normal,s=>qm P d none s.H (fun q=>aq (cU P ⟨s.σ,q.1,s.ef.and q.2⟩ rs) fun vs=>kk (leave n (pack vs) q.1 (s.ef.and q.2)))
 | .ret,s=>qm P d none s.H (fun q=>aq (cU P ⟨s.σ,q.1,s.ef.and q.2⟩ rs) fun vs=>kk (leave n (pack vs) q.1 (s.ef.and q.2)))
 | _,_=>False
def dfK (P:Program) (rs:List ResultVar) (n:Nat) (kk:AV × Hp × Ef→Prop) (d:Dc) (σ:List AV) (e:Ef):Hp × Ef→Prop:=fun q=>aq (cU P ⟨σ,q.1,e.and q.2⟩ rs) fun vs=>kk (leave n (pack vs) q.1 (e.and q.2))
theorem DU {rs:List ResultVar} {n:Nat} {d:Dc} {H':Hp} {e':Ef}:dfK P rs n kk d σ e (H',e')=aq (cU P ⟨σ,H',e.and e'⟩ rs) fun vs=>kk (leave n (pack vs) H' (e.and e')):=rfl
theorem QT {rs:List ResultVar} {n:Nat} {d:Dc}:uc P rs n d kk .normal ⟨σ,H,e⟩=qm P d none H (dfK P rs n kk d σ e):=rfl
theorem QO {rs:List ResultVar} {n:Nat} {d:Dc}:uc P rs n d kk .ret ⟨σ,H,e⟩=qm P d none H (dfK P rs n kk d σ e):=rfl
theorem QS {rs:List ResultVar} {n:Nat} {d:Dc} {v:AV}:uc P rs n d kk .pan ⟨v::σ,H,e⟩=qm P d (some v) H (dfK P rs n kk d σ e):=rfl
def G4 (P:Program) (rs:List ResultVar) (n:Nat) (f:Operand) (args:List Operand) (dst:Option Tmp) (b:Code) (kk:AV × Hp × Ef→Prop):Ex→St→Prop
 | .normal,s=>aq (aG P s.σ f) fun f=>aq (bQ P s.σ args) fun az=>go P (uc P rs n (f,az) kk) [.code b] ⟨put s.σ dst bz,s.H,s.ef⟩
 | .ret,s=>tu P rs n kk .ret s
 | _,_=>False
instance {rs:List ResultVar} {n:Nat} {f:Operand} {args:List Operand} {dst:Option Tmp} {b:Code}:Calm (G4 P rs n f args dst b kk):=⟨fun _ h=>h⟩
theorem QY {rs:List ResultVar} {n:Nat} {f:Operand} {args:List Operand} {dst:Option Tmp} {b:Code}:G4 P rs n f args dst b kk .normal ⟨σ,H,e⟩=aq (aG P σ f) fun f=>aq (bQ P σ args) fun az=>go P (uc P rs n (f,az) kk) [.code b] ⟨put σ dst bz,H,e⟩:=rfl
theorem QX {rs:List ResultVar} {n:Nat} {f:Operand} {args:List Operand} {dst:Option Tmp} {b:Code}:G4 P rs n f args dst b kk .ret ⟨σ,H,e⟩=aq (cU P ⟨σ,H,e⟩ rs) fun vs=>kk (leave n (pack vs) H e):=xe
attribute [go_sem ↓] Q1 Q0 QT QO QS DU QY QX

theorem MF {l:List Code} {m:Nat} {ex:Ex} {s s':St}:∀ {Q:Ex→St→Prop},go P Q (l.map It.code) s→∃ n ex s',gD P (evN P n) (eS P n) n l s=some (ex,s')∧Q ex s':=by
 intro Q
 induction l generalizing s with
 | nil=>intro h; exact ⟨0,.normal,s,rfl,h⟩
 | cons c l ih =>
  rintro ⟨n,ex,s1,hc,hq⟩
  by_cases hn:ex=.normal
  ·subst hn
   obtain ⟨n2,ex2,s2,h2,hq2⟩:=ih (s:=s1) hq
   refine ⟨max n n2,ex2,s2,?_,hq2⟩
   simp only [gD,mY (Nat.le_max_left n n2) hc]
   exact iu (dA (Nat.le_max_right n n2)) (eC (Nat.le_max_right n n2)) (dH _) (Nat.le_max_right n n2) h2
  ·refine ⟨n,ex,s1,?_,?_⟩
   ·simp only [gD,hc]
    cases ex <;> first | rfl | exact absurd rfl hn
   ·have gen:∀ (l:List Code) (ex:Ex) (s:St),ex≠.normal→gF P Q (l.map It.code) ex s→Q ex s:=by
     intro l
     induction l with
     | nil=>intro ex s _ h; exact h
     | cons c l ih=>intro ex s hn h; cases ex <;> first | exact absurd rfl hn | exact ih _ _ hn h
    cases ex <;> first | exact absurd rfl hn | exact gen l _ _ (by simp) hq

theorem Bi {f:FuncId} {fn:Func} {c b:Code} {l0:List Code} {o:Oper} {fo:Operand} {dargs:Array Operand} {ts:Array TypeId} {args:List AV} {rs:List ResultVar} {n:Nat} (hf:P.funcs[f]?=some fn) (hb:fn.body=some c) (hd:iU c=some (l0,o,b)) (ho:o.op=.defer ⟨.value fo,dargs,ts⟩) (hr:fn.results.toList=rs) (hn:args.length+(fn.ntmps - args.length)=n)
  (h:∀ σ:List AV,σ.length=n→(∀ i:Nat,i < args.length→fr σ i=(args[i]?).getD bz)→go P (G4 P rs H.length fo dargs.toList o.dst b kk) (l0.map It.code) ⟨σ,H,z0⟩):ag P f args H kk:=by
 subst hr; subst hn
 have h1:=h (args++List.replicate (fn.ntmps - args.length) bz) (by simp) (fun i hi=>by unfold fr; rw [List.getElem?_append_left hi])
 obtain ⟨m,ex,s1,hc,hq⟩:=MF (m:=0) (ex:=.normal) (s':=⟨[],[],z0⟩) h1
 have fin:∀ (M:Nat) (r:AV × Hp × Ef),iG P (evN P M) (eS P M) (M+1) fn c ⟨args++List.replicate (fn.ntmps - args.length) bz,H,z0⟩=(true,some r)→kk r→ag P f args H kk:=by
  intro M r hM hk
  refine ⟨M+1,r,?_,hk⟩
  show gw P (evN P M) (eS P M) (M+1) false f args H=_
  simp only [gw,hf,hb,hM,Bool.true_eq_false,if_false]
 have up:∀ M,m≤M→gD P (evN P M) (eS P M) (M+1) l0 ⟨args++List.replicate (fn.ntmps - args.length) bz,H,z0⟩=some (ex,s1):=fun M hM=>iu (dA hM) (eC hM) (dH _) (by omega) hc
 cases ex with
 | normal =>
  have hq:aq (aG P s1.σ fo) (fun f=>aq (bQ P s1.σ dargs.toList) fun az=>go P (uc P fn.results.toList H.length (f,az) kk) [.code b] ⟨put s1.σ o.dst bz,s1.H,s1.ef⟩):=hq
  cases hfo:aG P s1.σ fo with
  | none=>rw [hfo] at hq; unfold aq at hq; exact hq.elim
  | some fv =>
   rw [hfo,aD] at hq
   cases haz:bQ P s1.σ dargs.toList with
   | none=>rw [haz] at hq; unfold aq at hq; exact hq.elim
   | some az =>
    rw [haz,aD] at hq
    obtain ⟨m2,ex2,s2,hc2,hq2⟩:=hq
    have hq3:uc P fn.results.toList H.length (fv,az) kk ex2 s2:=by cases ex2 <;> exact hq2
    -- the deferred call and the results
    have tail:∀ (u:Option AV) (σ:List AV),qm P (fv,az) u s2.H (fun q=>aq (cU P ⟨σ,q.1,s2.ef.and q.2⟩ fn.results.toList) fun vs=>kk (leave H.length (pack vs) q.1 (s2.ef.and q.2)))→(ex2=.pan∧(∃ v,u=some v∧s2.σ=v::σ))∨((ex2=.normal∨ex2=.ret)∧u=none∧s2.σ=σ)→ag P f args H kk:=by
     rintro u σ ⟨m3,q,hdq,hk⟩ hcase
     cases hrs:cU P ⟨σ,q.1,s2.ef.and q.2⟩ fn.results.toList with
     | none=>simp only [hrs] at hk; unfold aq at hk; exact hk.elim
     | some vs =>
      simp only [hrs,aD] at hk
      refine fin (max m (max m2 m3)) _ ?_ hk
      have e1:=up (max m (max m2 m3)) (by omega)
      have e2:=cz (P:=P) (dA (show m2≤max m (max m2 m3) by omega)) (eC (show m2≤max m (max m2 m3) by omega)) (dH _) (show m2≤max m (max m2 m3)+1 by omega) hc2
      have e3:=nK (P:=P) (dA (show m3≤max m (max m2 m3) by omega)) (eC (show m3≤max m (max m2 m3) by omega)) (dH _) (show m3≤max m (max m2 m3)+1 by omega) hdq
      simp only [iG,hd,e1,ho,hfo,haz,Option.bind_some]
      refine congrArg (Prod.mk true) ?_
      unfold lR
      rw [e2]
      rcases hcase with ⟨rfl,v,rfl,hσ⟩ | ⟨hex,rfl,rfl⟩
      ·simp only [hσ,e3,Option.bind_some,hrs,Option.map_some]
      ·rcases hex with rfl | rfl
       ·simp only [true_or,if_true,e3,Option.bind_some,hrs,Option.map_some]
       ·simp only [or_true,if_true,e3,Option.bind_some,hrs,Option.map_some]
    cases ex2 with
    | pan =>
     simp only [uc] at hq3
     split at hq3
     ·rename_i v σ hσ
      exact tail (some v) σ hq3 (.inl ⟨rfl,v,rfl,hσ⟩)
     ·exact hq3.elim
    | normal=>exact tail none s2.σ hq3 (.inr ⟨.inl rfl,rfl,rfl⟩)
    | ret=>exact tail none s2.σ hq3 (.inr ⟨.inr rfl,rfl,rfl⟩)
    | exit i=>exact hq3.elim
    | goto l=>exact hq3.elim
 | ret =>
  have hq:tu P fn.results.toList H.length kk .ret s1:=hq
  unfold tu at hq
  obtain ⟨_,hq⟩:=hq
  cases hvs:cU P s1 fn.results.toList with
  | none=>rw [hvs] at hq; exact hq.elim
  | some vs =>
   rw [hvs] at hq
   refine fin m _ ?_ hq
   have:=up m (Nat.le_refl _)
   simp only [iG,hd,this,iK,or_true,if_true,hvs,Option.map_some]
 | exit i=>exact hq.elim
 | goto l=>exact hq.elim
 | pan=>exact hq.elim
end
attribute [irreducible] opC gI kM qs qm
theorem au:Tryz.prog.follows .mixedOrders=true:=by kernel_rfl
attribute [go_sem] au
theorem OU:tsh Tryz.prog 2=some (.int .i64):=by kernel_rfl
theorem oe:tsh Tryz.prog 3=some (.int .i64):=by kernel_rfl
theorem L5:ct Tryz.prog 3=some 1:=by kernel_rfl
theorem Pr:fP Tryz.prog 3=some false:=by kernel_rfl
theorem Eu:cD Tryz.prog 3=some [.int .i64 0]:=by kernel_rfl
theorem L4:ct Tryz.prog 4=some 1:=by kernel_rfl
theorem Pq:fP Tryz.prog 4=some false:=by kernel_rfl
theorem LV:cD Tryz.prog 4=some [.bool false]:=by kernel_rfl
theorem RJ:Tryz.prog.underlying 4=some .bool:=by kernel_rfl
theorem jR:tsh Tryz.prog 5=some (.int .u8):=by kernel_rfl
theorem rm:ct Tryz.prog 5=some 1:=by kernel_rfl
theorem Pp:fP Tryz.prog 5=some false:=by kernel_rfl
theorem js:cD Tryz.prog 5=some [.int .u8 0]:=by kernel_rfl
theorem EA:tsh Tryz.prog 9=some .str:=by kernel_rfl
theorem L0:ct Tryz.prog 9=some 1:=by kernel_rfl
theorem Po:fP Tryz.prog 9=some false:=by kernel_rfl
theorem nX:cD Tryz.prog 9=some [.str []]:=by kernel_rfl
theorem MA:ju Tryz.prog 9=true:=by kernel_rfl
theorem Iv:tsh Tryz.prog 20=some .iface:=by kernel_rfl
theorem BA:tsh Tryz.prog 21=some (.int .i32):=by kernel_rfl
theorem Iu:tsh Tryz.prog 22=some (.slice 28 6 8):=by kernel_rfl
theorem vF:tsh Tryz.prog 23=some (.int .u16):=by kernel_rfl
theorem Im:ct Tryz.prog 23=some 1:=by kernel_rfl
theorem Mv:fP Tryz.prog 23=some false:=by kernel_rfl
theorem xJ:cD Tryz.prog 23=some [.int .u16 0]:=by kernel_rfl
theorem vE:tsh Tryz.prog 24=some .str:=by kernel_rfl
theorem Il:ct Tryz.prog 24=some 1:=by kernel_rfl
theorem Mt:fP Tryz.prog 24=some false:=by kernel_rfl
theorem kj:tsh Tryz.prog 25=some (.int .u32):=by kernel_rfl
theorem Ik:ct Tryz.prog 25=some 1:=by kernel_rfl
theorem Ms:fP Tryz.prog 25=some false:=by kernel_rfl
theorem nh:tsh Tryz.prog 26=some (.slice 36 12 96):=by kernel_rfl
theorem Ij:ct Tryz.prog 26=some 1:=by kernel_rfl
theorem Mr:fP Tryz.prog 26=some false:=by kernel_rfl
theorem HV:cD Tryz.prog 26=some [.aJ]:=by kernel_rfl
theorem IL:ju Tryz.prog 26=true:=by kernel_rfl
theorem HG:zok Tryz.prog 36 12=true:=by kernel_rfl
theorem Pn:tsh Tryz.prog 32=some (.array 5 25 1):=by kernel_rfl
theorem Bz:tsh Tryz.prog 34=some .struct:=by kernel_rfl
theorem Ii:ct Tryz.prog 34=some 8:=by kernel_rfl
theorem Mq:fP Tryz.prog 34=some true:=by kernel_rfl
theorem nZ:cD Tryz.prog 34=some [.str [],.str [],.str [],.int .u32 0,.int .u32 0,.int .u32 0,.int .u32 0,.int .u32 0]:=by kernel_rfl
theorem nj:gi Tryz.prog 34=some [(0,1),(1,1),(2,1),(3,5)]:=by kernel_rfl
theorem QI:Tryz.prog.eqGuardType Tryz.prog.depth 34=false:=by kernel_rfl
theorem yN:bL Tryz.prog 34 0=some (0,1,false):=by kernel_rfl
theorem yM:bL Tryz.prog 34 1=some (1,1,false):=by kernel_rfl
theorem yL:bL Tryz.prog 34 2=some (2,1,false):=by kernel_rfl
theorem yK:bL Tryz.prog 34 3=some (3,5,true):=by kernel_rfl
theorem Bx:tsh Tryz.prog 36=some .struct:=by kernel_rfl
theorem Ih:ct Tryz.prog 36=some 12:=by kernel_rfl
theorem Mp:fP Tryz.prog 36=some true:=by kernel_rfl
theorem nY:cD Tryz.prog 36=some [.str [],.int .u16 0,.int .u16 0,.int .u32 0,.str [],.str [],.str [],.int .u32 0,.int .u32 0,.int .u32 0,.int .u32 0,.int .u32 0]:=by kernel_rfl
theorem ni:gi Tryz.prog 36=some [(0,1),(1,1),(2,1),(3,1),(4,8)]:=by kernel_rfl
theorem QH:Tryz.prog.eqGuardType Tryz.prog.depth 36=false:=by kernel_rfl
theorem yJ:bL Tryz.prog 36 0=some (0,1,false):=by kernel_rfl
theorem yI:bL Tryz.prog 36 1=some (1,1,false):=by kernel_rfl
theorem yH:bL Tryz.prog 36 2=some (2,1,false):=by kernel_rfl
theorem yG:bL Tryz.prog 36 3=some (3,1,false):=by kernel_rfl
theorem yD:bL Tryz.prog 36 4=some (4,8,true):=by kernel_rfl
theorem rO:tsh Tryz.prog 38=some .struct:=by kernel_rfl
theorem Ig:ct Tryz.prog 38=some 2:=by kernel_rfl
theorem Mo:fP Tryz.prog 38=some true:=by kernel_rfl
theorem jO:cD Tryz.prog 38=some [.int .i64 0,.int .i64 0]:=by kernel_rfl
theorem jf:gi Tryz.prog 38=some [(0,1),(1,1)]:=by kernel_rfl
theorem QG:Tryz.prog.eqGuardType Tryz.prog.depth 38=false:=by kernel_rfl
theorem yC:bL Tryz.prog 38 0=some (0,1,false):=by kernel_rfl
theorem yB:bL Tryz.prog 38 1=some (1,1,false):=by kernel_rfl
theorem Ie:ct Tryz.prog 39=some 1:=by kernel_rfl
theorem Mn:fP Tryz.prog 39=some false:=by kernel_rfl
theorem HU:cD Tryz.prog 39=some [.int .i64 0]:=by kernel_rfl
theorem rN:tsh Tryz.prog 54=some (.slice 68 3 40):=by kernel_rfl
theorem Ic:ct Tryz.prog 54=some 1:=by kernel_rfl
theorem Mm:fP Tryz.prog 54=some false:=by kernel_rfl
theorem IK:ju Tryz.prog 54=true:=by kernel_rfl
theorem HF:zok Tryz.prog 68 3=true:=by kernel_rfl
theorem jF:tsh Tryz.prog 59=some (.slice 63 4 40):=by kernel_rfl
theorem Ib:ct Tryz.prog 59=some 1:=by kernel_rfl
theorem Mk:fP Tryz.prog 59=some false:=by kernel_rfl
theorem IJ:ju Tryz.prog 59=true:=by kernel_rfl
theorem Bn:zok Tryz.prog 63 4=true:=by kernel_rfl
theorem Is:tsh Tryz.prog 61=some .struct:=by kernel_rfl
theorem xI:cD Tryz.prog 61=some [.str [],.str [],.int .u32 0,.bool false,.bool false,.aJ,.aJ,.aJ]:=by kernel_rfl
theorem rT:gi Tryz.prog 61=some [(0,1),(1,1),(2,1),(3,1),(4,1),(5,1),(6,1),(7,1)]:=by kernel_rfl
theorem yA:bL Tryz.prog 61 0=some (0,1,false):=by kernel_rfl
theorem yz:bL Tryz.prog 61 1=some (1,1,false):=by kernel_rfl
theorem yy:bL Tryz.prog 61 2=some (2,1,false):=by kernel_rfl
theorem yu:bL Tryz.prog 61 3=some (3,1,false):=by kernel_rfl
theorem yq:bL Tryz.prog 61 4=some (4,1,false):=by kernel_rfl
theorem yp:bL Tryz.prog 61 5=some (5,1,false):=by kernel_rfl
theorem ym:bL Tryz.prog 61 6=some (6,1,false):=by kernel_rfl
theorem yj:bL Tryz.prog 61 7=some (7,1,false):=by kernel_rfl
theorem Ir:tsh Tryz.prog 63=some .struct:=by kernel_rfl
theorem Ia:ct Tryz.prog 63=some 4:=by kernel_rfl
theorem Mj:fP Tryz.prog 63=some true:=by kernel_rfl
theorem rL:cD Tryz.prog 63=some [.str [],.bool false,.int .i64 0,.int .i64 0]:=by kernel_rfl
theorem rS:gi Tryz.prog 63=some [(0,1),(1,1),(2,1),(3,1)]:=by kernel_rfl
theorem yh:bL Tryz.prog 63 0=some (0,1,false):=by kernel_rfl
theorem yg:bL Tryz.prog 63 1=some (1,1,false):=by kernel_rfl
theorem yf:bL Tryz.prog 63 2=some (2,1,false):=by kernel_rfl
theorem ye:bL Tryz.prog 63 3=some (3,1,false):=by kernel_rfl
theorem Bw:tsh Tryz.prog 65=some .struct:=by kernel_rfl
theorem H9:ct Tryz.prog 65=some 5:=by kernel_rfl
theorem xH:cD Tryz.prog 65=some [.str [],.bool false,.int .i64 0,.int .i64 0,.int .i64 0]:=by kernel_rfl
theorem rR:gi Tryz.prog 65=some [(0,4),(4,1)]:=by kernel_rfl
theorem yd:bL Tryz.prog 65 0=some (0,4,true):=by kernel_rfl
theorem yc:bL Tryz.prog 65 1=some (4,1,false):=by kernel_rfl
theorem Iq:tsh Tryz.prog 68=some .struct:=by kernel_rfl
theorem H8:ct Tryz.prog 68=some 3:=by kernel_rfl
theorem Mi:fP Tryz.prog 68=some true:=by kernel_rfl
theorem rK:cD Tryz.prog 68=some [.bool false,.int .i64 0,.aJ]:=by kernel_rfl
theorem rQ:gi Tryz.prog 68=some [(0,1),(1,1),(2,1)]:=by kernel_rfl
theorem ya:bL Tryz.prog 68 0=some (0,1,false):=by kernel_rfl
theorem x9:bL Tryz.prog 68 2=some (2,1,false):=by kernel_rfl
theorem Bv:tsh Tryz.prog 70=some (.ptr 73):=by kernel_rfl
theorem H7:ct Tryz.prog 70=some 1:=by kernel_rfl
theorem Mh:fP Tryz.prog 70=some false:=by kernel_rfl
theorem dr:tsh Tryz.prog 71=some (.slice 5 1 1):=by kernel_rfl
theorem H6:ct Tryz.prog 71=some 1:=by kernel_rfl
theorem Mg:fP Tryz.prog 71=some false:=by kernel_rfl
theorem II:ju Tryz.prog 71=true:=by kernel_rfl
theorem jE:zok Tryz.prog 5 1=true:=by kernel_rfl
theorem xO:ct Tryz.prog 73=some 2:=by kernel_rfl
theorem HT:cD Tryz.prog 73=some [.fH,.aJ]:=by kernel_rfl
theorem x8:bL Tryz.prog 73 0=some (0,1,false):=by kernel_rfl
theorem x7:bL Tryz.prog 73 1=some (1,1,false):=by kernel_rfl
theorem vD:tsh Tryz.prog 75=some .iface:=by kernel_rfl
theorem Mf:fP Tryz.prog 75=some false:=by kernel_rfl
theorem je:tsh Tryz.prog 85=some (.slice 9 1 16):=by kernel_rfl
theorem HZ:ct Tryz.prog 85=some 1:=by kernel_rfl
theorem Me:fP Tryz.prog 85=some false:=by kernel_rfl
theorem HR:cD Tryz.prog 85=some [.aJ]:=by kernel_rfl
theorem IG:ju Tryz.prog 85=true:=by kernel_rfl
theorem e7:zok Tryz.prog 9 1=true:=by kernel_rfl
theorem vC:tsh Tryz.prog 88=some (.slice 3 1 8):=by kernel_rfl
theorem IF:ju Tryz.prog 88=true:=by kernel_rfl
theorem HE:zok Tryz.prog 3 1=true:=by kernel_rfl
theorem pH:tsh Tryz.prog 91=some (.slice 38 2 16):=by kernel_rfl
theorem HY:ct Tryz.prog 91=some 1:=by kernel_rfl
theorem Mc:fP Tryz.prog 91=some false:=by kernel_rfl
theorem IE:ju Tryz.prog 91=true:=by kernel_rfl
theorem HD:zok Tryz.prog 38 2=true:=by kernel_rfl
theorem Ip:tsh Tryz.prog 93=some .struct:=by kernel_rfl
theorem HX:ct Tryz.prog 93=some 10:=by kernel_rfl
theorem xG:cD Tryz.prog 93=some [.str [],.int .i64 0,.int .i64 0,.int .i64 0,.aJ,.bool false,.int .i64 0,.aJ,.aJ,.bool false]:=by kernel_rfl
theorem rP:gi Tryz.prog 93=some [(0,1),(1,1),(2,1),(3,1),(4,1),(5,3),(8,1),(9,1)]:=by kernel_rfl
theorem x6:bL Tryz.prog 93 0=some (0,1,false):=by kernel_rfl
theorem xZ:bL Tryz.prog 93 1=some (1,1,false):=by kernel_rfl
theorem xY:bL Tryz.prog 93 2=some (2,1,false):=by kernel_rfl
theorem xX:bL Tryz.prog 93 3=some (3,1,false):=by kernel_rfl
theorem xV:bL Tryz.prog 93 4=some (4,1,false):=by kernel_rfl
theorem xU:bL Tryz.prog 93 5=some (5,3,true):=by kernel_rfl
theorem xT:bL Tryz.prog 93 6=some (8,1,false):=by kernel_rfl
theorem xS:bL Tryz.prog 93 7=some (9,1,false):=by kernel_rfl
theorem jt:tsh Tryz.prog 114=some (.int .u64):=by kernel_rfl
theorem IB:fP Tryz.prog 114=some false:=by kernel_rfl
theorem Ma:tsh Tryz.prog 115=some (.array 4 9 1):=by kernel_rfl
theorem FM:cD Tryz.prog 115=some [.str [],.str [],.str [],.str []]:=by kernel_rfl
theorem L9:tsh Tryz.prog 117=some (.array 8 9 1):=by kernel_rfl
theorem FL:cD Tryz.prog 117=some [.str [],.str [],.str [],.str [],.str [],.str [],.str [],.str []]:=by kernel_rfl
theorem EG:tsh Tryz.prog 118=some (.int .u64):=by kernel_rfl
theorem vS:bL Tryz.prog 120 0=some (0,1,false):=by kernel_rfl
theorem vR:bL Tryz.prog 120 1=some (1,1,false):=by kernel_rfl
theorem vQ:bL Tryz.prog 120 2=some (2,1,false):=by kernel_rfl
theorem L8:tsh Tryz.prog 121=some (.array 9 120 3):=by kernel_rfl
theorem vK:tsh Tryz.prog 122=some (.ptr 5):=by kernel_rfl
theorem vJ:tsh Tryz.prog 144=some .struct:=by kernel_rfl
theorem pF:cD Tryz.prog 144=some [.aJ,.str [],.str [],.str [],.str [],.int .u32 0,.int .u32 0,.int .u32 0,.int .u32 0,.int .u32 0,.int .i64 0]:=by kernel_rfl
theorem lB:gi Tryz.prog 144=some [(0,1),(1,1),(2,8),(10,1)]:=by kernel_rfl
theorem vP:bL Tryz.prog 144 0=some (0,1,false):=by kernel_rfl
theorem vO:bL Tryz.prog 144 1=some (1,1,false):=by kernel_rfl
theorem vN:bL Tryz.prog 144 2=some (2,8,true):=by kernel_rfl
theorem vI:tsh Tryz.prog 146=some (.map 21 1):=by kernel_rfl
theorem vH:tsh Tryz.prog 148=some .upt:=by kernel_rfl
theorem EF:tsh Tryz.prog 158=some (.slice 23 1 2):=by kernel_rfl
theorem L7:tsh Tryz.prog 177=some (.array 24 5 1):=by kernel_rfl
theorem FK:cD Tryz.prog 177=some [.int .u8 0,.int .u8 0,.int .u8 0,.int .u8 0,.int .u8 0,.int .u8 0,.int .u8 0,.int .u8 0,.int .u8 0,.int .u8 0,.int .u8 0,.int .u8 0,.int .u8 0,.int .u8 0,.int .u8 0,.int .u8 0,.int .u8 0,.int .u8 0,.int .u8 0,.int .u8 0,.int .u8 0,.int .u8 0,.int .u8 0,.int .u8 0]:=by kernel_rfl
theorem vG:tsh Tryz.prog 187=some (.int .i64):=by kernel_rfl
theorem EE:tsh Tryz.prog 189=some (.ptr 210):=by kernel_rfl
theorem ED:tsh Tryz.prog 201=some (.array 20 114 1):=by kernel_rfl
theorem L6:tsh Tryz.prog 202=some (.array 65 5 1):=by kernel_rfl
theorem FJ:cD Tryz.prog 202=some [.int .u8 0,.int .u8 0,.int .u8 0,.int .u8 0,.int .u8 0,.int .u8 0,.int .u8 0,.int .u8 0,.int .u8 0,.int .u8 0,.int .u8 0,.int .u8 0,.int .u8 0,.int .u8 0,.int .u8 0,.int .u8 0,.int .u8 0,.int .u8 0,.int .u8 0,.int .u8 0,.int .u8 0,.int .u8 0,.int .u8 0,.int .u8 0,.int .u8 0,.int .u8 0,.int .u8 0,.int .u8 0,.int .u8 0,.int .u8 0,.int .u8 0,.int .u8 0,.int .u8 0,.int .u8 0,.int .u8 0,.int .u8 0,.int .u8 0,.int .u8 0,.int .u8 0,.int .u8 0,.int .u8 0,.int .u8 0,.int .u8 0,.int .u8 0,.int .u8 0,.int .u8 0,.int .u8 0,.int .u8 0,.int .u8 0,.int .u8 0,.int .u8 0,.int .u8 0,.int .u8 0,.int .u8 0,.int .u8 0,.int .u8 0,.int .u8 0,.int .u8 0,.int .u8 0,.int .u8 0,.int .u8 0,.int .u8 0,.int .u8 0,.int .u8 0,.int .u8 0]:=by kernel_rfl
theorem EC:tsh Tryz.prog 210=some .struct:=by kernel_rfl
theorem uq:cD Tryz.prog 210=some [.str [],.str [],.dh]:=by kernel_rfl
theorem qD:gi Tryz.prog 210=some [(0,1),(1,1),(2,1)]:=by kernel_rfl
theorem EB:tsh Tryz.prog 226=some (.array 64 5 1):=by kernel_rfl
theorem DC:aj Tryz.prog 10=true:=by kernel_rfl
theorem DB:aj Tryz.prog 11=true:=by kernel_rfl
theorem DA:aj Tryz.prog 12=true:=by kernel_rfl
theorem Dz:aj Tryz.prog 13=true:=by kernel_rfl
theorem Dy:aj Tryz.prog 14=true:=by kernel_rfl
theorem Dx:aj Tryz.prog 15=true:=by kernel_rfl
theorem Dw:aj Tryz.prog 16=true:=by kernel_rfl
theorem Dv:aj Tryz.prog 17=true:=by kernel_rfl
theorem Du:aj Tryz.prog 18=true:=by kernel_rfl
theorem Dr:aj Tryz.prog 19=true:=by kernel_rfl
theorem Dq:aj Tryz.prog 20=true:=by kernel_rfl
theorem Dp:aj Tryz.prog 21=true:=by kernel_rfl
theorem Dn:aj Tryz.prog 23=true:=by kernel_rfl
theorem Dm:aj Tryz.prog 24=true:=by kernel_rfl
theorem Dl:aj Tryz.prog 25=true:=by kernel_rfl
theorem Dk:aj Tryz.prog 26=true:=by kernel_rfl
theorem Dj:aj Tryz.prog 27=true:=by kernel_rfl
theorem Di:aj Tryz.prog 28=true:=by kernel_rfl
theorem Dh:aj Tryz.prog 29=true:=by kernel_rfl
theorem Dg:aj Tryz.prog 30=true:=by kernel_rfl
theorem Df:aj Tryz.prog 31=true:=by kernel_rfl
theorem De:aj Tryz.prog 32=true:=by kernel_rfl
theorem Dd:aj Tryz.prog 33=true:=by kernel_rfl
theorem Da:aj Tryz.prog 34=true:=by kernel_rfl
theorem C9:aj Tryz.prog 35=true:=by kernel_rfl
theorem C8:aj Tryz.prog 36=true:=by kernel_rfl
theorem C7:aj Tryz.prog 37=true:=by kernel_rfl
theorem C6:aj Tryz.prog 38=true:=by kernel_rfl
theorem C5:aj Tryz.prog 39=true:=by kernel_rfl
theorem C4:aj Tryz.prog 40=true:=by kernel_rfl
theorem C3:aj Tryz.prog 41=true:=by kernel_rfl
theorem C2:aj Tryz.prog 42=true:=by kernel_rfl
theorem C1:aj Tryz.prog 43=true:=by kernel_rfl
theorem C0:aj Tryz.prog 44=true:=by kernel_rfl
theorem CZ:aj Tryz.prog 45=true:=by kernel_rfl
theorem CY:aj Tryz.prog 46=true:=by kernel_rfl
theorem CX:aj Tryz.prog 47=true:=by kernel_rfl
theorem CW:aj Tryz.prog 48=true:=by kernel_rfl
theorem CV:aj Tryz.prog 49=true:=by kernel_rfl
theorem CU:aj Tryz.prog 50=true:=by kernel_rfl
theorem CT:aj Tryz.prog 51=true:=by kernel_rfl
theorem CS:aj Tryz.prog 52=true:=by kernel_rfl
theorem CR:aj Tryz.prog 53=true:=by kernel_rfl
theorem CQ:aj Tryz.prog 54=true:=by kernel_rfl
theorem CP:aj Tryz.prog 55=true:=by kernel_rfl
theorem CO:aj Tryz.prog 56=true:=by kernel_rfl
theorem CN:aj Tryz.prog 57=true:=by kernel_rfl
theorem CM:aj Tryz.prog 58=true:=by kernel_rfl
theorem CL:aj Tryz.prog 59=true:=by kernel_rfl
theorem CK:aj Tryz.prog 60=true:=by kernel_rfl
theorem CJ:aj Tryz.prog 61=true:=by kernel_rfl
theorem CI:aj Tryz.prog 62=true:=by kernel_rfl
theorem CH:aj Tryz.prog 63=true:=by kernel_rfl
theorem CG:aj Tryz.prog 64=true:=by kernel_rfl
theorem CF:aj Tryz.prog 65=true:=by kernel_rfl
theorem CE:aj Tryz.prog 66=true:=by kernel_rfl
theorem CD:aj Tryz.prog 67=true:=by kernel_rfl
theorem CC:aj Tryz.prog 68=true:=by kernel_rfl
theorem CB:aj Tryz.prog 69=true:=by kernel_rfl
theorem CA:aj Tryz.prog 70=true:=by kernel_rfl
theorem NG:sR Tryz.prog 71=none:=by kernel_rfl
theorem JX:mV Tryz.prog 71=none:=by kernel_rfl
theorem Cz:aj Tryz.prog 71=false:=by kernel_rfl
theorem Cy:aj Tryz.prog 73=true:=by kernel_rfl
theorem Cx:aj Tryz.prog 74=true:=by kernel_rfl
theorem Cw:aj Tryz.prog 75=true:=by kernel_rfl
theorem Cv:aj Tryz.prog 76=true:=by kernel_rfl
theorem Cu:aj Tryz.prog 77=true:=by kernel_rfl
theorem Ct:aj Tryz.prog 80=true:=by kernel_rfl
theorem Cs:aj Tryz.prog 84=true:=by kernel_rfl
theorem NF:sR Tryz.prog 87=none:=by kernel_rfl
theorem JW:mV Tryz.prog 87=some .same:=by kernel_rfl
theorem Cr:aj Tryz.prog 87=false:=by kernel_rfl
theorem Cq:aj Tryz.prog 88=true:=by kernel_rfl
theorem Cp:aj Tryz.prog 89=true:=by kernel_rfl
theorem Co:aj Tryz.prog 90=true:=by kernel_rfl
theorem Cn:aj Tryz.prog 91=true:=by kernel_rfl
theorem Cm:aj Tryz.prog 92=true:=by kernel_rfl
theorem Cj:aj Tryz.prog 93=true:=by kernel_rfl
theorem Ci:aj Tryz.prog 94=true:=by kernel_rfl
theorem Ch:aj Tryz.prog 95=true:=by kernel_rfl
theorem Cg:aj Tryz.prog 96=true:=by kernel_rfl
theorem Cf:aj Tryz.prog 97=true:=by kernel_rfl
theorem Ce:aj Tryz.prog 98=true:=by kernel_rfl
theorem Cd:aj Tryz.prog 99=true:=by kernel_rfl
theorem AH:aj Tryz.prog 100=true:=by kernel_rfl
theorem AG:aj Tryz.prog 105=true:=by kernel_rfl
theorem AF:aj Tryz.prog 106=true:=by kernel_rfl
theorem AE:aj Tryz.prog 107=true:=by kernel_rfl
theorem AD:aj Tryz.prog 108=true:=by kernel_rfl
theorem AB:aj Tryz.prog 109=true:=by kernel_rfl
theorem AA:aj Tryz.prog 110=true:=by kernel_rfl
theorem Az:aj Tryz.prog 111=true:=by kernel_rfl
theorem Ay:aj Tryz.prog 114=true:=by kernel_rfl
theorem Aw:aj Tryz.prog 116=true:=by kernel_rfl
theorem Av:aj Tryz.prog 120=true:=by kernel_rfl
theorem Au:aj Tryz.prog 121=true:=by kernel_rfl
theorem As:aj Tryz.prog 122=true:=by kernel_rfl
theorem Ar:aj Tryz.prog 123=true:=by kernel_rfl
theorem Aq:aj Tryz.prog 124=true:=by kernel_rfl
theorem Ap:aj Tryz.prog 125=true:=by kernel_rfl
theorem Ao:aj Tryz.prog 126=true:=by kernel_rfl
theorem Am:aj Tryz.prog 129=true:=by kernel_rfl
theorem Al:aj Tryz.prog 130=true:=by kernel_rfl
theorem Ak:aj Tryz.prog 132=true:=by kernel_rfl
theorem Aj:aj Tryz.prog 133=true:=by kernel_rfl
theorem Ai:aj Tryz.prog 142=true:=by kernel_rfl
theorem Ah:aj Tryz.prog 145=true:=by kernel_rfl
theorem Ag:aj Tryz.prog 146=true:=by kernel_rfl
theorem Af:aj Tryz.prog 147=true:=by kernel_rfl
theorem Ae:aj Tryz.prog 148=true:=by kernel_rfl
theorem Ad:aj Tryz.prog 149=true:=by kernel_rfl
theorem JV:sR Tryz.prog 150=some 5:=by kernel_rfl
theorem Ac:aj Tryz.prog 150=false:=by kernel_rfl
theorem Ab:aj Tryz.prog 151=true:=by kernel_rfl
theorem Aa:aj Tryz.prog 153=true:=by kernel_rfl
theorem z8:aj Tryz.prog 155=true:=by kernel_rfl
theorem z7:aj Tryz.prog 159=true:=by kernel_rfl
theorem z6:aj Tryz.prog 160=true:=by kernel_rfl
theorem zZ:aj Tryz.prog 161=true:=by kernel_rfl
theorem zY:aj Tryz.prog 165=true:=by kernel_rfl
theorem JU:sR Tryz.prog 166=none:=by kernel_rfl
theorem GQ:mV Tryz.prog 166=some .NI:=by kernel_rfl
theorem zX:aj Tryz.prog 166=false:=by kernel_rfl
theorem JT:sR Tryz.prog 169=none:=by kernel_rfl
theorem GP:mV Tryz.prog 169=some .Om:=by kernel_rfl
theorem zW:aj Tryz.prog 169=false:=by kernel_rfl
theorem Qn:decide (0 < Tryz.prog.globals.size)=true:=by kernel_rfl
theorem Qm:decide (1 < Tryz.prog.globals.size)=true:=by kernel_rfl
theorem Ql:decide (4 < Tryz.prog.globals.size)=true:=by kernel_rfl
theorem Qk:decide (5 < Tryz.prog.globals.size)=true:=by kernel_rfl
theorem Qj:decide (8 < Tryz.prog.globals.size)=true:=by kernel_rfl
section
variable {H:Hp}
theorem D1 {kd n}:bn Tryz.prog 2 114 (.int kd n) H=some (.int .u64 (IntKind.wrap .u64 n),H):=by simp only [bn,OU,jt]
theorem KR {kd n}:bn Tryz.prog 3 5 (.int kd n) H=some (.int .u8 (IntKind.wrap .u8 n),H):=by simp only [bn,oe,jR]
theorem Hg {kd n}:bn Tryz.prog 3 25 (.int kd n) H=some (.int .u32 (IntKind.wrap .u32 n),H):=by simp only [bn,oe,kj]
theorem D0 {kd n}:bn Tryz.prog 3 114 (.int kd n) H=some (.int .u64 (IntKind.wrap .u64 n),H):=by simp only [bn,oe,jt]
theorem DZ {kd n}:bn Tryz.prog 3 118 (.int kd n) H=some (.int .u64 (IntKind.wrap .u64 n),H):=by simp only [bn,oe,EG]
theorem KQ {kd n}:bn Tryz.prog 5 3 (.int kd n) H=some (.int .i64 (IntKind.wrap .i64 n),H):=by simp only [bn,jR,oe]
theorem Hf {kd n}:bn Tryz.prog 5 25 (.int kd n) H=some (.int .u32 (IntKind.wrap .u32 n),H):=by simp only [bn,jR,kj]
theorem DY {kd n}:bn Tryz.prog 5 114 (.int kd n) H=some (.int .u64 (IntKind.wrap .u64 n),H):=by simp only [bn,jR,jt]
theorem G9 {s}:bn Tryz.prog 9 71 (.str s) H=some (.slice H.length 0 s.length (.op 0),H++[.cells (s.map fun b=>.int .u8 b.toNat) 5 (.op 0 true)]):=by simp only [bn,EA,dr,jR]
theorem Hl {kd n}:bn Tryz.prog 23 3 (.int kd n) H=some (.int .i64 (IntKind.wrap .i64 n),H):=by simp only [bn,vF,oe]
theorem D5 {kd n}:bn Tryz.prog 23 25 (.int kd n) H=some (.int .u32 (IntKind.wrap .u32 n),H):=by simp only [bn,vF,kj]
theorem D4 {s}:bn Tryz.prog 24 71 (.str s) H=some (.slice H.length 0 s.length (.op 0),H++[.cells (s.map fun b=>.int .u8 b.toNat) 5 (.op 0 true)]):=by simp only [bn,vE,dr,jR]
theorem Hj {kd n}:bn Tryz.prog 25 3 (.int kd n) H=some (.int .i64 (IntKind.wrap .i64 n),H):=by simp only [bn,kj,oe]
theorem Hi {kd n}:bn Tryz.prog 25 5 (.int kd n) H=some (.int .u8 (IntKind.wrap .u8 n),H):=by simp only [bn,kj,jR]
theorem D3 {kd n}:bn Tryz.prog 25 23 (.int kd n) H=some (.int .u16 (IntKind.wrap .u16 n),H):=by simp only [bn,kj,vF]
theorem A6 {kd n}:bn Tryz.prog 25 114 (.int kd n) H=some (.int .u64 (IntKind.wrap .u64 n),H):=by simp only [bn,kj,jt]
theorem vk {p o n c}:bn Tryz.prog 71 9 (.slice p o n c) H=(rd H p o n).bind fun c=>(bn.bytesOf c).map fun s=>(.str s,H):=by simp only [bn,dr,EA,jR]
theorem tA:bn Tryz.prog 71 9 .aJ H=some (.str [],H):=by simp only [bn,dr,EA,jR]
theorem tB {p o n c}:bn Tryz.prog 71 24 (.slice p o n c) H=(rd H p o n).bind fun c=>(bn.bytesOf c).map fun s=>(.str s,H):=by simp only [bn,dr,vE,jR]
theorem A4:bn Tryz.prog 71 24 .aJ H=some (.str [],H):=by simp only [bn,dr,vE,jR]
theorem D7 {kd n}:bn Tryz.prog 114 3 (.int kd n) H=some (.int .i64 (IntKind.wrap .i64 n),H):=by simp only [bn,jt,oe]
theorem D6 {kd n}:bn Tryz.prog 114 5 (.int kd n) H=some (.int .u8 (IntKind.wrap .u8 n),H):=by simp only [bn,jt,jR]
theorem A8 {kd n}:bn Tryz.prog 114 25 (.int kd n) H=some (.int .u32 (IntKind.wrap .u32 n),H):=by simp only [bn,jt,kj]
end
attribute [go_sem] OU oe L5 Pr Eu L4 Pq LV RJ jR rm Pp js
attribute [go_sem] EA L0 Po nX MA
attribute [go_sem] Iv BA vF Im Mv xJ vE Il Mt kj Ik Ms nh Ij Mr
attribute [go_sem] HV IL HG
attribute [go_sem] Pn Bz Ii Mq nZ nj QI yN yM yL yK
attribute [go_sem] Bx Ih Mp nY ni QH yJ yI yH yG yD rO Ig Mo jO jf QG yC yB Ie Mn HU
attribute [go_sem] rN Ic Mm IK HF
attribute [go_sem] jF Ib Mk IJ Bn Is xI rT yA
attribute [go_sem] yz yy yu yq yp ym yj Ir Ia Mj rL rS yh yg yf ye Bw H9
attribute [go_sem] xH rR yd yc Iq H8 Mi rK rQ ya x9 Bv H7 Mh
attribute [go_sem] dr H6 Mg II jE xO HT x8 x7 vD Mf
attribute [go_sem] je
attribute [go_sem] HZ Me HR IG e7 vC IF HE pH HY Mc IE HD
attribute [go_sem] Ip HX xG rP x6 xZ xY xX xV xU xT xS
attribute [go_sem] jt IB Ma FM L9 FL EG vS vR vQ
attribute [go_sem] L8 vK
attribute [go_sem] vJ
attribute [go_sem] pF lB vP vO vN vI vH
attribute [go_sem] EF
attribute [go_sem] L7 FK
attribute [go_sem] vG EE
attribute [go_sem] ED L6 FJ
attribute [go_sem] EC uq qD
attribute [go_sem] EB
attribute [go_sem] DC DB DA Dz Dy Dx Dw Dv Du Dr Dq Dp Dn Dm Dl Dk Dj Di Dh Dg Df De Dd Da C9
attribute [go_sem] C8 C7 C6 C5 C4 C3 C2 C1 C0 CZ CY CX CW CV CU CT CS CR CQ CP CO CN CM CL CK CJ CI CH CG CF CE CD CC CB CA NG JX Cz Cy
attribute [go_sem] Cx Cw Cv Cu Ct Cs NF JW Cr Cq Cp Co Cn Cm Cj Ci Ch Cg Cf Ce Cd AH AG AF AE AD AB AA Az
attribute [go_sem] Ay Aw Av Au As Ar Aq Ap Ao Am Al Ak Aj Ai Ah Ag Af Ae Ad JV Ac
attribute [go_sem] Ab Aa z8 z7 z6 zZ zY JU GQ zX JT GP zW
attribute [go_sem] Qn Qm Ql
attribute [go_sem] Qk Qj D1 KR Hg D0 DZ KQ Hf DY G9 Hl D5 D4 Hj Hi D3 A6 vk tA tB D7 D6 A8
end Go.Proofs.YtdppgaphcmhffaaGreatDoor.V
namespace Go.Proofs.YtdppgaphcmhffaaGreatDoor.V
open Go Go.RowKit

inductive Ck where
 | b | i (k:IntKind) | s
section
variable {H:Type} {enc:TypeId × Value→H} {P:Program} {W:World} {base:Nat} {sp:Nat→Bool} {held:Bool}

theorem I1 {P:Program} {fits:TypeId→Bool} {d:Nat} {e:TypeId} {cells off n:Nat} (h:rowAt P fits d e (cells / P.cellsOf e) off n=true):off≤cells:=by
 cases d with
 | zero=>cases h
 | succ d =>
  simp only [rowAt] at h
  by_cases hs:P.cellsOf e=0
  ·rw [if_pos hs] at h; cases h
  ·rw [if_neg hs] at h
   have hm:=Nat.div_add_mod off (P.cellsOf e)
   have hlt:=Nat.mod_lt off (Nat.pos_of_ne_zero hs)
   have hc:=Nat.mul_div_le cells (P.cellsOf e)
   rw [Bool.or_eq_true,Bool.and_eq_true,Bool.and_eq_true,Bool.and_eq_true] at h
   obtain ⟨⟨h1,h2⟩,_⟩ | ⟨h1,_⟩:=h
   ·simp only [beq_iff_eq,decide_eq_true_eq] at h1 h2
    have:P.cellsOf e*(off / P.cellsOf e)≤P.cellsOf e*(cells / P.cellsOf e):=Nat.mul_le_mul_left _ (by omega)
    omega
   ·simp only [decide_eq_true_eq] at h1
    have:P.cellsOf e*(off / P.cellsOf e+1)≤P.cellsOf e*(cells / P.cellsOf e):=Nat.mul_le_mul_left _ (by omega)
    rw [Nat.mul_add,Nat.mul_one] at this
    omega
theorem uS {P:Program}:∀ {d:Nat} {e:TypeId} {cells off:Nat} {u:TypeId} {n:Nat},liesAt P d e (cells / P.cellsOf e) off u n=true→off≤cells
 | 0,_,_,_,_,_,h=>by cases h
 | d+1,e,cells,off,u,n,h=>by
  simp only [liesAt,Bool.or_eq_true] at h
  obtain h | h:=h
  ·exact I1 h
  ·split at h
   ·exact uS h
   ·cases h

def rows:List (List AV)→List AV:=List.flatten

theorem I7 {μ:Mu} {a:Addr} {cap:Nat} {rs:List AV} {vs:List Value} {row:TypeId} {cells:Nat} (hs:a.spot=none) (hv:aA μ rs=some vs) (hc:∀ (j:Nat) (v:Value),vs[j]?=some v→W.cell? (a.add j)=some v)
  (hsh:W.shape? a.block=some (row,cells)) (hle:a.off≤cells):mQ P μ W ⟨a.block,a.off,cap⟩ (.cells rs row .ro):=by
 unfold World.shape? at hsh
 split at hsh
 ·rename_i cc el fz hb
  simp only [Option.some.injEq,Prod.mk.injEq] at hsh
  obtain ⟨rfl,rfl⟩:=hsh
  have hcell:∀ (j:Nat) (v:Value),vs[j]?=some v→cc[a.off+j]?=some v:=by
   intro j v hj
   have h1:=hc j v hj
   have hblk:(a.add j).block=a.block:=by unfold Addr.add; split <;> rfl
   have hsp:(a.add j).spot=none:=by unfold Addr.add; split; exact hs; rfl
   have hoff:(a.add j).off=a.off+j:=by unfold Addr.add; split; omega; rfl
   unfold World.cell? at h1
   rw [hblk,hb,hoff,hsp] at h1
   simpa using h1
  refine ⟨cc,fz,vs,hb,hv,?_,hcell,trivial⟩
  rw [← aZ hv]
  show a.off+vs.length≤cc.size
  by_cases hz:vs.length=0
  ·omega
  ·have:=hcell (vs.length - 1) vs[vs.length - 1] (List.getElem?_eq_getElem (by omega))
   have:=(Array.getElem?_eq_some_iff.1 this).1
   omega
 ·cases hsh

def start (W:World):Gh:=⟨(· < W.heap.size),W,fun _=>False,([],false)⟩
theorem bf.ro {g:Gh} {μ:Mu} {Hh:Hp} (h:bf P g μ Hh W) (hno:∀ x ∈ Hh,apart x=false) {l:Loc} {c:List AV} {e:TypeId} (hl:l.blk < W.heap.size) (hx:mQ P μ W l (.cells c e .ro)) :
  bf P g (upd μ Hh.length l) (Hh++[.cells c e .ro]) W where
 dom:=fun b l' e=>by
  by_cases hb:b=Hh.length
  ·subst hb; simp
  ·rw [bp _ _ hb] at e
   have:=h.dom b l' e
   simp; omega
 eM:=fun i hi=>by
  obtain ⟨c,hc⟩:=h.eM i hi
  exact ⟨c,h.dG _ _ _ hc⟩
 lt:=fun b l' e=>by
  by_cases hb:b=Hh.length
  ·subst hb; rw [bK] at e; cases e; exact hl
  ·rw [bp _ _ hb] at e; exact h.lt b l' e
 blk:=fun b l' x e e'=>by
  rw [eN] at e'
  by_cases hb:b=Hh.length
  ·subst hb
   rw [bK] at e
   rw [if_pos rfl] at e'
   cases e; cases e'
   exact hx.mono (h.dG _) (fun _=>rfl)
  ·rw [bp _ _ hb] at e
   rw [if_neg hb] at e'
   exact (h.blk b l' x e e').mono (h.dG _) (fun _=>rfl)
 sep:=fun b b' l1 l2 x x' hne e1 e2 hx1 hx2 hw hv=>by
  exfalso
  rw [eN] at hx1
  split at hx1
  ·cases hx1; cases hw
  ·rw [hno x (List.mem_of_getElem? hx1)] at hw; cases hw
 own:=fun b l1 x e1 hx1 hw=>by
  exfalso
  rw [eN] at hx1
  split at hx1
  ·cases hx1; cases hw
  ·have:=xB hw; rw [hno x (List.mem_of_getElem? hx1)] at this; cases this
 old:=h.old
 os:=h.os
 tape:=h.tape
 output:=h.output
 size:=h.size
theorem yQ {μ:Mu} {Hh:Hp} {w':World} (h:bf P (start W) μ Hh w'):Below W.heap.size W w' :=
 ⟨h.os,h.tape,h.output,h.size,fun k hk=>(h.old k hk).2⟩
theorem K0 {f:FuncId} {args:List AV} {Hh:Hp} {q:AV × Hp × Ef} {g:Gh} {μ:Mu} {vs:List Value} (hf:aj P f=true) (h:ag P f args Hh (fun r=>r=q)) (hr:bf P g μ Hh W) (hv:aA μ args=some vs) :
  Calls P f vs.toArray W (fun e w'=>∃ μ' v',e=.returned v'∧Ok P g μ Hh q μ' v' w'):=by
 obtain ⟨n,r,hn,rfl⟩:=h
 have hlt:f < P.funcs.size:=by
  unfold aj at hf
  split at hf
  ·rename_i fn hfn; exact (Array.getElem?_eq_some_iff.1 hfn).1
  ·cases hf
 exact (QE P n).fn f args Hh r hlt hn g μ W vs hr hv
end
section
variable {H:Type} {enc:TypeId × Value→H} {P:Program} {W:World} {base:Nat} {sp:Nat→Bool} {held:Bool}

theorem gS {n:String} {g:Nat} {cs:Array Value} (hg:P.globalNamed n=some g) (h:W.var? P n=some cs):∃ e fr,W.heap[g]?=some (.cells cs e fr):=by
 unfold World.var? at h
 rw [hg] at h
 simp only [Option.bind_some] at h
 split at h
 ·rename_i c e fr hb
  cases h
  exact ⟨e,fr,hb⟩
 ·cases h
theorem fq {μ:Mu} {g:Nat} {cs:Array Value} {e:TypeId} {fr:Nat × Nat} {vs:List AV} (hb:W.heap[g]?=some (.cells cs e fr)) (hv:aA μ vs=some cs.toList):mQ P μ W ⟨g,0,0⟩ (.cells vs e .ro):=by
 refine ⟨cs,fr,cs.toList,hb,hv,?_,fun i v hi=>?_,trivial⟩
 ·have:=aZ hv; simp only [Array.length_toList] at this; show 0+vs.length≤_; omega
 ·simpa using hi

theorem yS {n:Nat} (hn:P.globals.size=n) (h:W.ShapedOpen P) (hz:((((begin P (fun _ _=>0) default).world.heap)[n - 1]?).bind Obj.row?).isSome=true):n≤W.heap.size:=by
 by_cases h0:n=0
 ·omega
 ·obtain ⟨⟨z,t⟩,hx⟩:=Option.isSome_iff_exists.1 hz
  obtain ⟨cs,hcs,_⟩:=h.1 (n - 1) z t (by omega) hx
  have:=(Array.getElem?_eq_some_iff.1 hcs).1
  omega

end
end Go.Proofs.YtdppgaphcmhffaaGreatDoor.V
namespace Go.Proofs.YtdppgaphcmhffaaGreatDoor.V
open Go

def aC (n:Nat):UInt8:=if n < 10 then UInt8.ofNat (48+n) else UInt8.ofNat (87+n)
def FN (c:UInt8):List UInt8:=[aC (c.toNat / 16),aC (c.toNat % 16)]
def mO (s:List UInt8):List UInt8:=s.flatMap FN
def bH (n:Nat):List UInt8:=if n < 10 then [aC n] else bH (n / 10)++[aC (n % 10)]
termination_by n
decreasing_by omega
theorem Fe {n:Nat} (h:n < 16):([48,49,50,51,52,53,54,55,56,57,97,98,99,100,101,102]:List UInt8)[n]?=some (aC n):=by
 have:∀ n:Fin 16,([48,49,50,51,52,53,54,55,56,57,97,98,99,100,101,102]:List UInt8)[n.val]?=some (aC n.val):=by decide
 exact this ⟨n,h⟩
theorem NK {n:Nat} (h:n < 16):((([48,49,50,51,52,53,54,55,56,57,97,98,99,100,101,102]:List UInt8).drop n).take 1)=[aC n]:=by
 have:∀ n:Fin 16,((([48,49,50,51,52,53,54,55,56,57,97,98,99,100,101,102]:List UInt8).drop n.val).take 1)=[aC n.val]:=by decide
 exact this ⟨n,h⟩
theorem tw:∀ (n:Nat),n < 100000→(bH n).length≤5:=by
 intro n h
 unfold bH
 split
 ·simp
 rw [List.length_append]
 unfold bH
 split
 ·simp
 rw [List.length_append]
 unfold bH
 split
 ·simp
 rw [List.length_append]
 unfold bH
 split
 ·simp
 rw [List.length_append]
 unfold bH
 rw [if_pos (by omega)]
 simp
theorem lM (s:List UInt8):(mO s).length=2*s.length:=by
 induction s with
 | nil=>rfl
 | cons c s ih=>show (FN c++mO s).length=_; rw [List.length_append,ih,List.length_cons]; show 2+_=_; omega
theorem cA {α:Type} {l:List α} {i:Nat} {a:α} (h:l[i]?=some a):l.take (i+1)=l.take i++[a]:=by
 rw [List.take_add_one,h]; rfl
theorem uX {s:List UInt8} {i:Nat} {c:UInt8} (h:s[i]?=some c):mO (s.take (i+1))=mO (s.take i)++FN c:=by
 rw [cA h]; simp [mO]
theorem uj {s:List UInt8} {i:Nat} {c:UInt8} {p:UInt8→Bool} (h:s[i]?=some c) (ha:(s.take i).all p=true) (hc:p c=true):(s.take (i+1)).all p=true:=by
 rw [cA h,List.all_append,ha]; simp [hc]
theorem Fz {s:List UInt8} {i:Nat} {c:UInt8} {p:UInt8→Bool} (h:s[i]?=some c) (hc:p c=false):s.all p=false:=by
 rw [List.all_eq_false]
 exact ⟨c,List.mem_of_getElem? h,by simp [hc]⟩
def Kn:br→Bool
 | .cells _ e (.op _ _)=>!(e == 5)
 | .dead=>false
 | _=>true
def lu (T:Hp) (j:Nat) (T':Hp):Prop:=T.length≤T'.length∧∀ (i:Nat) x,i≠j→T[i]?=some x→Kn x=true→T'[i]?=some x
theorem lu.refl (T:Hp) (j:Nat):lu T j T:=⟨Nat.le_refl _,fun i x _ h _=>h⟩
theorem lu.trans {T T' T'':Hp} {j:Nat} (h:lu T j T') (h':lu T' j T''):lu T j T'' :=
 ⟨Nat.le_trans h.1 h'.1,fun i x hi hx hf=>h'.2 i x hi (h.2 i x hi hx hf) hf⟩
def Cl (n j:Nat) (e:Ef):Prop:=∃ x,e.es=some x∧n≤x∧x≤n+j∧low n e.ws=none
theorem Cl.cln {n j:Nat} {e:Ef} (h:Cl n j e):clean n e:=by
 obtain ⟨x,h1,h2,h3,h4⟩:=h
 exact ⟨by rw [h1]; simp [low,h2],h4⟩
theorem uN {x:Nat} {o:Option Nat} {n:Nat} (hx:n≤x) (ho:low n o=none):∃ y,eG (some x) o=some y∧n≤y∧y≤x:=by
 cases o with
 | none=>exact ⟨x,rfl,hx,Nat.le_refl _⟩
 | some z =>
  refine ⟨min x z,rfl,?_,Nat.min_le_left _ _⟩
  have:n≤z:=by rw [oG] at ho; exact ho
  omega
theorem pX (a b:Option Nat):eG a b=eG b a:=by
 cases a <;> cases b <;> simp [eG,Nat.min_comm]
theorem Cl.Uu {n j:Nat} {a b:Ef} (h:Cl n j a) (h':clean n b):Cl n j (a.and b):=by
 obtain ⟨x,h1,h2,h3,h4⟩:=h
 obtain ⟨y,y1,y2,y3⟩:=uN (o:=b.es) h2 h'.1
 exact ⟨y,by show eG a.es b.es=_; rw [h1,y1],y2,by omega,oH h4 h'.2⟩
theorem Cl.Eg {n j:Nat} {a b:Ef} (h:clean n a) (h':Cl n j b):Cl n j (a.and b):=by
 obtain ⟨x,h1,h2,h3,h4⟩:=h'
 obtain ⟨y,y1,y2,y3⟩:=uN (o:=a.es) h2 h.1
 exact ⟨y,by show eG a.es b.es=_; rw [pX,h1,y1],y2,by omega,oH h.2 h4⟩
theorem kD {n m:Nat} {o:Option Nat} (h:low n o=none):low n (low m o)=none:=by
 cases o with
 | none=>rfl
 | some x =>
  rw [oG] at h
  by_cases hm:m≤x
  ·simp [low,hm]
  ·simp [low,hm,h]
theorem Cl.leave {n j m:Nat} {e:Ef} (h:Cl n j e) (hj:n+j < m):∃ e',Cl n j e'∧∀ v H,leave m v H e=(v,H,e'):=by
 obtain ⟨x,h1,h2,h3,h4⟩:=h
 have h5:low m e.es=some x:=by
  have:¬ m≤x:=by omega
  rw [h1]; simp [low,this]
 refine ⟨⟨low m e.es,low m e.ws⟩,⟨x,h5,h2,h3,kD h4⟩,fun v H=>?_⟩
 unfold V.leave
 rw [if_neg (by rw [h5]; simp)]
theorem ai {T:Hp} {j:Nat} {x:br} (h:T[j]?=some x):j < T.length:=(List.getElem?_eq_some_iff.1 h).1
theorem eX {T:Hp} {j:Nat} {x:br} (h:T[j]?=some x):T.set j x=T:=by
 apply List.ext_getElem?
 intro i
 by_cases hi:j=i
 ·subst hi; rw [List.getElem?_set_self (ai h),h]
 ·rw [List.getElem?_set_ne hi]
theorem lse {T l:Hp} {j:Nat} {v:br}:(T.set j v++l)[T.length]?=l[0]?:=by
 rw [List.getElem?_append_right (by simp)]; simp
attribute [go_sem] lse
theorem dR {n m:Nat} (h:m < n):low n (some m)=some m:=by
 have:¬ n≤m:=by omega
 simp [low,this]
theorem JG {n:Nat} {v:AV} {H:Hp} {e:Ef} {x:Nat} (h:low n e.es=some x):leave n v H e=(v,H,⟨some x,low n e.ws⟩):=by
 unfold leave; rw [if_neg (by rw [h]; simp),h]
theorem ah {T l:Hp} {i:Nat} {x:br} (h:T[i]?=some x):(T++l)[i]?=some x:=iE h
theorem TQ {kd:IntKind} {a b:Int} (h:decide (b < 0)=false):iq .shr kd a b=some (.int kd (a.fdiv (2 ^ (min b.toNat kd.bits)))):=by
 have:¬ b < 0:=by simpa using h
 simp only [iq]; rw [if_neg this]
theorem TS {kd:IntKind} {a b:Int} (h:decide (b < 0)=false):iq .shl kd a b=some (.int kd (kd.wrap (a*2 ^ (min b.toNat kd.bits)))):=by
 have:¬ b < 0:=by simpa using h
 simp only [iq]; rw [if_neg this]
theorem Li:IntKind.bits .i64=64:=rfl
theorem Ld:IntKind.bits .u64=64:=rfl
theorem OE:IntKind.bits .u8=8:=rfl
theorem Lg:IntKind.bits .u16=16:=rfl
theorem Lf:IntKind.bits .u32=32:=rfl
theorem FC {n:Nat} (h:decide (n < 9223372036854775808)=true):IntKind.i64.wrap (no_index (@OfNat.ofNat Int n instOfNat))=@OfNat.ofNat Int n instOfNat:=by
 have h:n < 9223372036854775808:=of_decide_eq_true h
 show IntKind.i64.wrap (n:Int)=(n:Int)
 exact wrap_i64 (by omega)
theorem FB {n:Nat} (h:decide (n < 18446744073709551616)=true):IntKind.u64.wrap (no_index (@OfNat.ofNat Int n instOfNat))=@OfNat.ofNat Int n instOfNat:=by
 have h:n < 18446744073709551616:=of_decide_eq_true h
 show IntKind.u64.wrap (n:Int)=(n:Int)
 exact wrap_u64 (by omega)
attribute [go_sem] FC FB
attribute [go_sem] TQ TS Li Ld OE Lg Lf

theorem ofNat_le {n m:Nat} (h:n≤m) (hm:m < 256):(UInt8.ofNat n).toNat=n:=by
 have:n < 256:=by omega
 exact UInt8.toNat_ofNat_of_lt' (by simpa using this)
theorem Lj {P:Program} {t:TypeId} {b o n:Nat} {c:Cap} {kd:IntKind} {i:Int} {f:AV→Prop} (h:(match tsh P t with | some (.slice _ _ _)=>true | _=>false)=true) :
  aq (aO P t (.slice b o n c) (.int kd i)) f=aq (tsh P t) fun sh=>(0≤i∧i < n)∧f (.ptr b (o+i.toNat*shZ sh)):=by
 split at h
 ·rename_i e z w he
  simp only [aO,he,eD,aD,shZ]
 ·cases h
theorem Ll {P:Program} {t:TypeId} {b o:Nat} {kd:IntKind} {i:Int} {f:AV→Prop} (h:(match tsh P t with | some (.array _ _ _)=>true | _=>false)=true) :
  aq (aO P t (.ptr b o) (.int kd i)) f=aq (tsh P t) fun sh=>(0≤i∧i < (shA sh).1)∧f (.ptr b (o+i.toNat*(shA sh).2)):=by
 split at h
 ·rename_i e z w he
  simp only [aO,he,eD,aD,shA]
 ·cases h
attribute [go_sem ↓] Lj Ll
theorem Hr:bn.bytesOf []=some []:=rfl
theorem Hs {b:UInt8} {r:List AV}:bn.bytesOf (.int .u8 (b.toNat:Int)::r)=(bn.bytesOf r).map (b::·):=by
 show (bn.bytesOf r).map (UInt8.ofNat ((b.toNat:Int)).toNat::·)=_
 simp
attribute [go_sem] Hr Hs
theorem cr {n:Nat} {v:AV} {H:Hp} {w:Option Nat} (hv:flat v=true) (h:H.length=n):leave n v H ⟨none,w⟩=(v,H,⟨none,low n w⟩):=by
 unfold leave
 have hlo:low n none=none:=rfl
 simp only [hlo,hv,and_self,if_true]
 rw [List.take_of_length_le (by omega)]
theorem LL {a:Nat}:Ef.and ⟨none,some a⟩ ⟨none,some a⟩=⟨none,some a⟩:=by simp [Ef.and,eG]
attribute [go_sem] LL
theorem Pu {a b:List UInt8} {H:Hp} (h:a=b):(AV.str a,H,z0)=(AV.str b,H,z0):=by rw [h]
theorem cK {α:Type} {P:Program} {f:FuncId} {args:List AV} {H:Hp} (p:α→Prop) (g:α→AV × Hp × Ef) (h:ag P f args H (fun q=>∃ b,p b∧q=g b)):∃ b,p b∧∀ k,ag P f args H k=k (g b):=by
 obtain ⟨r,hr⟩:=Bh (fun r:{b:α // p b}=>g r.1) (bI h (fun q ⟨b,hb,hq⟩=>⟨⟨b,hb⟩,hq⟩))
 exact ⟨r.1,r.2,hr⟩
def xo (P:Program) (Q:Ex→St→Prop) (k:List It) (I:St→Prop):Ex→St→Prop
 | .normal,s=>I s
 | .exit i,s=>aI P Q i k s
 | ex,s=>gF P Q k ex s
section
variable {P:Program} {Q:Ex→St→Prop} {k:List It} {σ:List AV} {H:Hp} {e:Ef} {I:St→Prop}
instance [hc:Calm Q]:Calm (xo P Q k I):=⟨fun s h=>hc.no s ((fN (P:=P) (Q:=Q) k s) ▸ h)⟩
theorem Q7:xo P Q k I .pan ⟨σ,H,e⟩=Q .pan ⟨σ,H,e⟩:=fN k _
theorem Q8:xo P Q k I .normal ⟨σ,H,e⟩=I ⟨σ,H,e⟩:=rfl
theorem Q9 {i:Nat}:xo P Q k I (.exit i) ⟨σ,H,e⟩=aI P Q i k ⟨σ,H,e⟩:=rfl
theorem Q6:xo P Q k I .ret ⟨σ,H,e⟩=Q .ret ⟨σ,H,e⟩:=gY k _
attribute [go_sem ↓] Q8 Q9 Q6 Q7
theorem qd {c:Code} {s:St} (I:St→Prop) (h:go P (xo P Q k I) [.code c] s) (h2:∀ s,I s→go P Q k s):go P Q (.code c::k) s:=by
 refine lQ (Q:=xo P Q k I) h (fun ex s hq=>?_)
 cases ex with
 | normal=>exact h2 s hq
 | exit i=>exact hq
 | goto l=>exact hq
 | ret=>exact hq
 | pan=>exact hq
theorem qn {b:Bool} {a a':Code} {s:St} (I:St→Prop) (h:b=true→go P (xo P Q k I) [.code a] s) (h':b=false→go P (xo P Q k I) [.code a'] s) (h2:∀ s,I s→go P Q k s) :
  tC (some (.bool b)) (go P Q (.code a::k) s) (go P Q (.code a'::k) s) :=
 A9 (fun hb=>qd I (h hb) h2) (fun hb=>qd I (h' hb) h2)
end
attribute [local irreducible] go bw goD opK ag bA aF aI bE
theorem iH {a b:List UInt8} {m n:Nat} (ha:a.length≤m) (hb:b.length≤n) (h:m+n≤9223372036854775807):qV .add a b=some (.str (a++b)):=by
 rw [OV,if_pos (by show _≤9223372036854775807; omega)]
theorem vA (a b:UInt8):((a.toNat:Int) == (b.toNat:Int))=decide (a=b):=by
 rw [Bool.eq_iff_iff]; simp only [beq_iff_eq,decide_eq_true_eq]
 constructor
 ·intro h; exact UInt8.toNat.inj (by omega)
 ·rintro rfl; rfl
theorem Jj {v:AV} {H:Hp} {x:br} {e:Ef}:quiet (v,H++[x],e) H=false:=by simp [quiet]
theorem Ji {v:AV} {H T:Hp} {x:br} {e:Ef}:quiet (v,H++(T++[x]),e) (H++T)=false:=by simp [quiet]
attribute [go_sem] Jj Ji
def b8 (n:Nat) (T:Hp) (v:AV) (e z len:Nat) (cs:List AV):Prop:=(v=.aJ∧cs=[]∧len=0)∨(0 < len∧cs.length=len*z∧∃ m,v=.slice (n+m) 0 len (.op 0)∧T[m]?=some (.cells cs e (.op 0 false)))
theorem b8.scl {n:Nat} {T:Hp} {v:AV} {e z len:Nat} {cs:List AV} (h:b8 n T v e z len cs):cM v=true:=by
 obtain ⟨rfl,_⟩ | ⟨_,_,m,rfl,_⟩:=h <;> rfl
theorem b8.more {n:Nat} {T:Hp} {v:AV} {e z len:Nat} {cs:List AV} (h:b8 n T v e z len cs) (l:Hp):b8 n (T++l) v e z len cs:=by
 obtain h | ⟨h1,h2,m,rfl,hm⟩:=h
 ·exact .inl h
 ·exact .inr ⟨h1,h2,m,rfl,ah hm⟩
theorem b8.set {n:Nat} {T:Hp} {v:AV} {e z len:Nat} {cs:List AV} (h:b8 n T v e z len cs) {j:Nat} {c:List AV} {e':TypeId} {x:br} (hj:T[j]?=some (.cells c e' .rw)):b8 n (T.set j x) v e z len cs:=by
 obtain h | ⟨h1,h2,m,rfl,hm⟩:=h
 ·exact .inl h
 ·refine .inr ⟨h1,h2,m,rfl,?_⟩
  have:j≠m:=by rintro rfl; rw [hj] at hm; cases hm
  rw [List.getElem?_set_ne this]; exact hm
theorem b8.Ee {P:Program} {H T:Hp} {v:AV} {e z b len:Nat} {cs:List AV} (h:b8 H.length T v e z len cs) (hz:decide (0 < z)=true) (hk:zok P e z=true) (xs:List AV) (q:Nat) (hq:0 < q) (hx:xs.length=q*z) (hsc:xs.all V.cM=true) (hf:fits (len+q) b=true) :
  ∃ v' T2 e2,(∀ kk,aF (de P (.slice e z b) v (xs,q) (H++T)) kk=kk (v',H++T2,e2))∧T2.length=T.length+1∧clean H.length e2∧(∀ (i:Nat) x,T[i]?=some x→(∀ c fz st,x≠.cells c e (.op fz st))→T2[i]?=some x)∧b8 H.length T2 v' e z (len+q) (cs++xs)∧flat v'=false∧bJ v'=[v']∧∀ v e,quiet (v,H++T2,e) (H++T)=false:=by
 have hz':0 < z:=by simpa using hz
 obtain ⟨rfl,rfl,rfl⟩ | ⟨hpos,hcl,m,rfl,hm⟩:=h
 ·refine ⟨.slice (H.length+T.length) 0 q (.op 0),T++[.cells xs e (.op 0 false)],z0,fun kk=>?_,by simp,⟨rfl,rfl⟩,fun i x hx _=>ah hx,.inr ⟨by omega,by simpa using hx,T.length,by simp,by simp⟩,by simp only [flat],rfl,fun v e=>by simp [quiet]⟩
  rw [dV hz hk]
  have hd:decide (q=0)=false:=by simp; omega
  have hf:fits q b=true:=by simpa using hf
  simp only [hd,cq,hf,true_and,List.length_append,List.append_assoc]
 ·have hlt:=ai hm
  have hg:(H++T)[H.length+m]?=some (.cells cs e (.op 0 false)):=by rw [bZ,hm]
  refine ⟨.slice (H.length+T.length) 0 (len+q) (.op 0),T.set m .dead++[.cells (cs++xs) e (.op 0 false)],⟨none,some (H.length+m)⟩,fun kk=>?_,by simp,by simp [clean,low],fun i x hx hf=>?_,.inr ⟨by omega,by rw [List.length_append,hcl,hx,Nat.add_mul],T.length,rfl,by simp⟩,by simp only [flat],rfl,fun v e=>by simp [quiet]⟩
  ·rw [eE hz hk,hg]
   simp only [aD,ic]
   have hqz:0 < q*z:=Nat.mul_pos hq hz'
   have hd:decide (0+(len+q)*z≤cs.length)=false:=by
    rw [hcl,Nat.add_mul]; simp; omega
   have ht:(List.drop 0 cs).take (len*z)++xs=cs++xs:=by
    rw [List.drop_zero,List.take_of_length_le (by rw [hcl]; exact Nat.le_refl _)]
   have hle:0+len*z≤cs.length:=by rw [hcl]; omega
   rw [hd,cq]
   simp only [ht,hf,hsc,hle,gB,List.length_append,List.append_assoc,Nat.sub_self,Nat.zero_le,true_and,and_true,Nat.zero_mul]
  ·have hne:m≠i:=by
    rintro rfl
    rw [hm] at hx; cases hx; exact absurd rfl (hf _ _ _)
   rw [ah (x:=x)]
   rw [List.getElem?_set_ne hne]; exact hx
theorem fM {α:Type} {s:List α} {i:Nat} {c:α} (h:s[i]?=some c):s.drop i=c::s.drop (i+1):=by
 obtain ⟨hi,rfl⟩:=List.getElem?_eq_some_iff.1 h
 exact List.drop_eq_getElem_cons hi
def strs (R:List (List UInt8)):List AV:=R.map .str
attribute [go_sem] Nat.mul_one
theorem oh {R:List (List UInt8)}:(strs R).length=R.length:=by simp [strs]
theorem FT {A:List (List UInt8)} {k:Nat} {q:List UInt8} (h:A[k]?=some q):strs (A.take k)++[.str q]=strs (A.take (k+1)):=by
 rw [cA h]; simp [strs]
theorem Mx {A:List (List UInt8)} {i:Nat} {p:List UInt8} (h:A[i]?=some p):(strs A)[i]?=some (.str p):=by simp [strs,h]
theorem iM {A:List (List UInt8)} {i:Nat} {p:List UInt8} (h:A[i]?=some p) (e:TypeId) (k:Kd):ldC i 1 false (.cells (strs A) e k)=some (.str p):=by
 rw [sH]; exact Mx h
end Go.Proofs.YtdppgaphcmhffaaGreatDoor.V
namespace Go.Proofs.YtdppgaphcmhffaaGreatDoor.V
open Go
attribute [local irreducible] go bw goD opK ag bA aF aI bE

def GL:Nat→List UInt8→Option (List (List UInt8))
 | 0,_=>none
 | _+1,[]=>none
 | n+1,k::t=>if k.toNat=0 then (if t.length=0 then some [] else none) else if 63 < k.toNat∨t.length < k.toNat then none else (GL n (t.drop k.toNat)).map (t.take k.toNat::·)
theorem uU:∀ (n m:Nat) (s:List UInt8),s.length < n→s.length < m→GL n s=GL m s
 | 0,_,s,h,_=>by omega
 | _+1,0,s,_,h=>by omega
 | n+1,m+1,[],_,_=>rfl
 | n+1,m+1,k::t,h,h'=>by
  simp only [GL]
  simp only [List.length_cons] at h h'
  rw [uU n m (t.drop k.toNat) (by rw [List.length_drop]; omega) (by rw [List.length_drop]; omega)]
def lab (s:List UInt8):Option (List (List UInt8)):=GL (s.length+1) s
theorem wD:lab []=none:=rfl
theorem fU (k:UInt8) (t:List UInt8):lab (k::t)=if k.toNat=0 then (if t.length=0 then some [] else none) else if 63 < k.toNat∨t.length < k.toNat then none else (lab (t.drop k.toNat)).map (t.take k.toNat::·):=by
 unfold lab
 rw [List.length_cons,GL,uU (t.length+1) _ (t.drop k.toNat) (by rw [List.length_drop]; omega) (Nat.lt_succ_self _)]
def nm (s:List UInt8):Option (List (List UInt8)):=if 255 < s.length then none else lab s
def tot (L:List (List UInt8)):Nat:=(L.map fun l=>1+l.length).sum
def zj:Nat→List (List UInt8)→List Nat
 | _,[]=>[]
 | a,l::L=>a::zj (a+(1+l.length)) L
def oy (L:List (List UInt8)):List AV:=(zj 0 L).map fun n=>.int .i64 (n:Nat)
theorem xQ (L:List (List UInt8)) (l:List UInt8):tot (L++[l])=tot L+(1+l.length):=by simp [tot]
theorem uK:∀ (L:List (List UInt8)) (a:Nat) (l:List UInt8),zj a (L++[l])=zj a L++[a+tot L]
 | [],a,l=>by simp [zj,tot]
 | m::L,a,l=>by
  have:=uK L (a+(1+m.length)) l
  simp only [List.cons_append,zj,this]
  simp [tot]; omega
theorem Gn (L:List (List UInt8)) (l:List UInt8):oy (L++[l])=oy L++[.int .i64 (tot L:Nat)]:=by
 simp only [oy,uK,List.map_append,List.map_cons,List.map_nil,Nat.zero_add]
theorem JI {s:List UInt8} {i:Nat} {c:UInt8} {L1:List (List UInt8)} (hc:s[i]?=some c) (hl:lab s=(lab (s.drop i)).map (L1++·)) :
  (c.toNat=0→lab s=if i+1=s.length then some L1 else none)∧(63 < c.toNat→lab s=none) ∧
  (c.toNat≠0→c.toNat≤63→(s.length < i+(1+c.toNat)∧lab s=none)∨(i+(1+c.toNat)≤s.length∧((s.drop (i+1)).take c.toNat).length=c.toNat∧lab s=(lab (s.drop (i+(1+c.toNat)))).map ((L1++[(s.drop (i+1)).take c.toNat])++·))):=by
 have hi:i < s.length:=(List.getElem?_eq_some_iff.1 hc).1
 rw [fM hc,fU] at hl
 refine ⟨fun h0=>?_,fun h=>?_,fun h0 h1=>?_⟩
 ·rw [if_pos h0] at hl
  rw [hl,List.length_drop]
  by_cases h:i+1=s.length
  ·rw [if_pos h,if_pos (by omega)]; simp
  ·rw [if_neg h,if_neg (by omega)]; rfl
 ·rw [if_neg (by omega),if_pos (.inl h)] at hl
  exact hl
 ·rw [if_neg h0,List.length_drop] at hl
  by_cases h:s.length < i+(1+c.toNat)
  ·rw [if_pos (by omega)] at hl
   exact .inl ⟨h,hl⟩
  ·rw [if_neg (by omega)] at hl
   refine .inr ⟨by omega,by rw [List.length_take,List.length_drop]; omega,?_⟩
   rw [hl,List.drop_drop,show i+1+c.toNat=i+(1+c.toNat) by omega,Option.map_map]
   congr 1
   funext x
   simp
theorem Nr {s:List UInt8} {i:Nat} {L1:List (List UInt8)} (hi:i=s.length) (hl:lab s=(lab (s.drop i)).map (L1++·)):lab s=none:=by
 rw [hl,hi,List.drop_length,wD]; rfl

theorem D9 (n:Int) (H:Hp):aP Tryz.prog 88 1 [(0,.int .i64 n)] H=some (.slice H.length 0 1 (.ex 1),H++[.cells [.int .i64 n] 3 .rw]):=by
 simp only [aP,vC,Eu,Option.bind_some]
 rfl

theorem qN (s:List UInt8) (H) (hs:s.length≤cn):∃ b:AV × Hp,(∀ L,nm s=some L→b8 H.length b.2 b.1 3 1 L.length (oy L)) ∧
  ∀ k,ag Tryz.prog 39 [.str s] H k=k (.tuple [b.1,.bool (nm s).isSome],H++b.2,z0):=by
 refine cK (fun b:AV × Hp=>∀ L,nm s=some L→b8 H.length b.2 b.1 3 1 L.length (oy L)) (fun b=>(.tuple [b.1,.bool (nm s).isSome],H++b.2,z0)) ?_
 refine aa (n:=40) (rs:=[.tmp 2,.tmp 3]) Tryz.func39 rfl rfl rfl ?_
 intro σ hl ha
 have h0:=ha 0 (by simp)
 clear ha
 have hs:s.length≤9223372036854775807:=hs
 simp only [Option.getD_some,List.getElem?_cons_zero,List.getElem?_cons_succ] at h0
 by_cases hbig:255 < s.length
 ·have g:decide ((s.length:Int) > 255)=true:=by simp; omega
  have hn:nm s=none:=if_pos hbig
  simp only [go_sem,simprocAttr,hl,h0,g]
  exact ⟨(.aJ,[]),by simp [hn],by simp [hn]⟩
 have g:decide ((s.length:Int) > 255)=false:=by simp; omega
 have hnm:nm s=lab s:=if_neg hbig
 simp only [go_sem,simprocAttr,hl,h0,g]
 rw [hnm]
 refine aW (fun n st=>∃ σ i L1 v T e,n+i=400∧i < 320∧i=tot L1∧((i≤s.length∧lab s=(lab (s.drop i)).map (L1++·))∨(s.length < i∧lab s=none))∧L1.length≤i∧b8 H.length T v 3 1 L1.length (oy L1)∧st=⟨σ,H++T,e⟩∧clean H.length e∧σ.length=40∧fr σ 0=.str s∧fr σ 4=v∧fr σ 5=.int .i64 (i:Nat)) 400
  ⟨_,0,[],.aJ,[],_,rfl,by omega,rfl,.inl ⟨Nat.zero_le _,by simp⟩,Nat.le_refl _,.inl ⟨rfl,rfl,rfl⟩,by rw [List.append_nil],⟨rfl,rfl⟩,by simp only [go_sem,simprocAttr,hl],by simp only [go_sem,simprocAttr,hl,h0],by simp only [go_sem,simprocAttr,hl],by simp only [go_sem,simprocAttr,hl]⟩ ?_
 rintro n _ ⟨σ,i,L1,v,T,e,hn,hi,hit,hm,hLi,hv,rfl,he,hl,h0,h4,h5⟩
 have fin:∀ b:Bool,(∀ L,lab s=some L→L=L1∧b=true)→(lab s=none→b=false) →
   ∃ b1:AV × Hp,(∀ L,lab s=some L→b8 H.length b1.2 b1.1 3 1 L.length (oy L))∧leave H.length (.tuple [v,.bool b]) (H++T) e=(.tuple [b1.1,.bool (lab s).isSome],H++b1.2,z0):=by
  intro b hb1 hb2
  have hb:b=(lab s).isSome:=by
   cases hs:lab s with
   | none=>exact hb2 hs
   | some L=>exact (hb1 L hs).2
  subst hb
  obtain ⟨rfl,h2,h3⟩ | ⟨h1,h2,m,rfl,h3⟩:=hv
  ·refine ⟨(.aJ,[]),fun L hL=>.inl ?_,?_⟩
   ·obtain ⟨rfl,_⟩:=hb1 L hL
    exact ⟨rfl,h2,h3⟩
   ·rw [aY rfl he,List.append_nil]
  ·refine ⟨(.slice (H.length+m) 0 L1.length (.op 0),T),fun L hL=>.inr ?_,?_⟩
   ·obtain ⟨rfl,_⟩:=hb1 L hL
    exact ⟨h1,h2,m,rfl,h3⟩
   ·rw [gj (by simp [flat,bM]) he]
 by_cases hlt:i < s.length
 ·obtain ⟨c,hc⟩:∃ c,s[i]?=some c:=⟨_,List.getElem?_eq_getElem hlt⟩
  have hlb:lab s=(lab (s.drop i)).map (L1++·):=by
   rcases hm with ⟨_,h⟩ | ⟨h,_⟩
   ·exact h
   ·omega
  obtain ⟨s0,s1,s2⟩:=JI hc hlb
  have g0:decide ((i:Int) < (s.length:Int))=true:=by simp; omega
  have hcl:=c.toNat_lt
  by_cases hz:c.toNat=0
  ·have g1:((c.toNat:Int) != 0)=false:=by simp; omega
   have w1:IntKind.i64.wrap ((s.length:Int) - 1)=(s.length:Int) - 1:=by rw [wrap_i64 (by omega)]
   simp only [go_sem,simprocAttr,hl,h0,h4,h5,g0,hc,hlt,g1,w1]
   refine fin _ (fun L hL=>?_) (fun hL=>?_)
   ·rw [s0 hz] at hL
    split at hL
    ·rename_i h; cases hL; exact ⟨rfl,by simp; omega⟩
    ·cases hL
   ·rw [s0 hz] at hL
    split at hL
    ·cases hL
    ·rename_i h; simp; omega
  ·have g1:((c.toNat:Int) != 0)=true:=by simp; omega
   by_cases hb:63 < c.toNat
   ·have g2:decide ((c.toNat:Int) > 63)=true:=by simp; omega
    have hN:=s1 hb
    simp only [go_sem,simprocAttr,hl,h0,h4,h5,g0,hc,hlt,g1,g2,he]
    exact ⟨(.aJ,[]),by simp [hN],by simp [hN]⟩
   ·have g2:decide ((c.toNat:Int) > 63)=false:=by simp; omega
    have w0:IntKind.i64.wrap (c.toNat:Int)=(c.toNat:Int):=by rw [wrap_i64 (by omega)]
    have w1:IntKind.i64.wrap (1+(c.toNat:Int))=((1+c.toNat:Nat):Int):=by rw [wrap_i64 (by omega)]; omega
    have w2:IntKind.i64.wrap ((i:Int)+((1+c.toNat:Nat):Int))=((i+(1+c.toNat):Nat):Int):=by rw [wrap_i64 (by omega)]; omega
    have hbs:=D9 (i:Nat)
    obtain ⟨v',T2,e2,happ,_,hcl2,_,hv3,_,_,_⟩:=(hv.more [.cells [.int .i64 (i:Nat)] 3 .rw]).Ee (P:=Tryz.prog) (b:=8) (by decide) HE [.int .i64 (i:Nat)] 1 (by decide) rfl rfl (by simp only [fits,decide_eq_true_eq]; omega)
    simp only [go_sem,simprocAttr,hl,h0,h4,h5,g0,hc,hlt,g1,g2,w0,w1,w2,hbs,happ]
    obtain ⟨ll,hll,hm'⟩:∃ l:List UInt8,l.length=c.toNat∧((i+(1+c.toNat)≤s.length∧lab s=(lab (s.drop (i+(1+c.toNat)))).map ((L1++[l])++·))∨(s.length < i+(1+c.toNat)∧lab s=none)):=by
     rcases s2 hz (by omega) with h | ⟨h1,h2,h3⟩
     ·exact ⟨List.replicate c.toNat 0,by simp,.inr h⟩
     ·exact ⟨_,h2,.inl ⟨h1,h3⟩⟩
    rw [show oy L1++[.int .i64 (i:Nat)]=oy (L1++[ll]) by rw [Gn,hit]] at hv3
    refine ⟨n - (1+c.toNat),by omega,_,i+(1+c.toNat),L1++[ll],v',T2,_,by omega,by omega,by rw [xQ,hll,hit],hm',by simp; omega,by simpa using hv3,rfl,by simp only [go_sem,simprocAttr,he,hcl2],by simp only [go_sem,simprocAttr,hl],by simp only [go_sem,simprocAttr,hl,h0],by simp only [go_sem,simprocAttr,hl],by simp only [go_sem,simprocAttr,hl]⟩
 ·have g0:decide ((i:Int) < (s.length:Int))=false:=by simp; omega
  have hN:lab s=none:=by
   rcases hm with ⟨h,h'⟩ | ⟨_,h⟩
   ·exact Nr (by omega) h'
   ·exact h
  have w1:IntKind.i64.wrap ((s.length:Int) - 1)=(s.length:Int) - 1:=by rw [wrap_i64 (by omega)]
  simp only [go_sem,simprocAttr,hl,h0,h4,h5,hlt,w1]
  refine fin _ (fun L hL=>by rw [hN] at hL; cases hL) (fun _=>by simp; omega)

theorem cW (s:List UInt8) (H k) (hs:s.length≤cn):ag Tryz.prog 19 [.str s] H k=k (.int .i64 (if (nm s).isSome then 0 else 11),H,z0):=by
 obtain ⟨b,_,hb⟩:=qN s H hs
 refine ak (r:=(.int .i64 (if (nm s).isSome then 0 else 11),H,z0)) ?_ k
 refine aa (n:=12) (rs:=[.tmp 2]) Tryz.func19 rfl rfl rfl ?_
 intro σ hl ha
 have h0:=ha 0 (by simp)
 clear ha
 simp only [Option.getD_some,List.getElem?_cons_zero,List.getElem?_cons_succ] at h0
 cases h:(nm s).isSome <;> rw [h] at hb <;> simp only [go_sem,simprocAttr,hl,h0,hb]
theorem cQ (p:List UInt8) (H:Hp):aP Tryz.prog 85 1 [(0,.str p)] H=some (.slice H.length 0 1 (.ex 1),H++[.cells [.str p] 9 .rw]):=by
 simp only [aP,je,nX,Option.bind_some]
 rfl

theorem uF (s:List UInt8) (H) (hs:s.length≤cn):∃ b:AV × Hp,(∀ L,nm s=some L→b8 H.length b.2 b.1 9 1 L.length (strs L)) ∧
  ∀ k,ag Tryz.prog 37 [.str s] H k=k (.tuple [b.1,.bool (nm s).isSome],H++b.2,z0):=by
 refine cK (fun b:AV × Hp=>∀ L,nm s=some L→b8 H.length b.2 b.1 9 1 L.length (strs L)) (fun b=>(.tuple [b.1,.bool (nm s).isSome],H++b.2,z0)) ?_
 refine aa (n:=43) (rs:=[.tmp 2,.tmp 3]) Tryz.func37 rfl rfl rfl ?_
 intro σ hl ha
 have h0:=ha 0 (by simp)
 clear ha
 have hs:s.length≤9223372036854775807:=hs
 simp only [Option.getD_some,List.getElem?_cons_zero,List.getElem?_cons_succ] at h0
 by_cases hbig:255 < s.length
 ·have g:decide ((s.length:Int) > 255)=true:=by simp; omega
  have hn:nm s=none:=if_pos hbig
  simp only [go_sem,simprocAttr,hl,h0,g]
  exact ⟨(.aJ,[]),by simp [hn],by simp [hn]⟩
 have g:decide ((s.length:Int) > 255)=false:=by simp; omega
 have hnm:nm s=lab s:=if_neg hbig
 simp only [go_sem,simprocAttr,hl,h0,g]
 rw [hnm]
 refine aW (fun n st=>∃ σ r L1 v T e,n=r.length+1∧lab s=(lab r).map (L1++·)∧L1.length+r.length≤255∧b8 H.length T v 9 1 L1.length (strs L1)∧st=⟨σ,H++T,e⟩∧clean H.length e∧σ.length=43∧fr σ 4=v∧fr σ 5=.str r) (s.length+1)
  ⟨_,s,[],.aJ,[],_,rfl,by simp,by simp; omega,.inl ⟨rfl,rfl,rfl⟩,by rw [List.append_nil],⟨rfl,rfl⟩,by simp only [go_sem,simprocAttr,hl],by simp only [go_sem,simprocAttr,hl,h0],by simp only [go_sem,simprocAttr,hl]⟩ ?_
 rintro n _ ⟨σ,r,L1,v,T,e,rfl,hm,hLr,hv,rfl,he,hl,h4,h5⟩
 have fin:∀ b:Bool,(∀ L,lab s=some L→L=L1∧b=true)→(lab s=none→b=false) →
   ∃ b1:AV × Hp,(∀ L,lab s=some L→b8 H.length b1.2 b1.1 9 1 L.length (strs L))∧leave H.length (.tuple [v,.bool b]) (H++T) e=(.tuple [b1.1,.bool (lab s).isSome],H++b1.2,z0):=by
  intro b hb1 hb2
  have hb:b=(lab s).isSome:=by
   cases hs:lab s with
   | none=>exact hb2 hs
   | some L=>exact (hb1 L hs).2
  subst hb
  obtain ⟨rfl,h2,h3⟩ | ⟨h1,h2,m,rfl,h3⟩:=hv
  ·refine ⟨(.aJ,[]),fun L hL=>.inl ?_,?_⟩
   ·obtain ⟨rfl,_⟩:=hb1 L hL
    exact ⟨rfl,h2,h3⟩
   ·rw [aY rfl he,List.append_nil]
  ·refine ⟨(.slice (H.length+m) 0 L1.length (.op 0),T),fun L hL=>.inr ?_,?_⟩
   ·obtain ⟨rfl,_⟩:=hb1 L hL
    exact ⟨h1,h2,m,rfl,h3⟩
   ·rw [gj (by simp [flat,bM]) he]
 cases r with
 | nil =>
  have hN:lab s=none:=by rw [hm,wD]; rfl
  simp only [go_sem,simprocAttr,hl,h4,h5,he]
  exact ⟨(.aJ,[]),by simp [hN],by simp [hN]⟩
 | cons c t =>
  rw [fU] at hm
  have hcl:=c.toNat_lt
  simp only [List.length_cons] at hLr
  have g0:decide (((t.length+1:Nat):Int) > 0)=true:=by simp
  have w0:IntKind.i64.wrap (c.toNat:Int)=(c.toNat:Int):=by rw [wrap_i64 (by omega)]
  by_cases hz:c.toNat=0
  ·rw [if_pos hz] at hm
   have g1:((c.toNat:Int) == 0)=true:=by simp; omega
   simp only [go_sem,simprocAttr,hl,h4,h5,g0,w0,g1]
   refine fin _ (fun L hL=>?_) (fun hL=>?_)
   ·rw [hm] at hL
    split at hL
    ·rename_i h; simp at hL; subst hL; exact ⟨rfl,by simp; omega⟩
    ·cases hL
   ·rw [hm] at hL
    split at hL
    ·cases hL
    ·rename_i h; simp; intro h'; apply h; omega
  ·rw [if_neg hz] at hm
   have g1:((c.toNat:Int) == 0)=false:=by simp; omega
   have w1:IntKind.i64.wrap ((c.toNat:Int)+1)=((c.toNat+1:Nat):Int):=by rw [wrap_i64 (by omega)]; omega
   by_cases hb:63 < c.toNat
   ·have g2:decide ((c.toNat:Int) > 63)=true:=by simp; omega
    rw [if_pos (.inl hb)] at hm
    have hN:lab s=none:=hm
    simp only [go_sem,simprocAttr,hl,h4,h5,g0,w0,w1,g1,g2,he]
    exact ⟨(.aJ,[]),by simp [hN],by simp [hN]⟩
   ·have g2:decide ((c.toNat:Int) > 63)=false:=by simp; omega
    by_cases hsh:t.length < c.toNat
    ·have g3:decide (t.length+1 < c.toNat+1)=true:=by simp; omega
     rw [if_pos (.inr hsh)] at hm
     have hN:lab s=none:=hm
     simp only [go_sem,simprocAttr,hl,h4,h5,g0,w0,w1,g1,g2,g3,he]
     exact ⟨(.aJ,[]),by simp [hN],by simp [hN]⟩
    ·have g3:decide (t.length+1 < c.toNat+1)=false:=by simp; omega
     rw [if_neg (by omega)] at hm
     have b1:(1:Int)≤((c.toNat+1:Nat):Int):=by omega
     have b2:c.toNat+1≤t.length+1:=by omega
     have e1:c.toNat+1 - 1=c.toNat:=by omega
     have e2:(t.drop c.toNat).take (t.length - c.toNat)=t.drop c.toNat:=List.take_of_length_le (by rw [List.length_drop]; omega)
     have hbs:=cQ (t.take c.toNat)
     obtain ⟨v',T2,e2',happ,_,hcl2,_,hv3,_,_,_⟩:=(hv.more [.cells [.str (t.take c.toNat)] 9 .rw]).Ee (P:=Tryz.prog) (b:=16) (by decide) e7 [.str (t.take c.toNat)] 1 (by decide) rfl rfl (by simp only [fits,decide_eq_true_eq]; omega)
     simp only [go_sem,simprocAttr,hl,h4,h5,g0,w0,w1,g1,g2,g3,b1,b2,e1,e2,hbs,happ]
     refine ⟨(t.drop c.toNat).length+1,by rw [List.length_drop]; omega,_,t.drop c.toNat,L1++[t.take c.toNat],v',T2,_,rfl,?_,by simp; omega,by simpa [strs] using hv3,rfl,by simp only [go_sem,simprocAttr,he,hcl2],by simp only [go_sem,simprocAttr,hl],by simp only [go_sem,simprocAttr,hl],by simp only [go_sem,simprocAttr,hl]⟩
     rw [hm,Option.map_map]
     congr 1
     funext x
     simp

theorem vZ (s:List UInt8) (H k) (hs:s.length≤cn):ag Tryz.prog 17 [.str s] H k=k (.bool (nm s).isSome,H,z0):=by
 obtain ⟨b,_,hb⟩:=uF s H hs
 refine ak (r:=(.bool (nm s).isSome,H,z0)) ?_ k
 refine aa (n:=11) (rs:=[.tmp 2]) Tryz.func17 rfl rfl rfl ?_
 intro σ hl ha
 have h0:=ha 0 (by simp)
 clear ha
 simp only [Option.getD_some,List.getElem?_cons_zero,List.getElem?_cons_succ] at h0
 simp only [go_sem,simprocAttr,hl,h0,hb]

def lq (c:UInt8):UInt8:=if 65≤c.toNat∧c.toNat≤90 then c+32 else c
def bD (s:List UInt8):List UInt8:=s.map lq
theorem Ni {c:UInt8} (h:65≤c.toNat∧c.toNat≤90):IntKind.u8.wrap (BitVec.ofInt 8 (c.toNat:Int) ||| 32#8).toNat=((lq c).toNat:Int):=by
 have key:∀ c:Fin 256,(65≤c.val∧c.val≤90)→IntKind.u8.wrap (BitVec.ofInt 8 (c.val:Int) ||| 32#8).toNat=((lq (UInt8.ofNat c.val)).toNat:Int):=by decide +kernel
 have:=key ⟨c.toNat,c.toNat_lt⟩ h
 simpa using this
theorem JD {c:UInt8} (h:65≤c.toNat∧c.toNat≤90):IntKind.u8.wrap ((c.toNat:Int)+32)=((lq c).toNat:Int):=by
 have key:∀ c:Fin 256,(65≤c.val∧c.val≤90)→IntKind.u8.wrap ((c.val:Int)+32)=((lq (UInt8.ofNat c.val)).toNat:Int):=by decide +kernel
 have:=key ⟨c.toNat,c.toNat_lt⟩ h
 simpa using this
theorem sE {c:UInt8} (h:¬ (65≤c.toNat∧c.toNat≤90)):lq c=c:=if_neg h

theorem O1 {kd:IntKind} {a b:Int}:eI .or kd a b=some (.int kd (kd.wrap (BitVec.ofInt kd.bits a ||| BitVec.ofInt kd.bits b).toNat)):=rfl

theorem Ju (c:UInt8) (H k):ag Tryz.prog 41 [.int .u8 c.toNat] H k=k (.int .u8 (lq c).toNat,H,z0):=by
 refine ak (r:=(.int .u8 (lq c).toNat,H,z0)) ?_ k
 refine aa (n:=12) (rs:=[.tmp 2]) Tryz.func41 rfl rfl rfl ?_
 intro σ hl ha
 have h0:=ha 0 (by simp)
 clear ha
 simp only [Option.getD_some,List.getElem?_cons_zero,List.getElem?_cons_succ] at h0
 have hcl:=c.toNat_lt
 by_cases h1:65≤c.toNat
 ·have g1:decide ((65:Int)≤(c.toNat:Int))=true:=by simp; omega
  by_cases h2:c.toNat≤90
  ·have g2:decide ((c.toNat:Int)≤90)=true:=by simp; omega
   have hor:=Ni ⟨h1,h2⟩
   simp only [go_sem,simprocAttr,hl,h0,g1,g2,O1]
   exact congrArg (fun n=>(AV.int .u8 n,H,z0)) hor
  ·have g2:decide ((c.toNat:Int)≤90)=false:=by simp; omega
   have hno:=sE (c:=c) (by omega)
   simp only [go_sem,simprocAttr,hl,h0,g1,g2,hno]
 ·have g1:decide ((65:Int)≤(c.toNat:Int))=false:=by simp; omega
  have hno:=sE (c:=c) (by omega)
  simp only [go_sem,simprocAttr,hl,h0,g1,hno]

theorem HQ {s:List UInt8} {i:Nat} {c:UInt8} (h:s[i]?=some c):(u8s s)[i]?=some (.int .u8 c.toNat):=by simp [u8s,h]
theorem vz {s:List UInt8} {i n:Nat} {c:UInt8} {e:TypeId} {k:Kd} (h:s[i]?=some c):ldC i n false (.cells (u8s s) e k)=some (.int .u8 c.toNat):=HQ h
theorem Bt {s:List UInt8} {i:Nat} {c d:UInt8} (h:s[i]?=some c):splice (u8s s) i [.int .u8 d.toNat]=u8s (s.set i d):=by
 have hi:i < s.length:=(List.getElem?_eq_some_iff.1 h).1
 unfold splice u8s
 rw [List.set_eq_take_append_cons_drop,if_pos hi]
 simp [List.map_take,List.map_drop]
def iJ (i:Nat) (s:List UInt8):List UInt8:=bD (s.take i)++s.drop i
theorem uQ (i:Nat) (s:List UInt8):(iJ i s).length=s.length:=by simp [iJ,bD]; omega
theorem zD {i:Nat} {s:List UInt8} {c:UInt8} (h:s[i]?=some c):(iJ i s)[i]?=some c:=by
 have hi:i < s.length:=(List.getElem?_eq_some_iff.1 h).1
 unfold iJ bD
 rw [List.getElem?_append_right (by simp; omega)]
 simp; rw [show min i s.length=i by omega,Nat.sub_self,Nat.add_zero]; exact h
theorem sD {i:Nat} {s:List UInt8} {c:UInt8} (h:s[i]?=some c):(iJ i s).set i (lq c)=iJ (i+1) s:=by
 have hi:i < s.length:=(List.getElem?_eq_some_iff.1 h).1
 unfold iJ bD
 rw [cA h,fM h,List.map_append]
 have hl:(List.map lq (s.take i)).length=i:=by simp; omega
 rw [List.set_append_right _ _ (by omega),hl,Nat.sub_self]
 simp
theorem B1 {i:Nat} {s:List UInt8} {c:UInt8} (h:s[i]?=some c) (hc:lq c=c):iJ i s=iJ (i+1) s:=by
 unfold iJ bD
 rw [cA h,fM h,List.map_append]
 simp [hc]
theorem uR {i:Nat} {s:List UInt8} (h:s.length≤i):iJ i s=bD s:=by
 unfold iJ
 rw [List.take_of_length_le h,List.drop_eq_nil_of_le h,List.append_nil]
theorem wg {s:List UInt8} {e:TypeId} {k:Kd} {n:Nat} (h:s.length=n):rdC 0 n (.cells (u8s s) e k)=some (u8s s):=by
 rw [zb,if_pos (by rw [bB]; omega),List.drop_zero,List.take_of_length_le (by rw [bB]; omega)]
theorem nW (s:List UInt8):(s.map fun b=>AV.int .u8 (b.toNat:Int))=u8s s:=rfl

theorem dY (s:List UInt8) (H k) (hs:s.length≤cn):ag Tryz.prog 21 [.str s] H k=k (.str (bD s),H,z0):=by
 refine ak (r:=(.str (bD s),H,z0)) ?_ k
 refine aa (n:=23) (rs:=[.tmp 2]) Tryz.func21 rfl rfl rfl ?_
 intro σ hl ha
 have h0:=ha 0 (by simp)
 clear ha
 have hs:s.length≤9223372036854775807:=hs
 simp only [Option.getD_some,List.getElem?_cons_zero,List.getElem?_cons_succ] at h0
 simp only [go_sem,simprocAttr,hl,h0,nW]
 refine aW (fun n st=>∃ σ i e,n+i=s.length∧st=⟨σ,H++[.cells (u8s (iJ i s)) 5 (.op 0 true)],e⟩∧clean H.length e∧σ.length=23∧fr σ 3=.slice H.length 0 s.length (.op 0)∧fr σ 8=.slice H.length 0 s.length (.op 0)∧fr σ 9=.int .i64 (s.length:Nat)∧fr σ 10=.int .i64 (i:Nat)) s.length
  ⟨_,0,_,rfl,rfl,⟨rfl,rfl⟩,by simp only [go_sem,simprocAttr,hl],by simp only [go_sem,simprocAttr,hl],by simp only [go_sem,simprocAttr,hl],by simp only [go_sem,simprocAttr,hl],by simp only [go_sem,simprocAttr,hl]⟩ ?_
 rintro n _ ⟨σ,i,e,hn,rfl,he,hl,h3,h8,h9,h10⟩
 by_cases hlt:i < s.length
 ·obtain ⟨c,hc⟩:∃ c,s[i]?=some c:=⟨_,List.getElem?_eq_getElem hlt⟩
  have hw:=aT (show i < 9223372036854775807 by omega)
  have hlo:=fun H k=>Ju c H k
  have hla:=zD hc
  have hld:=fun (e:TypeId) (k:Kd)=>vz (n:=1) (e:=e) (k:=k) hla
  have hst:=Bt (d:=lq c) hla
  rw [sD hc] at hst
  have hle:i+1≤(iJ i s).length:=by rw [uQ]; omega
  simp only [go_sem,simprocAttr,hl,h3,h8,h9,h10,hlt,hw,hlo,hld,hst,hle,bB,gG]
  exact ⟨n - 1,by omega,_,i+1,_,by omega,rfl,by simp only [go_sem,simprocAttr,he],by simp only [go_sem,simprocAttr,hl],by simp only [go_sem,simprocAttr,hl,h3],by simp only [go_sem,simprocAttr,hl,h8],by simp only [go_sem,simprocAttr,hl,h9],by simp only [go_sem,simprocAttr,hl]⟩
 ·have hend:=uR (s:=s) (i:=i) (by omega)
  have hrd:=fun (e:TypeId) (k:Kd)=>wg (s:=bD s) (e:=e) (k:=k) (n:=s.length) (by simp [bD])
  have hcv:=lU (bD s)
  simp only [go_sem,simprocAttr,hl,h3,h8,h9,h10,hlt,hend,hrd,hcv,he]

theorem MM (s:List UInt8) (H k) (hs:s.length≤cn):ag Tryz.prog 61 [.str s] H k=k (.str (bD s),H,z0):=by
 refine ak (r:=(.str (bD s),H,z0)) ?_ k
 refine aa (n:=35) (rs:=[.tmp 2]) Tryz.func61 rfl rfl rfl ?_
 intro σ hl ha
 have h0:=ha 0 (by simp)
 clear ha
 have hs:s.length≤9223372036854775807:=hs
 simp only [Option.getD_some,List.getElem?_cons_zero,List.getElem?_cons_succ] at h0
 simp only [go_sem,simprocAttr,hl,h0,nW]
 refine aW (fun n st=>∃ σ i e,n+i=s.length∧st=⟨σ,H++[.cells (u8s (iJ i s)) 5 (.op 0 true)],e⟩∧clean H.length e∧σ.length=35∧fr σ 3=.slice H.length 0 s.length (.op 0)∧fr σ 4=.int .i64 (i:Nat)) s.length
  ⟨_,0,_,rfl,rfl,⟨rfl,rfl⟩,by simp only [go_sem,simprocAttr,hl],by simp only [go_sem,simprocAttr,hl],by simp only [go_sem,simprocAttr,hl]⟩ ?_
 rintro n _ ⟨σ,i,e,hn,rfl,he,hl,h3,h4⟩
 by_cases hlt:i < s.length
 ·obtain ⟨c,hc⟩:∃ c,s[i]?=some c:=⟨_,List.getElem?_eq_getElem hlt⟩
  have hw:=aT (show i < 9223372036854775807 by omega)
  have hla:=zD hc
  have hld:=fun (e:TypeId) (k:Kd)=>vz (n:=1) (e:=e) (k:=k) hla
  have hst:=Bt (d:=lq c) hla
  rw [sD hc] at hst
  have hle:i+1≤(iJ i s).length:=by rw [uQ]; omega
  by_cases h1:65≤c.toNat∧c.toNat≤90
  ·have g1:decide ((c.toNat:Int)≥65)=true:=by simp; omega
   have g2:decide ((c.toNat:Int)≤90)=true:=by simp; omega
   have had:=JD h1
   simp only [go_sem,simprocAttr,hl,h3,h4,hlt,hw,hld,hst,hle,bB,gG,g1,g2,had]
   exact ⟨n - 1,by omega,_,i+1,_,by omega,rfl,by simp only [go_sem,simprocAttr,he],by simp only [go_sem,simprocAttr,hl],by simp only [go_sem,simprocAttr,hl,h3],by simp only [go_sem,simprocAttr,hl]⟩
  ·have hsame:=B1 hc (sE h1)
   by_cases h2:65≤c.toNat
   ·have g1:decide ((c.toNat:Int)≥65)=true:=by simp; omega
    have g2:decide ((c.toNat:Int)≤90)=false:=by simp; omega
    simp only [go_sem,simprocAttr,hl,h3,h4,hlt,hw,hld,hle,bB,gG,g1,g2]
    exact ⟨n - 1,by omega,_,i+1,_,by omega,by rw [hsame],he,by simp only [go_sem,simprocAttr,hl],by simp only [go_sem,simprocAttr,hl,h3],by simp only [go_sem,simprocAttr,hl]⟩
   ·have g1:decide ((c.toNat:Int)≥65)=false:=by simp; omega
    simp only [go_sem,simprocAttr,hl,h3,h4,hlt,hw,hld,hle,bB,gG,g1]
    exact ⟨n - 1,by omega,_,i+1,_,by omega,by rw [hsame],he,by simp only [go_sem,simprocAttr,hl],by simp only [go_sem,simprocAttr,hl,h3],by simp only [go_sem,simprocAttr,hl]⟩
 ·have hend:=uR (s:=s) (i:=i) (by omega)
  have hrd:=fun (e:TypeId) (k:Kd)=>wg (s:=bD s) (e:=e) (k:=k) (n:=s.length) (by simp [bD])
  have hcv:=lU (bD s)
  simp only [go_sem,simprocAttr,hl,h3,h4,hlt,hend,hrd,hcv,he]

theorem lD (s:List UInt8) (H k) (hs:s.length≤cn):ag Tryz.prog 35 [.str s] H k=k (.str (bD s),H,z0):=by
 refine ak (r:=(.str (bD s),H,z0)) ?_ k
 refine aa (n:=5) (rs:=[.tmp 2]) Tryz.func35 rfl rfl rfl ?_
 intro σ hl ha
 have h0:=ha 0 (by simp)
 clear ha
 simp only [Option.getD_some,List.getElem?_cons_zero,List.getElem?_cons_succ] at h0
 have hlo:=fun H k=>MM s H k hs
 simp only [go_sem,simprocAttr,hl,h0,hlo]
def Rd (H:Hp) (v:AV) (bs:List UInt8):Prop:=(v=.aJ∧bs=[]) ∨
 ∃ b o c pre post e k,v=.slice b o bs.length c∧pre.length=o∧H[b]?=some (.cells (pre++(u8s bs++post)) e k)∧((∃ n,c=.ex n∧bs.length≤n)∨(c=.op o∧e=5∧∃ fz st,k=.op fz st))
def Rv (H:Hp) (v:AV) (bs:List UInt8):Prop:=Rd H v bs∨∃ b,v=.slice b 0 0 (.op 0)∧H[b]?=some .void∧bs=[]
theorem Rd.old {H:Hp} {v:AV} {bs:List UInt8} (h:Rd H v bs) (l:Hp):Rd (H++l) v bs:=by
 obtain h | ⟨b,o,c,pre,post,e,k,h1,h2,h3,h4⟩:=h
 ·exact .inl h
 ·exact .inr ⟨b,o,c,pre,post,e,k,h1,h2,iE h3,h4⟩
theorem Rv.old {H:Hp} {v:AV} {bs:List UInt8} (h:Rv H v bs) (l:Hp):Rv (H++l) v bs:=by
 obtain h | ⟨b,h1,h2,h3⟩:=h
 ·exact .inl (h.old l)
 ·exact .inr ⟨b,h1,iE h2,h3⟩
theorem Rd.v {H:Hp} {v:AV} {bs:List UInt8} (h:Rd H v bs):Rv H v bs:=.inl h
theorem Rd.scl {H:Hp} {v:AV} {bs:List UInt8} (h:Rd H v bs):cM v=true:=by
 obtain ⟨rfl,rfl⟩ | ⟨b,o,c,pre,post,e,k,rfl,h2,h3,h4⟩:=h <;> rfl
theorem Rv.len {H:Hp} {v:AV} {bs:List UInt8} (h:Rv H v bs) (H':Hp):b7 Tryz.prog 71 v H'=some (.int .i64 bs.length):=by
 obtain (⟨rfl,rfl⟩ | ⟨b,o,c,pre,post,e,k,rfl,h2,h3,h4⟩) | ⟨b,rfl,h2,rfl⟩:=h <;> simp only [b7,dr] <;> rfl
theorem Rv.at {H:Hp} {v:AV} {bs:List UInt8} (h:Rv H v bs) {i:Nat} {c:UInt8} (hc:bs[i]?=some c) :
  ∃ b j row e k,aO Tryz.prog 71 v (.int .i64 (i:Nat))=some (.ptr b j)∧(∀ l:Hp,(H++l)[b]?=some (.cells row e k))∧H[b]?=some (.cells row e k)∧ldC j 1 false (.cells row e k)=some (.int .u8 c.toNat):=by
 have hi:i < bs.length:=(List.getElem?_eq_some_iff.1 hc).1
 obtain (⟨rfl,rfl⟩ | ⟨b,o,cc,pre,post,e,k,rfl,h2,h3,h4⟩) | ⟨b,rfl,h2,rfl⟩:=h
 ·simp at hi
 ·refine ⟨b,o+i,_,e,k,?_,fun l=>iE h3,h3,?_⟩
  ·simp only [aO,dr]
   rw [if_pos (by omega)]
   simp
  ·rw [sH,← h2,List.getElem?_append_right (by omega),Nat.add_sub_cancel_left,List.getElem?_append_left (by rw [bB]; exact hi)]
   exact HQ hc
 ·simp at hi
theorem LS {pre post:List AV} {bs:List UInt8} {lo hi:Nat} (h1:lo≤hi) (h2:hi≤bs.length):pre++(u8s bs++post)=(pre++u8s (bs.take lo))++(u8s ((bs.drop lo).take (hi - lo))++(u8s (bs.drop hi)++post)):=by
 have:bs=bs.take lo++((bs.drop lo).take (hi - lo)++bs.drop hi):=by
  have e:bs.drop hi=(bs.drop lo).drop (hi - lo):=by rw [List.drop_drop]; congr 1; omega
  rw [e,List.take_append_drop,List.take_append_drop]
 conv=>lhs; rw [this]
 simp only [kg,List.append_assoc]
theorem Rd.sl {H:Hp} {v:AV} {bs:List UInt8} (h:Rd H v bs) {lo hi:Nat} (h1:lo≤hi) (h2:hi≤bs.length) :
  ∃ y L,(∀ kk,slK Tryz.prog 71 v (some (.int .i64 (lo:Nat))) (some (.int .i64 (hi:Nat))) none H kk=kk (y,H++L,z0))∧Rv (H++L) y ((bs.drop lo).take (hi - lo)):=by
 have b1:(0:Int)≤(hi:Nat):=by omega
 have b2:(0:Int)≤(lo:Nat):=by omega
 have b3:((lo:Nat):Int)≤(hi:Nat):=by omega
 obtain ⟨rfl,rfl⟩ | ⟨b,o,c,pre,post,e,k,rfl,ho,hb,hc⟩:=h
 ·have:hi=0:=by simpa using h2
  subst this
  have:lo=0:=by omega
  subst this
  refine ⟨.aJ,[],fun kk=>?_,.inl (.inl ⟨rfl,rfl⟩)⟩
  simp only [go_sem,simprocAttr,List.append_nil]
 ·have hmid:=LS (pre:=pre) (post:=post) h1 h2
  have hlen:((bs.drop lo).take (hi - lo)).length=hi - lo:=by rw [List.length_take,List.length_drop]; omega
  have hpl:(pre++u8s (bs.take lo)).length=o+lo:=by rw [List.length_append,bB,List.length_take,ho]; omega
  have hrow:(pre++(u8s bs++post)).length=o+(bs.length+post.length):=by rw [List.length_append,List.length_append,bB,ho]
  have hb0:=hb
  rw [hmid] at hb
  obtain ⟨n,rfl,hn⟩ | ⟨rfl,rfl,fz,st,rfl⟩:=hc
  ·have c1:hi≤n:=by omega
   by_cases hq:n=lo
   ·refine ⟨.slice b o (hi - lo) (.ex (n - lo)),[],fun kk=>?_,.inl (.inr ⟨b,o,_,pre,u8s (bs.take lo)++(u8s (bs.drop hi)++post),e,k,by rw [hlen],ho,?_,.inl ⟨_,rfl,by rw [hlen]; omega⟩⟩)⟩
    ·simp only [go_sem,simprocAttr,b1,b2,b3,c1,hq,List.append_nil]
     simp [show lo≤hi from h1,show hi≤lo by omega]
    ·have:(bs.drop lo).take (hi - lo)=[]:=by rw [show hi - lo=0 by omega,List.take_zero]
     rw [this] at hb ⊢
     simpa [u8s] using hb
   ·refine ⟨.slice b (o+lo) (hi - lo) (.ex (n - lo)),[],fun kk=>?_,.inl (.inr ⟨b,o+lo,_,pre++u8s (bs.take lo),u8s (bs.drop hi)++post,e,k,by rw [hlen],hpl,by rw [List.append_nil]; exact hb,.inl ⟨_,rfl,by rw [hlen]; omega⟩⟩)⟩
    simp only [go_sem,simprocAttr,b1,b2,b3,c1,hq,List.append_nil]
  ·have hrule:∀ kk,slK Tryz.prog 71 (.slice b o bs.length (.op o)) (some (.int .i64 (lo:Nat))) (some (.int .i64 (hi:Nat))) none H kk=cB (.bool (decide (lo=0∨lo < bs.length+post.length))) true (kk (.slice b (o+lo) (hi - lo) (.op (o+lo)),H,z0)) (lo=hi∧kk (.slice H.length 0 0 (.op 0),H++[.void],z0)):=by
    intro kk
    rw [r5 (by rw [dr]; rfl),dr,aD,hb0,aD,zI,if_pos ⟨rfl,by decide,by omega⟩,aD,K9,hrow,Nat.div_one,Nat.add_sub_cancel_left]
    simp only [Int.toNat_natCast,EI,Nat.mul_one]
    have q1:((0:Int)≤(hi:Nat)∧((hi:Nat):Int)≤((bs.length+post.length:Nat):Int))=True:=eq_true ⟨b1,by omega⟩
    have q2:((0:Int)≤(lo:Nat)∧((lo:Nat):Int)≤((hi:Nat):Int))=True:=eq_true ⟨b2,b3⟩
    rw [q1,q2,true_and,true_and,show o+lo*1=o+lo by omega]
   by_cases hq:lo=0∨lo < bs.length+post.length
   ·refine ⟨.slice b (o+lo) (hi - lo) (.op (o+lo)),[],fun kk=>?_,.inl (.inr ⟨b,o+lo,_,pre++u8s (bs.take lo),u8s (bs.drop hi)++post,_,_,by rw [hlen],hpl,by rw [List.append_nil]; exact hb,.inr ⟨rfl,rfl,fz,st,rfl⟩⟩)⟩
    rw [hrule,decide_eq_true hq,cZ,List.append_nil]
   ·refine ⟨.slice H.length 0 0 (.op 0),[.void],fun kk=>?_,.inr ⟨H.length,rfl,by simp,?_⟩⟩
    ·rw [hrule,decide_eq_false hq,cq]
     simp only [show lo=hi by omega,true_and]
    ·rw [show hi - lo=0 by omega,List.take_zero]
theorem qY (s:List UInt8):bn.bytesOf (u8s s)=some s:=lU s
theorem Rv.rd {H:Hp} {v:AV} {bs:List UInt8} (h:Rv H v bs):v=.aJ∧bs=[]∨∃ b o c,v=.slice b o bs.length c∧rd H b o bs.length=some (u8s bs):=by
 obtain (⟨rfl,rfl⟩ | ⟨b,o,c,pre,post,e,k,rfl,h2,h3,h4⟩) | ⟨b,rfl,h2,rfl⟩:=h
 ·exact .inl ⟨rfl,rfl⟩
 ·refine .inr ⟨b,o,c,rfl,?_⟩
  unfold V.rd
  rw [h3]
  show (if _ then _ else _)=_
  rw [if_pos (by rw [List.length_append,List.length_append,bB]; omega),← h2,List.drop_left,List.take_left' (by rw [bB])]
 ·refine .inr ⟨b,0,.op 0,rfl,?_⟩
  unfold V.rd
  rw [h2]
  rfl
theorem Rv.str {H:Hp} {v:AV} {bs:List UInt8} (h:Rv H v bs):bn Tryz.prog 71 9 v H=some (.str bs,H):=by
 obtain ⟨rfl,rfl⟩ | ⟨b,o,c,rfl,hr⟩:=h.rd
 ·exact tA
 ·rw [vk,hr,Option.bind_some,qY]; rfl

theorem RV (H k):ag Tryz.prog 151 [] H k=k (.int .i64 1,H,z0):=by
 refine ak (r:=(.int .i64 1,H,z0)) ?_ k
 refine aa (n:=19) (rs:=[.tmp 0]) Tryz.func151 rfl rfl rfl ?_
 intro σ hl ha
 clear ha
 have w2:IntKind.u8.wrap 0=0:=by decide
 have w3:IntKind.u8.wrap (-1)=255:=by decide
 have w4:IntKind.u32.wrap 255=255:=by decide
 have g1:decide ((255:Int).fdiv (2 ^ min 7 32) > 1)=false:=by decide
 simp only [go_sem,simprocAttr,hl,w2,w3]
 rw [aH]
 simp only [go_sem,simprocAttr,hl,w2,w3,w4,g1]

def tk8 (bs:List UInt8) (at_:Nat):Nat × Nat × Nat:=if bs.length < at_ then (0,0,1) else match bs[at_]? with | some c=>(c.toNat,at_+1,0) | none=>(0,0,6)
theorem RS (bs:List UInt8) (a:Nat) (H k) (v:AV) (hv:Rd H v bs) (hn:bs.length≤4611686018427387904) (ha':a≤4611686018427387904) :
  ag Tryz.prog 125 [v,.int .i64 (a:Nat)] H k=k (.tuple [.int .u8 ((tk8 bs a).1:Nat),.int .i64 ((tk8 bs a).2.1:Nat),.int .i64 ((tk8 bs a).2.2:Nat)],H,z0):=by
 refine ak (r:=(.tuple [.int .u8 ((tk8 bs a).1:Nat),.int .i64 ((tk8 bs a).2.1:Nat),.int .i64 ((tk8 bs a).2.2:Nat)],H,z0)) ?_ k
 refine aa (n:=50) (rs:=[.tmp 4,.tmp 5,.tmp 6]) Tryz.func125 rfl rfl rfl ?_
 intro σ hl ha
 have h0:=ha 0 (by simp)
 have h1:=ha 1 (by simp)
 clear ha
 simp only [Option.getD_some,List.getElem?_cons_zero,List.getElem?_cons_succ] at h0 h1
 have hs:=fun H k=>RV H k
 have hlen:=fun H'=>hv.v.len H'
 have g0:decide ((a:Int) < 0)=false:=by simp
 by_cases hbig:bs.length < a
 ·have ht:tk8 bs a=(0,0,1):=if_pos hbig
  simp only [go_sem,simprocAttr,hl,h0,h1,hs,hlen,g0,hbig,ht,gt_iff_lt]
 ·have w1:IntKind.i64.wrap ((bs.length:Int) - (a:Int))=((bs.length - a:Nat):Int):=by rw [wrap_i64 (by omega)]; omega
  cases hc:bs[a]? with
  | none =>
   have ht:tk8 bs a=(0,0,6):=by unfold tk8; rw [if_neg hbig,hc]
   have hl':bs.length≤a:=by simpa using hc
   have g2:decide (((bs.length - a:Nat):Int) < 1)=true:=by simp; omega
   simp only [go_sem,simprocAttr,hl,h0,h1,hs,hlen,g0,hbig,w1,g2,ht]
  | some c =>
   have ht:tk8 bs a=(c.toNat,a+1,0):=by unfold tk8; rw [if_neg hbig,hc]
   have hlt:a < bs.length:=(List.getElem?_eq_some_iff.1 hc).1
   have g2:decide (((bs.length - a:Nat):Int) < 1)=false:=by simp; omega
   have w2:IntKind.i64.wrap ((a:Int)+1)=((a+1:Nat):Int):=by rw [wrap_i64 (by omega)]; omega
   obtain ⟨y,L,hsl,hy⟩:=hv.sl (lo:=a) (hi:=a+1) (by omega) (by omega)
   have hy1:(bs.drop a).take (a+1 - a)=[c]:=by rw [Nat.add_sub_cancel_left,fM hc]; rfl
   rw [hy1] at hy
   have hylen:=fun H'=>hy.len H'
   obtain ⟨b,j,row,e,kd,hix,hg,hg0,hld⟩:=hy.at (i:=0) (c:=c) rfl
   have hix:aO Tryz.prog 71 y (.int .i64 0)=some (.ptr b j):=hix
   have g3:decide ((0:Int) < ((([c]:List UInt8).length:Nat):Int))=true:=by simp
   have hcl:=c.toNat_lt
   have w3:IntKind.u32.wrap (c.toNat:Int)=(c.toNat:Int):=wrap_u32 (by omega)
   have w4:IntKind.u8.wrap (c.toNat:Int)=(c.toNat:Int):=wrap_u8 (by omega)
   have w5:IntKind.u32.wrap (BitVec.ofInt 32 0 ||| BitVec.ofInt 32 (c.toNat:Int)).toNat=(c.toNat:Int):=by
    have:(BitVec.ofInt 32 0 ||| BitVec.ofInt 32 (c.toNat:Int)).toNat=c.toNat:=by
     simp [BitVec.ofInt_natCast]
    rw [this]; exact w3
   simp only [go_sem,simprocAttr,hl,h0,h1,hs,hlen,g0,hbig,w1,g2,w2,hsl,hylen,ht]
   rw [aH]
   have w6:IntKind.u32.wrap 0=0:=rfl
   simp only [go_sem,simprocAttr,hl,g3,hix,hg,hg0,hld,w3,O1]
   rw [aH]
   simp only [go_sem,simprocAttr,hl,hs,h1,w2,w6,ht]
   refine congrArg (fun n=>(AV.tuple [AV.int IntKind.u8 n,AV.int IntKind.i64 ((a+1:Nat):Int),AV.int IntKind.i64 0],H,z0)) ?_
   show IntKind.u8.wrap (IntKind.u32.wrap (BitVec.ofInt 32 0 ||| BitVec.ofInt 32 (c.toNat:Int)).toNat)=(c.toNat:Int)
   rw [w5,w4]
def fe (bs:List UInt8) (a:Nat):List UInt8 × Nat × Nat :=
 if bs.length < a then ([],0,1) else match bs[a]? with
  | some c=>if bs.length - (a+1) < c.toNat then ([],0,6) else ((bs.drop (a+1)).take c.toNat,a+(1+c.toNat),0)
  | none=>([],0,6)

theorem IA (bs:List UInt8) (a:Nat) (H k) (v:AV) (hv:Rd H v bs) (hn:bs.length≤4611686018427387904) (ha':a≤4611686018427387904) :
  ag Tryz.prog 92 [v,.int .i64 (a:Nat)] H k=k (.tuple [.str (fe bs a).1,.int .i64 ((fe bs a).2.1:Nat),.int .i64 ((fe bs a).2.2:Nat)],H,z0):=by
 refine ak (r:=(.tuple [.str (fe bs a).1,.int .i64 ((fe bs a).2.1:Nat),.int .i64 ((fe bs a).2.2:Nat)],H,z0)) ?_ k
 refine aa (n:=42) (rs:=[.tmp 4,.tmp 5,.tmp 6]) Tryz.func92 rfl rfl rfl ?_
 intro σ hl ha
 have h0:=ha 0 (by simp)
 have h1:=ha 1 (by simp)
 clear ha
 simp only [Option.getD_some,List.getElem?_cons_zero,List.getElem?_cons_succ] at h0 h1
 have hs:=fun H' (h:Rd H' v bs) k=>RS bs a H' k v h hn ha'
 have hs:=fun k=>hs H hv k
 have hlen:=fun H'=>hv.v.len H'
 by_cases hbig:bs.length < a
 ·have ht:fe bs a=([],0,1):=if_pos hbig
  have h8:tk8 bs a=(0,0,1):=if_pos hbig
  rw [h8] at hs
  simp only [go_sem,simprocAttr,hl,h0,h1,hs,ht,Int.natCast_one]
 ·cases hc:bs[a]? with
  | none =>
   have ht:fe bs a=([],0,6):=by unfold fe; rw [if_neg hbig,hc]
   have h8:tk8 bs a=(0,0,6):=by unfold tk8; rw [if_neg hbig,hc]
   rw [h8] at hs
   simp only [go_sem,simprocAttr,hl,h0,h1,hs,ht]
  | some c =>
   have h8:tk8 bs a=(c.toNat,a+1,0):=by unfold tk8; rw [if_neg hbig,hc]
   rw [h8] at hs
   have hlt:a < bs.length:=(List.getElem?_eq_some_iff.1 hc).1
   have hcl:=c.toNat_lt
   have w0:IntKind.i64.wrap (c.toNat:Int)=(c.toNat:Int):=by rw [wrap_i64 (by omega)]
   have w1:IntKind.i64.wrap ((bs.length:Int) - ((a+1:Nat):Int))=((bs.length - (a+1):Nat):Int):=by rw [wrap_i64 (by omega)]; omega
   by_cases hsh:bs.length - (a+1) < c.toNat
   ·have ht:fe bs a=([],0,6):=by unfold fe; rw [if_neg hbig,hc]; exact if_pos hsh
    simp only [go_sem,simprocAttr,hl,h0,h1,hs,hlen,w0,w1,hsh,ht]
   ·have ht:fe bs a=((bs.drop (a+1)).take c.toNat,a+(1+c.toNat),0):=by unfold fe; rw [if_neg hbig,hc]; exact if_neg hsh
    have w2:IntKind.i64.wrap (((a+1:Nat):Int)+(c.toNat:Int))=((a+(1+c.toNat):Nat):Int):=by rw [wrap_i64 (by omega)]; omega
    obtain ⟨y,L,hsl,hy⟩:=hv.sl (lo:=a+1) (hi:=a+(1+c.toNat)) (by omega) (by omega)
    rw [show a+(1+c.toNat) - (a+1)=c.toNat by omega] at hy
    have hstr:=hy.str
    simp only [go_sem,simprocAttr,hl,h0,h1,hs,hlen,w0,w1,w2,hsh,hsl,hstr,ht]

def txF:Nat→List UInt8→Option (List (List UInt8))
 | 0,_=>none
 | _+1,[]=>some []
 | n+1,c::t=>if t.length < c.toNat then none else (txF n (t.drop c.toNat)).map (t.take c.toNat::·)
theorem xN:∀ (n m:Nat) (s:List UInt8),s.length < n→s.length < m→txF n s=txF m s
 | 0,_,s,h,_=>by omega
 | _+1,0,s,_,h=>by omega
 | n+1,m+1,[],_,_=>rfl
 | n+1,m+1,k::t,h,h'=>by
  simp only [txF]
  simp only [List.length_cons] at h h'
  rw [xN n m (t.drop k.toNat) (by rw [List.length_drop]; omega) (by rw [List.length_drop]; omega)]
def gy (s:List UInt8):Option (List (List UInt8)):=txF (s.length+1) s
theorem xL:gy []=some []:=rfl
theorem ur (k:UInt8) (t:List UInt8):gy (k::t)=if t.length < k.toNat then none else (gy (t.drop k.toNat)).map (t.take k.toNat::·):=by
 unfold gy
 rw [List.length_cons,txF,xN (t.length+1) _ (t.drop k.toNat) (by rw [List.length_drop]; omega) (Nat.lt_succ_self _)]
def kY (s:List UInt8):Bool:=match gy s with
 | some (_::_)=>true
 | _=>false

theorem lA {s:List UInt8} (h:gy s=some []):kY s=false:=by unfold kY; rw [h]
theorem jQ {s:List UInt8} (h:gy s=none):kY s=false:=by unfold kY; rw [h]
theorem uw {s:List UInt8} {L:List (List UInt8)} (h:gy s=some L) (hL:L≠[]):kY s=true:=by
 unfold kY; rw [h]
 cases L with
 | nil=>exact absurd rfl hL
 | cons=>rfl

theorem qF (s:List UInt8) (H) (hs:s.length≤1048576):∃ b:AV × Hp,(∀ L,gy s=some L→L≠[]→b8 H.length b.2 b.1 9 1 L.length (strs L)) ∧
  ∀ k,ag Tryz.prog 58 [.str s] H k=k (.tuple [b.1,.bool (kY s)],H++b.2,z0):=by
 refine cK (fun b:AV × Hp=>∀ L,gy s=some L→L≠[]→b8 H.length b.2 b.1 9 1 L.length (strs L)) (fun b=>(.tuple [b.1,.bool (kY s)],H++b.2,z0)) ?_
 refine aa (n:=32) (rs:=[.tmp 2,.tmp 3]) Tryz.func58 rfl rfl rfl ?_
 intro σ hl ha
 have h0:=ha 0 (by simp)
 clear ha
 simp only [Option.getD_some,List.getElem?_cons_zero,List.getElem?_cons_succ] at h0
 simp only [go_sem,simprocAttr,hl,h0]
 refine aW (fun n st=>∃ σ i L1 v T e,n+i=s.length∧gy s=(gy (s.drop i)).map (L1++·)∧L1.length≤i∧b8 H.length T v 9 1 L1.length (strs L1)∧st=⟨σ,H++T,e⟩∧clean H.length e∧σ.length=32∧fr σ 0=.str s∧fr σ 4=v∧fr σ 5=.int .i64 (i:Nat)) s.length
  ⟨_,0,[],.aJ,[],_,rfl,by simp,Nat.le_refl _,.inl ⟨rfl,rfl,rfl⟩,by rw [List.append_nil],⟨rfl,rfl⟩,by simp only [go_sem,simprocAttr,hl],by simp only [go_sem,simprocAttr,hl,h0],by simp only [go_sem,simprocAttr,hl],by simp only [go_sem,simprocAttr,hl]⟩ ?_
 rintro n _ ⟨σ,i,L1,v,T,e,hn,hm,hLi,hv,rfl,he,hl,h0,h4,h5⟩
 by_cases hlt:i < s.length
 ·obtain ⟨c,hc⟩:∃ c,s[i]?=some c:=⟨_,List.getElem?_eq_getElem hlt⟩
  rw [fM hc,ur,List.length_drop] at hm
  have hcl:=c.toNat_lt
  have hrd:Rd ((H++T)++[.cells (u8s s) 5 (.op 0 true)]) (.slice (H++T).length 0 s.length (.op 0)) s :=
   .inr ⟨_,0,_,[],[],_,_,rfl,rfl,by rw [dm]; simp,.inr ⟨rfl,rfl,0,true,rfl⟩⟩
  have ht:=fun k=>IA s i _ k _ hrd (by omega) (by omega)
  simp only [List.append_assoc,List.length_append] at ht
  by_cases hsh:s.length - (i+1) < c.toNat
  ·have htx:fe s i=([],0,6):=by unfold fe; rw [if_neg (by omega),hc]; exact if_pos hsh
   rw [htx] at ht
   rw [if_pos hsh] at hm
   have hm:gy s=none:=hm
   have hok:=jQ hm
   simp only [go_sem,simprocAttr,hl,h0,h4,h5,hlt,nW,ht,he]
   exact ⟨(.aJ,[]),by simp [hm],by simp [hok]⟩
  ·have htx:fe s i=((s.drop (i+1)).take c.toNat,i+(1+c.toNat),0):=by unfold fe; rw [if_neg (by omega),hc]; exact if_neg hsh
   rw [htx] at ht
   rw [if_neg hsh,Option.map_map,List.drop_drop,Nat.add_assoc] at hm
   have hbs:=cQ ((s.drop (i+1)).take c.toNat)
   obtain ⟨v',T2,e2,happ,_,hcl2,_,hv3,_,_,_⟩:=(hv.more ([.cells (u8s s) 5 (.op 0 true),.cells [.str ((s.drop (i+1)).take c.toNat)] 9 .rw])).Ee (P:=Tryz.prog) (b:=16) (by decide) e7 [.str ((s.drop (i+1)).take c.toNat)] 1 (by decide) rfl rfl (by simp only [fits,decide_eq_true_eq]; omega)
   simp only [go_sem,simprocAttr,hl,h0,h4,h5,hlt,nW,ht,hbs,happ]
   refine ⟨n - (1+c.toNat),by omega,_,i+(1+c.toNat),L1++[(s.drop (i+1)).take c.toNat],v',T2,_,by omega,?_,by simp; omega,by simpa [strs] using hv3,rfl,by simp only [go_sem,simprocAttr,he,hcl2],by simp only [go_sem,simprocAttr,hl],by simp only [go_sem,simprocAttr,hl,h0],by simp only [go_sem,simprocAttr,hl],by simp only [go_sem,simprocAttr,hl]⟩
   rw [hm]
   congr 1
   funext x
   simp
 ·have hi:i=s.length:=by omega
  rw [hi,List.drop_length,xL] at hm
  have hm:gy s=some L1:=by rw [hm]; simp
  obtain ⟨rfl,h2,h3⟩ | ⟨h1,h2,m,rfl,h3⟩:=hv
  ·have:L1=[]:=List.length_eq_zero_iff.1 h3
   subst this
   have hok:=lA hm
   simp only [go_sem,simprocAttr,hl,h0,h4,h5,hlt,he]
   exact ⟨(.aJ,[]),fun L hL hne=>by rw [hm] at hL; cases hL; exact absurd rfl hne,by simp [hok]⟩
  ·have hok:=uw hm (by intro e; rw [e] at h1; cases h1)
   have g:decide ((L1.length:Int) > 0)=true:=by simp; omega
   simp only [go_sem,simprocAttr,hl,h0,h4,h5,hlt,he,g]
   exact ⟨(.slice (H.length+m) 0 L1.length (.op 0),T),fun L hL hne=>by rw [hm] at hL; cases hL; exact .inr ⟨h1,h2,m,rfl,h3⟩,by simp [hok]⟩

theorem uE (s:List UInt8) (H) (hs:s.length≤1048576):∃ b:AV × Hp,(∀ L,gy s=some L→L≠[]→b8 H.length b.2 b.1 9 1 L.length (strs L)) ∧
  ∀ k,ag Tryz.prog 99 [.str s] H k=k (.tuple [b.1,.bool (kY s)],H++b.2,z0):=by
 refine cK (fun b:AV × Hp=>∀ L,gy s=some L→L≠[]→b8 H.length b.2 b.1 9 1 L.length (strs L)) (fun b=>(.tuple [b.1,.bool (kY s)],H++b.2,z0)) ?_
 refine aa (n:=32) (rs:=[.tmp 2,.tmp 3]) Tryz.func99 rfl rfl rfl ?_
 intro σ hl ha
 have h0:=ha 0 (by simp)
 clear ha
 simp only [Option.getD_some,List.getElem?_cons_zero,List.getElem?_cons_succ] at h0
 simp only [go_sem,simprocAttr,hl,h0]
 refine aW (fun n st=>∃ σ r L1 v T e,n=r.length∧gy s=(gy r).map (L1++·)∧L1.length+r.length≤s.length∧b8 H.length T v 9 1 L1.length (strs L1)∧st=⟨σ,H++T,e⟩∧clean H.length e∧σ.length=32∧fr σ 0=.str r∧fr σ 4=v) s.length
  ⟨_,s,[],.aJ,[],_,rfl,by simp,by simp,.inl ⟨rfl,rfl,rfl⟩,by rw [List.append_nil],⟨rfl,rfl⟩,by simp only [go_sem,simprocAttr,hl],by simp only [go_sem,simprocAttr,hl,h0],by simp only [go_sem,simprocAttr,hl]⟩ ?_
 rintro n _ ⟨σ,r,L1,v,T,e,rfl,hm,hLr,hv,rfl,he,hl,h0,h4⟩
 cases r with
 | nil =>
  rw [xL] at hm
  have hm:gy s=some L1:=by rw [hm]; simp
  obtain ⟨rfl,h2,h3⟩ | ⟨h1,h2,m,rfl,h3⟩:=hv
  ·have:L1=[]:=List.length_eq_zero_iff.1 h3
   subst this
   have hok:=lA hm
   simp only [go_sem,simprocAttr,hl,h0,h4,he]
   exact ⟨(.aJ,[]),fun L hL hne=>by rw [hm] at hL; cases hL; exact absurd rfl hne,by simp [hok]⟩
  ·have hok:=uw hm (by intro e; rw [e] at h1; cases h1)
   have g:decide ((L1.length:Int) > 0)=true:=by simp; omega
   simp only [go_sem,simprocAttr,hl,h0,h4,he,g]
   exact ⟨(.slice (H.length+m) 0 L1.length (.op 0),T),fun L hL hne=>by rw [hm] at hL; cases hL; exact .inr ⟨h1,h2,m,rfl,h3⟩,by simp [hok]⟩
 | cons c t =>
  rw [ur] at hm
  have hcl:=c.toNat_lt
  simp only [List.length_cons] at hLr
  have g0:decide (((t.length+1:Nat):Int) > 0)=true:=by simp
  have w0:IntKind.i64.wrap (c.toNat:Int)=(c.toNat:Int):=by rw [wrap_i64 (by omega)]
  have w1:IntKind.i64.wrap ((c.toNat:Int)+1)=((c.toNat+1:Nat):Int):=by rw [wrap_i64 (by omega)]; omega
  by_cases hsh:t.length < c.toNat
  ·have g3:decide (t.length+1 < c.toNat+1)=true:=by simp; omega
   rw [if_pos hsh] at hm
   have hm:gy s=none:=hm
   have hok:=jQ hm
   simp only [go_sem,simprocAttr,hl,h0,h4,g0,w0,w1,g3,he]
   exact ⟨(.aJ,[]),by simp [hm],by simp [hok]⟩
  ·have g3:decide (t.length+1 < c.toNat+1)=false:=by simp; omega
   rw [if_neg hsh,Option.map_map] at hm
   have b1:(1:Int)≤((c.toNat+1:Nat):Int):=by omega
   have b2:c.toNat+1≤t.length+1:=by omega
   have e1:c.toNat+1 - 1=c.toNat:=by omega
   have e2:(t.drop c.toNat).take (t.length - c.toNat)=t.drop c.toNat:=List.take_of_length_le (by rw [List.length_drop]; omega)
   have hbs:=cQ (t.take c.toNat)
   obtain ⟨v',T2,e2',happ,_,hcl2,_,hv3,_,_,_⟩:=(hv.more [.cells [.str (t.take c.toNat)] 9 .rw]).Ee (P:=Tryz.prog) (b:=16) (by decide) e7 [.str (t.take c.toNat)] 1 (by decide) rfl rfl (by simp only [fits,decide_eq_true_eq]; omega)
   simp only [go_sem,simprocAttr,hl,h0,h4,g0,w0,w1,g3,b1,b2,e1,e2,hbs,happ]
   refine ⟨(t.drop c.toNat).length,by rw [List.length_drop]; omega,_,t.drop c.toNat,L1++[t.take c.toNat],v',T2,_,rfl,?_,by simp; omega,by simpa [strs] using hv3,rfl,by simp only [go_sem,simprocAttr,he,hcl2],by simp only [go_sem,simprocAttr,hl],by simp only [go_sem,simprocAttr,hl],by simp only [go_sem,simprocAttr,hl]⟩
   rw [hm]
   congr 1
   funext x
   simp
def Buf (n:Nat) (T:Hp) (v:AV) (bs:List UInt8):Prop:=(v=.aJ∧bs=[])∨(0 < bs.length∧∃ m,v=.slice (n+m) 0 bs.length (.op 0)∧T[m]?=some (.cells (u8s bs) 5 (.op 0 false)))
def Bld (n:Nat) (T:Hp) (j:Nat) (bs:List UInt8):Prop :=
 ∃ p v,T[j]?=some (.cells [p,v] 73 .rw)∧(p=.fH∨p=.ptr (n+j) 0)∧Buf n T v bs
theorem Bq:Tryz.prog.underlying 70=some (.pointer 73):=by kernel_rfl
theorem PV:liesAt Tryz.prog Tryz.prog.depth 73 (2 / Tryz.prog.cellsOf 73) 0 73 1=true:=by kernel_rfl
theorem Cc:∃ j,Tryz.prog.info? 73=some j∧j.size=2:=by
 have:=xO
 unfold ct at this
 simpa using this
theorem A5 {b:Nat} {p v:AV} {k:Kd} {H:Hp} (h:H[b]?=some (.cells [p,v] 73 k)):bn Tryz.prog 70 148 (.ptr b 0) H=some (.ptr b 0,H):=by
 obtain ⟨j,hj,hz⟩:=Cc
 simp [bn,Bv,vH,h,hj,hz]
theorem A7 {b:Nat} {p v:AV} {H:Hp} (h:H[b]?=some (.cells [p,v] 73 .rw)):bn Tryz.prog 148 70 (.ptr b 0) H=some (.ptr b 0,H):=by
 obtain ⟨j,hj,hz⟩:=Cc
 have:=PV
 simp only [bn,Bv,vH,h,hj]
 exact if_pos this
theorem Uq {c:Bool}:gJ Tryz.prog .eql 70 .fH .fH c=some (.bool true):=by simp [gJ,kV,gr,Bq]
theorem Up {b o:Nat} {c:Bool}:gJ Tryz.prog .eql 70 (.ptr b o) .fH c=some (.bool false):=by simp [gJ,kV,gr,Bq]
theorem neB {b o:Nat} {c:Bool}:gJ Tryz.prog .neq 70 (.ptr b o) (.ptr b o) c=some (.bool false):=by
 obtain ⟨j,hj,_⟩:=Cc
 simp [gJ,kV,gr,Bq,hj]
attribute [go_sem] Uq Up neB

theorem pq (H T:Hp) (j:Nat) (p v:AV) (hj:T[j]?=some (.cells [p,v] 73 .rw)) (hp:p=.fH∨p=.ptr (H.length+j) 0) (hv:cM v=true) :
  ∃ e,(e=z0∨Cl H.length j e)∧∀ k,ag Tryz.prog 50 [.ptr (H.length+j) 0] (H++T) k=k (.tuple [],H++T.set j (.cells [.ptr (H.length+j) 0,v] 73 .rw),e):=by
 have hlt:=ai hj
 have hd:decide (j < T.length)=true:=by simpa using hlt
 refine (fun h:∃ r:{e:Ef // e=z0∨Cl H.length j e},∀ k,ag Tryz.prog 50 [.ptr (H.length+j) 0] (H++T) k=k (.tuple [],H++T.set j (.cells [.ptr (H.length+j) 0,v] 73 .rw),r.1)=>?_) (Bh (fun r:{e:Ef // e=z0∨Cl H.length j e}=>(.tuple [],H++T.set j (.cells [.ptr (H.length+j) 0,v] 73 .rw),r.1)) ?_)
 ·obtain ⟨r,hr⟩:=h
  exact ⟨r.1,r.2,hr⟩
 refine aa (n:=20) (rs:=[]) Tryz.func50 rfl rfl rfl ?_
 intro σ hl ha
 have h0:=ha 0 (by simp)
 clear ha
 simp only [Option.getD_some,List.getElem?_cons_zero,List.getElem?_cons_succ] at h0
 have hb:(H++T)[H.length+j]?=some (.cells [p,v] 73 .rw):=by rw [bZ,hj]
 have c1:=A5 hb
 have c2:=A7 hb
 obtain rfl | rfl:=hp
 ·simp only [go_sem,simprocAttr,hl,h0,hj,hd,hv,c1,c2]
  have hcl:Cl H.length j ⟨some (H.length+j),some (H.length+j)⟩:=⟨_,rfl,by omega,by omega,by simp [low]⟩
  obtain ⟨e',h1,h2⟩:=hcl.leave (m:=H.length+T.length) (by omega)
  exact ⟨⟨e',.inr h1⟩,h2 _ _⟩
 ·simp only [go_sem,simprocAttr,hl,h0,hj,hd,hv]
  rw [eX hj]
  refine ⟨⟨z0,.inl rfl⟩,?_⟩
  rw [← List.length_append]
  exact dL rfl (by rw [iy]; trivial)

theorem Buf.scl {n:Nat} {T:Hp} {v:AV} {bs:List UInt8} (h:Buf n T v bs):cM v=true:=by
 obtain ⟨rfl,_⟩ | ⟨_,m,rfl,_⟩:=h <;> rfl
theorem Buf.len {n:Nat} {T:Hp} {v:AV} {bs:List UInt8} (h:Buf n T v bs) (H:Hp):b7 Tryz.prog 71 v H=some (.int .i64 bs.length):=by
 obtain ⟨rfl,rfl⟩ | ⟨_,m,rfl,_⟩:=h
 ·simp only [b7,dr]; rfl
 ·simp only [b7,dr]
theorem Buf.app {H T:Hp} {v:AV} {bs:List UInt8} (h:Buf H.length T v bs) (s:List UInt8) (hf:fits (bs.length+s.length) 1=true) :
  ∃ v' T2 e2,(∀ kk,aF (de Tryz.prog (.slice 5 1 1) v (u8s s,s.length) (H++T)) kk=kk (v',H++T2,e2))∧T.length≤T2.length∧clean H.length e2∧(∀ (i:Nat) x,T[i]?=some x→Kn x=true→T2[i]?=some x)∧Buf H.length T2 v' (bs++s):=by
 obtain ⟨rfl,rfl⟩ | ⟨hpos,m,rfl,hm⟩:=h
 ·by_cases hs:s=[]
  ·subst hs
   refine ⟨.aJ,T,z0,fun kk=>?_,Nat.le_refl _,⟨rfl,rfl⟩,fun i x hx _=>hx,.inl ⟨rfl,rfl⟩⟩
   rw [dV (by decide) jE]
   have hd:decide (([]:List UInt8).length=0)=true:=rfl
   rw [hd,cZ]
  ·have hl:0 < s.length:=by cases s <;> simp_all
   refine ⟨.slice (H.length+T.length) 0 s.length (.op 0),T++[.cells (u8s s) 5 (.op 0 false)],z0,fun kk=>?_,by simp,⟨rfl,rfl⟩,fun i x hx _=>ah hx,.inr ⟨by simpa using hl,T.length,by simp,by simp⟩⟩
   rw [dV (by decide) jE]
   have hd:decide (s.length=0)=false:=by simp; omega
   have hf:fits s.length 1=true:=by simpa using hf
   simp only [hd,cq,hf,true_and,List.length_append,List.append_assoc]
 ·have hlt:=ai hm
  have hg:(H++T)[H.length+m]?=some (.cells (u8s bs) 5 (.op 0 false)):=by rw [bZ,hm]
  by_cases hs:s=[]
  ·subst hs
   refine ⟨.slice (H.length+m) 0 bs.length (.op 0),T,⟨none,some (H.length+m)⟩,fun kk=>?_,Nat.le_refl _,by simp [clean,low],fun i x hx _=>hx,.inr ⟨by simpa using hpos,m,by simp,by simpa using hm⟩⟩
   have hsp:splice (u8s bs) (bs.length) []=u8s bs:=by
    unfold splice
    simp
   rw [eE (by decide) jE,hg]
   have hset:(H++T).set (H.length+m) (.cells (u8s bs) 5 (.op 0 false))=H++T:=eX hg
   have hd:decide (0+(bs.length+([]:List UInt8).length)*1≤(u8s bs).length)=true:=by rw [bB]; simp
   have e1:(0+bs.length*1+(u8s []).length≤(u8s bs).length∧gG (Kd.op 0 false) (0+bs.length*1)=true∧(u8s []).all cM=true):=⟨by simp [bB],rfl,rfl⟩
   have e2:splice (u8s bs) (0+bs.length*1) (u8s [])=u8s bs:=by rw [Nat.zero_add,Nat.mul_one]; exact hsp
   have hwr:wr (H++T) (H.length+m) (0+bs.length*1) (u8s [])=some (H++T,⟨none,some (H.length+m)⟩):=by
    unfold wr
    rw [hg]
    show (if _ then _ else _)=_
    rw [if_pos e1,e2,hset,rJ,if_pos rfl]
   simp only [aD,ic,hwr]
   rw [hd,cZ]
   rw [hwr]
   simp only [aD,bB,Nat.zero_add,Nat.mul_one,Nat.le_refl,and_self,true_and,List.length_nil,Nat.add_zero]
  ·have hl:0 < s.length:=by cases s <;> simp_all
   refine ⟨.slice (H.length+T.length) 0 (bs++s).length (.op 0),T.set m .dead++[.cells (u8s (bs++s)) 5 (.op 0 false)],⟨none,some (H.length+m)⟩,fun kk=>?_,by simp,by simp [clean,low],fun i x hx hf=>?_,.inr ⟨by simp; omega,T.length,rfl,by simp⟩⟩
   ·rw [eE (by decide) jE,hg]
    simp only [aD,ic]
    have hd:decide (0+(bs.length+s.length)*1≤(u8s bs).length)=false:=by
     rw [bB]; simp; omega
    have ht:(List.drop 0 (u8s bs)).take bs.length++u8s s=u8s (bs++s):=by
     rw [List.drop_zero,List.take_of_length_le (by rw [bB]; exact Nat.le_refl _),kg]
    rw [hd,cq]
    simp only [ht,hf,jd,gB,List.length_append,List.append_assoc,bB,Nat.sub_self,Nat.zero_le,true_and,and_true,Nat.mul_one,Nat.zero_add,Nat.le_refl]
   ·have hne:m≠i:=by
     rintro rfl
     rw [hm] at hx; cases hx; cases hf
    rw [ah (x:=x)]
    rw [List.getElem?_set_ne hne]; exact hx

theorem Buf.set {n:Nat} {T:Hp} {v:AV} {bs:List UInt8} {j:Nat} {c:List AV} {e:TypeId} {x:br} (h:Buf n T v bs) (hj:T[j]?=some (.cells c e .rw)):Buf n (T.set j x) v bs:=by
 obtain h | ⟨hp,m,rfl,hm⟩:=h
 ·exact .inl h
 ·refine .inr ⟨hp,m,rfl,?_⟩
  have:j≠m:=by rintro rfl; rw [hj] at hm; cases hm
  rw [List.getElem?_set_ne this]; exact hm
theorem Buf.pos {n:Nat} {T:Hp} {v:AV} {bs:List UInt8} (h:Buf n T v bs) (hp:0 < bs.length):∃ m,v=.slice (n+m) 0 bs.length (.op 0)∧T[m]?=some (.cells (u8s bs) 5 (.op 0 false)):=by
 obtain ⟨_,rfl⟩ | ⟨_,h⟩:=h
 ·cases hp
 ·exact h

theorem qx (H T:Hp) (j:Nat) (bs s:List UInt8) (hb:Bld H.length T j bs) (hs:0 < s.length) (hf:fits (bs.length+s.length) 1=true) :
  ∃ T' e,Bld H.length T' j (bs++s)∧lu T j T'∧Cl H.length j e∧∀ k,ag Tryz.prog 26 [.ptr (H.length+j) 0,.str s] (H++T) k=k (.tuple [.int .i64 s.length,.dh],H++T',e):=by
 obtain ⟨p,v,hj,hp,hv⟩:=hb
 have hlt:=ai hj
 obtain ⟨e1,he1,hck⟩:=pq H T j p v hj hp hv.scl
 have hj1:(T.set j (.cells [.ptr (H.length+j) 0,v] 73 .rw))[j]?=some (.cells [.ptr (H.length+j) 0,v] 73 .rw):=by rw [List.getElem?_set_self hlt]
 have hv1:=hv.set (x:=.cells [.ptr (H.length+j) 0,v] 73 .rw) hj
 obtain ⟨v',T2,e2,happ,hlen,hcl,hkeep,hbuf⟩:=hv1.app s hf
 obtain ⟨m,hvm,hm⟩:=hbuf.pos (by simp; omega)
 have hj2:=hkeep j _ hj1 rfl
 have hlt2:=ai hj2
 have hfl:flat v'=false:=by rw [hvm]; simp only [flat]
 have hsc:=hbuf.scl
 have hvc:bJ v'=[v']:=by rw [hvm]; rfl
 have hc0:clean H.length e1:=by
  obtain rfl | h:=he1
  ·exact ⟨rfl,rfl⟩
  ·exact h.cln
 have hcl3:Cl H.length j ((e1.and e2).and ⟨some (H.length+j),some (H.length+j)⟩):=.Eg (bq hc0 hcl) ⟨_,rfl,by omega,by omega,by simp [low]⟩
 obtain ⟨e',hE,hleave⟩:=hcl3.leave (m:=H.length+T.length) (by omega)
 refine ⟨T2.set j (.cells [.ptr (H.length+j) 0,v'] 73 .rw),e',⟨_,v',by rw [List.getElem?_set_self hlt2],.inr rfl,hbuf.set hj2⟩,⟨by simp at hlen ⊢; omega,fun i x hi hx hf=>?_⟩,hE,fun k=>?_⟩
 ·rw [List.getElem?_set_ne (Ne.symm hi)]
  exact hkeep i x (by rw [List.getElem?_set_ne (Ne.symm hi)]; exact hx) hf
 simp only [u8s] at happ
 refine ak ?_ k
 refine aa (n:=19) (rs:=[.tmp 4,.tmp 5]) Tryz.func26 rfl rfl rfl ?_
 intro σ hl ha
 have h0:=ha 0 (by simp)
 have h1:=ha 1 (by simp)
 clear ha
 simp only [Option.getD_some,List.getElem?_cons_zero,List.getElem?_cons_succ] at h0 h1
 have d1:decide (j < T.length)=true:=by simpa using hlt
 have d2:decide (j < T2.length)=true:=by simpa using hlt2
 simp only [go_sem,simprocAttr,hl,h0,h1,hck,d1,d2,hj1,hj2,happ,hvc,hsc,hfl]
 exact hleave _ _

theorem xA (H T:Hp) (j:Nat) (bs:List UInt8) (c:UInt8) (hb:Bld H.length T j bs) (hf:fits (bs.length+1) 1=true) :
  ∃ T' e,Bld H.length T' j (bs++[c])∧lu T j T'∧Cl H.length j e∧∀ k,ag Tryz.prog 53 [.ptr (H.length+j) 0,.int .u8 c.toNat] (H++T) k=k (.dh,H++T',e):=by
 obtain ⟨p,v,hj,hp,hv⟩:=hb
 have hlt:=ai hj
 obtain ⟨e1,he1,hck⟩:=pq H T j p v hj hp hv.scl
 have hj1:(T.set j (.cells [.ptr (H.length+j) 0,v] 73 .rw))[j]?=some (.cells [.ptr (H.length+j) 0,v] 73 .rw):=by rw [List.getElem?_set_self hlt]
 have hj1':(T.set j (.cells [.ptr (H.length+j) 0,v] 73 .rw)++[.cells [.int .u8 c.toNat] 5 .rw])[j]?=some (.cells [.ptr (H.length+j) 0,v] 73 .rw):=ah hj1
 have hv1:Buf H.length (T.set j (.cells [.ptr (H.length+j) 0,v] 73 .rw)++[.cells [.int .u8 c.toNat] 5 .rw]) v bs:=by
  obtain h | ⟨hp,m,rfl,hm⟩:=hv.set (x:=.cells [.ptr (H.length+j) 0,v] 73 .rw) hj
  ·exact .inl h
  ·exact .inr ⟨hp,m,rfl,ah hm⟩
 obtain ⟨v',T2,e2,happ,hlen,hcl,hkeep,hbuf⟩:=hv1.app [c] hf
 obtain ⟨m,hvm,hm⟩:=hbuf.pos (by simp)
 have hj2:=hkeep j _ hj1' rfl
 have hlt2:=ai hj2
 have hfl:flat v'=false:=by rw [hvm]; simp only [flat]
 have hsc:=hbuf.scl
 have hvc:bJ v'=[v']:=by rw [hvm]; rfl
 have hc0:clean H.length e1:=by
  obtain rfl | h:=he1
  ·exact ⟨rfl,rfl⟩
  ·exact h.cln
 have hcl3:Cl H.length j ((e1.and e2).and ⟨some (H.length+j),some (H.length+j)⟩):=.Eg (bq hc0 hcl) ⟨_,rfl,by omega,by omega,by simp [low]⟩
 obtain ⟨e',hE,hleave⟩:=hcl3.leave (m:=H.length+T.length) (by omega)
 refine ⟨T2.set j (.cells [.ptr (H.length+j) 0,v'] 73 .rw),e',⟨_,v',by rw [List.getElem?_set_self hlt2],.inr rfl,hbuf.set hj2⟩,⟨by simp at hlen ⊢; omega,fun i x hi hx hf=>?_⟩,hE,fun k=>?_⟩
 ·rw [List.getElem?_set_ne (Ne.symm hi)]
  exact hkeep i x (ah (by rw [List.getElem?_set_ne (Ne.symm hi)]; exact hx)) hf
 simp only [u8s,List.map_cons,List.map_nil,List.length_cons,List.length_nil,Nat.zero_add] at happ
 refine ak ?_ k
 refine aa (n:=17) (rs:=[.tmp 4]) Tryz.func53 rfl rfl rfl ?_
 intro σ hl ha
 have h0:=ha 0 (by simp)
 have h1:=ha 1 (by simp)
 clear ha
 simp only [Option.getD_some,List.getElem?_cons_zero,List.getElem?_cons_succ] at h0 h1
 have d1:decide (j < T.length)=true:=by simpa using hlt
 have d2:decide (j < T2.length)=true:=by simpa using hlt2
 have hbs:∀ H,aP Tryz.prog 71 1 [(0,.int .u8 c.toNat)] H=some (.slice H.length 0 1 (.ex 1),H++[.cells [.int .u8 c.toNat] 5 .rw]):=by
  intro H
  simp only [aP,dr,js,Option.bind_some]
  rfl
 simp only [go_sem,simprocAttr,hl,h0,h1,hck,d1,d2,hj1,hj2,hbs,happ,hvc,hsc,hfl]
 exact hleave _ _

theorem qy (H T:Hp) (j:Nat) (bs:List UInt8) (hb:Bld H.length T j bs) (hn:bs.length≤9223372036854775807) :
  ∃ T' e,lu T j T'∧clean H.length e∧∀ k,ag Tryz.prog 33 [.ptr (H.length+j) 0] (H++T) k=k (.str bs,H++T',e):=by
 obtain ⟨p,v,hj,hp,hv⟩:=hb
 have hlt:=ai hj
 have hlen:=hv.len
 obtain ⟨rfl,rfl⟩ | ⟨hpos,m,rfl,hm⟩:=hv
 ·refine ⟨T,z0,lu.refl T j,⟨rfl,rfl⟩,fun k=>?_⟩
  refine ak ?_ k
  refine aa (n:=14) (rs:=[.tmp 2]) Tryz.func33 rfl rfl rfl ?_
  intro σ hl ha
  have h0:=ha 0 (by simp)
  clear ha
  simp only [Option.getD_some,List.getElem?_cons_zero,List.getElem?_cons_succ] at h0
  have hsd:fC Tryz.prog .aJ (H++T)=some .fH:=rfl
  have hst:gC Tryz.prog 122 .fH (.int .i64 0) (H++T)=some (.str [],H++T,z0):=rfl
  have d1:decide (j < T.length)=true:=by simpa using hlt
  simp only [go_sem,simprocAttr,hl,h0]
  refine ay au (by kernel_rfl) ?_
  simp only [go_sem,simprocAttr,hl,h0,hj,d1,hsd,hst,hlen]
  rw [← List.length_append]
  exact dL rfl (by rw [iy]; trivial)
 ·have hlm:=ai hm
  have hg:(H++T)[H.length+m]?=some (.cells (u8s bs) 5 (.op 0 false)):=by rw [bZ,hm]
  have hsd:fC Tryz.prog (.slice (H.length+m) 0 bs.length (.op 0)) (H++T)=some (.ptr (H.length+m) 0):=by
   simp only [fC,hg,rm,Option.bind_some]
   rw [if_pos ⟨by decide,trivial,hpos,by rw [bB]; omega⟩]
  have hst:gC Tryz.prog 122 (.ptr (H.length+m) 0) (.int .i64 bs.length) (H++T)=some (.str bs,(H++T).set (H.length+m) (.cells (u8s bs) 5 (.op bs.length false)),⟨none,some (H.length+m)⟩):=by
   have c1:¬ ((bs.length:Int)=0):=by omega
   have c2:0 < (bs.length:Int)∧(bs.length:Int)≤9223372036854775807:=by omega
   have c3:Tryz.prog.cellsOf 5=1:=by kernel_rfl
   have c5:((u8s bs).drop 0).take (bs.length:Int).toNat=u8s bs:=by
    rw [List.drop_zero,List.take_of_length_le (by rw [bB]; simp)]
   simp only [gC,vK,hg]
   rw [if_neg c1,if_pos c2,if_pos ⟨trivial,rm,c3,by rw [bB]; simp⟩,c5,qw]
   simp
  refine ⟨T.set m (.cells (u8s bs) 5 (.op bs.length false)),⟨none,low (H.length+T.length) (some (H.length+m))⟩,⟨by simp,fun i x hi hx hf=>by
   have hne:m≠i:=by
    rintro rfl
    rw [hm] at hx; cases hx; cases hf
   rw [List.getElem?_set_ne hne]; exact hx⟩,⟨rfl,kD (m:=H.length+T.length) (by simp [low]:low H.length (some (H.length+m))=none)⟩,fun k=>?_⟩
  refine ak ?_ k
  refine aa (n:=14) (rs:=[.tmp 2]) Tryz.func33 rfl rfl rfl ?_
  intro σ hl ha
  have h0:=ha 0 (by simp)
  clear ha
  simp only [Option.getD_some,List.getElem?_cons_zero,List.getElem?_cons_succ] at h0
  have d1:decide (j < T.length)=true:=by simpa using hlt
  simp only [go_sem,simprocAttr,hl,h0]
  refine ay au (by kernel_rfl) ?_
  simp only [go_sem,simprocAttr,hl,h0,hj,d1,hsd,hst,hlen]
  refine ⟨(by kernel_rfl:bP _ _ _=true),?_⟩
  unfold leave
  have hlo:low (H.length+T.length) none=none:=rfl
  simp only [hlo,flat,and_self,if_true]
  rw [List.take_of_length_le (by simp)]
theorem pn (H T:Hp) (j:Nat) (bs:List UInt8) (hb:Bld H.length T j bs) (hn:bs.length≤9223372036854775807) :
  ∃ T' e,clean H.length e∧∀ k,ag Tryz.prog 33 [.ptr (H.length+j) 0] (H++T) k=k (.str bs,H++T',e):=by
 obtain ⟨T',e,_,h1,h2⟩:=qy H T j bs hb hn
 exact ⟨T',e,h1,h2⟩
def gP (q:Bool) (c:UInt8):List UInt8 :=
 if c.toNat=34∨c.toNat=92 then [92,c]
 else if c.toNat=46∨c.toNat=59∨c.toNat=40∨c.toNat=41∨c.toNat=64∨c.toNat=36 then (if q=true then [c] else [92,c])
 else if (32 < c.toNat∧c.toNat < 127)∨(c.toNat=32∧q=true) then [c]
 else [92,UInt8.ofNat (48+c.toNat / 100),UInt8.ofNat (48+c.toNat / 10 % 10),UInt8.ofNat (48+c.toNat % 10)]
def fL (q:Bool) (s:List UInt8):List UInt8:=s.flatMap (gP q)
theorem KC (q:Bool) (c:UInt8):(gP q c).length≤4:=by
 unfold gP; split
 ·simp
 split
 ·split <;> simp
 split <;> simp
theorem vh {q:Bool} {s:List UInt8} {i:Nat} {c:UInt8} (h:s[i]?=some c):fL q (s.take (i+1))=fL q (s.take i)++gP q c:=by
 rw [cA h]; simp [fL]
theorem fZ (q:Bool):∀ (s:List UInt8),(fL q s).length≤4*s.length
 | []=>by simp [fL]
 | c::s=>by
  have:=fZ q s
  have h:=KC q c
  have e:fL q (c::s)=gP q c++fL q s:=rfl
  rw [e,List.length_append,List.length_cons]; omega

theorem Bld.more {n:Nat} {T:Hp} {j:Nat} {bs:List UInt8} (h:Bld n T j bs) (l:Hp):Bld n (T++l) j bs:=by
 obtain ⟨p,v,hj,hp,hv⟩:=h
 refine ⟨p,v,ah hj,hp,?_⟩
 obtain h | ⟨q,m,rfl,hm⟩:=hv
 ·exact .inl h
 ·exact .inr ⟨q,m,rfl,ah hm⟩
theorem Bld.lt {n:Nat} {T:Hp} {j:Nat} {bs:List UInt8} (h:Bld n T j bs):j < T.length:=by
 obtain ⟨p,v,hj,hp,hv⟩:=h
 exact ai hj

theorem xz (H T:Hp) (j q:Nat) (bs s:List UInt8) (hb:Bld H.length T j bs) (hq:T[q]?=some (.cells (u8s s) 5 .rw)) (hqj:j≠q) (hs:0 < s.length) (hf:fits (bs.length+s.length) 1=true) :
  ∃ T' e,Bld H.length T' j (bs++s)∧lu T j T'∧Cl H.length j e∧∀ k,ag Tryz.prog 88 [.ptr (H.length+j) 0,.slice (H.length+q) 0 s.length (.ex s.length)] (H++T) k=k (.tuple [.int .i64 s.length,.dh],H++T',e):=by
 obtain ⟨p,v,hj,hp,hv⟩:=hb
 have hlt:=ai hj
 obtain ⟨e1,he1,hck⟩:=pq H T j p v hj hp hv.scl
 have hj1:(T.set j (.cells [.ptr (H.length+j) 0,v] 73 .rw))[j]?=some (.cells [.ptr (H.length+j) 0,v] 73 .rw):=by rw [List.getElem?_set_self hlt]
 have hq1:(T.set j (.cells [.ptr (H.length+j) 0,v] 73 .rw))[q]?=some (.cells (u8s s) 5 .rw):=by rw [List.getElem?_set_ne hqj]; exact hq
 have hv1:=hv.set (x:=.cells [.ptr (H.length+j) 0,v] 73 .rw) hj
 obtain ⟨v',T2,e2,happ,hlen,hcl,hkeep,hbuf⟩:=hv1.app s hf
 obtain ⟨m,hvm,hm⟩:=hbuf.pos (by simp; omega)
 have hj2:=hkeep j _ hj1 rfl
 have hlt2:=ai hj2
 have hfl:flat v'=false:=by rw [hvm]; simp only [flat]
 have hsc:=hbuf.scl
 have hvc:bJ v'=[v']:=by rw [hvm]; rfl
 have hc0:clean H.length e1:=by
  obtain rfl | h:=he1
  ·exact ⟨rfl,rfl⟩
  ·exact h.cln
 have hcl3:Cl H.length j ((e1.and e2).and ⟨some (H.length+j),some (H.length+j)⟩):=.Eg (bq hc0 hcl) ⟨_,rfl,by omega,by omega,by simp [low]⟩
 obtain ⟨e',hE,hleave⟩:=hcl3.leave (m:=H.length+T.length) (by omega)
 refine ⟨T2.set j (.cells [.ptr (H.length+j) 0,v'] 73 .rw),e',⟨_,v',by rw [List.getElem?_set_self hlt2],.inr rfl,hbuf.set hj2⟩,⟨by simp at hlen ⊢; omega,fun i x hi hx hf=>?_⟩,hE,fun k=>?_⟩
 ·rw [List.getElem?_set_ne (Ne.symm hi)]
  exact hkeep i x (by rw [List.getElem?_set_ne (Ne.symm hi)]; exact hx) hf
 have hrd:=fun (e:TypeId) (k:Kd)=>wg (s:=s) (e:=e) (k:=k) (n:=s.length) rfl
 refine ak ?_ k
 refine aa (n:=19) (rs:=[.tmp 4,.tmp 5]) Tryz.func88 rfl rfl rfl ?_
 intro σ hl ha
 have h0:=ha 0 (by simp)
 have h1:=ha 1 (by simp)
 clear ha
 simp only [Option.getD_some,List.getElem?_cons_zero,List.getElem?_cons_succ] at h0 h1
 have d1:decide (j < T.length)=true:=by simpa using hlt
 have d2:decide (j < T2.length)=true:=by simpa using hlt2
 simp only [go_sem,simprocAttr,hl,h0,h1,hck,d1,d2,hj1,hj2,hq1,hrd,Nat.mul_one,happ,hvc,hsc,hfl]
 exact hleave _ _
theorem dD (H T:Hp) (j:Nat) (bs:List UInt8) (c:UInt8) (n:Int) (hn:n=c.toNat) (hb:Bld H.length T j bs) (hf:fits (bs.length+1) 1=true) :
  ∃ T' e,Bld H.length T' j (bs++[c])∧lu T j T'∧Cl H.length j e∧∀ k,ag Tryz.prog 53 [.ptr (H.length+j) 0,.int .u8 n] (H++T) k=k (.dh,H++T',e):=by
 subst hn
 exact xA H T j bs c hb hf
theorem cG (a b c d:Int) (H:Hp):aP Tryz.prog 71 4 [(0,.int .u8 a),(1,.int .u8 b),(2,.int .u8 c),(3,.int .u8 d)] H=some (.slice H.length 0 4 (.ex 4),H++[.cells [.int .u8 a,.int .u8 b,.int .u8 c,.int .u8 d] 5 .rw]):=by
 simp only [aP,dr,js,Option.bind_some]
 rfl
theorem xk {n:Nat} (h:n < 256):IntKind.u8.wrap (48+IntKind.u8.wrap ((n:Int).tdiv 100))=((UInt8.ofNat (48+n / 100)).toNat:Int):=by
 have e:(n:Int).tdiv 100=((n / 100:Nat):Int):=rfl
 rw [e,show IntKind.u8.wrap ((n / 100:Nat):Int)=((n / 100:Nat):Int) from wrap_u8 (by omega),ofNat_le (m:=255) (by omega) (by omega),wrap_u8 (by omega)]; omega
theorem xj {n:Nat} (h:n < 256):IntKind.u8.wrap (48+(IntKind.u8.wrap ((n:Int).tdiv 10)).tmod 10)=((UInt8.ofNat (48+n / 10 % 10)).toNat:Int):=by
 have e:(n:Int).tdiv 10=((n / 10:Nat):Int):=rfl
 rw [e,show IntKind.u8.wrap ((n / 10:Nat):Int)=((n / 10:Nat):Int) from wrap_u8 (by omega)]
 have e:((n / 10:Nat):Int).tmod 10=((n / 10 % 10:Nat):Int):=rfl
 rw [e,ofNat_le (m:=255) (by omega) (by omega),wrap_u8 (by omega)]; omega
theorem xh {n:Nat} (h:n < 256):IntKind.u8.wrap (48+(n:Int).tmod 10)=((UInt8.ofNat (48+n % 10)).toNat:Int):=by
 have e:(n:Int).tmod 10=((n % 10:Nat):Int):=rfl
 rw [e,ofNat_le (m:=255) (by omega) (by omega),wrap_u8 (by omega)]; omega

set_option maxHeartbeats 2000000 in
theorem qP (s:List UInt8) (q:Bool) (H k) (hs:s.length≤1000000):ag Tryz.prog 52 [.str s,.bool q] H k=k (.str (fL q s),H,z0):=by
 refine ak (r:=(.str (fL q s),H,z0)) ?_ k
 refine aa (n:=63) (rs:=[.tmp 4]) Tryz.func52 rfl rfl rfl ?_
 intro σ hl ha
 have h0:=ha 0 (by simp)
 have h1:=ha 1 (by simp)
 clear ha
 simp only [Option.getD_some,List.getElem?_cons_zero,List.getElem?_cons_succ] at h0 h1
 have hb0:Bld H.length [.cells [.fH,.aJ] 73 .rw] 0 (fL q (s.take 0)):=⟨_,_,rfl,.inl rfl,.inl ⟨rfl,rfl⟩⟩
 simp only [go_sem,simprocAttr,hl,h0,h1]
 refine aW (fun n st=>∃ σ i T e,n+i=s.length∧st=⟨σ,H++T,e⟩∧Bld H.length T 0 (fL q (s.take i))∧clean H.length e∧σ.length=63∧fr σ 0=.str s∧fr σ 1=.bool q∧fr σ 5=.ptr H.length 0∧fr σ 10=.int .i64 s.length∧fr σ 11=.int .i64 (i:Nat)) s.length
  ⟨_,0,_,_,rfl,rfl,hb0,⟨rfl,rfl⟩,by simp only [go_sem,simprocAttr,hl],by simp only [go_sem,simprocAttr,hl,h0],by simp only [go_sem,simprocAttr,hl,h1],by simp only [go_sem,simprocAttr,hl],by simp only [go_sem,simprocAttr,hl],by simp only [go_sem,simprocAttr,hl]⟩ ?_
 rintro n _ ⟨σ,i,T,e,hn,rfl,hb,he,hl,h0,h1,h5,h10,h11⟩
 by_cases hlt:i < s.length
 ·obtain ⟨c,hc⟩:∃ c,s[i]?=some c:=⟨_,List.getElem?_eq_getElem hlt⟩
  have hcl:=c.toNat_lt
  have hw:=aT (show i < 9223372036854775807 by omega)
  have hsn:=vh (q:=q) hc
  have hbl:(fL q (s.take i)).length≤4000000:=by
   have:=fZ q (s.take i)
   rw [List.length_take] at this; omega
  have hT:=hb.lt
  generalize hB:fL q (s.take i)=B at *
  by_cases q34:c.toNat=34
  ·have hE:gP q c=[92,c]:=by unfold gP; exact if_pos (by omega)
   have g46:((c.toNat:Int) == 46)=false:=by simp; omega
   have g59:((c.toNat:Int) == 59)=false:=by simp; omega
   have g40:((c.toNat:Int) == 40)=false:=by simp; omega
   have g41:((c.toNat:Int) == 41)=false:=by simp; omega
   have g64:((c.toNat:Int) == 64)=false:=by simp; omega
   have g36:((c.toNat:Int) == 36)=false:=by simp; omega
   have g34:((c.toNat:Int) == 34)=true:=by simp; omega
   have g92:((c.toNat:Int) == 92)=false:=by simp; omega
   obtain ⟨T1,e1,b1,k1,c1,r1⟩:=dD H T 0 (B) 92 92 rfl hb (by simp only [fits,decide_eq_true_eq,List.length_append,List.length_cons,List.length_nil] at *; omega)
   have c1:=c1.cln
   simp only [Nat.add_zero] at r1
   obtain ⟨T2,e2,b2,k2,c2,r2⟩:=dD H T1 0 (B++[92]) c c.toNat rfl b1 (by simp only [fits,decide_eq_true_eq,List.length_append,List.length_cons,List.length_nil] at *; omega)
   have c2:=c2.cln
   simp only [Nat.add_zero] at r2
   simp only [go_sem,simprocAttr,hl,h0,h1,h5,h10,h11,hc,hlt,hw,cG,g46,g59,g40,g41,g64,g36,g34,g92,r1,r2]
   refine ⟨n - 1,by omega,_,i+1,T2,_,by omega,rfl,?_,by simp only [go_sem,simprocAttr,he,c1,c2],by simp only [go_sem,simprocAttr,hl],by simp only [go_sem,simprocAttr,hl,h0],by simp only [go_sem,simprocAttr,hl,h1],by simp only [go_sem,simprocAttr,hl,h5],by simp only [go_sem,simprocAttr,hl,h10],by simp only [go_sem,simprocAttr,hl]⟩
   rw [hsn,hE]; simpa [List.append_assoc] using b2
  by_cases q92:c.toNat=92
  ·have hE:gP q c=[92,c]:=by unfold gP; exact if_pos (by omega)
   have g46:((c.toNat:Int) == 46)=false:=by simp; omega
   have g59:((c.toNat:Int) == 59)=false:=by simp; omega
   have g40:((c.toNat:Int) == 40)=false:=by simp; omega
   have g41:((c.toNat:Int) == 41)=false:=by simp; omega
   have g64:((c.toNat:Int) == 64)=false:=by simp; omega
   have g36:((c.toNat:Int) == 36)=false:=by simp; omega
   have g34:((c.toNat:Int) == 34)=false:=by simp; omega
   have g92:((c.toNat:Int) == 92)=true:=by simp; omega
   obtain ⟨T1,e1,b1,k1,c1,r1⟩:=dD H T 0 (B) 92 92 rfl hb (by simp only [fits,decide_eq_true_eq,List.length_append,List.length_cons,List.length_nil] at *; omega)
   have c1:=c1.cln
   simp only [Nat.add_zero] at r1
   obtain ⟨T2,e2,b2,k2,c2,r2⟩:=dD H T1 0 (B++[92]) c c.toNat rfl b1 (by simp only [fits,decide_eq_true_eq,List.length_append,List.length_cons,List.length_nil] at *; omega)
   have c2:=c2.cln
   simp only [Nat.add_zero] at r2
   simp only [go_sem,simprocAttr,hl,h0,h1,h5,h10,h11,hc,hlt,hw,cG,g46,g59,g40,g41,g64,g36,g34,g92,r1,r2]
   refine ⟨n - 1,by omega,_,i+1,T2,_,by omega,rfl,?_,by simp only [go_sem,simprocAttr,he,c1,c2],by simp only [go_sem,simprocAttr,hl],by simp only [go_sem,simprocAttr,hl,h0],by simp only [go_sem,simprocAttr,hl,h1],by simp only [go_sem,simprocAttr,hl,h5],by simp only [go_sem,simprocAttr,hl,h10],by simp only [go_sem,simprocAttr,hl]⟩
   rw [hsn,hE]; simpa [List.append_assoc] using b2
  by_cases q46:c.toNat=46
  ·have hE:gP q c=if q=true then [c] else [92,c]:=by unfold gP; rw [if_neg (by omega),if_pos (by omega)]
   have g46:((c.toNat:Int) == 46)=true:=by simp; omega
   have g59:((c.toNat:Int) == 59)=false:=by simp; omega
   have g40:((c.toNat:Int) == 40)=false:=by simp; omega
   have g41:((c.toNat:Int) == 41)=false:=by simp; omega
   have g64:((c.toNat:Int) == 64)=false:=by simp; omega
   have g36:((c.toNat:Int) == 36)=false:=by simp; omega
   have g34:((c.toNat:Int) == 34)=false:=by simp; omega
   have g92:((c.toNat:Int) == 92)=false:=by simp; omega
   cases q
   ·rw [if_neg (by simp)] at hE
    obtain ⟨T1,e1,b1,k1,c1,r1⟩:=dD H T 0 (B) 92 92 rfl hb (by simp only [fits,decide_eq_true_eq,List.length_append,List.length_cons,List.length_nil] at *; omega)
    have c1:=c1.cln
    simp only [Nat.add_zero] at r1
    obtain ⟨T2,e2,b2,k2,c2,r2⟩:=dD H T1 0 (B++[92]) c c.toNat rfl b1 (by simp only [fits,decide_eq_true_eq,List.length_append,List.length_cons,List.length_nil] at *; omega)
    have c2:=c2.cln
    simp only [Nat.add_zero] at r2
    simp only [go_sem,simprocAttr,hl,h0,h1,h5,h10,h11,hc,hlt,hw,cG,g46,g59,g40,g41,g64,g36,g34,g92,r1,r2]
    refine ⟨n - 1,by omega,_,i+1,T2,_,by omega,rfl,?_,by simp only [go_sem,simprocAttr,he,c1,c2],by simp only [go_sem,simprocAttr,hl],by simp only [go_sem,simprocAttr,hl,h0],by simp only [go_sem,simprocAttr,hl,h1],by simp only [go_sem,simprocAttr,hl,h5],by simp only [go_sem,simprocAttr,hl,h10],by simp only [go_sem,simprocAttr,hl]⟩
    rw [hsn,hE]; simpa [List.append_assoc] using b2
   ·rw [if_pos rfl] at hE
    obtain ⟨T1,e1,b1,k1,c1,r1⟩:=dD H T 0 (B) c c.toNat rfl hb (by simp only [fits,decide_eq_true_eq,List.length_append,List.length_cons,List.length_nil] at *; omega)
    have c1:=c1.cln
    simp only [Nat.add_zero] at r1
    simp only [go_sem,simprocAttr,hl,h0,h1,h5,h10,h11,hc,hlt,hw,cG,g46,g59,g40,g41,g64,g36,g34,g92,r1]
    refine ⟨n - 1,by omega,_,i+1,T1,_,by omega,rfl,?_,by simp only [go_sem,simprocAttr,he,c1],by simp only [go_sem,simprocAttr,hl],by simp only [go_sem,simprocAttr,hl,h0],by simp only [go_sem,simprocAttr,hl,h1],by simp only [go_sem,simprocAttr,hl,h5],by simp only [go_sem,simprocAttr,hl,h10],by simp only [go_sem,simprocAttr,hl]⟩
    rw [hsn,hE]; simpa [List.append_assoc] using b1
  by_cases q59:c.toNat=59
  ·have hE:gP q c=if q=true then [c] else [92,c]:=by unfold gP; rw [if_neg (by omega),if_pos (by omega)]
   have g46:((c.toNat:Int) == 46)=false:=by simp; omega
   have g59:((c.toNat:Int) == 59)=true:=by simp; omega
   have g40:((c.toNat:Int) == 40)=false:=by simp; omega
   have g41:((c.toNat:Int) == 41)=false:=by simp; omega
   have g64:((c.toNat:Int) == 64)=false:=by simp; omega
   have g36:((c.toNat:Int) == 36)=false:=by simp; omega
   have g34:((c.toNat:Int) == 34)=false:=by simp; omega
   have g92:((c.toNat:Int) == 92)=false:=by simp; omega
   cases q
   ·rw [if_neg (by simp)] at hE
    obtain ⟨T1,e1,b1,k1,c1,r1⟩:=dD H T 0 (B) 92 92 rfl hb (by simp only [fits,decide_eq_true_eq,List.length_append,List.length_cons,List.length_nil] at *; omega)
    have c1:=c1.cln
    simp only [Nat.add_zero] at r1
    obtain ⟨T2,e2,b2,k2,c2,r2⟩:=dD H T1 0 (B++[92]) c c.toNat rfl b1 (by simp only [fits,decide_eq_true_eq,List.length_append,List.length_cons,List.length_nil] at *; omega)
    have c2:=c2.cln
    simp only [Nat.add_zero] at r2
    simp only [go_sem,simprocAttr,hl,h0,h1,h5,h10,h11,hc,hlt,hw,cG,g46,g59,g40,g41,g64,g36,g34,g92,r1,r2]
    refine ⟨n - 1,by omega,_,i+1,T2,_,by omega,rfl,?_,by simp only [go_sem,simprocAttr,he,c1,c2],by simp only [go_sem,simprocAttr,hl],by simp only [go_sem,simprocAttr,hl,h0],by simp only [go_sem,simprocAttr,hl,h1],by simp only [go_sem,simprocAttr,hl,h5],by simp only [go_sem,simprocAttr,hl,h10],by simp only [go_sem,simprocAttr,hl]⟩
    rw [hsn,hE]; simpa [List.append_assoc] using b2
   ·rw [if_pos rfl] at hE
    obtain ⟨T1,e1,b1,k1,c1,r1⟩:=dD H T 0 (B) c c.toNat rfl hb (by simp only [fits,decide_eq_true_eq,List.length_append,List.length_cons,List.length_nil] at *; omega)
    have c1:=c1.cln
    simp only [Nat.add_zero] at r1
    simp only [go_sem,simprocAttr,hl,h0,h1,h5,h10,h11,hc,hlt,hw,cG,g46,g59,g40,g41,g64,g36,g34,g92,r1]
    refine ⟨n - 1,by omega,_,i+1,T1,_,by omega,rfl,?_,by simp only [go_sem,simprocAttr,he,c1],by simp only [go_sem,simprocAttr,hl],by simp only [go_sem,simprocAttr,hl,h0],by simp only [go_sem,simprocAttr,hl,h1],by simp only [go_sem,simprocAttr,hl,h5],by simp only [go_sem,simprocAttr,hl,h10],by simp only [go_sem,simprocAttr,hl]⟩
    rw [hsn,hE]; simpa [List.append_assoc] using b1
  by_cases q40:c.toNat=40
  ·have hE:gP q c=if q=true then [c] else [92,c]:=by unfold gP; rw [if_neg (by omega),if_pos (by omega)]
   have g46:((c.toNat:Int) == 46)=false:=by simp; omega
   have g59:((c.toNat:Int) == 59)=false:=by simp; omega
   have g40:((c.toNat:Int) == 40)=true:=by simp; omega
   have g41:((c.toNat:Int) == 41)=false:=by simp; omega
   have g64:((c.toNat:Int) == 64)=false:=by simp; omega
   have g36:((c.toNat:Int) == 36)=false:=by simp; omega
   have g34:((c.toNat:Int) == 34)=false:=by simp; omega
   have g92:((c.toNat:Int) == 92)=false:=by simp; omega
   cases q
   ·rw [if_neg (by simp)] at hE
    obtain ⟨T1,e1,b1,k1,c1,r1⟩:=dD H T 0 (B) 92 92 rfl hb (by simp only [fits,decide_eq_true_eq,List.length_append,List.length_cons,List.length_nil] at *; omega)
    have c1:=c1.cln
    simp only [Nat.add_zero] at r1
    obtain ⟨T2,e2,b2,k2,c2,r2⟩:=dD H T1 0 (B++[92]) c c.toNat rfl b1 (by simp only [fits,decide_eq_true_eq,List.length_append,List.length_cons,List.length_nil] at *; omega)
    have c2:=c2.cln
    simp only [Nat.add_zero] at r2
    simp only [go_sem,simprocAttr,hl,h0,h1,h5,h10,h11,hc,hlt,hw,cG,g46,g59,g40,g41,g64,g36,g34,g92,r1,r2]
    refine ⟨n - 1,by omega,_,i+1,T2,_,by omega,rfl,?_,by simp only [go_sem,simprocAttr,he,c1,c2],by simp only [go_sem,simprocAttr,hl],by simp only [go_sem,simprocAttr,hl,h0],by simp only [go_sem,simprocAttr,hl,h1],by simp only [go_sem,simprocAttr,hl,h5],by simp only [go_sem,simprocAttr,hl,h10],by simp only [go_sem,simprocAttr,hl]⟩
    rw [hsn,hE]; simpa [List.append_assoc] using b2
   ·rw [if_pos rfl] at hE
    obtain ⟨T1,e1,b1,k1,c1,r1⟩:=dD H T 0 (B) c c.toNat rfl hb (by simp only [fits,decide_eq_true_eq,List.length_append,List.length_cons,List.length_nil] at *; omega)
    have c1:=c1.cln
    simp only [Nat.add_zero] at r1
    simp only [go_sem,simprocAttr,hl,h0,h1,h5,h10,h11,hc,hlt,hw,cG,g46,g59,g40,g41,g64,g36,g34,g92,r1]
    refine ⟨n - 1,by omega,_,i+1,T1,_,by omega,rfl,?_,by simp only [go_sem,simprocAttr,he,c1],by simp only [go_sem,simprocAttr,hl],by simp only [go_sem,simprocAttr,hl,h0],by simp only [go_sem,simprocAttr,hl,h1],by simp only [go_sem,simprocAttr,hl,h5],by simp only [go_sem,simprocAttr,hl,h10],by simp only [go_sem,simprocAttr,hl]⟩
    rw [hsn,hE]; simpa [List.append_assoc] using b1
  by_cases q41:c.toNat=41
  ·have hE:gP q c=if q=true then [c] else [92,c]:=by unfold gP; rw [if_neg (by omega),if_pos (by omega)]
   have g46:((c.toNat:Int) == 46)=false:=by simp; omega
   have g59:((c.toNat:Int) == 59)=false:=by simp; omega
   have g40:((c.toNat:Int) == 40)=false:=by simp; omega
   have g41:((c.toNat:Int) == 41)=true:=by simp; omega
   have g64:((c.toNat:Int) == 64)=false:=by simp; omega
   have g36:((c.toNat:Int) == 36)=false:=by simp; omega
   have g34:((c.toNat:Int) == 34)=false:=by simp; omega
   have g92:((c.toNat:Int) == 92)=false:=by simp; omega
   cases q
   ·rw [if_neg (by simp)] at hE
    obtain ⟨T1,e1,b1,k1,c1,r1⟩:=dD H T 0 (B) 92 92 rfl hb (by simp only [fits,decide_eq_true_eq,List.length_append,List.length_cons,List.length_nil] at *; omega)
    have c1:=c1.cln
    simp only [Nat.add_zero] at r1
    obtain ⟨T2,e2,b2,k2,c2,r2⟩:=dD H T1 0 (B++[92]) c c.toNat rfl b1 (by simp only [fits,decide_eq_true_eq,List.length_append,List.length_cons,List.length_nil] at *; omega)
    have c2:=c2.cln
    simp only [Nat.add_zero] at r2
    simp only [go_sem,simprocAttr,hl,h0,h1,h5,h10,h11,hc,hlt,hw,cG,g46,g59,g40,g41,g64,g36,g34,g92,r1,r2]
    refine ⟨n - 1,by omega,_,i+1,T2,_,by omega,rfl,?_,by simp only [go_sem,simprocAttr,he,c1,c2],by simp only [go_sem,simprocAttr,hl],by simp only [go_sem,simprocAttr,hl,h0],by simp only [go_sem,simprocAttr,hl,h1],by simp only [go_sem,simprocAttr,hl,h5],by simp only [go_sem,simprocAttr,hl,h10],by simp only [go_sem,simprocAttr,hl]⟩
    rw [hsn,hE]; simpa [List.append_assoc] using b2
   ·rw [if_pos rfl] at hE
    obtain ⟨T1,e1,b1,k1,c1,r1⟩:=dD H T 0 (B) c c.toNat rfl hb (by simp only [fits,decide_eq_true_eq,List.length_append,List.length_cons,List.length_nil] at *; omega)
    have c1:=c1.cln
    simp only [Nat.add_zero] at r1
    simp only [go_sem,simprocAttr,hl,h0,h1,h5,h10,h11,hc,hlt,hw,cG,g46,g59,g40,g41,g64,g36,g34,g92,r1]
    refine ⟨n - 1,by omega,_,i+1,T1,_,by omega,rfl,?_,by simp only [go_sem,simprocAttr,he,c1],by simp only [go_sem,simprocAttr,hl],by simp only [go_sem,simprocAttr,hl,h0],by simp only [go_sem,simprocAttr,hl,h1],by simp only [go_sem,simprocAttr,hl,h5],by simp only [go_sem,simprocAttr,hl,h10],by simp only [go_sem,simprocAttr,hl]⟩
    rw [hsn,hE]; simpa [List.append_assoc] using b1
  by_cases q64:c.toNat=64
  ·have hE:gP q c=if q=true then [c] else [92,c]:=by unfold gP; rw [if_neg (by omega),if_pos (by omega)]
   have g46:((c.toNat:Int) == 46)=false:=by simp; omega
   have g59:((c.toNat:Int) == 59)=false:=by simp; omega
   have g40:((c.toNat:Int) == 40)=false:=by simp; omega
   have g41:((c.toNat:Int) == 41)=false:=by simp; omega
   have g64:((c.toNat:Int) == 64)=true:=by simp; omega
   have g36:((c.toNat:Int) == 36)=false:=by simp; omega
   have g34:((c.toNat:Int) == 34)=false:=by simp; omega
   have g92:((c.toNat:Int) == 92)=false:=by simp; omega
   cases q
   ·rw [if_neg (by simp)] at hE
    obtain ⟨T1,e1,b1,k1,c1,r1⟩:=dD H T 0 (B) 92 92 rfl hb (by simp only [fits,decide_eq_true_eq,List.length_append,List.length_cons,List.length_nil] at *; omega)
    have c1:=c1.cln
    simp only [Nat.add_zero] at r1
    obtain ⟨T2,e2,b2,k2,c2,r2⟩:=dD H T1 0 (B++[92]) c c.toNat rfl b1 (by simp only [fits,decide_eq_true_eq,List.length_append,List.length_cons,List.length_nil] at *; omega)
    have c2:=c2.cln
    simp only [Nat.add_zero] at r2
    simp only [go_sem,simprocAttr,hl,h0,h1,h5,h10,h11,hc,hlt,hw,cG,g46,g59,g40,g41,g64,g36,g34,g92,r1,r2]
    refine ⟨n - 1,by omega,_,i+1,T2,_,by omega,rfl,?_,by simp only [go_sem,simprocAttr,he,c1,c2],by simp only [go_sem,simprocAttr,hl],by simp only [go_sem,simprocAttr,hl,h0],by simp only [go_sem,simprocAttr,hl,h1],by simp only [go_sem,simprocAttr,hl,h5],by simp only [go_sem,simprocAttr,hl,h10],by simp only [go_sem,simprocAttr,hl]⟩
    rw [hsn,hE]; simpa [List.append_assoc] using b2
   ·rw [if_pos rfl] at hE
    obtain ⟨T1,e1,b1,k1,c1,r1⟩:=dD H T 0 (B) c c.toNat rfl hb (by simp only [fits,decide_eq_true_eq,List.length_append,List.length_cons,List.length_nil] at *; omega)
    have c1:=c1.cln
    simp only [Nat.add_zero] at r1
    simp only [go_sem,simprocAttr,hl,h0,h1,h5,h10,h11,hc,hlt,hw,cG,g46,g59,g40,g41,g64,g36,g34,g92,r1]
    refine ⟨n - 1,by omega,_,i+1,T1,_,by omega,rfl,?_,by simp only [go_sem,simprocAttr,he,c1],by simp only [go_sem,simprocAttr,hl],by simp only [go_sem,simprocAttr,hl,h0],by simp only [go_sem,simprocAttr,hl,h1],by simp only [go_sem,simprocAttr,hl,h5],by simp only [go_sem,simprocAttr,hl,h10],by simp only [go_sem,simprocAttr,hl]⟩
    rw [hsn,hE]; simpa [List.append_assoc] using b1
  by_cases q36:c.toNat=36
  ·have hE:gP q c=if q=true then [c] else [92,c]:=by unfold gP; rw [if_neg (by omega),if_pos (by omega)]
   have g46:((c.toNat:Int) == 46)=false:=by simp; omega
   have g59:((c.toNat:Int) == 59)=false:=by simp; omega
   have g40:((c.toNat:Int) == 40)=false:=by simp; omega
   have g41:((c.toNat:Int) == 41)=false:=by simp; omega
   have g64:((c.toNat:Int) == 64)=false:=by simp; omega
   have g36:((c.toNat:Int) == 36)=true:=by simp; omega
   have g34:((c.toNat:Int) == 34)=false:=by simp; omega
   have g92:((c.toNat:Int) == 92)=false:=by simp; omega
   cases q
   ·rw [if_neg (by simp)] at hE
    obtain ⟨T1,e1,b1,k1,c1,r1⟩:=dD H T 0 (B) 92 92 rfl hb (by simp only [fits,decide_eq_true_eq,List.length_append,List.length_cons,List.length_nil] at *; omega)
    have c1:=c1.cln
    simp only [Nat.add_zero] at r1
    obtain ⟨T2,e2,b2,k2,c2,r2⟩:=dD H T1 0 (B++[92]) c c.toNat rfl b1 (by simp only [fits,decide_eq_true_eq,List.length_append,List.length_cons,List.length_nil] at *; omega)
    have c2:=c2.cln
    simp only [Nat.add_zero] at r2
    simp only [go_sem,simprocAttr,hl,h0,h1,h5,h10,h11,hc,hlt,hw,cG,g46,g59,g40,g41,g64,g36,g34,g92,r1,r2]
    refine ⟨n - 1,by omega,_,i+1,T2,_,by omega,rfl,?_,by simp only [go_sem,simprocAttr,he,c1,c2],by simp only [go_sem,simprocAttr,hl],by simp only [go_sem,simprocAttr,hl,h0],by simp only [go_sem,simprocAttr,hl,h1],by simp only [go_sem,simprocAttr,hl,h5],by simp only [go_sem,simprocAttr,hl,h10],by simp only [go_sem,simprocAttr,hl]⟩
    rw [hsn,hE]; simpa [List.append_assoc] using b2
   ·rw [if_pos rfl] at hE
    obtain ⟨T1,e1,b1,k1,c1,r1⟩:=dD H T 0 (B) c c.toNat rfl hb (by simp only [fits,decide_eq_true_eq,List.length_append,List.length_cons,List.length_nil] at *; omega)
    have c1:=c1.cln
    simp only [Nat.add_zero] at r1
    simp only [go_sem,simprocAttr,hl,h0,h1,h5,h10,h11,hc,hlt,hw,cG,g46,g59,g40,g41,g64,g36,g34,g92,r1]
    refine ⟨n - 1,by omega,_,i+1,T1,_,by omega,rfl,?_,by simp only [go_sem,simprocAttr,he,c1],by simp only [go_sem,simprocAttr,hl],by simp only [go_sem,simprocAttr,hl,h0],by simp only [go_sem,simprocAttr,hl,h1],by simp only [go_sem,simprocAttr,hl,h5],by simp only [go_sem,simprocAttr,hl,h10],by simp only [go_sem,simprocAttr,hl]⟩
    rw [hsn,hE]; simpa [List.append_assoc] using b1
  have g46:((c.toNat:Int) == 46)=false:=by simp; omega
  have g59:((c.toNat:Int) == 59)=false:=by simp; omega
  have g40:((c.toNat:Int) == 40)=false:=by simp; omega
  have g41:((c.toNat:Int) == 41)=false:=by simp; omega
  have g64:((c.toNat:Int) == 64)=false:=by simp; omega
  have g36:((c.toNat:Int) == 36)=false:=by simp; omega
  have g34:((c.toNat:Int) == 34)=false:=by simp; omega
  have g92:((c.toNat:Int) == 92)=false:=by simp; omega
  have hE:gP q c=if (32 < c.toNat∧c.toNat < 127)∨(c.toNat=32∧q=true) then [c] else [92,UInt8.ofNat (48+c.toNat / 100),UInt8.ofNat (48+c.toNat / 10 % 10),UInt8.ofNat (48+c.toNat % 10)]:=by unfold gP; rw [if_neg (by omega),if_neg (by omega)]
  by_cases hp:32 < c.toNat∧c.toNat < 127
  ·rw [if_pos (.inl hp)] at hE
   have p0:decide ((c.toNat:Int) > 32)=true:=by simp; omega
   have p1:decide ((c.toNat:Int) < 127)=true:=by simp; omega
   have p2:((c.toNat:Int) == 32)=false:=by simp; omega
   obtain ⟨T1,e1,b1,k1,c1,r1⟩:=dD H T 0 (B) c c.toNat rfl hb (by simp only [fits,decide_eq_true_eq,List.length_append,List.length_cons,List.length_nil] at *; omega)
   have c1:=c1.cln
   simp only [Nat.add_zero] at r1
   simp only [go_sem,simprocAttr,hl,h0,h1,h5,h10,h11,hc,hlt,hw,cG,g46,g59,g40,g41,g64,g36,g34,g92,p0,p1,p2,r1]
   refine ⟨n - 1,by omega,_,i+1,T1,_,by omega,rfl,?_,by simp only [go_sem,simprocAttr,he,c1],by simp only [go_sem,simprocAttr,hl],by simp only [go_sem,simprocAttr,hl,h0],by simp only [go_sem,simprocAttr,hl,h1],by simp only [go_sem,simprocAttr,hl,h5],by simp only [go_sem,simprocAttr,hl,h10],by simp only [go_sem,simprocAttr,hl]⟩
   rw [hsn,hE]; simpa [List.append_assoc] using b1
  by_cases hz:c.toNat=32
  ·have p0:decide ((c.toNat:Int) > 32)=false:=by simp; omega
   have p1:decide ((c.toNat:Int) < 127)=true:=by simp; omega
   have p2:((c.toNat:Int) == 32)=true:=by simp; omega
   cases q
   ·rw [if_neg (by simp; omega)] at hE
    have hb':=hb.more [.cells (u8s [92,UInt8.ofNat (48+c.toNat / 100),UInt8.ofNat (48+c.toNat / 10 % 10),UInt8.ofNat (48+c.toNat % 10)]) 5 .rw]
    obtain ⟨T1,e1,b1,k1,c1,r1⟩:=xz H (T++[.cells (u8s [92,UInt8.ofNat (48+c.toNat / 100),UInt8.ofNat (48+c.toNat / 10 % 10),UInt8.ofNat (48+c.toNat % 10)]) 5 .rw]) 0 T.length (B) [92,UInt8.ofNat (48+c.toNat / 100),UInt8.ofNat (48+c.toNat / 10 % 10),UInt8.ofNat (48+c.toNat % 10)] hb' (by simp) (by omega) (by simp) (by simp only [fits,decide_eq_true_eq,List.length_append,List.length_cons,List.length_nil] at *; omega)
    simp only [u8s,List.map_cons,List.map_nil,List.length_cons,List.length_nil,← xk hcl,← xj hcl,← xh hcl] at r1
    have r1:∀ k,ag Tryz.prog 88 [.ptr (H.length+0) 0,.slice (H.length+T.length) 0 4 (.ex 4)] (H++(T++[.cells [.int .u8 92,.int .u8 (IntKind.u8.wrap (48+IntKind.u8.wrap ((c.toNat:Int).tdiv 100))),.int .u8 (IntKind.u8.wrap (48+(IntKind.u8.wrap ((c.toNat:Int).tdiv 10)).tmod 10)),.int .u8 (IntKind.u8.wrap (48+(c.toNat:Int).tmod 10))] 5 .rw])) k=k (.tuple [.int .i64 4,.dh],H++T1,e1):=r1
    have c1:=c1.cln
    simp only [Nat.add_zero] at r1
    simp only [go_sem,simprocAttr,hl,h0,h1,h5,h10,h11,hc,hlt,hw,cG,g46,g59,g40,g41,g64,g36,g34,g92,p0,p1,p2,r1]
    refine ⟨n - 1,by omega,_,i+1,T1,_,by omega,rfl,?_,by simp only [go_sem,simprocAttr,he,c1],by simp only [go_sem,simprocAttr,hl],by simp only [go_sem,simprocAttr,hl,h0],by simp only [go_sem,simprocAttr,hl,h1],by simp only [go_sem,simprocAttr,hl,h5],by simp only [go_sem,simprocAttr,hl,h10],by simp only [go_sem,simprocAttr,hl]⟩
    rw [hsn,hE]; simpa [List.append_assoc] using b1
   ·rw [if_pos (.inr ⟨hz,rfl⟩)] at hE
    obtain ⟨T1,e1,b1,k1,c1,r1⟩:=dD H T 0 (B) c c.toNat rfl hb (by simp only [fits,decide_eq_true_eq,List.length_append,List.length_cons,List.length_nil] at *; omega)
    have c1:=c1.cln
    simp only [Nat.add_zero] at r1
    simp only [go_sem,simprocAttr,hl,h0,h1,h5,h10,h11,hc,hlt,hw,cG,g46,g59,g40,g41,g64,g36,g34,g92,p0,p1,p2,r1]
    refine ⟨n - 1,by omega,_,i+1,T1,_,by omega,rfl,?_,by simp only [go_sem,simprocAttr,he,c1],by simp only [go_sem,simprocAttr,hl],by simp only [go_sem,simprocAttr,hl,h0],by simp only [go_sem,simprocAttr,hl,h1],by simp only [go_sem,simprocAttr,hl,h5],by simp only [go_sem,simprocAttr,hl,h10],by simp only [go_sem,simprocAttr,hl]⟩
    rw [hsn,hE]; simpa [List.append_assoc] using b1
  rw [if_neg (by omega)] at hE
  by_cases hlo:c.toNat < 32
  ·have p0:decide ((c.toNat:Int) > 32)=false:=by simp; omega
   have p1:decide ((c.toNat:Int) < 127)=true:=by simp; omega
   have p2:((c.toNat:Int) == 32)=false:=by simp; omega
   have hb':=hb.more [.cells (u8s [92,UInt8.ofNat (48+c.toNat / 100),UInt8.ofNat (48+c.toNat / 10 % 10),UInt8.ofNat (48+c.toNat % 10)]) 5 .rw]
   obtain ⟨T1,e1,b1,k1,c1,r1⟩:=xz H (T++[.cells (u8s [92,UInt8.ofNat (48+c.toNat / 100),UInt8.ofNat (48+c.toNat / 10 % 10),UInt8.ofNat (48+c.toNat % 10)]) 5 .rw]) 0 T.length (B) [92,UInt8.ofNat (48+c.toNat / 100),UInt8.ofNat (48+c.toNat / 10 % 10),UInt8.ofNat (48+c.toNat % 10)] hb' (by simp) (by omega) (by simp) (by simp only [fits,decide_eq_true_eq,List.length_append,List.length_cons,List.length_nil] at *; omega)
   simp only [u8s,List.map_cons,List.map_nil,List.length_cons,List.length_nil,← xk hcl,← xj hcl,← xh hcl] at r1
   have r1:∀ k,ag Tryz.prog 88 [.ptr (H.length+0) 0,.slice (H.length+T.length) 0 4 (.ex 4)] (H++(T++[.cells [.int .u8 92,.int .u8 (IntKind.u8.wrap (48+IntKind.u8.wrap ((c.toNat:Int).tdiv 100))),.int .u8 (IntKind.u8.wrap (48+(IntKind.u8.wrap ((c.toNat:Int).tdiv 10)).tmod 10)),.int .u8 (IntKind.u8.wrap (48+(c.toNat:Int).tmod 10))] 5 .rw])) k=k (.tuple [.int .i64 4,.dh],H++T1,e1):=r1
   have c1:=c1.cln
   simp only [Nat.add_zero] at r1
   simp only [go_sem,simprocAttr,hl,h0,h1,h5,h10,h11,hc,hlt,hw,cG,g46,g59,g40,g41,g64,g36,g34,g92,p0,p1,p2,r1]
   refine ⟨n - 1,by omega,_,i+1,T1,_,by omega,rfl,?_,by simp only [go_sem,simprocAttr,he,c1],by simp only [go_sem,simprocAttr,hl],by simp only [go_sem,simprocAttr,hl,h0],by simp only [go_sem,simprocAttr,hl,h1],by simp only [go_sem,simprocAttr,hl,h5],by simp only [go_sem,simprocAttr,hl,h10],by simp only [go_sem,simprocAttr,hl]⟩
   rw [hsn,hE]; simpa [List.append_assoc] using b1
  ·have p0:decide ((c.toNat:Int) > 32)=true:=by simp; omega
   have p1:decide ((c.toNat:Int) < 127)=false:=by simp; omega
   have p2:((c.toNat:Int) == 32)=false:=by simp; omega
   have hb':=hb.more [.cells (u8s [92,UInt8.ofNat (48+c.toNat / 100),UInt8.ofNat (48+c.toNat / 10 % 10),UInt8.ofNat (48+c.toNat % 10)]) 5 .rw]
   obtain ⟨T1,e1,b1,k1,c1,r1⟩:=xz H (T++[.cells (u8s [92,UInt8.ofNat (48+c.toNat / 100),UInt8.ofNat (48+c.toNat / 10 % 10),UInt8.ofNat (48+c.toNat % 10)]) 5 .rw]) 0 T.length (B) [92,UInt8.ofNat (48+c.toNat / 100),UInt8.ofNat (48+c.toNat / 10 % 10),UInt8.ofNat (48+c.toNat % 10)] hb' (by simp) (by omega) (by simp) (by simp only [fits,decide_eq_true_eq,List.length_append,List.length_cons,List.length_nil] at *; omega)
   simp only [u8s,List.map_cons,List.map_nil,List.length_cons,List.length_nil,← xk hcl,← xj hcl,← xh hcl] at r1
   have r1:∀ k,ag Tryz.prog 88 [.ptr (H.length+0) 0,.slice (H.length+T.length) 0 4 (.ex 4)] (H++(T++[.cells [.int .u8 92,.int .u8 (IntKind.u8.wrap (48+IntKind.u8.wrap ((c.toNat:Int).tdiv 100))),.int .u8 (IntKind.u8.wrap (48+(IntKind.u8.wrap ((c.toNat:Int).tdiv 10)).tmod 10)),.int .u8 (IntKind.u8.wrap (48+(c.toNat:Int).tmod 10))] 5 .rw])) k=k (.tuple [.int .i64 4,.dh],H++T1,e1):=r1
   have c1:=c1.cln
   simp only [Nat.add_zero] at r1
   simp only [go_sem,simprocAttr,hl,h0,h1,h5,h10,h11,hc,hlt,hw,cG,g46,g59,g40,g41,g64,g36,g34,g92,p0,p1,p2,r1]
   refine ⟨n - 1,by omega,_,i+1,T1,_,by omega,rfl,?_,by simp only [go_sem,simprocAttr,he,c1],by simp only [go_sem,simprocAttr,hl],by simp only [go_sem,simprocAttr,hl,h0],by simp only [go_sem,simprocAttr,hl,h1],by simp only [go_sem,simprocAttr,hl,h5],by simp only [go_sem,simprocAttr,hl,h10],by simp only [go_sem,simprocAttr,hl]⟩
   rw [hsn,hE]; simpa [List.append_assoc] using b1
 ·have hi:i=s.length:=by omega
  subst hi
  rw [List.take_length] at hb
  obtain ⟨T1,e1,c1,r1⟩:=pn H T 0 _ hb (by have:=fZ q s; omega)
  simp only [Nat.add_zero] at r1
  simp only [go_sem,simprocAttr,hl,h0,h1,h5,h10,h11,hlt,r1]
  exact aY rfl (bq he c1)
end Go.Proofs.YtdppgaphcmhffaaGreatDoor.V
