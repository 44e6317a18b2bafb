/- Joined by mkclaim.py: VSim VPan VTab VOpen VLaid WLib WName WNameB WByte WText WBld WEsc. No conditions. -/
import Derived.Test.YtdppgaphcmhffaaGreatDoorJ1
import Derived.KernelRfl
import Derived.Laws.RangeString
import Derived.Test.YtdppgaphcmhffaaGreatDoorProg
import Derived.ProofKit
import Derived.OpenShut
import Derived.LaidMore
import Derived.Handed
set_option linter.unusedSimpArgs false
set_option linter.unusedVariables false
set_option maxRecDepth 100000
namespace Go.Proofs.YtdppgaphcmhffaaGreatDoor.V
open Go

def aq {α:Type} (o:Option α) (f:α→Prop) (_:Ph f:=⟨⟩):Prop :=
 match o with
 | some a=>f a
 | none=>False
theorem aD {α:Type} {a:α} {f:α→Prop}:aq (some a) f=f a:=rfl
def fr (σ:List AV) (t:Nat):AV:=(σ[t]?).getD bw
def cz (v:AV) (w:Bool) (A B:Prop) (_:Ph (A,B):=⟨⟩):Prop :=
 match v with
 | .bool b=>if (b == w)=true then A else B
 | _=>B
theorem cV {A B:Prop}:cz (.bool true) true A B=A:=rfl
theorem uV {A B:Prop}:cz (.bool true) false A B=B:=rfl
theorem cn {A B:Prop}:cz (.bool false) true A B=B:=rfl
theorem uW {A B:Prop}:cz (.bool false) false A B=A:=rfl
theorem JU {w:Bool} {A B:Prop}:cz bw w A B=B:=rfl
attribute [go_sem ↓] JU
def tw (v:Option AV) (A B:Prop) (_:Ph (A,B):=⟨⟩):Prop :=
 match v with
 | some (.bool true)=>A
 | some (.bool false)=>B
 | _=>False
theorem Fh {A B:Prop}:tw (some (.bool true)) A B=A:=rfl
theorem Fi {A B:Prop}:tw (some (.bool false)) A B=B:=rfl
theorem A4 {b:Bool} {A B:Prop} (h1:b=true→A) (h2:b=false→B):tw (some (.bool b)) A B:=by
 cases b <;> first | exact h1 rfl | exact h2 rfl

section
variable {P:Program} {Q:Ex→St→Prop} {k:List It} {σ:List AV} {H:Hp} {e:Ef} {ops:List Oper} {K:St→Prop} {l:List Oper}

theorem BX {id j:Nat} (h:(id == j)=false):aH P Q id (.inBlock j::k) ⟨σ,H,e⟩=aH P Q id k ⟨σ,H,e⟩:=tU (by simpa using h)
attribute [go_sem ↓] P9 go_skip sV JX Dz tT NH zH wC dG dX qO nD J0 DA NI wz wu BX go_ret go_region p9 wK
attribute [go_sem] Ef.fC Ef.j7

theorem zA {id:Nat}:aH P Q id [] ⟨σ,H,e⟩=Q (.exit id) ⟨σ,H,e⟩:=rfl
theorem SR {d t:Nat} {v:AV} (h:(d == t)=false):fr (σ.set d v) t=fr σ t:=by
 unfold fr; rw [List.getElem?_set_ne (by simpa using h)]
theorem SS {d:Nat} {v:AV} (h:decide (d < σ.length)=true):fr (σ.set d v) d=v:=by
 unfold fr; rw [List.getElem?_set_self (by simpa using h)]; rfl
attribute [go_sem] SR SS List.length_set aD cV uV cn uW Fh Fi
attribute [go_sem ↓] zA aD cV uV cn uW Fh Fi

theorem SO {c:Operand} {a b:Code}:go P Q (.code (.cond c a b)::k) ⟨σ,H,e⟩=tw (aG P σ c) (go P Q (.code a::k) ⟨σ,H,e⟩) (go P Q (.code b::k) ⟨σ,H,e⟩):=by
 by_cases ht:aG P σ c=some (.bool true)
 ·rw [NG ht,ht]; rfl
 by_cases hf:aG P σ c=some (.bool false)
 ·rw [JZ hf,hf]; rfl
 apply propext
 constructor
 ·rintro ⟨n,ex,s',hs,hq⟩
  have:aK P (evN P n) (eP P n) n (.cond c a b) ⟨σ,H,e⟩=none:=by
   show (match aG P σ c with | some (.bool true)=>_ | some (.bool false)=>_ | _=>none)=none
   split
   ·exact absurd ‹_› ht
   ·exact absurd ‹_› hf
   ·rfl
  rw [this] at hs; cases hs
 ·intro h
  unfold tw at h
  split at h
  ·exact absurd ‹_› ht
  ·exact absurd ‹_› hf
  ·exact h.elim

theorem SN {dst:Option Tmp} {op:Op} {ty:TypeId} {pos:String} {af:Array Edge}:bt P ops K (⟨dst,op,ty,pos,af,none⟩::l) ⟨σ,H,e⟩=opK P σ H op (bC P ops K l σ e dst):=kD rfl
def nE (ops:List Oper) (j:Nat):Option Nat:=(ops[j]?).bind (·.dst)
theorem Qi {o:Oper} {l:List Oper}:nE (o::l) 0=o.dst:=rfl
theorem Qj {o:Oper} {l:List Oper} {j:Nat}:nE (o::l) (j+1)=nE l j:=rfl
def jW (σ:List AV):Option Nat→AV
 | some d=>fr σ d
 | none=>bw
theorem NF {d:Nat}:jW σ (some d)=fr σ d:=rfl
theorem P8 {dst:Option Tmp} {op:Op} {ty:TypeId} {pos:String} {af:Array Edge} {j:Nat} {w:Bool} :
  bt P ops K (⟨dst,op,ty,pos,af,some (j,w)⟩::l) ⟨σ,H,e⟩=cz (jW σ (nE ops j)) w (opK P σ H op (bC P ops K l σ e dst)) (bt P ops K l ⟨put σ dst bw,H,e⟩):=by
 cases hw:cj ops σ ⟨dst,op,ty,pos,af,some (j,w)⟩ with
 | true =>
  rw [kD hw]
  unfold cj at hw
  simp only at hw
  unfold jW nE
  split at hw
  ·rename_i d hd
   rw [hd]
   split at hw
   ·rename_i b hb
    unfold fr; simp only [hb,Option.getD_some,cz]; rw [if_pos hw]
   ·cases hw
  ·cases hw
 | false =>
  rw [sW hw]
  unfold cj at hw
  simp only at hw
  unfold jW nE
  split at hw
  ·rename_i d hd
   rw [hd]
   split at hw
   ·rename_i b hb
    unfold fr; simp only [hb,Option.getD_some,cz]; rw [if_neg (by rw [hw]; exact Bool.false_ne_true)]
   ·rename_i hne
    simp only
    unfold fr cz
    split
    ·rename_i b hb
     cases hd2:σ[d]? with
     | none=>rw [hd2] at hb; cases hb
     | some v=>rw [hd2] at hb; simp only [Option.getD_some] at hb; rw [hb] at hd2; exact absurd hd2 (hne b)
    ·rfl
  ·rename_i hd
   rw [hd]; rfl

theorem wJ {K:St→List Nat→Prop} {l:List (Nat × Oper)} {i:Nat} {dst:Option Tmp} {op:Op} {ty:TypeId} {pos:String} {af:Array Edge}:goD P ops K ((i,⟨dst,op,ty,pos,af,none⟩)::l) ⟨σ,H,e⟩=opK P σ H op (qJ P ops K l σ H e i ⟨dst,op,ty,pos,af,none⟩):=sX rfl
theorem Jn {dst:Option Tmp} {v:AV} {H':Hp} {e':Ef}:bC P ops K l σ e dst (v,H',e')=bt P ops K l ⟨put σ dst v,H',e.and e'⟩:=rfl
theorem rU {r:AV × Hp × Ef} {kk:AV × Hp × Ef→Prop}:aF (some r) kk=kk r:=rfl
theorem Ou {g:FuncId} {az:List AV} {kk:AV × Hp × Ef→Prop} (hb:aj P g=true):iw P g az H kk=ag P g az H kk:=if_pos hb
theorem Oq {g:FuncId} {az:List AV} {kk:AV × Hp × Ef→Prop} (hb:aj P g=false) (hz:sO P g=none) (hx:(mT P g).isSome=true):iw P g az H kk=aq (mT P g) fun x=>aq (jL P H x az) fun v=>kk (v,H,z0):=by
 unfold iw evX
 rw [if_neg (by rw [hb]; exact Bool.false_ne_true),hz]
 cases hq:mT P g with
 | none=>rw [hq] at hx; cases hx
 | some x=>cases h:jL P H x az <;> simp [aF,ret,aq,h]
theorem Ot {g:FuncId} {az:List AV} {kk:AV × Hp × Ef→Prop} (hb:aj P g=false) (hz:sO P g=none) (hx:mT P g=none):iw P g az H kk=aF (evS P g az H) kk:=by
 unfold iw evX
 rw [if_neg (by rw [hb]; exact Bool.false_ne_true),hz,hx]
theorem On {g:FuncId} {n:Int} {kk:AV × Hp × Ef→Prop} (hb:aj P g=false) (hz:(sO P g).isSome=true):iw P g [.int .i64 n] H kk=aq (sO P g) fun e=>((0≤n∧n≤281474976710656)∧kk (.slice H.length 0 n.toNat (.op 0),H++[.cells [] e (.op 0 false)],z0)):=by
 obtain ⟨e,he⟩:=Option.isSome_iff_exists.1 hz
 unfold iw evX
 rw [if_neg (by rw [hb]; exact Bool.false_ne_true),he]
 simp only [Qz,aq]
 by_cases h:0≤n∧n≤281474976710656
 ·rw [if_pos h]; simp [aF,h]
 ·rw [if_neg h]; simp [aF,h]
attribute [go_sem] Option.isSome_some
theorem D3 {g:FuncId} {az:List AV} {kk:AV × Hp × Ef→Prop}:bx P (some (.fn g az)) H kk=iw P g az H kk:=rfl
theorem Ov {b:Nat} {az:List AV} {kk:AV × Hp × Ef→Prop}:bx P (some (.yl b az)) H kk=ag P (P.funcs.size+b) az H kk:=rfl
theorem Kj {x:AV}:jL P H .same [x]=some x:=rfl
theorem Kl {s:List UInt8} {c:Int}:jL P H .NB [.str s,.int .u8 c]=some (.int .i64 (Lib.indexByte s c.toNat.toUInt8)):=rfl
theorem Kn {s:List UInt8} {c:Int}:jL P H .Od [.str s,.int .u8 c]=some (.int .i64 (Lib.countByte s c.toNat.toUInt8)):=rfl
theorem N1 {a b:List UInt8}:jL P H .cmp [.str a,.str b]=some (.int .i64 (Lib.compareBytes a b)):=rfl
theorem Kk {a b:List UInt8} {f:AV→Prop}:aq (jL P H .P6 [.str a,.str b]) f=aq (mxL P H) fun m=>((2≤b.length∧(b.length:Int)≤m∧a.length < 4294967281)∧f (.int .i64 (Lib.index a b))):=by
 show aq (Option.bind _ _) f=_
 cases mxL P H with
 | none=>rfl
 | some m =>
  simp only [Option.bind_some,aD]
  by_cases h:2≤b.length∧(b.length:Int)≤m∧a.length < 4294967281
  ·rw [if_pos h]; simp [h,aD]
  ·rw [if_neg h]; simp [h,aq]
attribute [go_sem] Kj Kl Kn N1
attribute [go_sem ↓] Kk
attribute [go_sem ↓] Ou Oq On Ot
theorem Sb {d:Tmp} {v:AV}:put σ (some d) v=σ.set d v:=rfl
theorem Sc {v:AV}:put σ none v=σ:=rfl
attribute [go_sem] Qi Qj NF Sb Sc rU
attribute [go_sem ↓] SO SN P8 Jn rU D3 Ov wJ

theorem RZ {v:AV}:ret H (some v)=some (v,H,z0):=rfl
theorem Pq {v:AV × Hp}:BB (some v)=some (v.1,v.2,z0):=rfl
attribute [go_sem] RZ Pq

theorem Lw {t:Nat}:aG P σ (.tmp t)=some (fr σ t):=rfl
theorem LC {f:FuncId}:aG P σ (.func f)=some (.func (.func f) [] []):=rfl
theorem TA {kk:IntKind} {n:Int}:aG P σ (.const (.int kk n))=some (.int kk n):=rfl
theorem TC {b:Bool}:aG P σ (.const (.bool b))=some (.bool b):=rfl
theorem Tz {s:Array UInt8}:aG P σ (.const (.string ⟨s⟩))=some (.str s.toList):=rfl
theorem Ly:aG P σ (.const (.pointer none))=some .fF:=rfl
theorem Lx:aG P σ (.const (.slice none 0 0))=some .aI:=rfl
theorem Lz:aG P σ (.const (.map none))=some .pW:=rfl
theorem LA:aG P σ (.const .nilIface)=some .de:=rfl
theorem Lu:bO P σ []=some []:=rfl
theorem Ht {x:Operand} {xs:List Operand}:bO P σ (x::xs)=(aG P σ x).bind fun a=>(bO P σ xs).map (a::·):=rfl
theorem Gi:fI P σ []=some []:=rfl
theorem BM {i:Nat} {x:Operand} {xs:List (Nat × Operand)}:fI P σ ((i,x)::xs)=(aG P σ x).bind fun a=>(fI P σ xs).map ((i,a)::·):=rfl
theorem Sg:jZ P σ none=some none:=rfl
theorem Sf {x:Operand}:jZ P σ (some x)=(aG P σ x).map some:=rfl
attribute [go_sem] Lw LC TA TC Tz Ly Lx Lz LA Lu Ht Gi BM Sg Sf Option.bind_some Option.map_some

section
variable {kk:AV × Hp × Ef→Prop}
theorem aR {α:Type} {o:Option α} {f g:α→Prop} (h:∀ a,f a=g a):aq o f=aq o g:=by
 cases o
 ·rfl
 ·exact h _
theorem cC {v:Option AV}:aF (ret H v) kk=aq v fun v=>kk (v,H,z0):=by cases v <;> rfl
theorem nj {v:Option (AV × Hp)}:aF (BB v) kk=aq v fun v=>kk (v.1,v.2,z0):=by cases v <;> rfl
theorem aT {α:Type} {o:Option α} {f:α→Rs}:aF (o.bind f) kk=aq o fun a=>aF (f a) kk:=by cases o <;> rfl
theorem fE {α:Type} {o:Option α} {f:α→AV × Hp × Ef}:aF (o.map f) kk=aq o fun a=>kk (f a):=by cases o <;> rfl
theorem dR {α β:Type} {o:Option α} {f:α→Option β} {g:β→Prop}:aq (o.bind f) g=aq o fun a=>aq (f a) g:=by cases o <;> rfl
theorem dN {α β:Type} {o:Option α} {f:α→β} {g:β→Prop}:aq (o.map f) g=aq o fun a=>g (f a):=by cases o <;> rfl
theorem eB {α:Type} {c:Prop} [Decidable c] {o:Option α} {g:α→Prop}:aq (if c then o else none) g=(c∧aq o g):=by
 split
 ·rename_i h; simp [h]
 ·rename_i h; simp [h,aq]
attribute [go_sem] dR dN eB
attribute [go_sem ↓] dR dN

theorem PX {x:Operand}:opK P σ H (.move x) kk=aq (aG P σ x) fun v=>kk (v,H,z0):=cC
theorem JJ {x:Operand}:opK P σ H (.assign x) kk=aq (aG P σ x) fun v=>kk (v,H,z0):=cC
theorem PV {c x y:Operand}:opK P σ H (.pick c x y) kk=aq (aG P σ c) fun c=>aq (match c with | .bool t=>if t then aG P σ x else aG P σ y | _=>none) fun v=>kk (v,H,z0):=by
 show aF _ _=_
 simp only [bu]
 rw [aT]
 refine aR fun c=>?_; cases c <;> first | rfl | exact cC
theorem E1 {t:TypeId}:opK P σ H (.alloc t) kk=aq (cB P t) fun z=>kk (.ptr H.length 0,H++[.cells z t .rw],z0):=fE
theorem Ss {t:TypeId} {x:Operand}:opK P σ H (.box t x) kk=aq (aG P σ x) fun v=>kk (.ptr H.length 0,H++[.cells (bH v) t .rw],z0):=fE
def qW:AV→Option (Nat × Nat)
 | .ptr b o=>some (b,o)
 | _=>none
theorem OB {b o:Nat}:qW (.ptr b o)=some (b,o):=rfl
theorem PZ {t:TypeId} {x:Operand}:opK P σ H (.load t x) kk=aq (aG P σ x) fun v=>aq (qW v) fun p=>aq (ec P H t p.1 p.2) fun v=>kk (v,H,z0):=by
 show aF _ _=_
 simp only [bu]
 rw [aT]
 refine aR fun c=>?_; cases c <;> first | rfl | exact cC
theorem Nk {t:TypeId} {x y:Operand}:opK P σ H (.store t x y) kk=aq (aG P σ x) fun p=>aq (aG P σ y) fun v=>aq (qW p) fun p=>aq (jv P H t p.1 p.2 v) fun r=>kk (bw,r.1,r.2):=by
 show aF _ _=_
 simp only [bu]
 rw [aT]
 refine aR fun c=>?_
 rw [aT]
 refine aR fun v=>?_; cases c <;> first | rfl | exact fE
def Q9:AV→Option AV
 | .ptr b o=>some (.ptr b o)
 | .func (.func f) a b=>some (.func (.func f) a b)
 | _=>none
theorem Q7 {b o:Nat}:Q9 (.ptr b o)=some (.ptr b o):=rfl
theorem Q8 {f:FuncId} {a b:List AV}:Q9 (.func (.func f) a b)=some (.func (.func f) a b):=rfl
theorem B2 {x:Operand}:opK P σ H (.nilCheck x) kk=aq (aG P σ x) fun v=>aq (Q9 v) fun v=>kk (v,H,z0):=by
 show aF _ _=_
 simp only [bu]
 rw [aT]
 refine aR fun c=>?_
 cases c <;> try rfl
 rename_i f _ _
 cases f <;> rfl
theorem T7 {op:UnOp} {t:TypeId} {x:Operand}:opK P σ H (.unOp op t x) kk=aq (aG P σ x) fun v=>aq (GS op v) fun v=>kk (v,H,z0):=by
 show aF _ _=_
 simp only [bu]
 rw [aT]
 refine aR fun c=>?_; exact cC
theorem P1 {s d:TypeId} {x:Operand}:opK P σ H (.convert s d x) kk=aq (aG P σ x) fun v=>aq (aZ P s d v H) fun r=>kk (r.1,r.2,z0):=by
 show aF _ _=_
 simp only [bu]
 rw [aT]
 refine aR fun c=>?_; exact nj
def N0 (b o:Nat) (x:Nat × Nat × Bool):Option AV:=if (x.2.1 == 0)=true then none else some (.ptr b (o+x.1))
theorem Qv {b o p n:Nat} {g:Bool} (h:(n == 0)=false):N0 b o (p,n,g)=some (.ptr b (o+p)):=by simp [N0,h]
theorem zG {t:TypeId} {x:Operand} {f:Nat}:opK P σ H (.fieldAddr t x f) kk=aq (aG P σ x) fun v=>aq (qW v) fun p=>aq (bJ P t f) fun x=>aq (N0 p.1 p.2 x) fun v=>kk (v,H,z0):=by
 show aF _ _=_
 simp only [bu]
 rw [aT]
 refine aR fun c=>?_
 cases c <;> try rfl
 show aF (Option.bind _ _) _=_
 rw [aT]
 show _=aq _ _
 refine aR fun x=>?_
 unfold N0
 by_cases hx:x.2.1=0
 ·simp [hx,aF,aq,qW]
 ·simp [hx,aF,aq,qW]
def Qu (cs:List AV) (x:Nat × Nat × Bool):Option AV:=if x.2.2=true then (if x.1+x.2.1≤cs.length then some (.agg ((cs.drop x.1).take x.2.1)) else none) else cs[x.1]?
theorem Qt {cs:List AV} {p n:Nat}:Qu cs (p,n,false)=cs[p]?:=rfl
theorem Qs {cs:List AV} {p n:Nat}:Qu cs (p,n,true)=if p+n≤cs.length then some (.agg ((cs.drop p).take n)) else none:=rfl
def asAgg:AV→Option (List AV)
 | .agg cs=>some cs
 | _=>none
theorem OI {cs:List AV}:asAgg (.agg cs)=some cs:=rfl
theorem Nr {t:TypeId} {x:Operand} {f:Nat}:opK P σ H (.field t x f) kk=aq (aG P σ x) fun v=>aq (asAgg v) fun cs=>aq (bJ P t f) fun x=>aq (Qu cs x) fun v=>kk (v,H,z0):=by
 show aF _ _=_
 simp only [bu]
 rw [aT]
 refine aR fun c=>?_
 cases c <;> try rfl
 show aF (Option.bind _ _) _=_
 rw [aT]
 show _=aq _ _
 refine aR fun x=>?_
 exact cC
theorem zF {t:TypeId} {x i:Operand}:opK P σ H (.indexAddr t x i) kk=aq (aG P σ x) fun v=>aq (aG P σ i) fun w=>aq (aN P t v w) fun v=>kk (v,H,z0):=by
 show aF _ _=_
 simp only [bu]
 rw [aT]; refine aR fun c=>?_
 rw [aT]; refine aR fun c=>?_
 exact cC
theorem Np {t:TypeId} {x i:Operand}:opK P σ H (.index t x i) kk=aq (aG P σ x) fun v=>aq (aG P σ i) fun w=>aq (mG P t v w) fun v=>kk (v,H,z0):=by
 show aF _ _=_
 simp only [bu]
 rw [aT]; refine aR fun c=>?_
 rw [aT]; refine aR fun c=>?_
 exact cC
def O9:AV→Option (List AV)
 | .tuple cs=>some cs
 | _=>none
theorem OA {cs:List AV}:O9 (.tuple cs)=some cs:=rfl
theorem GI {x:Operand} {i:Nat}:opK P σ H (.extract x i) kk=aq (aG P σ x) fun v=>aq (O9 v) fun vs=>aq (vs[i]?) fun v=>kk (v,H,z0):=by
 show aF _ _=_
 simp only [bu]
 rw [aT]; refine aR fun c=>?_
 cases c <;> first | rfl | exact cC
theorem B3 {fn:Fn} {f c:Array Operand}:opK P σ H (.makeFunc fn f c) kk=aq (bO P σ f.toList) fun fs=>aq (bO P σ c.toList) fun cs=>kk (.func fn fs cs,H,z0):=by
 show aF _ _=_
 simp only [bu]
 rw [aT]; refine aR fun c=>?_
 rw [aT]; rfl
def slK (P:Program) (t:TypeId) (v:AV) (lo hi mx:Option AV) (H:Hp) (kk:AV × Hp × Ef→Prop) (_:Ph kk:=⟨⟩):Prop :=
 match eJ P t v lo hi mx H with
 | some v=>kk (v,H,z0)
 | none=>aq (ew P t v lo hi mx H) fun r=>kk (r.1,r.2,z0)
theorem nq {t:TypeId} {v:AV} {lo hi mx:Option AV} (h:ew P t v lo hi mx H=none):slK P t v lo hi mx H kk=aq (eJ P t v lo hi mx H) fun v=>kk (v,H,z0):=by
 unfold slK
 cases eJ P t v lo hi mx H with
 | none=>rw [h]; rfl
 | some v=>rfl
theorem Nl {t:TypeId} {x:Operand} {lo hi mx:Option Operand}:opK P σ H (.slice t x lo hi mx) kk=aq (aG P σ x) fun v=>aq (jZ P σ lo) fun a=>aq (jZ P σ hi) fun b=>aq (jZ P σ mx) fun c=>slK P t v a b c H kk:=by
 show aF _ _=_
 simp only [bu]
 rw [aT]; refine aR fun c=>?_
 rw [aT]; refine aR fun c=>?_
 rw [aT]; refine aR fun c=>?_
 rw [aT]; refine aR fun c=>?_
 unfold slK
 cases eJ P t _ _ _ _ H with
 | some v=>rfl
 | none=>exact fE
theorem Nu {t:TypeId} {ps:Array (Nat × Operand)}:opK P σ H (.build t ps) kk=aq (fI P σ ps.toList) fun vs=>aq (bq P t vs) fun v=>kk (v,H,z0):=by
 show aF _ _=_
 simp only [bu]
 rw [aT]; refine aR fun c=>?_
 exact cC
theorem wB {t:TypeId} {n:Nat} {ps:Array (Nat × Operand)}:opK P σ H (.buildSlice t n ps) kk=aq (fI P σ ps.toList) fun vs=>aq (aO P t n vs H) fun r=>kk (r.1,r.2,z0):=by
 show aF _ _=_
 simp only [bu]
 rw [aT]; refine aR fun c=>?_
 exact nj
def jI (P:Program) (t:TypeId) (v:AV):Option AV :=
 match tsh P t with
 | some .iface=>none
 | some _=>some (.iface t v)
 | none=>none
theorem Nq {t:TypeId} {x:Operand}:opK P σ H (.makeInterface t x) kk=aq (aG P σ x) fun v=>aq (jI P t v) fun v=>kk (v,H,z0):=by
 show aF _ _=_
 simp only [bu]
 rw [aT]; refine aR fun c=>?_
 unfold jI
 cases tsh P t with
 | none=>rfl
 | some s=>cases s <;> rfl
theorem JK {xt t:TypeId} {x:Operand}:opK P σ H (.typeAssert x xt t true) kk=aq (aG P σ x) fun v=>aq (fU P t v) fun v=>kk (v,H,z0):=by
 show aF _ _=_
 simp only [bu]
 rw [aT]; refine aR fun c=>?_
 exact cC
theorem Ll {t:TypeId} {v:AV} (ht:(match tsh P t with | some .iface=>false | some _=>true | none=>false)=true):fU P t (.iface t v)=some (.tuple [v,.bool true]):=by
 unfold fU
 split at ht
 ·cases ht
 ·rename_i s hs hne
  rw [hne]
  cases s <;> first | (exact (hs rfl).elim) | (simp; done)
 ·cases ht
theorem Lj {t:TypeId} (ht:(match tsh P t with | some .iface=>false | some _=>true | none=>false)=true):fU P t .de=(mZ P t).map fun z=>.tuple [z,.bool false]:=by
 unfold fU
 split at ht
 ·cases ht
 ·rename_i s hs hne
  rw [hne]
  cases s <;> first | (exact (hs rfl).elim) | rfl
 ·cases ht
attribute [go_sem ↓] JK
attribute [go_sem] Ll Lj
theorem PY {t:TypeId} {x y:Operand}:opK P σ H (.makeSlice t x y) kk=aq (aG P σ x) fun v=>aq (aG P σ y) fun w=>aq (jh P t v w H) fun r=>kk (r.1,r.2,z0):=by
 show aF _ _=_
 simp only [bu]
 rw [aT]; refine aR fun c=>?_
 rw [aT]; refine aR fun c=>?_
 exact nj
theorem JH {t:TypeId} {x i:Operand} {ok:Bool}:opK P σ H (.lookup t x i ok) kk=aq (aG P σ x) fun v=>aq (aG P σ i) fun w=>aq (ir P t v w ok H) fun v=>kk (v,H,z0):=by
 show aF _ _=_
 simp only [bu]
 rw [aT]; refine aR fun c=>?_
 rw [aT]; refine aR fun c=>?_
 exact cC
theorem JG {t:TypeId} {m x y:Operand}:opK P σ H (.mapUpdate t m x y) kk=aq (aG P σ m) fun u=>aq (aG P σ x) fun v=>aq (aG P σ y) fun w=>aq (fS P t u v w H) fun r=>kk (bw,r.1,r.2):=by
 show aF _ _=_
 simp only [bu]
 rw [aT]; refine aR fun c=>?_
 rw [aT]; refine aR fun c=>?_
 rw [aT]; refine aR fun c=>?_
 exact fE
def gG (P:Program) (op:BinOp) (t:TypeId) (a b:AV) (cst:Bool):Option AV :=
 match a,b with
 | .de,.de=>if cst=true then (match op with | .eql=>(if (tsh P t matches some .iface) then some (.bool true) else none) | .neq=>(if (tsh P t matches some .iface) then some (.bool false) else none) | _=>none) else none
 | a,b=>kS P op t a b
theorem Su {op:BinOp} {t u:TypeId} {x y:Operand}:opK P σ H (.binOp op t x y u) kk=aq (aG P σ x) fun a=>aq (aG P σ y) fun b=>aq (gG P op t a b (bu.isConst x || bu.isConst y)) fun v=>kk (v,H,z0):=by
 show aF _ _=_
 simp only [bu]
 rw [aT]; refine aR fun a=>?_
 rw [aT]; refine aR fun b=>?_
 rw [← cC]
 unfold gG
 split
 ·split
  ·cases op <;> rfl
  ·rfl
 ·split
  ·rename_i h; exact (h rfl rfl).elim
  ·rfl
theorem B4 {f:Operand} {args:Array Operand} {ts:Array TypeId}:opK P σ H (.call ⟨.value f,args,ts⟩) kk=bx P (target P σ f args.toList) H kk:=rfl
theorem Nt {g:FuncId} {args:Array Operand} {ts:Array TypeId}:opK P σ H (.call ⟨.value (.func g),args,ts⟩) kk=aq (bO P σ args.toList) fun az=>iw P g az H kk:=by
 rw [B4]
 unfold target
 rw [LC]
 simp only [Option.bind_some,List.nil_append,List.append_nil]
 cases bO P σ args.toList <;> rfl
def apV (v:AV) (az:List AV):Option Tg :=
 match v with
 | .func (.func g) first captured=>some (.fn g (first++az++captured))
 | .yld b=>some (.yl b az)
 | _=>none
theorem TF {g:FuncId} {az fs cs:List AV}:apV (.func (.func g) fs cs) az=some (.fn g (fs++az++cs)):=rfl
theorem TE {b:Nat} {az:List AV}:apV (.yld b) az=some (.yl b az):=rfl
theorem Ns {t:Nat} {args:Array Operand} {ts:Array TypeId}:opK P σ H (.call ⟨.value (.tmp t),args,ts⟩) kk=aq (bO P σ args.toList) fun az=>bx P (apV (fr σ t) az) H kk:=by
 rw [B4]
 unfold target
 rw [Lw]
 simp only [Option.bind_some]
 cases bO P σ args.toList with
 | none=>rfl
 | some az=>rfl
theorem Sq {t:TypeId} {ts:List TypeId} {x:Operand}:opK P σ H (.call ⟨.builtin .len,⟨[x]⟩,⟨t::ts⟩⟩) kk=aq (aG P σ x) fun v=>aq (bY P t v H) fun v=>kk (v,H,z0):=by
 show aF _ _=_
 simp only [bu,dz,bO]
 cases aG P σ x with
 | none=>rfl
 | some v=>exact cC
theorem JL {t u:TypeId} {x y:Operand} (hu:js P u=true):opK P σ H (.call ⟨.builtin .append,⟨[x,y]⟩,⟨[t,u]⟩⟩) kk=aq (aG P σ x) fun v=>aq (aG P σ y) fun w=>aF (j0 P t v w H) kk:=by
 show aF _ _=_
 simp only [bu,dz,bO]
 cases aG P σ x with
 | none=>rfl
 | some v =>
  cases aG P σ y with
  | none=>rfl
  | some w=>show aF (if js P u=true then _ else _) kk=_; rw [if_pos hu]; rfl
theorem GJ {t u:TypeId} {x y:Operand} (hu:js P u=false) (hi:(match tsh P u with | some (.int _)=>true | _=>false)=true):opK P σ H (.call ⟨.builtin .append,⟨[x,y]⟩,⟨[t,u]⟩⟩) kk=aq (aG P σ x) fun v=>aq (aG P σ y) fun w=>aF (qh P t v w H) kk:=by
 have hi:wF P u=true:=hi
 show aF _ _=_
 simp only [bu,dz,bO]
 cases aG P σ x with
 | none=>rfl
 | some v =>
  cases aG P σ y with
  | none=>rfl
  | some w=>show aF (if js P u=true then _ else _) kk=_; rw [if_neg (by rw [hu]; simp),if_pos hi]; rfl
theorem P0 {t:TypeId} {ts:List TypeId} {x y:Operand}:opK P σ H (.call ⟨.builtin .copy,⟨[x,y]⟩,⟨t::ts⟩⟩) kk=aq (aG P σ x) fun v=>aq (aG P σ y) fun w=>aF (lR P t v w H) kk:=by
 show aF _ _=_
 simp only [bu,dz,bO]
 cases aG P σ x with
 | none=>rfl
 | some v =>
  cases aG P σ y with
  | none=>rfl
  | some w=>rfl
end
attribute [go_sem] OB Q7 Q8 Qv Qt Qs OI OA TF TE
attribute [go_sem ↓] PX JJ PV E1 Ss PZ Nk B2 T7 P1 zG Nr zF Np GI B3 Nl Nu wB Nq PY JH JG Su Nt Ns Sq JL GJ P0

theorem Tv {op:BinOp} {t:TypeId} {kd:IntKind} {a b:Int} {c:Bool} (h1:(match op with | .shl=>true | .shr=>true | _=>false)=false):gG P op t (.int kd a) (.int kd b) c=eG op kd a b:=by
 cases op <;> first | (cases h1; done) | simp [gG,kS]
theorem Tq {t:TypeId} {kd kd':IntKind} {a b:Int} {c:Bool}:gG P .shl t (.int kd a) (.int kd' b) c=ig .shl kd a b:=rfl
theorem Tp {t:TypeId} {kd kd':IntKind} {a b:Int} {c:Bool}:gG P .shr t (.int kd a) (.int kd' b) c=ig .shr kd a b:=rfl
theorem To {op:BinOp} {t:TypeId} {a b:List UInt8} {c:Bool}:gG P op t (.str a) (.str b) c=qS op a b:=by
 cases op <;> rfl
theorem Ts {t:TypeId} {a b:Bool} {c:Bool} (ht:P.underlying t=some .bool):gG P .neq t (.bool a) (.bool b) c=some (.bool (!(a == b))):=by simp [gG,kS,gj,ht]
theorem Tw {t:TypeId} {a b:List AV} {c:Bool}:gG P .eql t (.agg a) (.agg b) c=if (P.eqGuardType P.depth t)=true then none else (gj P 20 t (.agg a) (.agg b)).map .bool:=rfl
theorem Tt {t:TypeId} {a b:List AV} {c:Bool}:gG P .neq t (.agg a) (.agg b) c=if (P.eqGuardType P.depth t)=true then none else (gj P 20 t (.agg a) (.agg b)).map fun r=>.bool !r:=rfl
theorem SM {kd:IntKind} {a b:Int}:eG .add kd a b=some (.int kd (kd.wrap (a+b))):=rfl
theorem SC {kd:IntKind} {a b:Int}:eG .sub kd a b=some (.int kd (kd.wrap (a - b))):=rfl
theorem SG {kd:IntKind} {a b:Int}:eG .mul kd a b=some (.int kd (kd.wrap (a*b))):=rfl
theorem SL {kd:IntKind} {a b:Int}:eG .eql kd a b=some (.bool (a == b)):=rfl
theorem SF {kd:IntKind} {a b:Int}:eG .neq kd a b=some (.bool (a != b)):=rfl
theorem SH {kd:IntKind} {a b:Int}:eG .lss kd a b=some (.bool (decide (a < b))):=rfl
theorem SI {kd:IntKind} {a b:Int}:eG .leq kd a b=some (.bool (decide (a≤b))):=rfl
theorem SJ {kd:IntKind} {a b:Int}:eG .gtr kd a b=some (.bool (decide (a > b))):=rfl
theorem SK {kd:IntKind} {a b:Int}:eG .geq kd a b=some (.bool (decide (a≥b))):=rfl
theorem RY {a b:List UInt8}:qS .eql a b=some (.bool (a == b)):=rfl
theorem RX {a b:List UInt8}:qS .neq a b=some (.bool !(a == b)):=rfl
theorem OP {a b:List UInt8}:qS .add a b=if a.length+b.length≤cg then some (.str (a++b)) else none:=rfl
theorem RF {b:Bool}:GS .not (.bool b)=some (.bool !b):=rfl
theorem Ng {t:TypeId} {s:List UInt8} (h:tsh P t=some .str):bY P t (.str s) H=some (.int .i64 s.length):=by simp [bY,h]
theorem PR {t:TypeId} {x o n:Nat} {c:Cap} (h:(match tsh P t with | some (.slice _ _ _)=>true | _=>false)=true):bY P t (.slice x o n c) H=some (.int .i64 n):=by
 unfold bY; split at h
 ·rename_i ht; rw [ht]
 ·cases h
theorem Jz {t:TypeId} (h:(match tsh P t with | some (.slice _ _ _)=>true | _=>false)=true):bY P t .aI H=some (.int .i64 0):=by
 unfold bY; split at h
 ·rename_i ht; rw [ht]
 ·cases h
attribute [go_sem] Tv Tq Tp To Ts Tw Tt SM SC SG SL SF SH SI SJ SK RY RX OP RF Ng PR Jz

theorem Uf {b:Bool}:flat (.bool b)=true:=by simp only [flat]
theorem Ue {k:IntKind} {n:Int}:flat (.int k n)=true:=by simp only [flat]
theorem Uc {s:List UInt8}:flat (.str s)=true:=by simp only [flat]
theorem S8:flat .aI=true:=by simp only [flat]
theorem S9:flat .de=true:=by simp only [flat]
theorem Ud {b o:Nat}:flat (.ptr b o)=false:=by simp only [flat]
theorem S7 {b o n:Nat} {c:Cap}:flat (.slice b o n c)=false:=by simp only [flat]
theorem Ta {t:TypeId} {v:AV}:flat (.iface t v)=flat v:=by simp only [flat]
theorem Ug {cs:List AV}:flat (.agg cs)=bK cs:=by simp only [flat]
theorem Ub {cs:List AV}:flat (.tuple cs)=bK cs:=by simp only [flat]
theorem S5:bK []=true:=by simp only [bK]
theorem S6 {v:AV} {vs:List AV}:bK (v::vs)=(flat v && bK vs):=by simp only [bK]
theorem TS {b:Bool}:cK (.bool b)=true:=by simp only [cK]
theorem TQ {k:IntKind} {n:Int}:cK (.int k n)=true:=by simp only [cK]
theorem TO {s:List UInt8}:cK (.str s)=true:=by simp only [cK]
theorem RV:cK .aI=true:=by simp only [cK]
theorem TP {b o:Nat}:cK (.ptr b o)=true:=by simp only [cK]
theorem RU {b o n:Nat} {c:Cap}:cK (.slice b o n c)=true:=by simp only [cK]
attribute [go_sem] Uf Ue Uc S8 S9 Ud S7 Ta Ug Ub S5 S6 TS TQ TO RV TP RU

theorem bX {l:Hp} {i:Nat}:(H++l)[H.length+i]?=l[i]?:=by rw [List.getElem?_append_right (by omega)]; congr 1; omega
theorem dg {l:Hp}:(H++l)[H.length]?=l[0]?:=by rw [List.getElem?_append_right (by omega)]; congr 1; omega
theorem iC {l:Hp} {b:Nat} {x:bp} (h:H[b]?=some x):(H++l)[b]?=some x:=by rw [List.getElem?_append_left (List.getElem?_eq_some_iff.1 h).1]; exact h
theorem gz {l:Hp} {i:Nat} {v:bp}:(H++l).set (H.length+i) v=H++l.set i v:=by
 rw [List.set_append_right _ _ (by omega)]; congr 2; omega
theorem NC {l:Hp} {v:bp}:(H++l).set H.length v=H++l.set 0 v:=by
 rw [List.set_append_right _ _ (by omega)]; congr 2; omega
def ldC (o n:Nat) (g:Bool):bp→Option AV
 | .cells c _ _=>if g=true then (if o+n≤c.length then some (.agg ((c.drop o).take n)) else none) else c[o]?
 | .void=>if g=true then (if n=0 then some (.agg []) else none) else none
 | _=>none
theorem sE {c:List AV} {e:TypeId} {kd:Kd} {o n:Nat}:ldC o n false (.cells c e kd)=c[o]?:=rfl
theorem OU {c:List AV} {e:TypeId} {kd:Kd} {o n:Nat}:ldC o n true (.cells c e kd)=if o+n≤c.length then some (.agg ((c.drop o).take n)) else none:=rfl
theorem N2 {t b o:Nat}:ec P H t b o=(fN P t).bind fun g=>(if g=true then cq P t else some 1).bind fun n=>(H[b]?).bind (ldC o n g):=by
 unfold ec
 cases fN P t with
 | none=>rfl
 | some g =>
  cases g with
  | true =>
   simp only [Option.bind_some,if_true]
   congr 1; funext n
   unfold rd
   cases H[b]? with
   | none=>rfl
   | some x =>
    cases x <;> try rfl
    all_goals
     show Option.map AV.agg (if _ then _ else _)=if _ then _ else _
     split <;> rfl
  | false =>
   simp only [Option.bind_some,Bool.false_eq_true,if_false]
   unfold rd
   cases H[b]? with
   | none=>rfl
   | some x =>
    cases x <;> try rfl
    rename_i c e kd
    show Option.bind (if _ then _ else _) one=c[o]?
    split
    ·rename_i h
     have:o < c.length:=by omega
     rw [List.getElem?_eq_getElem this,List.drop_eq_getElem_cons this]
     rfl
    ·rename_i h
     rw [List.getElem?_eq_none (by omega)]
     rfl
def szT (P:Program) (t:TypeId) (g:Bool):Option Nat:=if g=true then cq P t else some 1
theorem RN {t:TypeId}:szT P t true=cq P t:=rfl
theorem RO {t:TypeId}:szT P t false=some 1:=rfl
theorem Hq {t b o:Nat} {f:AV→Prop}:aq (ec P H t b o) f=aq (fN P t) fun g=>aq (szT P t g) fun n=>aq (H[b]?) fun x=>aq (ldC o n g x) f:=by
 rw [N2,dR]
 refine aR fun g=>?_
 rw [dR]
 refine aR fun n=>?_
 rw [dR]
def wrC (H:Hp) (b o:Nat) (xs:List AV):bp→Option (Hp × Ef)
 | .cells c e k=>if o+xs.length≤c.length∧gE k o=true∧xs.all cK=true then some (H.set b (.cells (splice c o xs) e k),⟨if bK xs=true then none else some b,some b⟩) else none
 | _=>none
theorem RC {b o:Nat} {xs c:List AV} {e:TypeId} {k:Kd}:wrC H b o xs (.cells c e k)=if o+xs.length≤c.length∧gE k o=true∧xs.all cK=true then some (H.set b (.cells (splice c o xs) e k),⟨if bK xs=true then none else some b,some b⟩) else none:=rfl
theorem O2 {b o:Nat} {xs:List AV}:wr H b o xs=(H[b]?).bind (wrC H b o xs):=by
 unfold wr
 cases H[b]? with
 | none=>rfl
 | some x=>cases x <;> rfl
theorem Ko {t b o:Nat} {v:AV}:jv P H t b o v=(cq P t).bind fun n=>if (bH v).length=n then (H[b]?).bind (wrC H b o (bH v)) else none:=by
 unfold jv
 cases cq P t with
 | none=>rfl
 | some n=>simp only [Option.bind_some,O2]
theorem D6 {t b o:Nat} {v:AV} {f:Hp × Ef→Prop}:aq (jv P H t b o v) f=aq (cq P t) fun n=>(bH v).length=n∧aq (H[b]?) fun x=>aq (wrC H b o (bH v) x) f:=by
 rw [Ko,dR]
 refine aR fun n=>?_
 rw [eB,dR]
theorem HH {cs:List AV}:bH (.agg cs)=cs:=rfl
theorem HC {s:List UInt8}:bH (.str s)=[.str s]:=rfl
theorem HF {kd:IntKind} {n:Int}:bH (.int kd n)=[.int kd n]:=rfl
theorem HG {b:Bool}:bH (.bool b)=[.bool b]:=rfl
theorem HD {b o:Nat}:bH (.ptr b o)=[.ptr b o]:=rfl
theorem FB:bH .fF=[.fF]:=rfl
theorem Fz {b o n:Nat} {c:Cap}:bH (.slice b o n c)=[.slice b o n c]:=rfl
theorem FA:bH .aI=[.aI]:=rfl
theorem HE {r:Nat}:bH (.map r)=[.map r]:=rfl
theorem FD {t:TypeId} {v:AV}:bH (.iface t v)=[.iface t v]:=rfl
theorem FC:bH .de=[.de]:=rfl
theorem IF {a x:AV} {c xs:List AV} {o:Nat}:splice (a::c) o (x::xs)=(a::c).take o++(x::xs)++(a::c).drop (o+(x::xs).length):=rfl
theorem PU {v:AV} {c:List AV} {e:TypeId} {kd:Kd} {o n:Nat}:ldC o n false (.cells (v::c) e kd)=(v::c)[o]?:=rfl
theorem PT {v:AV} {c:List AV} {e:TypeId} {kd:Kd} {o n:Nat}:ldC o n true (.cells (v::c) e kd)=if o+n≤(v::c).length then some (.agg (((v::c).drop o).take n)) else none:=rfl
attribute [go_sem] PU PT IF
attribute [go_sem ↓] Hq D6
attribute [go_sem] bX dg gz NC RN RO RC O2 HH HC HF HG HD FB Fz FA HE FD FC
attribute [go_sem] List.append_assoc List.cons_append List.nil_append List.length_append List.length_cons List.length_nil List.getElem?_cons_zero List.getElem?_cons_succ List.drop_zero List.drop_succ_cons List.take_zero List.take_succ_cons List.take_nil List.drop_nil List.set_cons_zero List.set_cons_succ Nat.zero_add Nat.add_zero if_true gE List.all_cons List.all_nil Bool.and_true Bool.true_and Bool.and_self decide_true decide_false Nat.add_assoc true_and and_true eq_self Option.getD_some Bool.false_eq_true if_false Bool.or_false Bool.or_true Bool.false_or Bool.true_or
attribute [go_sem] Int.toNat_natCast Int.natCast_nonneg Int.ofNat_lt beq_self_eq_true bne_self_eq_false Bool.not_true Bool.not_false
attribute [go_sem] Nat.sub_zero true_or or_true Nat.zero_le

def rdC (o n:Nat):bp→Option (List AV)
 | .cells c _ _=>if o+n≤c.length then some ((c.drop o).take n) else none
 | .void=>if n=0 then some [] else none
 | _=>none
theorem R6 {o:Nat}:rdC o 0 .void=some []:=rfl
attribute [go_sem] R6
theorem y5 {o n:Nat} {c:List AV} {e:TypeId} {k:Kd}:rdC o n (.cells c e k)=if o+n≤c.length then some ((c.drop o).take n) else none:=rfl
theorem Fq {b o n:Nat} {f:List AV→Prop}:aq (rd H b o n) f=aq (H[b]?) fun x=>aq (rdC o n x) f:=by
 have:rd H b o n=(H[b]?).bind (rdC o n):=by
  unfold rd
  cases H[b]? with
  | none=>rfl
  | some x=>cases x <;> rfl
 rw [this,dR]
theorem OK {z:Nat} {f:List AV × Nat→Prop}:aq (appended H z .aI) f=f ([],0):=rfl
theorem TD {z b o n:Nat} {c:Cap} {f:List AV × Nat→Prop}:aq (appended H z (.slice b o n c)) f=aq (H[b]?) fun x=>aq (rdC o (n*z) x) fun l=>f (l,n):=by
 show aq ((rd H b o (n*z)).map _) f=_
 rw [dN,Fq]
theorem Rp {z:Nat} {s:List UInt8} {f:List AV × Nat→Prop} (h:(z == 1)=true):aq (appended H z (.str s)) f=f (s.map fun b=>.int .u8 b.toNat,s.length):=by
 have:z=1:=by simpa using h
 subst this; rfl
theorem ED {e z b:Nat}:shZ (.slice e z b)=z:=rfl
theorem GR {t:TypeId} {s x:AV} {kk:AV × Hp × Ef→Prop}:aF (j0 P t s x H) kk=aq (tsh P t) fun sh=>aq (appended H (shZ sh) x) fun a=>aF (c9 P sh s a H) kk:=by
 unfold j0
 cases tsh P t with
 | none=>rfl
 | some sh =>
  cases sh <;> try (rw [aD]; generalize appended H _ x=q; cases q <;> rfl)
  rename_i e z b
  simp only [aD,shZ]
  by_cases hz:0 < z∧zok P e z=true
  ·rw [if_pos hz,aT]
   refine aR fun a=>?_
   simp only [c9]
   rw [if_pos hz]
   try (cases s <;> rfl)
  ·rw [if_neg hz]
   cases appended H z x with
   | none=>rfl
   | some a =>
    rw [aD]
    simp only [c9]
    rw [if_neg hz]
def shB:Sh→Nat
 | .slice _ _ b=>b
 | _=>0
def shE:Sh→TypeId
 | .slice e _ _=>e
 | _=>0
theorem RR {e z b:Nat}:shB (.slice e z b)=b:=rfl
theorem RQ {e z b:Nat}:shE (.slice e z b)=e:=rfl
theorem N3 {t:TypeId} {s:AV} {k:IntKind} {n:Int} {kk:AV × Hp × Ef→Prop}:aF (qh P t s (.int k n) H) kk=aq (tsh P t) fun sh=>(0≤n∧fits n.toNat (shB sh)=true)∧aq (cB P (shE sh)) fun zs=>zs.length=shZ sh∧aF (c9 P sh s (rep zs n.toNat,n.toNat) H) kk:=by
 unfold qh
 cases ht:tsh P t with
 | none=>rfl
 | some sh =>
  cases sh with
  | slice e z b =>
   simp only [aD,shB,shE,shZ]
   by_cases hc:0≤n∧fits n.toNat b=true
   ·rw [if_pos hc]
    cases cB P e with
    | none=>simp [aF,aq]
    | some zs =>
     by_cases hz:zs.length=z
     ·simp [hz,hc,aq]
     ·simp [hz,aq,aF]
   ·rw [if_neg hc]; simp [hc,aF]
  | _=>simp only [aD]; simp [aF,c9,aq]; intros; cases cB P _ <;> simp
theorem oe {p:Prop} [Decidable p] {r:Rs} {kk:AV × Hp × Ef→Prop}:aF (if p then r else none) kk=(p∧aF r kk):=by
 by_cases h:p
 ·rw [if_pos h]; simp [h]
 ·rw [if_neg h]; simp [h,aF]
theorem pK {p:Prop} [Decidable p] {r q:Rs} {kk:AV × Hp × Ef→Prop}:aF (if p then r else q) kk=cz (.bool (decide p)) true (aF r kk) (aF q kk):=by
 by_cases h:p
 ·rw [if_pos h]
  have:decide p=true:=by simpa using h
  rw [this]; rfl
 ·rw [if_neg h]
  have:decide p=false:=by simpa using h
  rw [this]; rfl
theorem dS {e z b n:Nat} {cs:List AV} {kk:AV × Hp × Ef→Prop} (hz:decide (0 < z)=true) (hk:zok P e z=true) :
  aF (c9 P (.slice e z b) .aI (cs,n) H) kk=cz (.bool (decide (n=0))) true (kk (.aI,H,z0)) (fits n b=true∧kk (.slice H.length 0 n (.op 0),H++[.cells cs e (.op 0 false)],z0)):=by
 simp only [c9]
 rw [if_pos ⟨by simpa using hz,hk⟩,pK,oe]
 rfl
def OJ (H : Hp) (e z b bl o n k : Nat) (a : List AV × Nat) (kk : AV × Hp × Ef → Prop) : bp → Prop
  | .cells c e' (.op fz st) =>
    (e' = e ∧ o = k * z ∧ o + n * z ≤ c.length) ∧ cz (.bool (decide (o + (n + a.2) * z ≤ c.length))) true
      (aq (wr H bl (o + n * z) a.1) fun r => kk (.slice bl o (n + a.2) (.op k), r.1, r.2))
      ((fits (n + a.2) b = true ∧ fz ≤ o + n * z ∧ a.1.all cK = true) ∧
        kk (.slice H.length 0 (n + a.2) (.op 0), H.set bl .dead ++ [.cells ((c.drop o).take (n * z) ++ a.1) e (.op (fz - o) st)], ⟨none, some bl⟩))
  | _ => False
theorem eC {e z b bl o n k:Nat} {a:List AV × Nat} {kk:AV × Hp × Ef→Prop} (hz:decide (0 < z)=true) (hk:zok P e z=true) :
  aF (c9 P (.slice e z b) (.slice bl o n (.op k)) a H) kk=aq (H[bl]?) (OJ H e z b bl o n k a kk):=by
 simp only [c9]
 rw [if_pos ⟨by simpa using hz,hk⟩]
 cases H[bl]? with
 | none=>rfl
 | some x =>
  rw [aD]
  cases x <;> try rfl
  rename_i c e' kd
  cases kd <;> try rfl
  rename_i fz st
  simp only [OJ]
  rw [oe,pK,oe,fE]
  rfl
theorem hU {e z b bl o n k fz : Nat} {st : Bool} {c : List AV} {e' : TypeId} {a : List AV × Nat} {kk : AV × Hp × Ef → Prop} :
    OJ H e z b bl o n k a kk (.cells c e' (.op fz st)) = ((e' = e ∧ o = k * z ∧ o + n * z ≤ c.length) ∧ cz (.bool (decide (o + (n + a.2) * z ≤ c.length))) true
      (aq (wr H bl (o + n * z) a.1) fun r => kk (.slice bl o (n + a.2) (.op k), r.1, r.2))
      ((fits (n + a.2) b = true ∧ fz ≤ o + n * z ∧ a.1.all cK = true) ∧
        kk (.slice H.length 0 (n + a.2) (.op 0), H.set bl .dead ++ [.cells ((c.drop o).take (n * z) ++ a.1) e (.op (fz - o) st)], ⟨none, some bl⟩))) := rfl
theorem lY {e z b bl o n c:Nat} {a:List AV × Nat} {kk:AV × Hp × Ef→Prop} (hz:decide (0 < z)=true) (hk:zok P e z=true) :
  aF (c9 P (.slice e z b) (.slice bl o n (.ex c)) a H) kk=cz (.bool (decide (n+a.2≤c))) true (aq (wr H bl (o+n*z) a.1) fun r=>kk (.slice bl o (n+a.2) (.ex c),r.1,r.2))
   (fits (n+a.2) b=true∧aq (rd H bl o (n*z)) fun old=>kk (.slice H.length 0 (n+a.2) (.op 0),H++[.cells (old++a.1) e (.op 0 false)],z0)):=by
 simp only [c9]
 rw [if_pos ⟨by simpa using hz,hk⟩]
 rw [pK,oe,fE,fE]
attribute [go_sem ↓] Fq OK TD Rp GR N3 dS eC lY
attribute [go_sem] ED RR RQ hU
theorem Pw {o n:Nat} {v:AV} {c:List AV} {e:TypeId} {k:Kd}:rdC o n (.cells (v::c) e k)=if o+n≤(v::c).length then some (((v::c).drop o).take n) else none:=rfl
attribute [go_sem] Pw

def knC (o k:Nat) (sh:Sh):bp→Option Nat
 | .cells c e' (.op _ _)=>match sh with
  | .slice e z _=>if e'=e∧0 < z∧o=k*z then some ((c.length - o) / z) else none
  | _=>none
 | _=>none
theorem zD {o k e z b fz:Nat} {st:Bool} {c:List AV} {e':TypeId}:knC o k (.slice e z b) (.cells c e' (.op fz st))=if e'=e∧0 < z∧o=k*z then some ((c.length - o) / z) else none:=rfl
theorem Re {l c:Nat} {f:Nat × Nat→Prop}:aq (bnd none none l c) f=f (0,l):=rfl
theorem K1 {l c:Nat} {k:IntKind} {h:Int} {f:Nat × Nat→Prop}:aq (bnd none (some (.int k h)) l c) f=((0≤h∧h≤c)∧f (0,h.toNat)):=by
 simp only [bnd,eB,aD]
theorem D5 {l c:Nat} {k:IntKind} {a:Int} {f:Nat × Nat→Prop}:aq (bnd (some (.int k a)) none l c) f=((0≤a∧a≤l)∧f (a.toNat,l)):=by
 simp only [bnd,eB,aD]
theorem K3 {l c:Nat} {k k':IntKind} {a h:Int} {f:Nat × Nat→Prop}:aq (bnd (some (.int k a)) (some (.int k' h)) l c) f=((0≤h∧h≤c)∧(0≤a∧a≤h)∧f (a.toNat,h.toNat)):=by
 simp only [bnd,eB,aD]
section
variable {kk:AV × Hp × Ef→Prop}
theorem uS {b o k e z bb:Nat}:known H b o k z e=(H[b]?).bind (knC o k (.slice e z bb)):=by
 unfold known
 cases H[b]? with
 | none=>rfl
 | some x =>
  cases x <;> try rfl
  rename_i c e' kd
  cases kd <;> rfl
def wD:Option Sh→Bool
 | some (.slice _ _ _)=>true
 | _=>false
theorem P4 {e z b:Nat}:wD (some (.slice e z b))=true:=rfl
theorem mC {x:Option Sh} (h:wD x=true):∃ e z b,x=some (.slice e z b):=by
 unfold wD at h
 split at h
 ·exact ⟨_,_,_,rfl⟩
 ·cases h
theorem rX {t:TypeId} {b o n k:Nat} {lo hi:Option AV} (ht:wD (tsh P t)=true):slK P t (.slice b o n (.op k)) lo hi none H kk=aq (tsh P t) fun sh=>aq (H[b]?) fun x=>aq (knC o k sh x) fun q=>aq (bnd lo hi n q) fun r =>
  cz (.bool (decide (r.1=0∨r.1 < q))) true (kk (.slice b (o+r.1*shZ sh) (r.2 - r.1) (.op (k+r.1)),H,z0)) (r.1=r.2∧kk (.slice H.length 0 0 (.op 0),H++[.void],z0)):=by
 obtain ⟨e,z,bb,he⟩:=mC ht
 unfold slK
 simp only [eJ,ew,he,uS (bb:=bb),aD]
 cases hx:H[b]? with
 | none=>rfl
 | some x =>
  simp only [Option.bind_some,aD]
  cases hq:knC o k (.slice e z bb) x with
  | none=>rfl
  | some q =>
   simp only [Option.bind_some,aD]
   cases hr:bnd lo hi n q with
   | none=>rfl
   | some r =>
    simp only [Option.bind_some,aD,shZ]
    by_cases hc:r.1=0∨r.1 < q
    ·rw [if_pos hc,decide_eq_true hc]; rfl
    ·rw [if_neg hc,decide_eq_false hc,cn]
     by_cases h2:r.1=r.2
     ·rw [if_pos h2]; simp [h2,aD]
     ·rw [if_neg h2]; simp [h2]; exact fun h=>h
theorem Mw {t:TypeId} {b o n k:Nat} {lo hi:Option AV} {km:IntKind} {m:Int} (ht:wD (tsh P t)=true):slK P t (.slice b o n (.op k)) lo hi (some (.int km m)) H kk=aq (tsh P t) fun sh=>aq (H[b]?) fun x=>aq (knC o k sh x) fun q =>
  (0≤m∧m≤q∧hi.isSome=true)∧aq (bnd lo hi n m.toNat) fun r=>kk (.slice b (if m.toNat=r.1 then o else o+r.1*shZ sh) (r.2 - r.1) (.ex (m.toNat - r.1)),H,z0):=by
 obtain ⟨e,z,bb,he⟩:=mC ht
 rw [nq (by simp [ew])]
 simp only [eJ,he,uS (bb:=bb),aD,dR]
 refine aR fun x=>aR fun q=>?_
 rw [eB,dN]
 rfl
theorem Po {t:TypeId} {b o n c:Nat} {lo hi:Option AV} (ht:wD (tsh P t)=true):slK P t (.slice b o n (.ex c)) lo hi none H kk=aq (tsh P t) fun sh=>aq (bnd lo hi n c) fun r=>kk (.slice b (if c=r.1 then o else o+r.1*shZ sh) (r.2 - r.1) (.ex (c - r.1)),H,z0):=by
 obtain ⟨e,z,bb,he⟩:=mC ht
 rw [nq (by simp [ew])]
 simp only [eJ,he,dN,aD,shZ]
theorem Mx {t:TypeId} {b o n c:Nat} {lo hi:Option AV} {km:IntKind} {m:Int} (ht:wD (tsh P t)=true):slK P t (.slice b o n (.ex c)) lo hi (some (.int km m)) H kk=aq (tsh P t) fun sh =>
  (0≤m∧m≤c∧hi.isSome=true)∧aq (bnd lo hi n m.toNat) fun r=>kk (.slice b (if m.toNat=r.1 then o else o+r.1*shZ sh) (r.2 - r.1) (.ex (m.toNat - r.1)),H,z0):=by
 obtain ⟨e,z,bb,he⟩:=mC ht
 rw [nq (by simp [ew])]
 simp only [eJ,he,dN,aD,eB,shZ]
theorem II {t:TypeId} {lo hi:Option AV} (ht:wD (tsh P t)=true):slK P t .aI lo hi none H kk=aq (bnd lo hi 0 0) fun _=>kk (.aI,H,z0):=by
 obtain ⟨e,z,bb,he⟩:=mC ht
 rw [nq (by simp [ew])]
 simp only [eJ,he,dN]
theorem FV {t:TypeId} {lo hi:Option AV} {km:IntKind} {m:Int} (ht:wD (tsh P t)=true):slK P t .aI lo hi (some (.int km m)) H kk=((m=0∧hi.isSome=true)∧aq (bnd lo hi 0 0) fun _=>kk (.aI,H,z0)):=by
 obtain ⟨e,z,bb,he⟩:=mC ht
 rw [nq (by simp [ew])]
 simp only [eJ,he,dN,eB]
def isStr:Option Sh→Bool
 | some .str=>true
 | _=>false
theorem Mv {t:TypeId} {s:List UInt8} {lo hi:Option AV} (ht:isStr (tsh P t)=true):slK P t (.str s) lo hi none H kk=aq (bnd lo hi s.length s.length) fun r=>kk (.str ((s.drop r.1).take (r.2 - r.1)),H,z0):=by
 have he:tsh P t=some .str:=by
  unfold isStr at ht
  split at ht
  ·assumption
  ·cases ht
 rw [nq (by simp [ew])]
 simp only [eJ,he,dN]
def shA:Sh→Nat × Nat
 | .array l _ z=>(l,z)
 | _=>(0,0)
theorem RS {l e z:Nat}:shA (.array l e z)=(l,z):=rfl
def JS:Option Sh→Bool
 | some (.array _ _ _)=>true
 | _=>false
theorem My {t:TypeId} {b o:Nat} {lo hi:Option AV} (ht:JS (tsh P t)=true) :
  slK P t (.ptr b o) lo hi none H kk=aq (tsh P t) fun sh=>aq (bnd lo hi (shA sh).1 (shA sh).1) fun r=>kk (.slice b (if (shA sh).1=r.1 then o else o+r.1*(shA sh).2) (r.2 - r.1) (.ex ((shA sh).1 - r.1)),H,z0):=by
 unfold JS at ht
 split at ht
 ·rename_i e z w he
  rw [nq (by simp [ew])]
  simp only [eJ,he,dN,aD,shA]
  rfl
 ·cases ht
end
theorem Nx:isStr (some .str)=true:=rfl
theorem NA {l e z:Nat}:JS (some (.array l e z))=true:=rfl
attribute [go_sem] P4 Nx NA RS
attribute [go_sem ↓] Re K1 D5 K3 rX Mw Po Mx II FV Mv My
attribute [go_sem] zD
attribute [go_sem] Int.ofNat_le

def clean (n:Nat) (e:Ef):Prop:=low n e.es=none∧low n e.ws=none
theorem oF {n:Nat} {a b:Option Nat} (ha:low n a=none) (hb:low n b=none):low n (eD a b)=none:=by
 cases a with
 | none=>cases b <;> exact hb
 | some a =>
  cases b with
  | none=>exact ha
  | some b =>
   simp only [low,eD] at *
   split at ha
   ·split at hb
    ·rw [if_pos (by omega)]
    ·cases hb
   ·cases ha
theorem iu {n:Nat}:clean n z0=True:=eq_true ⟨rfl,rfl⟩
theorem bn {n:Nat} {a b:Ef} (ha:clean n a) (hb:clean n b):clean n (a.and b):=⟨oF ha.1 hb.1,oF ha.2 hb.2⟩
theorem xk {n b:Nat} (h:n≤b):clean n ⟨none,some b⟩:=⟨rfl,by simp [low,h]⟩
theorem o7 {n b c:Nat} (h:n≤b) (h':n≤c):clean n ⟨some c,some b⟩:=⟨by simp [low,h'],by simp [low,h]⟩
theorem oE {n b:Nat}:(low n (some b)=none)=(n≤b):=by simp [low]
theorem Ju {n:Nat} {a b:Option Nat}:(low n (eD a b)=none)=(low n a=none∧low n b=none):=by
 cases a with
 | none=>cases b <;> simp [eD,low]
 | some a =>
  cases b with
  | none=>simp [eD,low]
  | some b =>
   apply propext
   simp only [eD,oE]
   omega
theorem gZ {n:Nat} {a b:Ef}:clean n (a.and b)=(clean n a∧clean n b):=by
 show (low n (eD a.es b.es)=none∧low n (eD a.ws b.ws)=none)=((_∧_)∧(_∧_))
 rw [Ju,Ju]
 apply propext; constructor
 ·rintro ⟨⟨p,q⟩,r,s⟩; exact ⟨⟨p,r⟩,q,s⟩
 ·rintro ⟨⟨p,r⟩,q,s⟩; exact ⟨⟨p,q⟩,r,s⟩
theorem lU {n b:Nat}:clean n ⟨none,some b⟩=(n≤b):=by
 show (low n none=none∧low n (some b)=none)=_
 rw [oE]; simp [low]
theorem j6 {n b c:Nat}:clean n ⟨some c,some b⟩=(n≤c∧n≤b):=by
 show (low n (some c)=none∧low n (some b)=none)=_
 rw [oE,oE]
theorem iY {n b:Nat} {c:Prop} [Decidable c] (h:n≤b):clean n ⟨if c then none else some b,some b⟩=True:=by
 split
 ·rw [lU]; exact eq_true h
 ·rw [j6]; exact eq_true ⟨h,h⟩
theorem zB {n k:Nat}:(n≤n+k)=True:=eq_true (Nat.le_add_right n k)
theorem Nh {n:Nat}:(n≤n)=True:=eq_true (Nat.le_refl n)
attribute [go_sem] iu gZ lU j6 iY zB Nh

def tj (P:Program) (rs:List ResultVar) (n:Nat) (k:AV × Hp × Ef→Prop):Ex→St→Prop:=fun ex s =>
 (ex=.normal∨ex=.ret)∧match cS P s rs with
  | some vs=>k (leave n (pack vs) s.H s.ef)
  | none=>False
instance {rs:List ResultVar} {n:Nat} {k:AV × Hp × Ef→Prop}:Calm (tj P rs n k):=⟨fun _ h=>by rcases h.1 with h | h <;> cases h⟩
theorem Kz {rs:List ResultVar} {n:Nat} {k:AV × Hp × Ef→Prop}:tj P rs n k .normal ⟨σ,H,e⟩=aq (cS P ⟨σ,H,e⟩ rs) fun vs=>k (leave n (pack vs) H e):=by
 apply propext
 constructor
 ·rintro ⟨_,h⟩; unfold aq; split at h <;> simp_all
 ·intro h; refine ⟨.inl rfl,?_⟩; unfold aq at h; split at h <;> simp_all
theorem wY {rs:List ResultVar} {n:Nat} {k:AV × Hp × Ef→Prop}:tj P rs n k .ret ⟨σ,H,e⟩=aq (cS P ⟨σ,H,e⟩ rs) fun vs=>k (leave n (pack vs) H e):=by
 apply propext
 constructor
 ·rintro ⟨_,h⟩; unfold aq; split at h <;> simp_all
 ·intro h; refine ⟨.inr rfl,?_⟩; unfold aq at h; split at h <;> simp_all
theorem MD {t:Nat} {r:List ResultVar}:cS P ⟨σ,H,e⟩ (.tmp t::r)=(cS P ⟨σ,H,e⟩ r).map (fr σ t::·):=rfl
theorem I2 {a:Nat} {t:TypeId} {r:List ResultVar}:cS P ⟨σ,H,e⟩ (.cell a t::r)=(qW (fr σ a)).bind fun p=>(ec P H t p.1 p.2).bind fun v=>(cS P ⟨σ,H,e⟩ r).map (v::·):=by
 simp only [cS]
 unfold fr
 cases (σ[a]?).getD bw <;> rfl
theorem xo {t:Nat} {r:List ResultVar} {f:List AV→Prop}:aq (cS P ⟨σ,H,e⟩ (.tmp t::r)) f=aq (cS P ⟨σ,H,e⟩ r) fun vs=>f (fr σ t::vs):=by
 rw [MD,dN]
theorem uc {a:Nat} {t:TypeId} {r:List ResultVar} {f:List AV→Prop}:aq (cS P ⟨σ,H,e⟩ (.cell a t::r)) f=aq (qW (fr σ a)) fun p=>aq (ec P H t p.1 p.2) fun v=>aq (cS P ⟨σ,H,e⟩ r) fun vs=>f (v::vs):=by
 rw [I2,dR]
 refine aR fun p=>?_
 rw [dR]
 refine aR fun v=>?_
 rw [dN]
theorem xp {f:List AV→Prop}:aq (cS P ⟨σ,H,e⟩ []) f=f []:=rfl
theorem Jf {v:AV}:pack [v]=v:=rfl
theorem Jg:pack []=.tuple []:=rfl
theorem Je {v w:AV} {vs:List AV}:pack (v::w::vs)=.tuple (v::w::vs):=rfl
attribute [go_sem ↓] Kz wY
attribute [go_sem ↓] xo uc xp
attribute [go_sem] Jf Jg Je

theorem aW {v:AV} {l:Hp} (hv:flat v=true) (h:clean H.length e):leave H.length v (H++l) e=(v,H,z0):=by
 unfold leave
 rw [h.1,h.2,if_pos ⟨hv,rfl⟩,List.take_left]; rfl
theorem dJ {v:AV} (hv:flat v=true) (h:clean H.length e):leave H.length v H e=(v,H,z0):=by
 unfold leave
 rw [h.1,h.2,if_pos ⟨hv,rfl⟩,List.take_length]; rfl
theorem gb {n:Nat} {v:AV} (hv:flat v=false) (h:clean n e):leave n v H e=(v,H,z0):=by
 unfold leave
 rw [h.1,h.2,if_neg (by simp [hv])]; rfl

attribute [go_sem] aW dJ gb

theorem aa {f:FuncId} {fn:Func} {c:Code} {args:List AV} {kk:AV × Hp × Ef→Prop} {rs:List ResultVar} {n:Nat} (hf:P.funcs[f]?=some fn) (hb:fn.body=some c) (hr:fn.results.toList=rs) (hn:args.length+(fn.ntmps - args.length)=n)
  (h:∀ σ:List AV,σ.length=n→(∀ i:Nat,i < args.length→fr σ i=(args[i]?).getD bw)→go P (tj P rs H.length kk) [.code c] ⟨σ,H,z0⟩) (hd:iS c=none:=by kernel_rfl):ag P f args H kk:=by
 rw [tE hf hb hd]
 subst hr; subst hn
 refine h _ (by simp) (fun i hi=>?_)
 unfold fr
 rw [List.getElem?_append_left hi]

def goZ (P:Program) (ops:List Oper) (K:St→List Nat→Prop) (i:Nat) (l:List Oper) (s:St) (_:Ph (ops,K,l):=⟨⟩):Prop:=goD P ops K ((l.zipIdx i).map fun (o,i)=>(i,o)) s
def qH (P:Program) (ops:List Oper) (K:St→List Nat→Prop) (l:List Oper) (σ:List AV) (H:Hp) (e:Ef) (i:Nat) (dst:Option Tmp):AV × Hp × Ef→Prop :=
 fun r=>goZ P ops (fun s es=>K s (if quiet r H=true then es else tg i r.2.2::es)) (i+1) l ⟨put σ dst r.1,r.2.1,e.and r.2.2⟩
theorem EI {v:AV}:quiet (v,H,z0) H=true:=by simp [quiet,z0]
theorem OW {K K':St→List Nat→Prop} {i:Nat} {s:St} (h:K=K'):goZ P ops K i l s=goZ P ops K' i l s:=by subst h; rfl
theorem OS {op:Op} {kk kk':AV × Hp × Ef→Prop} (h:kk=kk'):opK P σ H op kk=opK P σ H op kk':=by subst h; rfl
theorem M0 {K:St→List Nat→Prop} {dst:Option Tmp} {i:Nat} {v:AV} {σ:List AV}:qH P ops K l σ H e i dst (v,H,z0)=goZ P ops K (i+1) l ⟨put σ dst v,H,e⟩:=by
 show goZ P ops (fun s es=>K s (if quiet (v,H,z0) H=true then es else tg i z0::es)) (i+1) l ⟨put σ dst v,H,e.and z0⟩=_
 rw [Ef.fC]
 refine OW ?_
 funext s es
 rw [EI]; rfl
theorem MZ {K:St→List Nat→Prop} {dst:Option Tmp} {i:Nat} {v:AV} {H':Hp} {e':Ef} (h:quiet (v,H',e') H=false):qH P ops K l σ H e i dst (v,H',e')=goZ P ops (fun s es=>K s (tg i e'::es)) (i+1) l ⟨put σ dst v,H',e.and e'⟩:=by
 refine OW ?_
 funext s es
 rw [h]; rfl
theorem NK {K:St→List Nat→Prop} {i:Nat}:goZ P ops K i [] ⟨σ,H,e⟩=K ⟨σ,H,e⟩ []:=wK
@[reducible] def oA:Op→Bool
 | .alloc _=>false
 | _=>true
theorem Qa {K:St→List Nat→Prop} {i:Nat} {dst:Option Tmp} {op:Op} {ty:TypeId} {pos:String} {af:Array Edge} (hf:oA op=true) :
  goZ P ops K i (⟨dst,op,ty,pos,af,none⟩::l) ⟨σ,H,e⟩=opK P σ H op (qH P ops K l σ H e i dst):=by
 show goD P ops K ((i,_)::(l.zipIdx (i+1)).map fun (o,i)=>(i,o)) _=_
 rw [wJ]
 have:bA ⟨dst,op,ty,pos,af,none⟩=false:=by cases op <;> first | rfl | cases hf
 refine OS ?_
 funext r
 unfold qJ qH goZ
 rw [this]
 rfl
theorem NJ {K:St→List Nat→Prop} {i:Nat} {dst:Option Tmp} {op:Op} {ty:TypeId} {pos:String} {af:Array Edge} {j:Nat} {w:Bool} :
  goZ P ops K i (⟨dst,op,ty,pos,af,some (j,w)⟩::l) ⟨σ,H,e⟩=cz (jW σ (nE ops j)) w (opK P σ H op (qH P ops K l σ H e i dst)) (goZ P ops K (i+1) l ⟨put σ dst bw,H,e⟩):=by
 have hfr:bA ⟨dst,op,ty,pos,af,some (j,w)⟩=false:=by cases op <;> simp [bA]
 show goD P ops K ((i,_)::(l.zipIdx (i+1)).map fun (o,i)=>(i,o)) _=cz _ _ _ (goD P ops K ((l.zipIdx (i+1)).map fun (o,i)=>(i,o)) _)
 cases hw:cj ops σ ⟨dst,op,ty,pos,af,some (j,w)⟩ with
 | true =>
  rw [sX hw]
  have e1:qJ P ops K (List.map (fun x=>(x.snd,x.fst)) (l.zipIdx (i+1))) σ H e i ⟨dst,op,ty,pos,af,some (j,w)⟩=qH P ops K l σ H e i dst:=by
   funext r; unfold qJ qH goZ; rw [hfr]; rfl
  unfold cj at hw
  simp only at hw
  unfold jW nE
  split at hw
  ·rename_i d hd
   rw [hd]
   split at hw
   ·rename_i b hb
    unfold fr; simp only [hb,Option.getD_some,cz]; rw [if_pos hw]; show opK _ _ _ _ _=_; rw [← e1]
   ·cases hw
  ·cases hw
 | false =>
  rw [AF hw]
  unfold cj at hw
  simp only at hw
  unfold jW nE
  split at hw
  ·rename_i d hd
   rw [hd]
   split at hw
   ·rename_i b hb
    unfold fr; simp only [hb,Option.getD_some,cz]; rw [if_neg (by rw [hw]; exact Bool.false_ne_true)]
   ·rename_i hne
    simp only
    unfold fr cz
    split
    ·rename_i b hb
     cases hd2:σ[d]? with
     | none=>rw [hd2] at hb; cases hb
     | some v=>rw [hd2] at hb; simp only [Option.getD_some] at hb; rw [hb] at hd2; exact absurd hd2 (hne b)
    ·rfl
  ·rename_i hd
   rw [hd]; rfl
theorem EL {l:List Oper} (h:l.all (fun o=>!bA o)=true):order l=(l.zipIdx 0).map fun (o,i)=>(i,o):=by
 have hz:∀ p ∈ num l,bA p.2=false:=by
  intro p hp
  unfold num at hp
  simp only [List.mem_map] at hp
  obtain ⟨q,hq,rfl⟩:=hp
  have:=List.all_eq_true.1 h q.1 (List.fst_mem_of_mem_zipIdx hq)
  simpa using this
 unfold order
 have h1:(num l).filter (fun p=>bA p.2)=[]:=List.filter_eq_nil_iff.2 fun p hp=>by rw [hz p hp]; exact Bool.false_ne_true
 have h2:(num l).filter (fun p=>!bA p.2)=num l:=List.filter_eq_self.2 fun p hp=>by rw [hz p hp]; rfl
 rw [h1,h2]; rfl
theorem sY {K K':St→List Nat→Prop} {l:List (Nat × Oper)} {s:St} (hK:∀ s es,K s es→K' s es) (h:goD P ops K l s):goD P ops K' l s:=by
 unfold goD at h ⊢
 obtain ⟨n,s',es,h1,h2⟩:=h
 exact ⟨n,s',es,h1,hK _ _ h2⟩
theorem ay {id:Nat} {ops:Array Oper} (hm:P.follows .mixedOrders=true) (hs:(nk ops.toList && ops.toList.all (fun o=>!bA o))=true)
  (h:goZ P ops.toList (fun s es=>bN P ops.toList es=true∧go P Q k s) 0 ops.toList ⟨σ,H,e⟩):go P Q (.code (.region id ops true)::k) ⟨σ,H,e⟩:=by
 rw [Bool.and_eq_true] at hs
 rw [wI hm hs.1,EL hs.2]
 exact sY (fun s es h=>⟨.inl h.1,h.2⟩) h
def stB (ops : List Oper) (x : (Nat × Nat) × (Nat × Nat)) : Bool :=
  (match ops[x.1.1]?, ops[x.1.2]? with
   | some oi, some oj => (match oi.op, oj.op with
     | .store _ (.tmp c) _, .load _ (.tmp a) => c == x.2.1 && a == x.2.2
     | _, _ => false)
   | _, _ => false) && (num ops).all fun (k, o) => (o.dst != some x.2.1 || decide (k < x.1.1)) && (o.dst != some x.2.2 || decide (k < x.1.2))
def apF (σ:List AV) (x:(Nat × Nat) × (Nat × Nat)):Prop:=∃ b o b' o',fr σ x.2.1=.ptr b o∧fr σ x.2.2=.ptr b' o'∧b≠b'
theorem Rq {ops:List Oper} {σ:List AV} {x:(Nat × Nat) × (Nat × Nat)} (hs:stB ops x=true) (h:apF σ x):apS ops σ x.1:=by
 obtain ⟨⟨i,j⟩,c,a⟩:=x
 obtain ⟨b,o,b',o',h1,h2,h3⟩:=h
 unfold stB at hs
 rw [Bool.and_eq_true] at hs
 obtain ⟨hs,hd⟩:=hs
 have hfr:∀ {t b o},fr σ t=.ptr b o→σ[t]?=some (.ptr b o):=by
  intro t b o h
  unfold fr at h
  cases hx:σ[t]? with
  | none=>rw [hx] at h; cases h
  | some z=>rw [hx] at h; rw [← h]; rfl
 have hlate:∀ k x,ops[k]?=some x→(x.dst=some c→k < i)∧(x.dst=some a→k < j):=by
  intro k x hk
  have hm:(k,x) ∈ num ops:=by
   simp only [num,List.mem_map,Prod.mk.injEq,Prod.exists]
   exact ⟨x,k,by rw [List.mem_zipIdx_iff_getElem?]; exact hk,rfl,rfl⟩
  have:=List.all_eq_true.1 hd _ hm
  simp only [Bool.and_eq_true,Bool.or_eq_true,bne_iff_ne,ne_eq,decide_eq_true_eq] at this
  exact ⟨fun h=>this.1.resolve_left (fun hn=>hn h),fun h=>this.2.resolve_left (fun hn=>hn h)⟩
 split at hs
 ·rename_i oi oj hi hj
  split at hs
  ·rename_i t c' v t' a' ho1 ho2
   simp only [Bool.and_eq_true,beq_iff_eq] at hs
   obtain ⟨rfl,rfl⟩:=hs
   exact ⟨oi,oj,_,_,b,o,b',o',t,t',v,hi,hj,ho1,ho2,hfr h1,hfr h2,h3,fun k x hk=>(hlate k x hk).1,fun k x hk=>(hlate k x hk).2⟩
  ·cases hs
 ·cases hs
theorem uX {id:Nat} {ops:Array Oper} (bad:List ((Nat × Nat) × (Nat × Nat))) (hm:P.follows .mixedOrders=true) (hs:(nk ops.toList && ops.toList.all (fun o=>!bA o) && bad.all (stB ops.toList))=true)
  (h:goZ P ops.toList (fun s es=>KD ops.toList es (bad.map (·.1))=true∧(∀ x ∈ bad,apF s.σ x)∧go P Q k s) 0 ops.toList ⟨σ,H,e⟩):go P Q (.code (.region id ops true)::k) ⟨σ,H,e⟩:=by
 rw [Bool.and_eq_true,Bool.and_eq_true] at hs
 rw [wI hm hs.1.1,EL hs.1.2]
 refine sY (fun s es h=>⟨.inr ⟨_,h.1,fun p hp=>?_⟩,h.2.2⟩) h
 obtain ⟨x,hx,rfl⟩:=List.mem_map.1 hp
 exact Rq (List.all_eq_true.1 hs.2 x hx) (h.2.1 x hx)
theorem TH {i:Nat}:tg i z0=2*i+1:=rfl
theorem TJ {i x:Nat} {o:Option Nat}:tg i ⟨o,some x⟩=2*i:=by unfold tg; simp
theorem uw (i:Nat) (e:Ef):tg i e=2*i∨tg i e=2*i+1:=by unfold tg; split <;> simp
attribute [go_sem] TH TJ
theorem G1 {ops:List Oper}:bN P ops []=true:=rfl
theorem Bb {α:Type} {f:FuncId} {args:List AV} (g:α→AV × Hp × Ef) (h:ag P f args H (fun q=>∃ b,q=g b)):∃ b,∀ k,ag P f args H k=k (g b):=by
 obtain ⟨n,r,hn,b,rfl⟩:=h
 exact ⟨b,fun k=>propext (o8 hn)⟩
theorem wrap_u8 {n:Int} (h:0≤n∧n < 256):IntKind.u8.wrap n=n:=by
 simp only [IntKind.wrap,IntKind.bits,IntKind.signed,Bool.false_and,Bool.true_and,Bool.false_eq_true,if_false,decide_eq_true_eq,Nat.reduceSub,Int.reducePow,ge_iff_le]; first | omega | (split <;> omega)
theorem wrap_u16 {n:Int} (h:0≤n∧n < 65536):IntKind.u16.wrap n=n:=by
 simp only [IntKind.wrap,IntKind.bits,IntKind.signed,Bool.false_and,Bool.true_and,Bool.false_eq_true,if_false,decide_eq_true_eq,Nat.reduceSub,Int.reducePow,ge_iff_le]; first | omega | (split <;> omega)
theorem wrap_u32 {n:Int} (h:0≤n∧n < 4294967296):IntKind.u32.wrap n=n:=by
 simp only [IntKind.wrap,IntKind.bits,IntKind.signed,Bool.false_and,Bool.true_and,Bool.false_eq_true,if_false,decide_eq_true_eq,Nat.reduceSub,Int.reducePow,ge_iff_le]; first | omega | (split <;> omega)
theorem wrap_u64 {n:Int} (h:0≤n∧n < 18446744073709551616):IntKind.u64.wrap n=n:=by
 simp only [IntKind.wrap,IntKind.bits,IntKind.signed,Bool.false_and,Bool.true_and,Bool.false_eq_true,if_false,decide_eq_true_eq,Nat.reduceSub,Int.reducePow,ge_iff_le]; first | omega | (split <;> omega)
theorem wrap_i64 {n:Int} (h:-9223372036854775808≤n∧n < 9223372036854775808):IntKind.i64.wrap n=n:=by
 simp only [IntKind.wrap,IntKind.bits,IntKind.signed,Bool.false_and,Bool.true_and,Bool.false_eq_true,if_false,decide_eq_true_eq,Nat.reduceSub,Int.reducePow,ge_iff_le]; first | omega | (split <;> omega)
theorem aS {n:Nat} (h:n < 9223372036854775807):IntKind.i64.wrap ((n:Int)+1)=((n+1:Nat):Int):=by
 rw [wrap_i64 (by omega)]; rfl
attribute [go_sem ↓] M0 MZ NK Qa NJ
attribute [go_sem] G1 oA

def asS:AV→Option (List UInt8)
 | .str s=>some s
 | _=>none
theorem Ty {s:List UInt8}:asS (.str s)=some s:=rfl
theorem Nn {kk:AV × Hp × Ef→Prop} {t:TypeId} {x:Operand} (ht:isStr (tsh P t)=true):opK P σ H (.range t x) kk=aq (aG P σ x) fun v=>aq (asS v) fun s=>kk (.ptr H.length 0,H++[.iter s 0],z0):=by
 have he:tsh P t=some .str:=by
  unfold isStr at ht
  split at ht
  ·assumption
  ·cases ht
 show aF _ _=_
 simp only [bu,he]
 rw [aT]; refine aR fun c=>?_
 cases c <;> rfl
def itC:bp→Option (List UInt8 × Nat)
 | .iter s p=>some (s,p)
 | _=>none
theorem Sy {s:List UInt8} {p:Nat}:itC (.iter s p)=some (s,p):=rfl
def Lq:AV→Option Nat
 | .ptr b 0=>some b
 | _=>none
theorem Lo {b:Nat}:Lq (.ptr b 0)=some b:=rfl
theorem PW {kk:AV × Hp × Ef→Prop} {it:Operand}:opK P σ H (.next it true) kk=aq (aG P σ it) fun v=>aq (Lq v) fun b=>aq (H[b]?) fun x=>aq (itC x) fun q=>kk ((aJ q.1 q.2).1,H.set b (.iter q.1 (aJ q.1 q.2).2),⟨none,some b⟩):=by
 show aF _ _=_
 simp only [bu]
 rw [aT]; refine aR fun c=>?_
 cases c <;> try rfl
 rename_i b o
 cases o with
 | succ o=>rfl
 | zero =>
  show aF _ _=aq (some b) _
  rw [aD]
  cases hx:H[b]? with
  | none=>simp only [hx]; rfl
  | some x=>simp only [hx]; cases x <;> rfl
def itN (s:List UInt8) (p:Nat):AV × Nat :=
 match s[p]? with
 | some c=>(.tuple [.bool true,.int .i64 (p:Nat),.int .i32 c.toNat],p+1)
 | none=>(.tuple [.bool false],p)
theorem aE {s:List UInt8} {p:Nat} (h:s.all (fun c=>decide (c.toNat < 128))=true):aJ s p=itN s p:=by
 unfold aJ itN
 by_cases hp:p < s.length
 ·rw [if_pos hp,List.getElem?_eq_getElem hp]
  have hc:s[p].toNat < 128:=by
   have:=List.all_eq_true.1 h s[p] (List.getElem_mem hp)
   simpa using this
  have hs:(⟨s.toArray⟩:ByteArray).size=s.length:=by simp [ByteArray.size]
  have hg:((⟨s.toArray⟩:ByteArray)[p]'(by rw [hs]; exact hp))=s[p]:=by
   show (s.toArray)[p]=s[p]
   simp
  have:=decode_ascii ⟨s.toArray⟩ p (by rw [hs]; exact hp) (by rw [hg]; exact hc)
  rw [hg] at this
  simp only [this]
 ·rw [if_neg hp,List.getElem?_eq_none (by omega)]
theorem lI {s:List UInt8} {p:Nat} {c:UInt8} (h:s[p]?=some c):itN s p=(.tuple [.bool true,.int .i64 (p:Nat),.int .i32 c.toNat],p+1):=by unfold itN; rw [h]
theorem Sx {s:List UInt8} {p:Nat} (h:s[p]?=none):itN s p=(.tuple [.bool false],p):=by unfold itN; rw [h]
attribute [go_sem ↓] Nn PW
attribute [go_sem] Ty Sy Lo

theorem OC {g:FuncId} {a b:List AV}:tI (.func (.func g) a b)=some (g,a,b):=rfl
theorem OG {τ:List AV} {ps:List Tmp} {az bd:Code}:tJ (some (.loop τ ps az bd .ready))=some .normal:=rfl
theorem OH {τ:List AV} {ps:List Tmp} {az bd:Code} {i:Nat}:tJ (some (.loop τ ps az bd (.done (.exit i))))=some (.exit i):=rfl
theorem Ls {τ:List AV} {ps:List Tmp} {az bd:Code}:tJ (some (.loop τ ps az bd (.done .ret)))=some .ret:=rfl
theorem Hs {τ:List AV} {ps:List Tmp} {az bd:Code}:rC (some (.loop τ ps az bd .ready))=some ⟨τ,ps,az,bd⟩:=rfl
theorem Lt {τ:List AV} {ps:List Tmp} {az bd:Code}:lX (some (.loop τ ps az bd .busy))=some ⟨τ,ps,az,bd⟩:=rfl
def v8 (P:Program) (Q:Ex→St→Prop) (k:List It) (x:Option (FuncId × List AV × List AV)) (ps:List Tmp) (az bd:Code) (σ:List AV) (H:Hp) (e:Ef) (_:Ph (Q,k,az,bd):=⟨⟩):Prop :=
 match x with
 | some x=>aj P x.1=true∧ag P x.1 (x.2.1++[.yld H.length]++x.2.2) (H++[.loop σ ps az bd .ready]) (F0 P Q k σ H.length e)
 | none=>False
theorem GM {f:Operand} {ps:Array Tmp} {az bd:Code}:go P Q (.code (.rangeFunc f ps az bd)::k) ⟨σ,H,e⟩=aq (aG P σ f) fun v=>v8 P Q k (tI v) ps.toList az bd σ H e:=by
 cases hf:aG P σ f with
 | none =>
  refine propext ⟨?_,fun h=>h.elim⟩
  rintro ⟨n,ex,s',hc,_⟩
  simp only [aK,gU,hf,Option.bind_none] at hc
  cases hc
 | some v =>
  show _=v8 P Q k (tI v) ps.toList az bd σ H e
  cases hv:tI v with
  | none =>
   refine propext ⟨?_,fun h=>h.elim⟩
   rintro ⟨n,ex,s',hc,_⟩
   simp only [aK,gU,hf,hv,Option.bind_some,Option.bind_none] at hc
   cases hc
  | some x =>
   show _=(aj P x.1=true∧_)
   by_cases hb:aj P x.1=true
   ·rw [JY hf hv hb]
    simp [hb]
   ·refine propext ⟨?_,fun h=>absurd h.1 hb⟩
    rintro ⟨n,ex,s',hc,_⟩
    simp only [aK,gU,hf,hv,Option.bind_some,if_neg hb] at hc
    cases hc
theorem Ja {g:FuncId} {a b:List AV} {ps:List Tmp} {az bd:Code} (hb:aj P g=true):v8 P Q k (some (g,a,b)) ps az bd σ H e=ag P g (a++[.yld H.length]++b) (H++[.loop σ ps az bd .ready]) (F0 P Q k σ H.length e):=by
 show (_∧_)=_
 simp [hb]
def KA (P:Program) (Q:Ex→St→Prop) (k:List It) (x:Option Ex) (s:St) (_:Ph (Q,k):=⟨⟩):Prop :=
 match x with
 | some ex=>gD P Q k ex s
 | none=>False
theorem MC {τ:List AV} {n:Nat} {v:AV} {H':Hp} {e':Ef}:F0 P Q k τ n e (v,H',e')=KA P Q k (tJ (H'[n]?)) ⟨τ,H'.set n .dead,e.and (e'.and ⟨none,some n⟩)⟩:=rfl
theorem QG:KA P Q k (some .normal) ⟨σ,H,e⟩=go P Q k ⟨σ,H,e⟩:=rfl
theorem QH {i:Nat}:KA P Q k (some (.exit i)) ⟨σ,H,e⟩=aH P Q i k ⟨σ,H,e⟩:=rfl
theorem QF:KA P Q k (some .ret) ⟨σ,H,e⟩=Q .ret ⟨σ,H,e⟩:=gW k _
theorem R5 {b n:Nat} {bd:Code} {kk:AV × Hp × Ef→Prop}:rdQ P b n bd kk .normal ⟨σ,H,e⟩=aq (rC (H[b]?)) fun L=>go P (reQ b n kk) [.code bd] ⟨σ,H.set b (.loop L.σ L.ps L.az L.bd .busy),e.and ⟨none,some b⟩⟩:=by
 unfold rdQ
 simp only [true_and]
 cases rC (H[b]?) <;> rfl
theorem R3 {b n:Nat} {kk:AV × Hp × Ef→Prop}:reQ b n kk .normal ⟨σ,H,e⟩=aq (lX (H[b]?)) fun L=>kk (leave n (.bool true) (H.set b (.loop L.σ L.ps L.az L.bd .ready)) (e.and ⟨none,some b⟩)):=by
 unfold reQ
 simp only
 cases lX (H[b]?) <;> rfl
theorem R4 {b n i:Nat} {kk:AV × Hp × Ef→Prop}:reQ b n kk (.exit i) ⟨σ,H,e⟩=aq (lX (H[b]?)) fun L=>kk (leave n (.bool false) (H.set b (.loop L.σ L.ps L.az L.bd (.done (.exit i)))) (e.and ⟨none,some b⟩)):=by
 unfold reQ
 simp only
 cases lX (H[b]?) <;> rfl
theorem R1 {b n:Nat} {kk:AV × Hp × Ef→Prop}:reQ b n kk .ret ⟨σ,H,e⟩=aq (lX (H[b]?)) fun L=>kk (leave n (.bool false) (H.set b (.loop L.σ L.ps L.az L.bd (.done .ret))) (e.and ⟨none,some b⟩)):=by
 unfold reQ
 simp only
 cases lX (H[b]?) <;> rfl
theorem y8 {p:Tmp} {ps:List Tmp} {v:AV} {vs:List AV}:nu σ (p::ps) (v::vs)=nu (σ.set p v) ps vs:=rfl
attribute [go_sem ↓] GM Ja MC QG QH QF R5 R3 R4 R1
attribute [go_sem] OC OG OH Ls Hs Lt y8

def kr (P:Program) (Q:Ex→St→Prop) (k:List It) (I:Nat→St→Prop) (n:Nat):Ex→St→Prop
 | .normal,s=>∃ m,m < n∧I m s
 | .exit i,s=>aH P Q i k s
 | ex,s=>gD P Q k ex s
instance {I:Nat→St→Prop} {n:Nat} [hc:Calm Q]:Calm (kr P Q k I n):=⟨fun s h=>hc.no s ((fL (P:=P) (Q:=Q) k s) ▸ h)⟩
theorem IZ {I:Nat→St→Prop} {n:Nat}:kr P Q k I n .normal ⟨σ,H,e⟩=∃ m,m < n∧I m ⟨σ,H,e⟩:=rfl
theorem I0 {I:Nat→St→Prop} {n i:Nat}:kr P Q k I n (.exit i) ⟨σ,H,e⟩=aH P Q i k ⟨σ,H,e⟩:=rfl
theorem IX {I:Nat→St→Prop} {n:Nat}:kr P Q k I n .ret ⟨σ,H,e⟩=Q .ret ⟨σ,H,e⟩:=gW k _
attribute [go_sem ↓] IZ I0 IX
theorem go_rounds {c:Code} (I:Nat→St→Prop) (n:Nat) {s:St} (h0:I n s) (round:∀ n s,I n s→go P (kr P Q k I n) [.code c] s):go P Q (.code (.loop c)::k) s:=by
 refine JW I n h0 (fun n s hs=>?_)
 have:=round n s hs
 refine lO (Q:=kr P Q k I n) this (fun ex s hq=>?_)
 cases ex <;> exact hq
end
section
variable {P:Program} {Q:Ex→St→Prop} {k:List It} {σ:List AV} {H:Hp} {e:Ef} {ops:List Oper} {l:List Oper} {kk:AV × Hp × Ef→Prop}

theorem TB {g:Nat} (h:decide (g < P.globals.size)=true):aG P σ (.global g)=some (.ptr g 0):=by
 simp only [aG]; rw [if_pos (by simpa using h)]
attribute [go_sem] TB

theorem JF {ts:Array TypeId} {x:Operand}:opK P σ H (.call ⟨.builtin .unsafeSliceData,⟨[x]⟩,ts⟩) kk=aq (aG P σ x) fun v=>aq (fA P v H) fun v=>kk (v,H,z0):=by
 show aF _ _=_
 simp only [bu,dz,bO]
 cases aG P σ x with
 | none=>rfl
 | some v=>exact cC
theorem JE {pt it:TypeId} {x y:Operand}:opK P σ H (.call ⟨.builtin .unsafeString,⟨[x,y]⟩,⟨[pt,it]⟩⟩) kk=aq (aG P σ x) fun v=>aq (aG P σ y) fun w=>aF (gA P pt v w H) kk:=by
 show aF _ _=_
 simp only [bu,dz,bO]
 cases aG P σ x with
 | none=>rfl
 | some v =>
  cases aG P σ y with
  | none=>rfl
  | some w=>rfl
theorem Sr {t:TypeId} {ts:List TypeId} {x:Operand}:opK P σ H (.call ⟨.builtin .cap,⟨[x]⟩,⟨t::ts⟩⟩) kk=aq (aG P σ x) fun v=>aq (qT P t v) fun v=>kk (v,H,z0):=by
 show aF _ _=_
 simp only [bu,dz,bO]
 cases aG P σ x with
 | none=>rfl
 | some v=>exact cC
theorem Sm {ts:Array TypeId} {x y:Operand}:opK P σ H (.call ⟨.builtin .min,⟨[x,y]⟩,ts⟩) kk=aq (aG P σ x) fun v=>aq (aG P σ y) fun w=>aq (qd v w) fun v=>kk (v,H,z0):=by
 show aF _ _=_
 simp only [bu,dz,bO]
 cases aG P σ x with
 | none=>rfl
 | some v =>
  cases aG P σ y with
  | none=>rfl
  | some w=>exact cC
theorem Sn {ts:Array TypeId} {x y:Operand}:opK P σ H (.call ⟨.builtin .max,⟨[x,y]⟩,ts⟩) kk=aq (aG P σ x) fun v=>aq (aG P σ y) fun w=>aq (wT v w) fun v=>kk (v,H,z0):=by
 show aF _ _=_
 simp only [bu,dz,bO]
 cases aG P σ x with
 | none=>rfl
 | some v =>
  cases aG P σ y with
  | none=>rfl
  | some w=>exact cC
attribute [go_sem ↓] JF JE Sr Sm Sn

theorem SE {kd:IntKind} {a b:Int} (h:(b == 0)=false):eG .quo kd a b=some (.int kd (kd.wrap (a.tdiv b))):=by
 have:¬ b=0:=by simpa using h
 simp [eG,this]
theorem SD {kd:IntKind} {a b:Int} (h:(b == 0)=false):eG .rem kd a b=some (.int kd (a.tmod b)):=by
 have:¬ b=0:=by simpa using h
 simp [eG,this]
theorem RG {kd:IntKind} {n:Int}:GS .neg (.int kd n)=some (.int kd (kd.wrap (0 - n))):=rfl
attribute [go_sem] SE SD RG

theorem Ld {t:TypeId} {s:List UInt8} {kd:IntKind} {i:Int} {f:AV→Prop} (ht:(match tsh P t with | some .str=>true | _=>false)=true):aq (mG P t (.str s) (.int kd i)) f=(0≤i∧aq (s[i.toNat]?) fun b=>f (.int .u8 b.toNat)):=by
 split at ht
 ·rename_i he
  simp only [mG,he]
  rw [eB,dN]
 ·cases ht
attribute [go_sem ↓] Ld

theorem TY {T l:Hp} {j:Nat} {v:bp} (h:decide (j < T.length)=true):(T++l).set j v=T.set j v++l:=by
 rw [List.set_append_left _ _ (by simpa using h)]
attribute [go_sem] TY

def u8s (s:List UInt8):List AV:=s.map fun b=>.int .u8 b.toNat
theorem bz {s:List UInt8}:(u8s s).length=s.length:=by simp [u8s]
theorem j8 {s t:List UInt8}:u8s (s++t)=u8s s++u8s t:=by simp [u8s]
theorem ja:∀ {s:List UInt8},(u8s s).all cK=true
 | []=>rfl
 | b::s=>by show (cK _ && (u8s s).all cK)=true; rw [ja]; rfl
theorem rG:∀ {s:List UInt8},bK (u8s s)=true
 | []=>by simp only [u8s,List.map_nil,bK]
 | b::s=>by
  show bK (_::u8s s)=true
  simp only [bK,flat,rG,Bool.and_self]
theorem qs:∀ (s:List UInt8),iQ (u8s s)=some s
 | []=>rfl
 | b::s=>by
  show iQ (.int .u8 b.toNat::u8s s)=_
  unfold iQ
  have:=b.toNat_lt
  rw [if_pos ⟨by omega,by omega⟩,qs s]
  simp
theorem lS:∀ (s:List UInt8),aZ.bytesOf (u8s s)=some s
 | []=>rfl
 | b::s=>by
  show aZ.bytesOf (.int .u8 b.toNat::u8s s)=_
  unfold aZ.bytesOf
  rw [lS s]
  simp
theorem KE {s:List UInt8} {n:Nat}:(u8s s).drop n=u8s (s.drop n):=by simp [u8s,List.map_drop]
attribute [go_sem] bz ja rG

def fq:List Oper→Nat→List (Nat × Oper)
 | [],_=>[]
 | o::l,i=>if bA o=true then (i,o)::fq l (i+1) else fq l (i+1)
def others:List Oper→Nat→List (Nat × Oper)
 | [],_=>[]
 | o::l,i=>if bA o=true then others l (i+1) else (i,o)::others l (i+1)
theorem AH:∀ (l:List Oper) (i:Nat),((l.zipIdx i).map fun (o,i)=>(i,o)).filter (fun p=>bA p.2)=fq l i
 | [],i=>rfl
 | o::l,i=>by
  simp only [List.zipIdx_cons,List.map_cons,List.filter_cons,fq,AH l (i+1)]
theorem uJ:∀ (l:List Oper) (i:Nat),((l.zipIdx i).map fun (o,i)=>(i,o)).filter (fun p=>!bA p.2)=others l i
 | [],i=>rfl
 | o::l,i=>by
  simp only [List.zipIdx_cons,List.map_cons,List.filter_cons,others,uJ l (i+1)]
  cases bA o <;> rfl
theorem MT {l:List Oper}:order l=fq l 0++others l 0:=by
 unfold order num
 rw [AH,uJ]
def goF (P:Program) (ops:List Oper) (K:St→List Nat→Prop) (i:Nat) (l:List Oper) (s:St) (_:Ph (ops,K,l):=⟨⟩):Prop:=goD P ops K (fq l i++others ops 0) s
def goN (P:Program) (ops:List Oper) (K:St→List Nat→Prop) (i:Nat) (l:List Oper) (s:St) (_:Ph (ops,K,l):=⟨⟩):Prop:=goD P ops K (others l i) s
def qI (P:Program) (ops:List Oper) (K:St→List Nat→Prop) (l:List Oper) (σ:List AV) (H:Hp) (e:Ef) (i:Nat) (dst:Option Tmp):AV × Hp × Ef→Prop :=
 fun r=>goN P ops (fun s es=>K s (if quiet r H=true then es else tg i r.2.2::es)) (i+1) l ⟨put σ dst r.1,r.2.1,e.and r.2.2⟩
theorem OX {K K':St→List Nat→Prop} {i:Nat} {s:St} (h:K=K'):goN P ops K i l s=goN P ops K' i l s:=by subst h; rfl
theorem M3 {K:St→List Nat→Prop} {dst:Option Tmp} {i:Nat} {v:AV} {σ:List AV}:qI P ops K l σ H e i dst (v,H,z0)=goN P ops K (i+1) l ⟨put σ dst v,H,e⟩:=by
 show goN P ops (fun s es=>K s (if quiet (v,H,z0) H=true then es else tg i z0::es)) (i+1) l ⟨put σ dst v,H,e.and z0⟩=_
 rw [Ef.fC]
 refine OX ?_
 funext s es
 rw [EI]; rfl
theorem M1 {K:St→List Nat→Prop} {dst:Option Tmp} {i:Nat} {v:AV} {H':Hp} {e':Ef} (h:quiet (v,H',e') H=false):qI P ops K l σ H e i dst (v,H',e')=goN P ops (fun s es=>K s (tg i e'::es)) (i+1) l ⟨put σ dst v,H',e.and e'⟩:=by
 refine OX ?_
 funext s es
 rw [h]; rfl
theorem MJ {v:AV} {H':Hp} {x:Option Nat} {b:Nat}:quiet (v,H',⟨x,some b⟩) H=false:=by simp [quiet]
theorem NO {K:St→List Nat→Prop} {i:Nat}:goN P ops K i [] ⟨σ,H,e⟩=K ⟨σ,H,e⟩ []:=wK
theorem NQ {K:St→List Nat→Prop} {i:Nat}:goF P ops K i [] ⟨σ,H,e⟩=goN P ops K 0 ops ⟨σ,H,e⟩:=rfl
theorem DE {dst:Option Tmp} {t ty:TypeId} {pos:String}:bA ⟨dst,.alloc t,ty,pos,⟨[]⟩,none⟩=true:=rfl
theorem J4 {K:St→List Nat→Prop} {i:Nat} {dst:Option Tmp} {t ty:TypeId} {pos:String} :
  goF P ops K i (⟨dst,.alloc t,ty,pos,⟨[]⟩,none⟩::l) ⟨σ,H,e⟩=aq (cB P t) fun z=>goF P ops K (i+1) l ⟨put σ dst (.ptr H.length 0),H++[.cells z t .rw],e⟩:=by
 show goD P ops K (fq (_::l) i++others ops 0) _=_
 have:fq (⟨dst,.alloc t,ty,pos,⟨[]⟩,none⟩::l) i=(i,⟨dst,.alloc t,ty,pos,⟨[]⟩,none⟩)::fq l (i+1):=by simp only [fq,DE,if_true]
 rw [this,List.cons_append,wJ,E1]
 refine aR fun z=>?_
 show goD P ops (fun s es=>K s (if bA ⟨dst,.alloc t,ty,pos,⟨[]⟩,none⟩ || quiet _ H then es else tg i _::es)) _ _=_
 rw [DE,Ef.fC]
 rfl
theorem J3 {K:St→List Nat→Prop} {i:Nat} {o:Oper} (h:bA o=false):goF P ops K i (o::l) ⟨σ,H,e⟩=goF P ops K (i+1) l ⟨σ,H,e⟩:=by
 show goD P ops K (fq (o::l) i++others ops 0) _=_
 have:fq (o::l) i=fq l (i+1):=by simp only [fq,h,Bool.false_eq_true,if_false]
 rw [this]; rfl
theorem J9 {o:Oper} (h:oA o.op=true):bA o=false:=by
 obtain ⟨d,op,ty,pos,af,g⟩:=o
 cases op <;> first | rfl | cases h
theorem NP {K:St→List Nat→Prop} {i:Nat} {dst:Option Tmp} {op:Op} {ty:TypeId} {pos:String} {af:Array Edge} {g:Option (Nat × Bool)} (h:oA op=true):goF P ops K i (⟨dst,op,ty,pos,af,g⟩::l) ⟨σ,H,e⟩=goF P ops K (i+1) l ⟨σ,H,e⟩ :=
 J3 (J9 h)
theorem J2 {K:St→List Nat→Prop} {i:Nat} {dst:Option Tmp} {t ty:TypeId} {pos:String} :
  goN P ops K i (⟨dst,.alloc t,ty,pos,⟨[]⟩,none⟩::l) ⟨σ,H,e⟩=goN P ops K (i+1) l ⟨σ,H,e⟩:=by
 show goD P ops K (others (_::l) i) _=_
 have:others (⟨dst,.alloc t,ty,pos,⟨[]⟩,none⟩::l) i=others l (i+1):=by simp only [others,DE,if_true]
 rw [this]; rfl
theorem Qc {K:St→List Nat→Prop} {i:Nat} {dst:Option Tmp} {op:Op} {ty:TypeId} {pos:String} {af:Array Edge} (hf:oA op=true) :
  goN P ops K i (⟨dst,op,ty,pos,af,none⟩::l) ⟨σ,H,e⟩=opK P σ H op (qI P ops K l σ H e i dst):=by
 have hfr:bA ⟨dst,op,ty,pos,af,none⟩=false:=J9 hf
 show goD P ops K (others (_::l) i) _=_
 have:others (⟨dst,op,ty,pos,af,none⟩::l) i=(i,⟨dst,op,ty,pos,af,none⟩)::others l (i+1):=by simp only [others,hfr,Bool.false_eq_true,if_false]
 rw [this,wJ]
 refine OS ?_
 funext r
 unfold qJ qI goN
 rw [hfr]
 rfl
theorem NN {K:St→List Nat→Prop} {i:Nat} {dst:Option Tmp} {op:Op} {ty:TypeId} {pos:String} {af:Array Edge} {j:Nat} {w:Bool} :
  goN P ops K i (⟨dst,op,ty,pos,af,some (j,w)⟩::l) ⟨σ,H,e⟩=cz (jW σ (nE ops j)) w (opK P σ H op (qI P ops K l σ H e i dst)) (goN P ops K (i+1) l ⟨put σ dst bw,H,e⟩):=by
 have hfr:bA ⟨dst,op,ty,pos,af,some (j,w)⟩=false:=by cases op <;> simp [bA]
 have e0:others (⟨dst,op,ty,pos,af,some (j,w)⟩::l) i=(i,⟨dst,op,ty,pos,af,some (j,w)⟩)::others l (i+1):=by simp only [others,hfr,Bool.false_eq_true,if_false]
 show goD P ops K (others (_::l) i) _=cz _ _ _ (goD P ops K (others l (i+1)) _)
 rw [e0]
 cases hw:cj ops σ ⟨dst,op,ty,pos,af,some (j,w)⟩ with
 | true =>
  rw [sX hw]
  have e1:qJ P ops K (others l (i+1)) σ H e i ⟨dst,op,ty,pos,af,some (j,w)⟩=qI P ops K l σ H e i dst:=by
   funext r; unfold qJ qI goN; rw [hfr]; rfl
  rw [e1]
  unfold cj at hw
  simp only at hw
  unfold jW nE
  split at hw
  ·rename_i d hd
   rw [hd]
   split at hw
   ·rename_i b hb
    unfold fr; simp only [hb,Option.getD_some]; unfold cz; simp only; rw [if_pos hw]
   ·cases hw
  ·cases hw
 | false =>
  rw [AF hw]
  unfold cj at hw
  simp only at hw
  unfold jW nE
  split at hw
  ·rename_i d hd
   rw [hd]
   split at hw
   ·rename_i b hb
    unfold fr; simp only [hb,Option.getD_some]; unfold cz; simp only; rw [if_neg (by rw [hw]; exact Bool.false_ne_true)]
   ·rename_i hne
    simp only
    unfold fr cz
    split
    ·rename_i b hb
     cases hd2:σ[d]? with
     | none=>rw [hd2] at hb; cases hb
     | some v=>rw [hd2] at hb; simp only [Option.getD_some] at hb; rw [hb] at hd2; exact absurd hd2 (hne b)
    ·rfl
  ·rename_i hd
   rw [hd]; unfold cz; rfl
theorem AD {id:Nat} {ops:Array Oper} (hm:P.follows .mixedOrders=true) (hs:nk ops.toList=true)
  (h:goF P ops.toList (fun s es=>bN P ops.toList es=true∧go P Q k s) 0 ops.toList ⟨σ,H,e⟩):go P Q (.code (.region id ops true)::k) ⟨σ,H,e⟩:=by
 rw [wI hm hs,MT]
 exact sY (fun s es h=>⟨.inl h.1,h.2⟩) h
attribute [go_sem ↓] M3 M1 NQ J4 NP NO J2 Qc NN
attribute [go_sem] MJ
end
attribute [irreducible] cz tw aq kr tj goZ qH goF goN qI v8 KA slK
section
variable (P:Program)
def Fl (f:FuncId) (args:List AV) (H:Hp) (kp:AV × Hp × Ef→Prop) (_:Ph kp:=⟨⟩):Prop:=∃ n r,eP P n f args H=some r∧kp r
def gF (f:FuncId) (args:List AV) (H:Hp) (k kp:AV × Hp × Ef→Prop) (_:Ph (k,kp):=⟨⟩):Prop:=ag P f args H k∨Fl P f args H kp
def kK (g:FuncId) (az:List AV) (H:Hp) (k kp:AV × Hp × Ef→Prop) (_:Ph (k,kp):=⟨⟩):Prop:=if aj P g=true then gF P g az H k kp else aF (evX P g az H) k
def qn (t:Option Tg) (H:Hp) (k kp:AV × Hp × Ef→Prop) (_:Ph (k,kp):=⟨⟩):Prop :=
 match t with
 | some (.fn g az)=>kK P g az H k kp
 | some (.yl b az)=>ag P (P.funcs.size+b) az H k
 | none=>False
def opC (σ:List AV) (H:Hp) (op:Op) (k kp:AV × Hp × Ef→Prop) (_:Ph (op,k,kp):=⟨⟩):Prop:=opK P σ H op k∨∃ n r,dU P (eP P n) σ H op=some r∧kp r
def EO (ops:List Oper) (K KP:St→Prop) (l:List Oper) (σ:List AV) (e:Ef) (dst:Option Tmp):AV × Hp × Ef→Prop:=fun r=>iD P ops K KP l ⟨put σ dst r.1,r.2.1,e.and r.2.2⟩
def MQ (KP:St→Prop) (σ:List AV) (e:Ef):AV × Hp × Ef→Prop:=fun r=>KP ⟨r.1::σ,r.2.1,e.and r.2.2⟩
end

section
variable {P:Program} {Q:Ex→St→Prop} {k:List It} {σ:List AV} {H:Hp} {e:Ef} {ops:List Oper} {K KP:St→Prop} {l:List Oper} {kk kp:AV × Hp × Ef→Prop}

theorem Bd {α:Type} {f:α→Prop}:aq none f=False:=by unfold aq; rfl
theorem xl {f:FuncId} {args:List AV} {n:Nat} {r:AV × Hp × Ef} (h:eP P n f args H=some r):Fl P f args H kp↔kp r:=by
 constructor
 ·rintro ⟨m,q,hq,hk⟩
  have h1:=eA (P:=P) (Nat.le_max_left n m) _ _ _ _ h
  have h2:=eA (P:=P) (Nat.le_max_right n m) _ _ _ _ hq
  rw [h1] at h2
  cases h2
  exact hk
 ·intro hk; exact ⟨n,r,h,hk⟩
theorem vj {f:FuncId} {args:List AV} (h:Fl P f args H kp):¬ ag P f args H kk:=by
 rintro ⟨m,q,hq,_⟩
 obtain ⟨n,r,hr,_⟩:=h
 exact Ks hr hq
theorem Ow {f:FuncId} {args:List AV} (h:ag P f args H (fun _=>True)):gF P f args H kk kp=ag P f args H kk:=by
 refine propext ⟨?_,.inl⟩
 rintro (h1 | h1)
 ·exact h1
 ·exact absurd h (vj h1)
theorem Hf {f:FuncId} {args:List AV} {r:AV × Hp × Ef} (h:gF P f args H (fun _=>False) (fun q=>q=r)) (kk kp:AV × Hp × Ef→Prop):gF P f args H kk kp=kp r:=by
 rcases h with ⟨_,_,_,h⟩ | ⟨n,q,hq,rfl⟩
 ·exact h.elim
 ·refine propext ⟨?_,fun h=>.inr ⟨n,q,hq,h⟩⟩
  rintro (h1 | h1)
  ·exact absurd h1 (vj ⟨n,q,hq,trivial⟩ (kp:=fun _=>True))
  ·exact (xl hq).1 h1
theorem hJ {f:FuncId} {args:List AV} {kk' kp':AV × Hp × Ef→Prop} (h:gF P f args H kk kp) (h1:∀ r,kk r→kk' r) (h2:∀ r,kp r→kp' r):gF P f args H kk' kp':=by
 rcases h with h | ⟨n,r,hr,hk⟩
 ·exact .inl (bG h h1)
 ·exact .inr ⟨n,r,hr,h2 r hk⟩

theorem NM:iD P ops K KP [] ⟨σ,H,e⟩=K ⟨σ,H,e⟩:=by
 refine propext ⟨?_,fun h=>.inl (by rw [p9]; exact h)⟩
 rintro (h | ⟨n,s',h,_⟩)
 ·rw [p9] at h; exact h
 ·simp [eO] at h

theorem AE {o:Oper} (hw:cj ops σ o=true):iD P ops K KP (o::l) ⟨σ,H,e⟩=opC P σ H o.op (EO P ops K KP l σ e o.dst) (MQ KP σ e):=by
 apply propext
 unfold opC
 rw [mq]
 constructor
 ·rintro (h | ⟨n,s',h,hk⟩)
  ·rw [kD hw,mq] at h
   obtain ⟨n,r,hr,h⟩:=h
   exact .inl ⟨n,r,hr,.inl h⟩
  ·simp only [eO,hw,if_true] at h
   split at h
   ·rename_i r hr
    simp only [Option.some.injEq] at h
    subst h
    exact .inr ⟨n,r,hr,hk⟩
   ·simp only [Option.bind_eq_some_iff] at h
    obtain ⟨r,hr,h⟩:=h
    exact .inl ⟨n,r,hr,.inr ⟨n,s',h,hk⟩⟩
 ·rintro (⟨n,r,hr,h⟩ | ⟨n,r,hr,hk⟩)
  ·rcases h with ⟨m,s',h,hk⟩ | ⟨m,s',h,hk⟩
   ·left
    rw [kD hw,mq]
    exact ⟨n,r,hr,m,s',h,hk⟩
   ·right
    refine ⟨max n m,s',?_,hk⟩
    have h1:=iW (dw (P:=P) (Nat.le_max_left n m)) hr
    have h2:dU P (eP P (max n m)) σ H o.op=none:=by
     cases hp:dU P (eP P (max n m)) σ H o.op with
     | none=>rfl
     | some q=>rw [kF (dF _) hp] at h1; cases h1
    simp only [eO,hw,if_true,h2,h1,Option.bind_some]
    exact jy (dw (Nat.le_max_right n m)) (eA (Nat.le_max_right n m)) (dF _) h
  ·right
   refine ⟨n,_,?_,hk⟩
   simp only [eO,hw,if_true,hr]

theorem J1 {o:Oper} (hw:cj ops σ o=false):iD P ops K KP (o::l) ⟨σ,H,e⟩=iD P ops K KP l ⟨put σ o.dst bw,H,e⟩:=by
 unfold iD
 rw [sW hw]
 simp only [eO,hw,Bool.false_eq_true,if_false]

theorem Qb {dst:Option Tmp} {op:Op} {ty:TypeId} {pos:String} {af:Array Edge}:iD P ops K KP (⟨dst,op,ty,pos,af,none⟩::l) ⟨σ,H,e⟩=opC P σ H op (EO P ops K KP l σ e dst) (MQ KP σ e):=AE rfl
theorem NL {dst:Option Tmp} {op:Op} {ty:TypeId} {pos:String} {af:Array Edge} {j:Nat} {w:Bool} :
  iD P ops K KP (⟨dst,op,ty,pos,af,some (j,w)⟩::l) ⟨σ,H,e⟩=cz (jW σ (nE ops j)) w (opC P σ H op (EO P ops K KP l σ e dst) (MQ KP σ e)) (iD P ops K KP l ⟨put σ dst bw,H,e⟩):=by
 cases hw:cj ops σ ⟨dst,op,ty,pos,af,some (j,w)⟩ with
 | true =>
  rw [AE hw]
  unfold cj at hw
  simp only at hw
  unfold jW nE
  split at hw
  ·rename_i d hd
   rw [hd]
   split at hw
   ·rename_i b hb
    unfold fr; simp only [hb,Option.getD_some]; unfold cz; simp only; rw [if_pos hw]
   ·cases hw
  ·cases hw
 | false =>
  rw [J1 hw]
  unfold cj at hw
  simp only at hw
  unfold jW nE
  split at hw
  ·rename_i d hd
   rw [hd]
   split at hw
   ·rename_i b hb
    unfold fr; simp only [hb,Option.getD_some]; unfold cz; simp only; rw [if_neg (by rw [hw]; exact Bool.false_ne_true)]
   ·rename_i hne
    simp only
    unfold fr cz
    split
    ·rename_i b hb
     cases hd2:σ[d]? with
     | none=>rw [hd2] at hb; cases hb
     | some v=>rw [hd2] at hb; simp only [Option.getD_some] at hb; rw [hb] at hd2; exact absurd hd2 (hne b)
    ·rfl
  ·rename_i hd
   rw [hd]; unfold cz; rfl

@[reducible] def KT:Op→Bool
 | .panic _=>false
 | .call c=>(match c.callee with | .value _=>false | _=>true)
 | _=>true
theorem Jh {op:Op} (h:KT op=true):opC P σ H op kk kp=opK P σ H op kk:=by
 refine propext ⟨?_,.inl⟩
 rintro (h1 | ⟨n,r,hr,_⟩)
 ·exact h1
 ·unfold dU at hr
  split at hr
  ·cases h
  ·split at hr
   ·rename_i hc; simp only [KT,hc] at h; cases h
   ·cases hr
  ·cases hr
def Rm:AV→Option AV
 | .iface t u=>some (.iface t u)
 | _=>none
theorem Lr {t:TypeId} {u:AV}:Rm (.iface t u)=some (.iface t u):=rfl
theorem Gm {x:Operand}:opC P σ H (.panic x) kk kp=aq (aG P σ x) fun v=>aq (Rm v) fun v=>kp (v,H,z0):=by
 apply propext
 have hno:¬ opK P σ H (.panic x) kk:=by
  rw [mq]
  rintro ⟨n,r,hr,_⟩
  simp [bu] at hr
 constructor
 ·rintro (h | ⟨n,r,hr,hk⟩)
  ·exact absurd h hno
  ·simp only [dU,Option.bind_eq_some_iff] at hr
   obtain ⟨v,hv,hr⟩:=hr
   rw [hv]
   split at hr
   ·cases hr
    rw [aD,Lr,aD]
    exact hk
   ·cases hr
 ·intro h
  right
  refine ⟨0,?_⟩
  unfold aq at h
  split at h
  ·rename_i v hv
   split at h
   ·rename_i u hu
    have:∃ t y,v=.iface t y∧u=.iface t y:=by
     unfold Rm at hu
     split at hu
     ·cases hu; exact ⟨_,_,rfl,rfl⟩
     ·cases hu
    obtain ⟨t,y,rfl,rfl⟩:=this
    exact ⟨_,by simp only [dU,hv,Option.bind_some],h⟩
   ·exact h.elim
  ·exact h.elim
theorem G9 {g:FuncId} {az:List AV}:kK P g az H kk kp↔iw P g az H kk∨(aj P g=true∧Fl P g az H kp):=by
 unfold kK iw gF
 by_cases hb:aj P g=true
 ·simp [hb]
 ·simp [hb]
theorem zf {f:Operand} {args:Array Operand} {ts:Array TypeId}:opC P σ H (.call ⟨.value f,args,ts⟩) kk kp=qn P (target P σ f args.toList) H kk kp:=by
 apply propext
 unfold opC
 rw [B4]
 unfold bx qn target dU
 simp only
 cases hf:aG P σ f with
 | none=>simp
 | some fv =>
  cases ha:bO P σ args.toList with
  | none=>simp
  | some az =>
   simp only [Option.bind_some]
   cases fv with
   | func fn first captured =>
    cases fn with
    | func g =>
     simp only
     rw [G9]
     refine or_congr_right ?_
     by_cases hb:aj P g=true
     ·simp only [hb,if_true,true_and]; rfl
     ·simp [hb]
    | _=>simp
   | yld b=>simp
   | _=>simp
theorem Gp {g:FuncId} {args:Array Operand} {ts:Array TypeId}:opC P σ H (.call ⟨.value (.func g),args,ts⟩) kk kp=aq (bO P σ args.toList) fun az=>kK P g az H kk kp:=by
 rw [zf]
 unfold target
 rw [LC]
 simp only [Option.bind_some,List.nil_append,List.append_nil]
 cases bO P σ args.toList with
 | none=>rw [Bd]; rfl
 | some az=>rw [aD]; rfl
theorem Gn {t:Nat} {args:Array Operand} {ts:Array TypeId}:opC P σ H (.call ⟨.value (.tmp t),args,ts⟩) kk kp=aq (bO P σ args.toList) fun az=>qn P (apV (fr σ t) az) H kk kp:=by
 rw [zf]
 unfold target
 rw [Lw]
 simp only [Option.bind_some]
 cases bO P σ args.toList with
 | none=>rw [Bd]; rfl
 | some az=>rw [aD]; rfl
theorem KY {g:FuncId} {az:List AV}:qn P (some (.fn g az)) H kk kp=kK P g az H kk kp:=rfl
theorem KX {b:Nat} {az:List AV}:qn P (some (.yl b az)) H kk kp=ag P (P.funcs.size+b) az H kk:=rfl
theorem KW {g:FuncId} {az:List AV} (hb:aj P g=true):kK P g az H kk kp=gF P g az H kk kp:=if_pos hb
theorem KV {g:FuncId} {az:List AV} (hb:aj P g=false):kK P g az H kk kp=iw P g az H kk:=by
 unfold kK iw
 rw [if_neg (by rw [hb]; exact Bool.false_ne_true),if_neg (by rw [hb]; exact Bool.false_ne_true)]
theorem Jm {dst:Option Tmp} {v:AV} {H':Hp} {e':Ef}:EO P ops K KP l σ e dst (v,H',e')=iD P ops K KP l ⟨put σ dst v,H',e.and e'⟩:=rfl
theorem MP {v:AV} {H':Hp} {e':Ef}:MQ KP σ e (v,H',e')=KP ⟨v::σ,H',e.and e'⟩:=rfl
attribute [go_sem ↓ 10] Dy
attribute [go_sem ↓] NM Qb NL Jh Gm Gp Gn KY KX KW KV Jm MP
attribute [go_sem] Lr Ow

def AY (P:Program) (rs:List ResultVar) (n:Nat) (kk kp:AV × Hp × Ef→Prop):Ex→St→Prop
 | .pan,s=>(match s.σ with | v::_=>kp (leave n v s.H s.ef) | []=>False)
 | ex,s=>tj P rs n kk ex s
theorem QN {rs:List ResultVar} {n:Nat}:AY P rs n kk kp .normal ⟨σ,H,e⟩=aq (cS P ⟨σ,H,e⟩ rs) fun vs=>kk (leave n (pack vs) H e):=Kz
theorem QL {rs:List ResultVar} {n:Nat}:AY P rs n kk kp .ret ⟨σ,H,e⟩=aq (cS P ⟨σ,H,e⟩ rs) fun vs=>kk (leave n (pack vs) H e):=wY
theorem QM {rs:List ResultVar} {n:Nat} {v:AV}:AY P rs n kk kp .pan ⟨v::σ,H,e⟩=kp (leave n v H e):=rfl
attribute [go_sem ↓] QN QL QM
theorem IY {I:Nat→St→Prop} {n:Nat}:kr P Q k I n .pan ⟨σ,H,e⟩=Q .pan ⟨σ,H,e⟩:=by
 unfold kr; exact fL k _
attribute [go_sem ↓] IY

theorem lW {f:FuncId} {fn:Func} {c:Code} {args:List AV} {rs:List ResultVar} {n:Nat} (hf:P.funcs[f]?=some fn) (hb:fn.body=some c) (hr:fn.results.toList=rs) (hn:args.length+(fn.ntmps - args.length)=n)
  (h:∀ σ:List AV,σ.length=n→(∀ i:Nat,i < args.length→fr σ i=(args[i]?).getD bw)→go P (AY P rs H.length kk kp) [.code c] ⟨σ,H,z0⟩) (hd:iS c=none:=by kernel_rfl):gF P f args H kk kp:=by
 subst hr; subst hn
 have h1:=h (args++List.replicate (fn.ntmps - args.length) bw) (by simp) (fun i hi=>by unfold fr; rw [List.getElem?_append_left hi])
 obtain ⟨m,ex,s,hc,hq⟩:=h1
 by_cases hp:ex=.pan
 ·subst hp
  have hq':AY P fn.results.toList H.length kk kp .pan s:=hq
  simp only [AY] at hq'
  split at hq'
  ·rename_i v τ hσ
   right
   refine ⟨m+1,_,?_,hq'⟩
   show gu P (evN P m) (eP P m) (m+1) true f args H=_
   simp only [gu,hf,hb,iE,hd,ct (fun _ _ _ _ h=>h) (fun _ _ _ _ h=>h) (dF _) (Nat.le_succ m) hc,iI,hσ]
   rfl
  ·exact hq'.elim
 ·left
  rw [tE hf hb hd]
  refine ⟨m,ex,s,hc,?_⟩
  have hq':AY P fn.results.toList H.length kk kp ex s:=by cases ex <;> first | exact hq | exact absurd rfl hp
  show KB P fn H.length kk ex s
  cases ex <;> first | (exact absurd rfl hp) | (simp only [AY] at hq'; unfold tj at hq'; exact hq')

def qi (P:Program) (d:Dc) (u:Option AV) (H:Hp) (K:Hp × Ef→Prop) (_:Ph K:=⟨⟩):Prop:=∃ n q,kR P (evN P n) (eP P n) n d u H=some q∧K q
def DQ (K:Hp × Ef→Prop):Ex→St→Prop:=fun ex s=>(ex=.normal∨ex=.ret)∧K (s.H,s.ef)
instance {K:Hp × Ef→Prop}:Calm (DQ K):=⟨fun _ h=>by rcases h.1 with h | h <;> cases h⟩
theorem QV {K:Hp × Ef→Prop}:DQ K .normal ⟨σ,H,e⟩=K (H,e):=by unfold DQ; simp
theorem QU {K:Hp × Ef→Prop}:DQ K .ret ⟨σ,H,e⟩=K (H,e):=by unfold DQ; simp
theorem nM {gg : FuncId} {first az captured : List AV} {u : Option AV} {K : Hp × Ef → Prop} {fn : Func} {c b : Code} {o : Oper} {l : List Oper} {n : Nat} (hf : P.funcs[gg]? = some fn) (hn : (fn.name == "runtime.NumGoroutine") = false) (hb : fn.body = some c) (hc : QZ c = some (o, l, b)) (hr : fn.results.toList = []) (hnr : cD b = true) (hlen : (first ++ az ++ captured).length + (fn.ntmps - (first ++ az ++ captured).length) = n)
  (h:∀ σ:List AV,σ.length=n→(∀ i:Nat,i < (first++az++captured).length→fr σ i=((first++az++captured)[i]?).getD bw)→bt P (o::l) (fun s=>go P (DQ K) [.code b] s) l ⟨put σ o.dst (u.getD .de),H,z0⟩):qi P (.func (.func gg) first captured,az) u H K:=by
 subst hlen
 obtain ⟨m,s1,h1,m2,ex,s2,h2,hq⟩:=h ((first++az++captured)++List.replicate (fn.ntmps - (first++az++captured).length) bw) (by simp only [List.length_append,List.length_replicate]) (fun i hi=>by unfold fr; rw [List.getElem?_append_left hi])
 have hq':DQ K ex s2:=by cases ex <;> exact hq
 refine ⟨max m m2,(s2.H,s2.ef),?_,hq'.2⟩
 unfold kR
 simp only [hf,hn,hb,hc,hr,Bool.false_eq_true,if_false,if_true,gV (dw (Nat.le_max_left m m2)) h1,Option.bind_some,mW (Nat.le_max_right m m2) h2,if_pos (And.intro hq'.1 hnr)]

def tY (P:Program) (rs:List ResultVar) (n:Nat) (d:Dc) (kk:AV × Hp × Ef→Prop):Ex→St→Prop
 | .pan,s=>(match s.σ with | v::σ=>qi P d (some v) s.H (fun q=>aq (cS P ⟨σ,q.1,s.ef.and q.2⟩ rs) fun vs=>kk (leave n (pack vs) q.1 (s.ef.and q.2))) | []=>False)
 | .normal,s=>qi P d none s.H (fun q=>aq (cS P ⟨s.σ,q.1,s.ef.and q.2⟩ rs) fun vs=>kk (leave n (pack vs) q.1 (s.ef.and q.2)))
 | .ret,s=>qi P d none s.H (fun q=>aq (cS P ⟨s.σ,q.1,s.ef.and q.2⟩ rs) fun vs=>kk (leave n (pack vs) q.1 (s.ef.and q.2)))
 | _,_=>False
def dfK (P:Program) (rs:List ResultVar) (n:Nat) (kk:AV × Hp × Ef→Prop) (d:Dc) (σ:List AV) (e:Ef):Hp × Ef→Prop:=fun q=>aq (cS P ⟨σ,q.1,e.and q.2⟩ rs) fun vs=>kk (leave n (pack vs) q.1 (e.and q.2))
theorem DP {rs:List ResultVar} {n:Nat} {d:Dc} {H':Hp} {e':Ef}:dfK P rs n kk d σ e (H',e')=aq (cS P ⟨σ,H',e.and e'⟩ rs) fun vs=>kk (leave n (pack vs) H' (e.and e')):=rfl
theorem QK {rs:List ResultVar} {n:Nat} {d:Dc}:tY P rs n d kk .normal ⟨σ,H,e⟩=qi P d none H (dfK P rs n kk d σ e):=rfl
theorem QI {rs:List ResultVar} {n:Nat} {d:Dc}:tY P rs n d kk .ret ⟨σ,H,e⟩=qi P d none H (dfK P rs n kk d σ e):=rfl
theorem QJ {rs:List ResultVar} {n:Nat} {d:Dc} {v:AV}:tY P rs n d kk .pan ⟨v::σ,H,e⟩=qi P d (some v) H (dfK P rs n kk d σ e):=rfl
def GY (P:Program) (rs:List ResultVar) (n:Nat) (f:Operand) (args:List Operand) (dst:Option Tmp) (b:Code) (kk:AV × Hp × Ef→Prop):Ex→St→Prop
 | .normal,s=>aq (aG P s.σ f) fun f=>aq (bO P s.σ args) fun az=>go P (tY P rs n (f,az) kk) [.code b] ⟨put s.σ dst bw,s.H,s.ef⟩
 | .ret,s=>tj P rs n kk .ret s
 | _,_=>False
instance {rs:List ResultVar} {n:Nat} {f:Operand} {args:List Operand} {dst:Option Tmp} {b:Code}:Calm (GY P rs n f args dst b kk):=⟨fun _ h=>h⟩
theorem QS {rs:List ResultVar} {n:Nat} {f:Operand} {args:List Operand} {dst:Option Tmp} {b:Code}:GY P rs n f args dst b kk .normal ⟨σ,H,e⟩=aq (aG P σ f) fun f=>aq (bO P σ args) fun az=>go P (tY P rs n (f,az) kk) [.code b] ⟨put σ dst bw,H,e⟩:=rfl
theorem QO {rs:List ResultVar} {n:Nat} {f:Operand} {args:List Operand} {dst:Option Tmp} {b:Code}:GY P rs n f args dst b kk .ret ⟨σ,H,e⟩=aq (cS P ⟨σ,H,e⟩ rs) fun vs=>kk (leave n (pack vs) H e):=wY
attribute [go_sem ↓] QV QU QK QI QJ DP QS QO

theorem Mz {l:List Code} {m:Nat} {ex:Ex} {s s':St}:∀ {Q:Ex→St→Prop},go P Q (l.map It.code) s→∃ n ex s',gB P (evN P n) (eP P n) n l s=some (ex,s')∧Q ex s':=by
 intro Q
 induction l generalizing s with
 | nil=>intro h; exact ⟨0,.normal,s,rfl,h⟩
 | cons c l ih =>
  rintro ⟨n,ex,s1,hc,hq⟩
  by_cases hn:ex=.normal
  ·subst hn
   obtain ⟨n2,ex2,s2,h2,hq2⟩:=ih (s:=s1) hq
   refine ⟨max n n2,ex2,s2,?_,hq2⟩
   simp only [gB,mW (Nat.le_max_left n n2) hc]
   exact iq (dw (Nat.le_max_right n n2)) (eA (Nat.le_max_right n n2)) (dF _) (Nat.le_max_right n n2) h2
  ·refine ⟨n,ex,s1,?_,?_⟩
   ·simp only [gB,hc]
    cases ex <;> first | rfl | exact absurd rfl hn
   ·have gen:∀ (l:List Code) (ex:Ex) (s:St),ex≠.normal→gD P Q (l.map It.code) ex s→Q ex s:=by
     intro l
     induction l with
     | nil=>intro ex s _ h; exact h
     | cons c l ih=>intro ex s hn h; cases ex <;> first | exact absurd rfl hn | exact ih _ _ hn h
    cases ex <;> first | exact absurd rfl hn | exact gen l _ _ (by simp) hq

theorem Bc {f:FuncId} {fn:Func} {c b:Code} {l0:List Code} {o:Oper} {fo:Operand} {dargs:Array Operand} {ts:Array TypeId} {args:List AV} {rs:List ResultVar} {n:Nat} (hf:P.funcs[f]?=some fn) (hb:fn.body=some c) (hd:iS c=some (l0,o,b)) (ho:o.op=.defer ⟨.value fo,dargs,ts⟩) (hr:fn.results.toList=rs) (hn:args.length+(fn.ntmps - args.length)=n)
  (h:∀ σ:List AV,σ.length=n→(∀ i:Nat,i < args.length→fr σ i=(args[i]?).getD bw)→go P (GY P rs H.length fo dargs.toList o.dst b kk) (l0.map It.code) ⟨σ,H,z0⟩):ag P f args H kk:=by
 subst hr; subst hn
 have h1:=h (args++List.replicate (fn.ntmps - args.length) bw) (by simp) (fun i hi=>by unfold fr; rw [List.getElem?_append_left hi])
 obtain ⟨m,ex,s1,hc,hq⟩:=Mz (m:=0) (ex:=.normal) (s':=⟨[],[],z0⟩) h1
 have fin:∀ (M:Nat) (r:AV × Hp × Ef),iE P (evN P M) (eP P M) (M+1) fn c ⟨args++List.replicate (fn.ntmps - args.length) bw,H,z0⟩=(true,some r)→kk r→ag P f args H kk:=by
  intro M r hM hk
  refine ⟨M+1,r,?_,hk⟩
  show gu P (evN P M) (eP P M) (M+1) false f args H=_
  simp only [gu,hf,hb,hM,Bool.true_eq_false,if_false]
 have up:∀ M,m≤M→gB P (evN P M) (eP P M) (M+1) l0 ⟨args++List.replicate (fn.ntmps - args.length) bw,H,z0⟩=some (ex,s1):=fun M hM=>iq (dw hM) (eA hM) (dF _) (by omega) hc
 cases ex with
 | normal =>
  have hq:aq (aG P s1.σ fo) (fun f=>aq (bO P s1.σ dargs.toList) fun az=>go P (tY P fn.results.toList H.length (f,az) kk) [.code b] ⟨put s1.σ o.dst bw,s1.H,s1.ef⟩):=hq
  cases hfo:aG P s1.σ fo with
  | none=>rw [hfo] at hq; unfold aq at hq; exact hq.elim
  | some fv =>
   rw [hfo,aD] at hq
   cases haz:bO P s1.σ dargs.toList with
   | none=>rw [haz] at hq; unfold aq at hq; exact hq.elim
   | some az =>
    rw [haz,aD] at hq
    obtain ⟨m2,ex2,s2,hc2,hq2⟩:=hq
    have hq3:tY P fn.results.toList H.length (fv,az) kk ex2 s2:=by cases ex2 <;> exact hq2
    -- the deferred call and the results
    have tail:∀ (u:Option AV) (σ:List AV),qi P (fv,az) u s2.H (fun q=>aq (cS P ⟨σ,q.1,s2.ef.and q.2⟩ fn.results.toList) fun vs=>kk (leave H.length (pack vs) q.1 (s2.ef.and q.2)))→(ex2=.pan∧(∃ v,u=some v∧s2.σ=v::σ))∨((ex2=.normal∨ex2=.ret)∧u=none∧s2.σ=σ)→ag P f args H kk:=by
     rintro u σ ⟨m3,q,hdq,hk⟩ hcase
     cases hrs:cS P ⟨σ,q.1,s2.ef.and q.2⟩ fn.results.toList with
     | none=>simp only [hrs] at hk; unfold aq at hk; exact hk.elim
     | some vs =>
      simp only [hrs,aD] at hk
      refine fin (max m (max m2 m3)) _ ?_ hk
      have e1:=up (max m (max m2 m3)) (by omega)
      have e2:=ct (P:=P) (dw (show m2≤max m (max m2 m3) by omega)) (eA (show m2≤max m (max m2 m3) by omega)) (dF _) (show m2≤max m (max m2 m3)+1 by omega) hc2
      have e3:=nI (P:=P) (dw (show m3≤max m (max m2 m3) by omega)) (eA (show m3≤max m (max m2 m3) by omega)) (dF _) (show m3≤max m (max m2 m3)+1 by omega) hdq
      simp only [iE,hd,e1,ho,hfo,haz,Option.bind_some]
      refine congrArg (Prod.mk true) ?_
      unfold lP
      rw [e2]
      rcases hcase with ⟨rfl,v,rfl,hσ⟩ | ⟨hex,rfl,rfl⟩
      ·simp only [hσ,e3,Option.bind_some,hrs,Option.map_some]
      ·rcases hex with rfl | rfl
       ·simp only [true_or,if_true,e3,Option.bind_some,hrs,Option.map_some]
       ·simp only [or_true,if_true,e3,Option.bind_some,hrs,Option.map_some]
    cases ex2 with
    | pan =>
     simp only [tY] at hq3
     split at hq3
     ·rename_i v σ hσ
      exact tail (some v) σ hq3 (.inl ⟨rfl,v,rfl,hσ⟩)
     ·exact hq3.elim
    | normal=>exact tail none s2.σ hq3 (.inr ⟨.inl rfl,rfl,rfl⟩)
    | ret=>exact tail none s2.σ hq3 (.inr ⟨.inr rfl,rfl,rfl⟩)
    | exit i=>exact hq3.elim
    | goto l=>exact hq3.elim
 | ret =>
  have hq:tj P fn.results.toList H.length kk .ret s1:=hq
  unfold tj at hq
  obtain ⟨_,hq⟩:=hq
  cases hvs:cS P s1 fn.results.toList with
  | none=>rw [hvs] at hq; exact hq.elim
  | some vs =>
   rw [hvs] at hq
   refine fin m _ ?_ hq
   have:=up m (Nat.le_refl _)
   simp only [iE,hd,this,iI,or_true,if_true,hvs,Option.map_some]
 | exit i=>exact hq.elim
 | goto l=>exact hq.elim
 | pan=>exact hq.elim
end
attribute [irreducible] opC gF kK qn qi
theorem au:Tryz.prog.follows .mixedOrders=true:=by kernel_rfl
attribute [go_sem] au
theorem OO:tsh Tryz.prog 2=some (.int .i64):=by kernel_rfl
theorem n9:tsh Tryz.prog 3=some (.int .i64):=by kernel_rfl
theorem LW:cq Tryz.prog 3=some 1:=by kernel_rfl
theorem Pk:fN Tryz.prog 3=some false:=by kernel_rfl
theorem El:cB Tryz.prog 3=some [.int .i64 0]:=by kernel_rfl
theorem LV:cq Tryz.prog 4=some 1:=by kernel_rfl
theorem Pj:fN Tryz.prog 4=some false:=by kernel_rfl
theorem LO:cB Tryz.prog 4=some [.bool false]:=by kernel_rfl
theorem RD:Tryz.prog.underlying 4=some .bool:=by kernel_rfl
theorem jP:tsh Tryz.prog 5=some (.int .u8):=by kernel_rfl
theorem rf:cq Tryz.prog 5=some 1:=by kernel_rfl
theorem Pg:fN Tryz.prog 5=some false:=by kernel_rfl
theorem jq:cB Tryz.prog 5=some [.int .u8 0]:=by kernel_rfl
theorem Eu:tsh Tryz.prog 9=some .str:=by kernel_rfl
theorem LU:cq Tryz.prog 9=some 1:=by kernel_rfl
theorem Pf:fN Tryz.prog 9=some false:=by kernel_rfl
theorem nV:cB Tryz.prog 9=some [.str []]:=by kernel_rfl
theorem Mt:js Tryz.prog 9=true:=by kernel_rfl
theorem Io:tsh Tryz.prog 20=some .iface:=by kernel_rfl
theorem Bu:tsh Tryz.prog 21=some (.int .i32):=by kernel_rfl
theorem Im:tsh Tryz.prog 22=some (.slice 28 6 8):=by kernel_rfl
theorem vC:tsh Tryz.prog 23=some (.int .u16):=by kernel_rfl
theorem Ig:cq Tryz.prog 23=some 1:=by kernel_rfl
theorem Mo:fN Tryz.prog 23=some false:=by kernel_rfl
theorem xE:cB Tryz.prog 23=some [.int .u16 0]:=by kernel_rfl
theorem vB:tsh Tryz.prog 24=some .str:=by kernel_rfl
theorem Ie:cq Tryz.prog 24=some 1:=by kernel_rfl
theorem Mn:fN Tryz.prog 24=some false:=by kernel_rfl
theorem j9:tsh Tryz.prog 25=some (.int .u32):=by kernel_rfl
theorem Ic:cq Tryz.prog 25=some 1:=by kernel_rfl
theorem Mm:fN Tryz.prog 25=some false:=by kernel_rfl
theorem nc:tsh Tryz.prog 26=some (.slice 36 12 96):=by kernel_rfl
theorem Ib:cq Tryz.prog 26=some 1:=by kernel_rfl
theorem Mk:fN Tryz.prog 26=some false:=by kernel_rfl
theorem HO:cB Tryz.prog 26=some [.aI]:=by kernel_rfl
theorem IE:js Tryz.prog 26=true:=by kernel_rfl
theorem HA:zok Tryz.prog 36 12=true:=by kernel_rfl
theorem Pe:tsh Tryz.prog 32=some (.array 5 25 1):=by kernel_rfl
theorem Bt:tsh Tryz.prog 34=some .struct:=by kernel_rfl
theorem Ia:cq Tryz.prog 34=some 8:=by kernel_rfl
theorem Mj:fN Tryz.prog 34=some true:=by kernel_rfl
theorem nX:cB Tryz.prog 34=some [.str [],.str [],.str [],.int .u32 0,.int .u32 0,.int .u32 0,.int .u32 0,.int .u32 0]:=by kernel_rfl
theorem nh:fZ Tryz.prog 34=some [(0,1),(1,1),(2,1),(3,5)]:=by kernel_rfl
theorem QC:Tryz.prog.eqGuardType Tryz.prog.depth 34=false:=by kernel_rfl
theorem yI:bJ Tryz.prog 34 0=some (0,1,false):=by kernel_rfl
theorem yH:bJ Tryz.prog 34 1=some (1,1,false):=by kernel_rfl
theorem yG:bJ Tryz.prog 34 2=some (2,1,false):=by kernel_rfl
theorem yD:bJ Tryz.prog 34 3=some (3,5,true):=by kernel_rfl
theorem Br:tsh Tryz.prog 36=some .struct:=by kernel_rfl
theorem H9:cq Tryz.prog 36=some 12:=by kernel_rfl
theorem Mi:fN Tryz.prog 36=some true:=by kernel_rfl
theorem nW:cB Tryz.prog 36=some [.str [],.int .u16 0,.int .u16 0,.int .u32 0,.str [],.str [],.str [],.int .u32 0,.int .u32 0,.int .u32 0,.int .u32 0,.int .u32 0]:=by kernel_rfl
theorem ng:fZ Tryz.prog 36=some [(0,1),(1,1),(2,1),(3,1),(4,8)]:=by kernel_rfl
theorem QB:Tryz.prog.eqGuardType Tryz.prog.depth 36=false:=by kernel_rfl
theorem yC:bJ Tryz.prog 36 0=some (0,1,false):=by kernel_rfl
theorem yB:bJ Tryz.prog 36 1=some (1,1,false):=by kernel_rfl
theorem yA:bJ Tryz.prog 36 2=some (2,1,false):=by kernel_rfl
theorem yz:bJ Tryz.prog 36 3=some (3,1,false):=by kernel_rfl
theorem yy:bJ Tryz.prog 36 4=some (4,8,true):=by kernel_rfl
theorem rL:tsh Tryz.prog 38=some .struct:=by kernel_rfl
theorem H8:cq Tryz.prog 38=some 2:=by kernel_rfl
theorem Mh:fN Tryz.prog 38=some true:=by kernel_rfl
theorem jM:cB Tryz.prog 38=some [.int .i64 0,.int .i64 0]:=by kernel_rfl
theorem jd:fZ Tryz.prog 38=some [(0,1),(1,1)]:=by kernel_rfl
theorem QA:Tryz.prog.eqGuardType Tryz.prog.depth 38=false:=by kernel_rfl
theorem yu:bJ Tryz.prog 38 0=some (0,1,false):=by kernel_rfl
theorem yq:bJ Tryz.prog 38 1=some (1,1,false):=by kernel_rfl
theorem H7:cq Tryz.prog 39=some 1:=by kernel_rfl
theorem Mg:fN Tryz.prog 39=some false:=by kernel_rfl
theorem HN:cB Tryz.prog 39=some [.int .i64 0]:=by kernel_rfl
theorem rK:tsh Tryz.prog 54=some (.slice 68 3 40):=by kernel_rfl
theorem H6:cq Tryz.prog 54=some 1:=by kernel_rfl
theorem Mf:fN Tryz.prog 54=some false:=by kernel_rfl
theorem ID:js Tryz.prog 54=true:=by kernel_rfl
theorem Hz:zok Tryz.prog 68 3=true:=by kernel_rfl
theorem jD:tsh Tryz.prog 59=some (.slice 63 4 40):=by kernel_rfl
theorem HZ:cq Tryz.prog 59=some 1:=by kernel_rfl
theorem Me:fN Tryz.prog 59=some false:=by kernel_rfl
theorem IC:js Tryz.prog 59=true:=by kernel_rfl
theorem Bi:zok Tryz.prog 63 4=true:=by kernel_rfl
theorem Il:tsh Tryz.prog 61=some .struct:=by kernel_rfl
theorem xD:cB Tryz.prog 61=some [.str [],.str [],.int .u32 0,.bool false,.bool false,.aI,.aI,.aI]:=by kernel_rfl
theorem rQ:fZ Tryz.prog 61=some [(0,1),(1,1),(2,1),(3,1),(4,1),(5,1),(6,1),(7,1)]:=by kernel_rfl
theorem yp:bJ Tryz.prog 61 0=some (0,1,false):=by kernel_rfl
theorem ym:bJ Tryz.prog 61 1=some (1,1,false):=by kernel_rfl
theorem yj:bJ Tryz.prog 61 2=some (2,1,false):=by kernel_rfl
theorem yh:bJ Tryz.prog 61 3=some (3,1,false):=by kernel_rfl
theorem yg:bJ Tryz.prog 61 4=some (4,1,false):=by kernel_rfl
theorem yf:bJ Tryz.prog 61 5=some (5,1,false):=by kernel_rfl
theorem ye:bJ Tryz.prog 61 6=some (6,1,false):=by kernel_rfl
theorem yd:bJ Tryz.prog 61 7=some (7,1,false):=by kernel_rfl
theorem Ik:tsh Tryz.prog 63=some .struct:=by kernel_rfl
theorem HY:cq Tryz.prog 63=some 4:=by kernel_rfl
theorem Mc:fN Tryz.prog 63=some true:=by kernel_rfl
theorem rI:cB Tryz.prog 63=some [.str [],.bool false,.int .i64 0,.int .i64 0]:=by kernel_rfl
theorem rP:fZ Tryz.prog 63=some [(0,1),(1,1),(2,1),(3,1)]:=by kernel_rfl
theorem yc:bJ Tryz.prog 63 0=some (0,1,false):=by kernel_rfl
theorem ya:bJ Tryz.prog 63 1=some (1,1,false):=by kernel_rfl
theorem x9:bJ Tryz.prog 63 2=some (2,1,false):=by kernel_rfl
theorem x8:bJ Tryz.prog 63 3=some (3,1,false):=by kernel_rfl
theorem Bq:tsh Tryz.prog 65=some .struct:=by kernel_rfl
theorem HX:cq Tryz.prog 65=some 5:=by kernel_rfl
theorem xC:cB Tryz.prog 65=some [.str [],.bool false,.int .i64 0,.int .i64 0,.int .i64 0]:=by kernel_rfl
theorem rO:fZ Tryz.prog 65=some [(0,4),(4,1)]:=by kernel_rfl
theorem x7:bJ Tryz.prog 65 0=some (0,4,true):=by kernel_rfl
theorem x6:bJ Tryz.prog 65 1=some (4,1,false):=by kernel_rfl
theorem Ij:tsh Tryz.prog 68=some .struct:=by kernel_rfl
theorem HW:cq Tryz.prog 68=some 3:=by kernel_rfl
theorem Mb:fN Tryz.prog 68=some true:=by kernel_rfl
theorem rH:cB Tryz.prog 68=some [.bool false,.int .i64 0,.aI]:=by kernel_rfl
theorem rN:fZ Tryz.prog 68=some [(0,1),(1,1),(2,1)]:=by kernel_rfl
theorem xZ:bJ Tryz.prog 68 0=some (0,1,false):=by kernel_rfl
theorem xY:bJ Tryz.prog 68 2=some (2,1,false):=by kernel_rfl
theorem Bp:tsh Tryz.prog 70=some (.ptr 73):=by kernel_rfl
theorem HV:cq Tryz.prog 70=some 1:=by kernel_rfl
theorem Ma:fN Tryz.prog 70=some false:=by kernel_rfl
theorem dh:tsh Tryz.prog 71=some (.slice 5 1 1):=by kernel_rfl
theorem HU:cq Tryz.prog 71=some 1:=by kernel_rfl
theorem L9:fN Tryz.prog 71=some false:=by kernel_rfl
theorem IB:js Tryz.prog 71=true:=by kernel_rfl
theorem jC:zok Tryz.prog 5 1=true:=by kernel_rfl
theorem xJ:cq Tryz.prog 73=some 2:=by kernel_rfl
theorem HM:cB Tryz.prog 73=some [.fF,.aI]:=by kernel_rfl
theorem xX:bJ Tryz.prog 73 0=some (0,1,false):=by kernel_rfl
theorem xV:bJ Tryz.prog 73 1=some (1,1,false):=by kernel_rfl
theorem vA:tsh Tryz.prog 75=some .iface:=by kernel_rfl
theorem L8:fN Tryz.prog 75=some false:=by kernel_rfl
theorem jc:tsh Tryz.prog 85=some (.slice 9 1 16):=by kernel_rfl
theorem HT:cq Tryz.prog 85=some 1:=by kernel_rfl
theorem L7:fN Tryz.prog 85=some false:=by kernel_rfl
theorem HL:cB Tryz.prog 85=some [.aI]:=by kernel_rfl
theorem IA:js Tryz.prog 85=true:=by kernel_rfl
theorem eU:zok Tryz.prog 9 1=true:=by kernel_rfl
theorem vz:tsh Tryz.prog 88=some (.slice 3 1 8):=by kernel_rfl
theorem Iz:js Tryz.prog 88=true:=by kernel_rfl
theorem Hy:zok Tryz.prog 3 1=true:=by kernel_rfl
theorem pF:tsh Tryz.prog 91=some (.slice 38 2 16):=by kernel_rfl
theorem HR:cq Tryz.prog 91=some 1:=by kernel_rfl
theorem L6:fN Tryz.prog 91=some false:=by kernel_rfl
theorem Iy:js Tryz.prog 91=true:=by kernel_rfl
theorem Hw:zok Tryz.prog 38 2=true:=by kernel_rfl
theorem Ii:tsh Tryz.prog 93=some .struct:=by kernel_rfl
theorem HQ:cq Tryz.prog 93=some 10:=by kernel_rfl
theorem xB:cB Tryz.prog 93=some [.str [],.int .i64 0,.int .i64 0,.int .i64 0,.aI,.bool false,.int .i64 0,.aI,.aI,.bool false]:=by kernel_rfl
theorem rM:fZ Tryz.prog 93=some [(0,1),(1,1),(2,1),(3,1),(4,1),(5,3),(8,1),(9,1)]:=by kernel_rfl
theorem xU:bJ Tryz.prog 93 0=some (0,1,false):=by kernel_rfl
theorem xT:bJ Tryz.prog 93 1=some (1,1,false):=by kernel_rfl
theorem xS:bJ Tryz.prog 93 2=some (2,1,false):=by kernel_rfl
theorem xR:bJ Tryz.prog 93 3=some (3,1,false):=by kernel_rfl
theorem xQ:bJ Tryz.prog 93 4=some (4,1,false):=by kernel_rfl
theorem xP:bJ Tryz.prog 93 5=some (5,3,true):=by kernel_rfl
theorem xO:bJ Tryz.prog 93 6=some (8,1,false):=by kernel_rfl
theorem xN:bJ Tryz.prog 93 7=some (9,1,false):=by kernel_rfl
theorem jr:tsh Tryz.prog 114=some (.int .u64):=by kernel_rfl
theorem Iu:fN Tryz.prog 114=some false:=by kernel_rfl
theorem L4:tsh Tryz.prog 115=some (.array 4 9 1):=by kernel_rfl
theorem FH:cB Tryz.prog 115=some [.str [],.str [],.str [],.str []]:=by kernel_rfl
theorem L0:tsh Tryz.prog 117=some (.array 8 9 1):=by kernel_rfl
theorem FG:cB Tryz.prog 117=some [.str [],.str [],.str [],.str [],.str [],.str [],.str [],.str []]:=by kernel_rfl
theorem EB:tsh Tryz.prog 118=some (.int .u64):=by kernel_rfl
theorem vP:bJ Tryz.prog 120 0=some (0,1,false):=by kernel_rfl
theorem vO:bJ Tryz.prog 120 1=some (1,1,false):=by kernel_rfl
theorem vN:bJ Tryz.prog 120 2=some (2,1,false):=by kernel_rfl
theorem LZ:tsh Tryz.prog 121=some (.array 9 120 3):=by kernel_rfl
theorem vH:tsh Tryz.prog 122=some (.ptr 5):=by kernel_rfl
theorem vG:tsh Tryz.prog 144=some .struct:=by kernel_rfl
theorem pz:cB Tryz.prog 144=some [.aI,.str [],.str [],.str [],.str [],.int .u32 0,.int .u32 0,.int .u32 0,.int .u32 0,.int .u32 0,.int .i64 0]:=by kernel_rfl
theorem lz:fZ Tryz.prog 144=some [(0,1),(1,1),(2,8),(10,1)]:=by kernel_rfl
theorem vM:bJ Tryz.prog 144 0=some (0,1,false):=by kernel_rfl
theorem vL:bJ Tryz.prog 144 1=some (1,1,false):=by kernel_rfl
theorem vK:bJ Tryz.prog 144 2=some (2,8,true):=by kernel_rfl
theorem vF:tsh Tryz.prog 146=some (.map 21 1):=by kernel_rfl
theorem vE:tsh Tryz.prog 148=some .upt:=by kernel_rfl
theorem EA:tsh Tryz.prog 158=some (.slice 23 1 2):=by kernel_rfl
theorem LY:tsh Tryz.prog 177=some (.array 24 5 1):=by kernel_rfl
theorem FF:cB Tryz.prog 177=some [.int .u8 0,.int .u8 0,.int .u8 0,.int .u8 0,.int .u8 0,.int .u8 0,.int .u8 0,.int .u8 0,.int .u8 0,.int .u8 0,.int .u8 0,.int .u8 0,.int .u8 0,.int .u8 0,.int .u8 0,.int .u8 0,.int .u8 0,.int .u8 0,.int .u8 0,.int .u8 0,.int .u8 0,.int .u8 0,.int .u8 0,.int .u8 0]:=by kernel_rfl
theorem vD:tsh Tryz.prog 187=some (.int .i64):=by kernel_rfl
theorem Ez:tsh Tryz.prog 189=some (.ptr 210):=by kernel_rfl
theorem Ey:tsh Tryz.prog 201=some (.array 20 114 1):=by kernel_rfl
theorem LX:tsh Tryz.prog 202=some (.array 65 5 1):=by kernel_rfl
theorem FE:cB Tryz.prog 202=some [.int .u8 0,.int .u8 0,.int .u8 0,.int .u8 0,.int .u8 0,.int .u8 0,.int .u8 0,.int .u8 0,.int .u8 0,.int .u8 0,.int .u8 0,.int .u8 0,.int .u8 0,.int .u8 0,.int .u8 0,.int .u8 0,.int .u8 0,.int .u8 0,.int .u8 0,.int .u8 0,.int .u8 0,.int .u8 0,.int .u8 0,.int .u8 0,.int .u8 0,.int .u8 0,.int .u8 0,.int .u8 0,.int .u8 0,.int .u8 0,.int .u8 0,.int .u8 0,.int .u8 0,.int .u8 0,.int .u8 0,.int .u8 0,.int .u8 0,.int .u8 0,.int .u8 0,.int .u8 0,.int .u8 0,.int .u8 0,.int .u8 0,.int .u8 0,.int .u8 0,.int .u8 0,.int .u8 0,.int .u8 0,.int .u8 0,.int .u8 0,.int .u8 0,.int .u8 0,.int .u8 0,.int .u8 0,.int .u8 0,.int .u8 0,.int .u8 0,.int .u8 0,.int .u8 0,.int .u8 0,.int .u8 0,.int .u8 0,.int .u8 0,.int .u8 0,.int .u8 0]:=by kernel_rfl
theorem Ew:tsh Tryz.prog 210=some .struct:=by kernel_rfl
theorem uk:cB Tryz.prog 210=some [.str [],.str [],.de]:=by kernel_rfl
theorem qA:fZ Tryz.prog 210=some [(0,1),(1,1),(2,1)]:=by kernel_rfl
theorem Ev:tsh Tryz.prog 226=some (.array 64 5 1):=by kernel_rfl
theorem Dx:aj Tryz.prog 10=true:=by kernel_rfl
theorem Dw:aj Tryz.prog 11=true:=by kernel_rfl
theorem Dv:aj Tryz.prog 12=true:=by kernel_rfl
theorem Du:aj Tryz.prog 13=true:=by kernel_rfl
theorem Dr:aj Tryz.prog 14=true:=by kernel_rfl
theorem Dq:aj Tryz.prog 15=true:=by kernel_rfl
theorem Dp:aj Tryz.prog 16=true:=by kernel_rfl
theorem Dn:aj Tryz.prog 17=true:=by kernel_rfl
theorem Dm:aj Tryz.prog 18=true:=by kernel_rfl
theorem Dl:aj Tryz.prog 19=true:=by kernel_rfl
theorem Dk:aj Tryz.prog 20=true:=by kernel_rfl
theorem Dj:aj Tryz.prog 21=true:=by kernel_rfl
theorem Di:aj Tryz.prog 23=true:=by kernel_rfl
theorem Dh:aj Tryz.prog 24=true:=by kernel_rfl
theorem Dg:aj Tryz.prog 25=true:=by kernel_rfl
theorem Df:aj Tryz.prog 26=true:=by kernel_rfl
theorem De:aj Tryz.prog 27=true:=by kernel_rfl
theorem Dd:aj Tryz.prog 28=true:=by kernel_rfl
theorem Da:aj Tryz.prog 29=true:=by kernel_rfl
theorem C9:aj Tryz.prog 30=true:=by kernel_rfl
theorem C8:aj Tryz.prog 31=true:=by kernel_rfl
theorem C7:aj Tryz.prog 32=true:=by kernel_rfl
theorem C6:aj Tryz.prog 33=true:=by kernel_rfl
theorem C5:aj Tryz.prog 34=true:=by kernel_rfl
theorem C4:aj Tryz.prog 35=true:=by kernel_rfl
theorem C3:aj Tryz.prog 36=true:=by kernel_rfl
theorem C2:aj Tryz.prog 37=true:=by kernel_rfl
theorem C1:aj Tryz.prog 38=true:=by kernel_rfl
theorem C0:aj Tryz.prog 39=true:=by kernel_rfl
theorem CZ:aj Tryz.prog 40=true:=by kernel_rfl
theorem CY:aj Tryz.prog 41=true:=by kernel_rfl
theorem CX:aj Tryz.prog 42=true:=by kernel_rfl
theorem CW:aj Tryz.prog 43=true:=by kernel_rfl
theorem CV:aj Tryz.prog 44=true:=by kernel_rfl
theorem CU:aj Tryz.prog 45=true:=by kernel_rfl
theorem CT:aj Tryz.prog 46=true:=by kernel_rfl
theorem CS:aj Tryz.prog 47=true:=by kernel_rfl
theorem CR:aj Tryz.prog 48=true:=by kernel_rfl
theorem CQ:aj Tryz.prog 49=true:=by kernel_rfl
theorem CP:aj Tryz.prog 50=true:=by kernel_rfl
theorem CO:aj Tryz.prog 51=true:=by kernel_rfl
theorem CN:aj Tryz.prog 52=true:=by kernel_rfl
theorem CM:aj Tryz.prog 53=true:=by kernel_rfl
theorem CL:aj Tryz.prog 54=true:=by kernel_rfl
theorem CK:aj Tryz.prog 55=true:=by kernel_rfl
theorem CJ:aj Tryz.prog 56=true:=by kernel_rfl
theorem CI:aj Tryz.prog 57=true:=by kernel_rfl
theorem CH:aj Tryz.prog 58=true:=by kernel_rfl
theorem CG:aj Tryz.prog 59=true:=by kernel_rfl
theorem CF:aj Tryz.prog 60=true:=by kernel_rfl
theorem CE:aj Tryz.prog 61=true:=by kernel_rfl
theorem CD:aj Tryz.prog 62=true:=by kernel_rfl
theorem CC:aj Tryz.prog 63=true:=by kernel_rfl
theorem CB:aj Tryz.prog 64=true:=by kernel_rfl
theorem CA:aj Tryz.prog 65=true:=by kernel_rfl
theorem Cz:aj Tryz.prog 66=true:=by kernel_rfl
theorem Cy:aj Tryz.prog 67=true:=by kernel_rfl
theorem Cx:aj Tryz.prog 68=true:=by kernel_rfl
theorem Cw:aj Tryz.prog 69=true:=by kernel_rfl
theorem Cv:aj Tryz.prog 70=true:=by kernel_rfl
theorem Nz:sO Tryz.prog 71=none:=by kernel_rfl
theorem JR:mT Tryz.prog 71=none:=by kernel_rfl
theorem Cu:aj Tryz.prog 71=false:=by kernel_rfl
theorem Ct:aj Tryz.prog 73=true:=by kernel_rfl
theorem Cs:aj Tryz.prog 74=true:=by kernel_rfl
theorem Cr:aj Tryz.prog 75=true:=by kernel_rfl
theorem Cq:aj Tryz.prog 76=true:=by kernel_rfl
theorem Cp:aj Tryz.prog 77=true:=by kernel_rfl
theorem Co:aj Tryz.prog 80=true:=by kernel_rfl
theorem Cn:aj Tryz.prog 84=true:=by kernel_rfl
theorem Ny:sO Tryz.prog 87=none:=by kernel_rfl
theorem JQ:mT Tryz.prog 87=some .same:=by kernel_rfl
theorem Cm:aj Tryz.prog 87=false:=by kernel_rfl
theorem Cj:aj Tryz.prog 88=true:=by kernel_rfl
theorem Ci:aj Tryz.prog 89=true:=by kernel_rfl
theorem Ch:aj Tryz.prog 90=true:=by kernel_rfl
theorem Cg:aj Tryz.prog 91=true:=by kernel_rfl
theorem Cf:aj Tryz.prog 92=true:=by kernel_rfl
theorem Ce:aj Tryz.prog 93=true:=by kernel_rfl
theorem Cd:aj Tryz.prog 94=true:=by kernel_rfl
theorem Cc:aj Tryz.prog 95=true:=by kernel_rfl
theorem Cb:aj Tryz.prog 96=true:=by kernel_rfl
theorem Ca:aj Tryz.prog 97=true:=by kernel_rfl
theorem B9:aj Tryz.prog 98=true:=by kernel_rfl
theorem B8:aj Tryz.prog 99=true:=by kernel_rfl
theorem AB:aj Tryz.prog 100=true:=by kernel_rfl
theorem AA:aj Tryz.prog 105=true:=by kernel_rfl
theorem Az:aj Tryz.prog 106=true:=by kernel_rfl
theorem Ay:aj Tryz.prog 107=true:=by kernel_rfl
theorem Aw:aj Tryz.prog 108=true:=by kernel_rfl
theorem Av:aj Tryz.prog 109=true:=by kernel_rfl
theorem Au:aj Tryz.prog 110=true:=by kernel_rfl
theorem As:aj Tryz.prog 111=true:=by kernel_rfl
theorem Ar:aj Tryz.prog 114=true:=by kernel_rfl
theorem Aq:aj Tryz.prog 116=true:=by kernel_rfl
theorem Ap:aj Tryz.prog 120=true:=by kernel_rfl
theorem Ao:aj Tryz.prog 121=true:=by kernel_rfl
theorem Am:aj Tryz.prog 122=true:=by kernel_rfl
theorem Al:aj Tryz.prog 123=true:=by kernel_rfl
theorem Ak:aj Tryz.prog 124=true:=by kernel_rfl
theorem Aj:aj Tryz.prog 125=true:=by kernel_rfl
theorem Ai:aj Tryz.prog 126=true:=by kernel_rfl
theorem Ah:aj Tryz.prog 129=true:=by kernel_rfl
theorem Ag:aj Tryz.prog 130=true:=by kernel_rfl
theorem Af:aj Tryz.prog 132=true:=by kernel_rfl
theorem Ae:aj Tryz.prog 133=true:=by kernel_rfl
theorem Ad:aj Tryz.prog 142=true:=by kernel_rfl
theorem Ac:aj Tryz.prog 145=true:=by kernel_rfl
theorem Ab:aj Tryz.prog 146=true:=by kernel_rfl
theorem Aa:aj Tryz.prog 147=true:=by kernel_rfl
theorem z8:aj Tryz.prog 148=true:=by kernel_rfl
theorem z7:aj Tryz.prog 149=true:=by kernel_rfl
theorem JP:sO Tryz.prog 150=some 5:=by kernel_rfl
theorem z6:aj Tryz.prog 150=false:=by kernel_rfl
theorem zZ:aj Tryz.prog 151=true:=by kernel_rfl
theorem zY:aj Tryz.prog 153=true:=by kernel_rfl
theorem zX:aj Tryz.prog 155=true:=by kernel_rfl
theorem zW:aj Tryz.prog 159=true:=by kernel_rfl
theorem zV:aj Tryz.prog 160=true:=by kernel_rfl
theorem zU:aj Tryz.prog 161=true:=by kernel_rfl
theorem zT:aj Tryz.prog 165=true:=by kernel_rfl
theorem JO:sO Tryz.prog 166=none:=by kernel_rfl
theorem GL:mT Tryz.prog 166=some .NB:=by kernel_rfl
theorem zS:aj Tryz.prog 166=false:=by kernel_rfl
theorem JN:sO Tryz.prog 169=none:=by kernel_rfl
theorem GK:mT Tryz.prog 169=some .Od:=by kernel_rfl
theorem zR:aj Tryz.prog 169=false:=by kernel_rfl
theorem Qh:decide (0 < Tryz.prog.globals.size)=true:=by kernel_rfl
theorem Qg:decide (1 < Tryz.prog.globals.size)=true:=by kernel_rfl
theorem Qf:decide (4 < Tryz.prog.globals.size)=true:=by kernel_rfl
theorem Qe:decide (5 < Tryz.prog.globals.size)=true:=by kernel_rfl
theorem Qd:decide (8 < Tryz.prog.globals.size)=true:=by kernel_rfl
section
variable {H:Hp}
theorem DW {kd n}:aZ Tryz.prog 2 114 (.int kd n) H=some (.int .u64 (IntKind.wrap .u64 n),H):=by simp only [aZ,OO,jr]
theorem KK {kd n}:aZ Tryz.prog 3 5 (.int kd n) H=some (.int .u8 (IntKind.wrap .u8 n),H):=by simp only [aZ,n9,jP]
theorem G5 {kd n}:aZ Tryz.prog 3 25 (.int kd n) H=some (.int .u32 (IntKind.wrap .u32 n),H):=by simp only [aZ,n9,j9]
theorem DV {kd n}:aZ Tryz.prog 3 114 (.int kd n) H=some (.int .u64 (IntKind.wrap .u64 n),H):=by simp only [aZ,n9,jr]
theorem DU {kd n}:aZ Tryz.prog 3 118 (.int kd n) H=some (.int .u64 (IntKind.wrap .u64 n),H):=by simp only [aZ,n9,EB]
theorem KJ {kd n}:aZ Tryz.prog 5 3 (.int kd n) H=some (.int .i64 (IntKind.wrap .i64 n),H):=by simp only [aZ,jP,n9]
theorem G4 {kd n}:aZ Tryz.prog 5 25 (.int kd n) H=some (.int .u32 (IntKind.wrap .u32 n),H):=by simp only [aZ,jP,j9]
theorem DT {kd n}:aZ Tryz.prog 5 114 (.int kd n) H=some (.int .u64 (IntKind.wrap .u64 n),H):=by simp only [aZ,jP,jr]
theorem G3 {s}:aZ Tryz.prog 9 71 (.str s) H=some (.slice H.length 0 s.length (.op 0),H++[.cells (s.map fun b=>.int .u8 b.toNat) 5 (.op 0 true)]):=by simp only [aZ,Eu,dh,jP]
theorem G8 {kd n}:aZ Tryz.prog 23 3 (.int kd n) H=some (.int .i64 (IntKind.wrap .i64 n),H):=by simp only [aZ,vC,n9]
theorem DZ {kd n}:aZ Tryz.prog 23 25 (.int kd n) H=some (.int .u32 (IntKind.wrap .u32 n),H):=by simp only [aZ,vC,j9]
theorem DY {s}:aZ Tryz.prog 24 71 (.str s) H=some (.slice H.length 0 s.length (.op 0),H++[.cells (s.map fun b=>.int .u8 b.toNat) 5 (.op 0 true)]):=by simp only [aZ,vB,dh,jP]
theorem G7 {kd n}:aZ Tryz.prog 25 3 (.int kd n) H=some (.int .i64 (IntKind.wrap .i64 n),H):=by simp only [aZ,j9,n9]
theorem G6 {kd n}:aZ Tryz.prog 25 5 (.int kd n) H=some (.int .u8 (IntKind.wrap .u8 n),H):=by simp only [aZ,j9,jP]
theorem DX {kd n}:aZ Tryz.prog 25 23 (.int kd n) H=some (.int .u16 (IntKind.wrap .u16 n),H):=by simp only [aZ,j9,vC]
theorem A1 {kd n}:aZ Tryz.prog 25 114 (.int kd n) H=some (.int .u64 (IntKind.wrap .u64 n),H):=by simp only [aZ,j9,jr]
theorem vh {p o n c}:aZ Tryz.prog 71 9 (.slice p o n c) H=(rd H p o n).bind fun c=>(aZ.bytesOf c).map fun s=>(.str s,H):=by simp only [aZ,dh,Eu,jP]
theorem tu:aZ Tryz.prog 71 9 .aI H=some (.str [],H):=by simp only [aZ,dh,Eu,jP]
theorem tv {p o n c}:aZ Tryz.prog 71 24 (.slice p o n c) H=(rd H p o n).bind fun c=>(aZ.bytesOf c).map fun s=>(.str s,H):=by simp only [aZ,dh,vB,jP]
theorem AZ:aZ Tryz.prog 71 24 .aI H=some (.str [],H):=by simp only [aZ,dh,vB,jP]
theorem D1 {kd n}:aZ Tryz.prog 114 3 (.int kd n) H=some (.int .i64 (IntKind.wrap .i64 n),H):=by simp only [aZ,jr,n9]
theorem D0 {kd n}:aZ Tryz.prog 114 5 (.int kd n) H=some (.int .u8 (IntKind.wrap .u8 n),H):=by simp only [aZ,jr,jP]
theorem A3 {kd n}:aZ Tryz.prog 114 25 (.int kd n) H=some (.int .u32 (IntKind.wrap .u32 n),H):=by simp only [aZ,jr,j9]
end
attribute [go_sem] OO n9 LW Pk El LV Pj LO RD jP rf Pg jq
attribute [go_sem] Eu LU Pf nV Mt
attribute [go_sem] Io Bu vC Ig Mo xE vB Ie Mn j9 Ic Mm nc Ib Mk
attribute [go_sem] HO IE HA
attribute [go_sem] Pe Bt Ia Mj nX nh QC yI yH yG yD
attribute [go_sem] Br H9 Mi nW ng QB yC yB yA yz yy rL H8 Mh jM jd QA yu yq H7 Mg HN
attribute [go_sem] rK H6 Mf ID Hz
attribute [go_sem] jD HZ Me IC Bi Il xD rQ yp
attribute [go_sem] ym yj yh yg yf ye yd Ik HY Mc rI rP yc ya x9 x8 Bq HX
attribute [go_sem] xC rO x7 x6 Ij HW Mb rH rN xZ xY Bp HV Ma
attribute [go_sem] dh HU L9 IB jC xJ HM xX xV vA L8
attribute [go_sem] jc
attribute [go_sem] HT L7 HL IA eU vz Iz Hy pF HR L6 Iy Hw
attribute [go_sem] Ii HQ xB rM xU xT xS xR xQ xP xO xN
attribute [go_sem] jr Iu L4 FH L0 FG EB vP vO vN
attribute [go_sem] LZ vH
attribute [go_sem] vG
attribute [go_sem] pz lz vM vL vK vF vE
attribute [go_sem] EA
attribute [go_sem] LY FF
attribute [go_sem] vD Ez
attribute [go_sem] Ey LX FE
attribute [go_sem] Ew uk qA
attribute [go_sem] Ev
attribute [go_sem] Dx Dw Dv Du Dr Dq Dp Dn Dm Dl Dk Dj Di Dh Dg Df De Dd Da C9 C8 C7 C6 C5 C4
attribute [go_sem] C3 C2 C1 C0 CZ CY CX CW CV CU CT CS CR CQ CP CO CN CM CL CK CJ CI CH CG CF CE CD CC CB CA Cz Cy Cx Cw Cv Nz JR Cu Ct
attribute [go_sem] Cs Cr Cq Cp Co Cn Ny JQ Cm Cj Ci Ch Cg Cf Ce Cd Cc Cb Ca B9 B8 AB AA Az Ay Aw Av Au As
attribute [go_sem] Ar Aq Ap Ao Am Al Ak Aj Ai Ah Ag Af Ae Ad Ac Ab Aa z8 z7 JP z6
attribute [go_sem] zZ zY zX zW zV zU zT JO GL zS JN GK zR
attribute [go_sem] Qh Qg Qf
attribute [go_sem] Qe Qd DW KK G5 DV DU KJ G4 DT G3 G8 DZ DY G7 G6 DX A1 vh tu tv D1 D0 A3
end Go.Proofs.YtdppgaphcmhffaaGreatDoor.V
namespace Go.Proofs.YtdppgaphcmhffaaGreatDoor.V
open Go Go.RowKit

inductive Ck where
 | b | i (k:IntKind) | s
section
variable {H:Type} {enc:TypeId × Value→H} {P:Program} {W:World} {base:Nat} {sp:Nat→Bool} {held:Bool}

theorem IV {P:Program} {fits:TypeId→Bool} {d:Nat} {e:TypeId} {cells off n:Nat} (h:rowAt P fits d e (cells / P.cellsOf e) off n=true):off≤cells:=by
 cases d with
 | zero=>cases h
 | succ d =>
  simp only [rowAt] at h
  by_cases hs:P.cellsOf e=0
  ·rw [if_pos hs] at h; cases h
  ·rw [if_neg hs] at h
   have hm:=Nat.div_add_mod off (P.cellsOf e)
   have hlt:=Nat.mod_lt off (Nat.pos_of_ne_zero hs)
   have hc:=Nat.mul_div_le cells (P.cellsOf e)
   rw [Bool.or_eq_true,Bool.and_eq_true,Bool.and_eq_true,Bool.and_eq_true] at h
   obtain ⟨⟨h1,h2⟩,_⟩ | ⟨h1,_⟩:=h
   ·simp only [beq_iff_eq,decide_eq_true_eq] at h1 h2
    have:P.cellsOf e*(off / P.cellsOf e)≤P.cellsOf e*(cells / P.cellsOf e):=Nat.mul_le_mul_left _ (by omega)
    omega
   ·simp only [decide_eq_true_eq] at h1
    have:P.cellsOf e*(off / P.cellsOf e+1)≤P.cellsOf e*(cells / P.cellsOf e):=Nat.mul_le_mul_left _ (by omega)
    rw [Nat.mul_add,Nat.mul_one] at this
    omega
theorem uP {P:Program}:∀ {d:Nat} {e:TypeId} {cells off:Nat} {u:TypeId} {n:Nat},liesAt P d e (cells / P.cellsOf e) off u n=true→off≤cells
 | 0,_,_,_,_,_,h=>by cases h
 | d+1,e,cells,off,u,n,h=>by
  simp only [liesAt,Bool.or_eq_true] at h
  obtain h | h:=h
  ·exact IV h
  ·split at h
   ·exact uP h
   ·cases h

def rows:List (List AV)→List AV:=List.flatten

theorem I1 {μ:Mu} {a:Addr} {cap:Nat} {rs:List AV} {vs:List Value} {row:TypeId} {cells:Nat} (hs:a.spot=none) (hv:aA μ rs=some vs) (hc:∀ (j:Nat) (v:Value),vs[j]?=some v→W.cell? (a.add j)=some v)
  (hsh:W.shape? a.block=some (row,cells)) (hle:a.off≤cells):mO P μ W ⟨a.block,a.off,cap⟩ (.cells rs row .ro):=by
 unfold World.shape? at hsh
 split at hsh
 ·rename_i cc el fz hb
  simp only [Option.some.injEq,Prod.mk.injEq] at hsh
  obtain ⟨rfl,rfl⟩:=hsh
  have hcell:∀ (j:Nat) (v:Value),vs[j]?=some v→cc[a.off+j]?=some v:=by
   intro j v hj
   have h1:=hc j v hj
   have hblk:(a.add j).block=a.block:=by unfold Addr.add; split <;> rfl
   have hsp:(a.add j).spot=none:=by unfold Addr.add; split; exact hs; rfl
   have hoff:(a.add j).off=a.off+j:=by unfold Addr.add; split; omega; rfl
   unfold World.cell? at h1
   rw [hblk,hb,hoff,hsp] at h1
   simpa using h1
  refine ⟨cc,fz,vs,hb,hv,?_,hcell,trivial⟩
  rw [← aX hv]
  show a.off+vs.length≤cc.size
  by_cases hz:vs.length=0
  ·omega
  ·have:=hcell (vs.length - 1) vs[vs.length - 1] (List.getElem?_eq_getElem (by omega))
   have:=(Array.getElem?_eq_some_iff.1 this).1
   omega
 ·cases hsh

def start (W:World):Gh:=⟨(· < W.heap.size),W,fun _=>False,([],false)⟩
theorem aY.ro {g:Gh} {μ:Mu} {Hh:Hp} (h:aY P g μ Hh W) (hno:∀ x ∈ Hh,apart x=false) {l:Loc} {c:List AV} {e:TypeId} (hl:l.blk < W.heap.size) (hx:mO P μ W l (.cells c e .ro)) :
  aY P g (upd μ Hh.length l) (Hh++[.cells c e .ro]) W where
 dom:=fun b l' e=>by
  by_cases hb:b=Hh.length
  ·subst hb; simp
  ·rw [bf _ _ hb] at e
   have:=h.dom b l' e
   simp; omega
 eK:=fun i hi=>by
  obtain ⟨c,hc⟩:=h.eK i hi
  exact ⟨c,h.dD _ _ _ hc⟩
 lt:=fun b l' e=>by
  by_cases hb:b=Hh.length
  ·subst hb; rw [bI] at e; cases e; exact hl
  ·rw [bf _ _ hb] at e; exact h.lt b l' e
 blk:=fun b l' x e e'=>by
  rw [eL] at e'
  by_cases hb:b=Hh.length
  ·subst hb
   rw [bI] at e
   rw [if_pos rfl] at e'
   cases e; cases e'
   exact hx.mono (h.dD _) (fun _=>rfl)
  ·rw [bf _ _ hb] at e
   rw [if_neg hb] at e'
   exact (h.blk b l' x e e').mono (h.dD _) (fun _=>rfl)
 sep:=fun b b' l1 l2 x x' hne e1 e2 hx1 hx2 hw hv=>by
  exfalso
  rw [eL] at hx1
  split at hx1
  ·cases hx1; cases hw
  ·rw [hno x (List.mem_of_getElem? hx1)] at hw; cases hw
 own:=fun b l1 x e1 hx1 hw=>by
  exfalso
  rw [eL] at hx1
  split at hx1
  ·cases hx1; cases hw
  ·have:=xw hw; rw [hno x (List.mem_of_getElem? hx1)] at this; cases this
 old:=h.old
 os:=h.os
 tape:=h.tape
 output:=h.output
 size:=h.size
theorem yL {μ:Mu} {Hh:Hp} {w':World} (h:aY P (start W) μ Hh w'):Below W.heap.size W w' :=
 ⟨h.os,h.tape,h.output,h.size,fun k hk=>(h.old k hk).2⟩
theorem KU {f:FuncId} {args:List AV} {Hh:Hp} {q:AV × Hp × Ef} {g:Gh} {μ:Mu} {vs:List Value} (hf:aj P f=true) (h:ag P f args Hh (fun r=>r=q)) (hr:aY P g μ Hh W) (hv:aA μ args=some vs) :
  Calls P f vs.toArray W (fun e w'=>∃ μ' v',e=.returned v'∧Ok P g μ Hh q μ' v' w'):=by
 obtain ⟨n,r,hn,rfl⟩:=h
 have hlt:f < P.funcs.size:=by
  unfold aj at hf
  split at hf
  ·rename_i fn hfn; exact (Array.getElem?_eq_some_iff.1 hfn).1
  ·cases hf
 exact (Qy P n).fn f args Hh r hlt hn g μ W vs hr hv
end
section
variable {H:Type} {enc:TypeId × Value→H} {P:Program} {W:World} {base:Nat} {sp:Nat→Bool} {held:Bool}

theorem gQ {n:String} {g:Nat} {cs:Array Value} (hg:P.globalNamed n=some g) (h:W.var? P n=some cs):∃ e fr,W.heap[g]?=some (.cells cs e fr):=by
 unfold World.var? at h
 rw [hg] at h
 simp only [Option.bind_some] at h
 split at h
 ·rename_i c e fr hb
  cases h
  exact ⟨e,fr,hb⟩
 ·cases h
theorem fj {μ:Mu} {g:Nat} {cs:Array Value} {e:TypeId} {fr:Nat × Nat} {vs:List AV} (hb:W.heap[g]?=some (.cells cs e fr)) (hv:aA μ vs=some cs.toList):mO P μ W ⟨g,0,0⟩ (.cells vs e .ro):=by
 refine ⟨cs,fr,cs.toList,hb,hv,?_,fun i v hi=>?_,trivial⟩
 ·have:=aX hv; simp only [Array.length_toList] at this; show 0+vs.length≤_; omega
 ·simpa using hi

theorem yN {n:Nat} (hn:P.globals.size=n) (h:W.ShapedOpen P) (hz:((((begin P (fun _ _=>0) default).world.heap)[n - 1]?).bind Obj.row?).isSome=true):n≤W.heap.size:=by
 by_cases h0:n=0
 ·omega
 ·obtain ⟨⟨z,t⟩,hx⟩:=Option.isSome_iff_exists.1 hz
  obtain ⟨cs,hcs,_⟩:=h.1 (n - 1) z t (by omega) hx
  have:=(Array.getElem?_eq_some_iff.1 hcs).1
  omega

end
end Go.Proofs.YtdppgaphcmhffaaGreatDoor.V
namespace Go.Proofs.YtdppgaphcmhffaaGreatDoor.V
open Go

def aC (n:Nat):UInt8:=if n < 10 then UInt8.ofNat (48+n) else UInt8.ofNat (87+n)
def FI (c:UInt8):List UInt8:=[aC (c.toNat / 16),aC (c.toNat % 16)]
def mM (s:List UInt8):List UInt8:=s.flatMap FI
def bF (n:Nat):List UInt8:=if n < 10 then [aC n] else bF (n / 10)++[aC (n % 10)]
termination_by n
decreasing_by omega
theorem E8 {n:Nat} (h:n < 16):([48,49,50,51,52,53,54,55,56,57,97,98,99,100,101,102]:List UInt8)[n]?=some (aC n):=by
 have:∀ n:Fin 16,([48,49,50,51,52,53,54,55,56,57,97,98,99,100,101,102]:List UInt8)[n.val]?=some (aC n.val):=by decide
 exact this ⟨n,h⟩
theorem ND {n:Nat} (h:n < 16):((([48,49,50,51,52,53,54,55,56,57,97,98,99,100,101,102]:List UInt8).drop n).take 1)=[aC n]:=by
 have:∀ n:Fin 16,((([48,49,50,51,52,53,54,55,56,57,97,98,99,100,101,102]:List UInt8).drop n.val).take 1)=[aC n.val]:=by decide
 exact this ⟨n,h⟩
theorem tq:∀ (n:Nat),n < 100000→(bF n).length≤5:=by
 intro n h
 unfold bF
 split
 ·simp
 rw [List.length_append]
 unfold bF
 split
 ·simp
 rw [List.length_append]
 unfold bF
 split
 ·simp
 rw [List.length_append]
 unfold bF
 split
 ·simp
 rw [List.length_append]
 unfold bF
 rw [if_pos (by omega)]
 simp
theorem lJ (s:List UInt8):(mM s).length=2*s.length:=by
 induction s with
 | nil=>rfl
 | cons c s ih=>show (FI c++mM s).length=_; rw [List.length_append,ih,List.length_cons]; show 2+_=_; omega
theorem cu {α:Type} {l:List α} {i:Nat} {a:α} (h:l[i]?=some a):l.take (i+1)=l.take i++[a]:=by
 rw [List.take_add_one,h]; rfl
theorem uU {s:List UInt8} {i:Nat} {c:UInt8} (h:s[i]?=some c):mM (s.take (i+1))=mM (s.take i)++FI c:=by
 rw [cu h]; simp [mM]
theorem uf {s:List UInt8} {i:Nat} {c:UInt8} {p:UInt8→Bool} (h:s[i]?=some c) (ha:(s.take i).all p=true) (hc:p c=true):(s.take (i+1)).all p=true:=by
 rw [cu h,List.all_append,ha]; simp [hc]
theorem Fu {s:List UInt8} {i:Nat} {c:UInt8} {p:UInt8→Bool} (h:s[i]?=some c) (hc:p c=false):s.all p=false:=by
 rw [List.all_eq_false]
 exact ⟨c,List.mem_of_getElem? h,by simp [hc]⟩
def Kh:bp→Bool
 | .cells _ e (.op _ _)=>!(e == 5)
 | .dead=>false
 | _=>true
def lp (T:Hp) (j:Nat) (T':Hp):Prop:=T.length≤T'.length∧∀ (i:Nat) x,i≠j→T[i]?=some x→Kh x=true→T'[i]?=some x
theorem lp.refl (T:Hp) (j:Nat):lp T j T:=⟨Nat.le_refl _,fun i x _ h _=>h⟩
theorem lp.trans {T T' T'':Hp} {j:Nat} (h:lp T j T') (h':lp T' j T''):lp T j T'' :=
 ⟨Nat.le_trans h.1 h'.1,fun i x hi hx hf=>h'.2 i x hi (h.2 i x hi hx hf) hf⟩
def Cl (n j:Nat) (e:Ef):Prop:=∃ x,e.es=some x∧n≤x∧x≤n+j∧low n e.ws=none
theorem Cl.cln {n j:Nat} {e:Ef} (h:Cl n j e):clean n e:=by
 obtain ⟨x,h1,h2,h3,h4⟩:=h
 exact ⟨by rw [h1]; simp [low,h2],h4⟩
theorem uK {x:Nat} {o:Option Nat} {n:Nat} (hx:n≤x) (ho:low n o=none):∃ y,eD (some x) o=some y∧n≤y∧y≤x:=by
 cases o with
 | none=>exact ⟨x,rfl,hx,Nat.le_refl _⟩
 | some z =>
  refine ⟨min x z,rfl,?_,Nat.min_le_left _ _⟩
  have:n≤z:=by rw [oE] at ho; exact ho
  omega
theorem pV (a b:Option Nat):eD a b=eD b a:=by
 cases a <;> cases b <;> simp [eD,Nat.min_comm]
theorem Cl.Uo {n j:Nat} {a b:Ef} (h:Cl n j a) (h':clean n b):Cl n j (a.and b):=by
 obtain ⟨x,h1,h2,h3,h4⟩:=h
 obtain ⟨y,y1,y2,y3⟩:=uK (o:=b.es) h2 h'.1
 exact ⟨y,by show eD a.es b.es=_; rw [h1,y1],y2,by omega,oF h4 h'.2⟩
theorem Cl.Ea {n j:Nat} {a b:Ef} (h:clean n a) (h':Cl n j b):Cl n j (a.and b):=by
 obtain ⟨x,h1,h2,h3,h4⟩:=h'
 obtain ⟨y,y1,y2,y3⟩:=uK (o:=a.es) h2 h.1
 exact ⟨y,by show eD a.es b.es=_; rw [pV,h1,y1],y2,by omega,oF h.2 h4⟩
theorem kB {n m:Nat} {o:Option Nat} (h:low n o=none):low n (low m o)=none:=by
 cases o with
 | none=>rfl
 | some x =>
  rw [oE] at h
  by_cases hm:m≤x
  ·simp [low,hm]
  ·simp [low,hm,h]
theorem Cl.leave {n j m:Nat} {e:Ef} (h:Cl n j e) (hj:n+j < m):∃ e',Cl n j e'∧∀ v H,leave m v H e=(v,H,e'):=by
 obtain ⟨x,h1,h2,h3,h4⟩:=h
 have h5:low m e.es=some x:=by
  have:¬ m≤x:=by omega
  rw [h1]; simp [low,this]
 refine ⟨⟨low m e.es,low m e.ws⟩,⟨x,h5,h2,h3,kB h4⟩,fun v H=>?_⟩
 unfold V.leave
 rw [if_neg (by rw [h5]; simp)]
theorem ai {T:Hp} {j:Nat} {x:bp} (h:T[j]?=some x):j < T.length:=(List.getElem?_eq_some_iff.1 h).1
theorem eT {T:Hp} {j:Nat} {x:bp} (h:T[j]?=some x):T.set j x=T:=by
 apply List.ext_getElem?
 intro i
 by_cases hi:j=i
 ·subst hi; rw [List.getElem?_set_self (ai h),h]
 ·rw [List.getElem?_set_ne hi]
theorem lse {T l:Hp} {j:Nat} {v:bp}:(T.set j v++l)[T.length]?=l[0]?:=by
 rw [List.getElem?_append_right (by simp)]; simp
attribute [go_sem] lse
theorem dP {n m:Nat} (h:m < n):low n (some m)=some m:=by
 have:¬ n≤m:=by omega
 simp [low,this]
theorem JA {n:Nat} {v:AV} {H:Hp} {e:Ef} {x:Nat} (h:low n e.es=some x):leave n v H e=(v,H,⟨some x,low n e.ws⟩):=by
 unfold leave; rw [if_neg (by rw [h]; simp),h]
theorem ah {T l:Hp} {i:Nat} {x:bp} (h:T[i]?=some x):(T++l)[i]?=some x:=iC h
theorem TK {kd:IntKind} {a b:Int} (h:decide (b < 0)=false):ig .shr kd a b=some (.int kd (a.fdiv (2 ^ (min b.toNat kd.bits)))):=by
 have:¬ b < 0:=by simpa using h
 simp only [ig]; rw [if_neg this]
theorem TL {kd:IntKind} {a b:Int} (h:decide (b < 0)=false):ig .shl kd a b=some (.int kd (kd.wrap (a*2 ^ (min b.toNat kd.bits)))):=by
 have:¬ b < 0:=by simpa using h
 simp only [ig]; rw [if_neg this]
theorem La:IntKind.bits .i64=64:=rfl
theorem K7:IntKind.bits .u64=64:=rfl
theorem Oy:IntKind.bits .u8=8:=rfl
theorem K9:IntKind.bits .u16=16:=rfl
theorem K8:IntKind.bits .u32=32:=rfl
theorem Fx {n:Nat} (h:decide (n < 9223372036854775808)=true):IntKind.i64.wrap (no_index (@OfNat.ofNat Int n instOfNat))=@OfNat.ofNat Int n instOfNat:=by
 have h:n < 9223372036854775808:=of_decide_eq_true h
 show IntKind.i64.wrap (n:Int)=(n:Int)
 exact wrap_i64 (by omega)
theorem Fw {n:Nat} (h:decide (n < 18446744073709551616)=true):IntKind.u64.wrap (no_index (@OfNat.ofNat Int n instOfNat))=@OfNat.ofNat Int n instOfNat:=by
 have h:n < 18446744073709551616:=of_decide_eq_true h
 show IntKind.u64.wrap (n:Int)=(n:Int)
 exact wrap_u64 (by omega)
attribute [go_sem] Fx Fw
attribute [go_sem] TK TL La K7 Oy K9 K8

theorem ofNat_le {n m:Nat} (h:n≤m) (hm:m < 256):(UInt8.ofNat n).toNat=n:=by
 have:n < 256:=by omega
 exact UInt8.toNat_ofNat_of_lt' (by simpa using this)
theorem Lb {P:Program} {t:TypeId} {b o n:Nat} {c:Cap} {kd:IntKind} {i:Int} {f:AV→Prop} (h:(match tsh P t with | some (.slice _ _ _)=>true | _=>false)=true) :
  aq (aN P t (.slice b o n c) (.int kd i)) f=aq (tsh P t) fun sh=>(0≤i∧i < n)∧f (.ptr b (o+i.toNat*shZ sh)):=by
 split at h
 ·rename_i e z w he
  simp only [aN,he,eB,aD,shZ]
 ·cases h
theorem Lc {P:Program} {t:TypeId} {b o:Nat} {kd:IntKind} {i:Int} {f:AV→Prop} (h:(match tsh P t with | some (.array _ _ _)=>true | _=>false)=true) :
  aq (aN P t (.ptr b o) (.int kd i)) f=aq (tsh P t) fun sh=>(0≤i∧i < (shA sh).1)∧f (.ptr b (o+i.toNat*(shA sh).2)):=by
 split at h
 ·rename_i e z w he
  simp only [aN,he,eB,aD,shA]
 ·cases h
attribute [go_sem ↓] Lb Lc
theorem Hg:aZ.bytesOf []=some []:=rfl
theorem Hi {b:UInt8} {r:List AV}:aZ.bytesOf (.int .u8 (b.toNat:Int)::r)=(aZ.bytesOf r).map (b::·):=by
 show (aZ.bytesOf r).map (UInt8.ofNat ((b.toNat:Int)).toNat::·)=_
 simp
attribute [go_sem] Hg Hi
theorem cp {n:Nat} {v:AV} {H:Hp} {w:Option Nat} (hv:flat v=true) (h:H.length=n):leave n v H ⟨none,w⟩=(v,H,⟨none,low n w⟩):=by
 unfold leave
 have hlo:low n none=none:=rfl
 simp only [hlo,hv,and_self,if_true]
 rw [List.take_of_length_le (by omega)]
theorem LF {a:Nat}:Ef.and ⟨none,some a⟩ ⟨none,some a⟩=⟨none,some a⟩:=by simp [Ef.and,eD]
attribute [go_sem] LF
theorem Pn {a b:List UInt8} {H:Hp} (h:a=b):(AV.str a,H,z0)=(AV.str b,H,z0):=by rw [h]
theorem cI {α:Type} {P:Program} {f:FuncId} {args:List AV} {H:Hp} (p:α→Prop) (g:α→AV × Hp × Ef) (h:ag P f args H (fun q=>∃ b,p b∧q=g b)):∃ b,p b∧∀ k,ag P f args H k=k (g b):=by
 obtain ⟨r,hr⟩:=Bb (fun r:{b:α // p b}=>g r.1) (bG h (fun q ⟨b,hb,hq⟩=>⟨⟨b,hb⟩,hq⟩))
 exact ⟨r.1,r.2,hr⟩
def xh (P:Program) (Q:Ex→St→Prop) (k:List It) (I:St→Prop):Ex→St→Prop
 | .normal,s=>I s
 | .exit i,s=>aH P Q i k s
 | ex,s=>gD P Q k ex s
section
variable {P:Program} {Q:Ex→St→Prop} {k:List It} {σ:List AV} {H:Hp} {e:Ef} {I:St→Prop}
instance [hc:Calm Q]:Calm (xh P Q k I):=⟨fun s h=>hc.no s ((fL (P:=P) (Q:=Q) k s) ▸ h)⟩
theorem Q1:xh P Q k I .pan ⟨σ,H,e⟩=Q .pan ⟨σ,H,e⟩:=fL k _
theorem Q2:xh P Q k I .normal ⟨σ,H,e⟩=I ⟨σ,H,e⟩:=rfl
theorem Q3 {i:Nat}:xh P Q k I (.exit i) ⟨σ,H,e⟩=aH P Q i k ⟨σ,H,e⟩:=rfl
theorem Q0:xh P Q k I .ret ⟨σ,H,e⟩=Q .ret ⟨σ,H,e⟩:=gW k _
attribute [go_sem ↓] Q2 Q3 Q0 Q1
theorem go_cut {c:Code} {s:St} (I:St→Prop) (h:go P (xh P Q k I) [.code c] s) (h2:∀ s,I s→go P Q k s):go P Q (.code c::k) s:=by
 refine lO (Q:=xh P Q k I) h (fun ex s hq=>?_)
 cases ex with
 | normal=>exact h2 s hq
 | exit i=>exact hq
 | goto l=>exact hq
 | ret=>exact hq
 | pan=>exact hq
theorem qj {b:Bool} {a a':Code} {s:St} (I:St→Prop) (h:b=true→go P (xh P Q k I) [.code a] s) (h':b=false→go P (xh P Q k I) [.code a'] s) (h2:∀ s,I s→go P Q k s) :
  tw (some (.bool b)) (go P Q (.code a::k) s) (go P Q (.code a'::k) s) :=
 A4 (fun hb=>go_cut I (h hb) h2) (fun hb=>go_cut I (h' hb) h2)
end
attribute [local irreducible] go bt goD opK ag bx aF aH bC
theorem iF {a b:List UInt8} {m n:Nat} (ha:a.length≤m) (hb:b.length≤n) (h:m+n≤9223372036854775807):qS .add a b=some (.str (a++b)):=by
 rw [OP,if_pos (by show _≤9223372036854775807; omega)]
theorem vt (a b:UInt8):((a.toNat:Int) == (b.toNat:Int))=decide (a=b):=by
 rw [Bool.eq_iff_iff]; simp only [beq_iff_eq,decide_eq_true_eq]
 constructor
 ·intro h; exact UInt8.toNat.inj (by omega)
 ·rintro rfl; rfl
theorem Jd {v:AV} {H:Hp} {x:bp} {e:Ef}:quiet (v,H++[x],e) H=false:=by simp [quiet]
theorem Jc {v:AV} {H T:Hp} {x:bp} {e:Ef}:quiet (v,H++(T++[x]),e) (H++T)=false:=by simp [quiet]
attribute [go_sem] Jd Jc
def bZ (n:Nat) (T:Hp) (v:AV) (e z len:Nat) (cs:List AV):Prop:=(v=.aI∧cs=[]∧len=0)∨(0 < len∧cs.length=len*z∧∃ m,v=.slice (n+m) 0 len (.op 0)∧T[m]?=some (.cells cs e (.op 0 false)))
theorem bZ.scl {n:Nat} {T:Hp} {v:AV} {e z len:Nat} {cs:List AV} (h:bZ n T v e z len cs):cK v=true:=by
 obtain ⟨rfl,_⟩ | ⟨_,_,m,rfl,_⟩:=h <;> rfl
theorem bZ.more {n:Nat} {T:Hp} {v:AV} {e z len:Nat} {cs:List AV} (h:bZ n T v e z len cs) (l:Hp):bZ n (T++l) v e z len cs:=by
 obtain h | ⟨h1,h2,m,rfl,hm⟩:=h
 ·exact .inl h
 ·exact .inr ⟨h1,h2,m,rfl,ah hm⟩
theorem bZ.set {n:Nat} {T:Hp} {v:AV} {e z len:Nat} {cs:List AV} (h:bZ n T v e z len cs) {j:Nat} {c:List AV} {e':TypeId} {x:bp} (hj:T[j]?=some (.cells c e' .rw)):bZ n (T.set j x) v e z len cs:=by
 obtain h | ⟨h1,h2,m,rfl,hm⟩:=h
 ·exact .inl h
 ·refine .inr ⟨h1,h2,m,rfl,?_⟩
  have:j≠m:=by rintro rfl; rw [hj] at hm; cases hm
  rw [List.getElem?_set_ne this]; exact hm
theorem bZ.D9 {P:Program} {H T:Hp} {v:AV} {e z b len:Nat} {cs:List AV} (h:bZ H.length T v e z len cs) (hz:decide (0 < z)=true) (hk:zok P e z=true) (xs:List AV) (q:Nat) (hq:0 < q) (hx:xs.length=q*z) (hsc:xs.all V.cK=true) (hf:fits (len+q) b=true) :
  ∃ v' T2 e2,(∀ kk,aF (c9 P (.slice e z b) v (xs,q) (H++T)) kk=kk (v',H++T2,e2))∧T2.length=T.length+1∧clean H.length e2∧(∀ (i:Nat) x,T[i]?=some x→(∀ c fz st,x≠.cells c e (.op fz st))→T2[i]?=some x)∧bZ H.length T2 v' e z (len+q) (cs++xs)∧flat v'=false∧bH v'=[v']∧∀ v e,quiet (v,H++T2,e) (H++T)=false:=by
 have hz':0 < z:=by simpa using hz
 obtain ⟨rfl,rfl,rfl⟩ | ⟨hpos,hcl,m,rfl,hm⟩:=h
 ·refine ⟨.slice (H.length+T.length) 0 q (.op 0),T++[.cells xs e (.op 0 false)],z0,fun kk=>?_,by simp,⟨rfl,rfl⟩,fun i x hx _=>ah hx,.inr ⟨by omega,by simpa using hx,T.length,by simp,by simp⟩,by simp only [flat],rfl,fun v e=>by simp [quiet]⟩
  rw [dS hz hk]
  have hd:decide (q=0)=false:=by simp; omega
  have hf:fits q b=true:=by simpa using hf
  simp only [hd,cn,hf,true_and,List.length_append,List.append_assoc]
 ·have hlt:=ai hm
  have hg:(H++T)[H.length+m]?=some (.cells cs e (.op 0 false)):=by rw [bX,hm]
  refine ⟨.slice (H.length+T.length) 0 (len+q) (.op 0),T.set m .dead++[.cells (cs++xs) e (.op 0 false)],⟨none,some (H.length+m)⟩,fun kk=>?_,by simp,by simp [clean,low],fun i x hx hf=>?_,.inr ⟨by omega,by rw [List.length_append,hcl,hx,Nat.add_mul],T.length,rfl,by simp⟩,by simp only [flat],rfl,fun v e=>by simp [quiet]⟩
  ·rw [eC hz hk,hg]
   simp only [aD,hU]
   have hqz:0 < q*z:=Nat.mul_pos hq hz'
   have hd:decide (0+(len+q)*z≤cs.length)=false:=by
    rw [hcl,Nat.add_mul]; simp; omega
   have ht:(List.drop 0 cs).take (len*z)++xs=cs++xs:=by
    rw [List.drop_zero,List.take_of_length_le (by rw [hcl]; exact Nat.le_refl _)]
   have hle:0+len*z≤cs.length:=by rw [hcl]; omega
   rw [hd,cn]
   simp only [ht,hf,hsc,hle,gz,List.length_append,List.append_assoc,Nat.sub_self,Nat.zero_le,true_and,and_true,Nat.zero_mul]
  ·have hne:m≠i:=by
    rintro rfl
    rw [hm] at hx; cases hx; exact absurd rfl (hf _ _ _)
   rw [ah (x:=x)]
   rw [List.getElem?_set_ne hne]; exact hx
theorem fK {α:Type} {s:List α} {i:Nat} {c:α} (h:s[i]?=some c):s.drop i=c::s.drop (i+1):=by
 obtain ⟨hi,rfl⟩:=List.getElem?_eq_some_iff.1 h
 exact List.drop_eq_getElem_cons hi
def strs (R:List (List UInt8)):List AV:=R.map .str
attribute [go_sem] Nat.mul_one
theorem od {R:List (List UInt8)}:(strs R).length=R.length:=by simp [strs]
theorem FN {A:List (List UInt8)} {k:Nat} {q:List UInt8} (h:A[k]?=some q):strs (A.take k)++[.str q]=strs (A.take (k+1)):=by
 rw [cu h]; simp [strs]
theorem Mq {A:List (List UInt8)} {i:Nat} {p:List UInt8} (h:A[i]?=some p):(strs A)[i]?=some (.str p):=by simp [strs,h]
theorem iK {A:List (List UInt8)} {i:Nat} {p:List UInt8} (h:A[i]?=some p) (e:TypeId) (k:Kd):ldC i 1 false (.cells (strs A) e k)=some (.str p):=by
 rw [sE]; exact Mq h
end Go.Proofs.YtdppgaphcmhffaaGreatDoor.V
namespace Go.Proofs.YtdppgaphcmhffaaGreatDoor.V
open Go
attribute [local irreducible] go bt goD opK ag bx aF aH bC

def GG:Nat→List UInt8→Option (List (List UInt8))
 | 0,_=>none
 | _+1,[]=>none
 | n+1,k::t=>if k.toNat=0 then (if t.length=0 then some [] else none) else if 63 < k.toNat∨t.length < k.toNat then none else (GG n (t.drop k.toNat)).map (t.take k.toNat::·)
theorem uR:∀ (n m:Nat) (s:List UInt8),s.length < n→s.length < m→GG n s=GG m s
 | 0,_,s,h,_=>by omega
 | _+1,0,s,_,h=>by omega
 | n+1,m+1,[],_,_=>rfl
 | n+1,m+1,k::t,h,h'=>by
  simp only [GG]
  simp only [List.length_cons] at h h'
  rw [uR n m (t.drop k.toNat) (by rw [List.length_drop]; omega) (by rw [List.length_drop]; omega)]
def lab (s:List UInt8):Option (List (List UInt8)):=GG (s.length+1) s
theorem wA:lab []=none:=rfl
theorem fR (k:UInt8) (t:List UInt8):lab (k::t)=if k.toNat=0 then (if t.length=0 then some [] else none) else if 63 < k.toNat∨t.length < k.toNat then none else (lab (t.drop k.toNat)).map (t.take k.toNat::·):=by
 unfold lab
 rw [List.length_cons,GG,uR (t.length+1) _ (t.drop k.toNat) (by rw [List.length_drop]; omega) (Nat.lt_succ_self _)]
def nm (s:List UInt8):Option (List (List UInt8)):=if 255 < s.length then none else lab s
def tot (L:List (List UInt8)):Nat:=(L.map fun l=>1+l.length).sum
def zc:Nat→List (List UInt8)→List Nat
 | _,[]=>[]
 | a,l::L=>a::zc (a+(1+l.length)) L
def ou (L:List (List UInt8)):List AV:=(zc 0 L).map fun n=>.int .i64 (n:Nat)
theorem xL (L:List (List UInt8)) (l:List UInt8):tot (L++[l])=tot L+(1+l.length):=by simp [tot]
theorem uH:∀ (L:List (List UInt8)) (a:Nat) (l:List UInt8),zc a (L++[l])=zc a L++[a+tot L]
 | [],a,l=>by simp [zc,tot]
 | m::L,a,l=>by
  have:=uH L (a+(1+m.length)) l
  simp only [List.cons_append,zc,this]
  simp [tot]; omega
theorem Gg (L:List (List UInt8)) (l:List UInt8):ou (L++[l])=ou L++[.int .i64 (tot L:Nat)]:=by
 simp only [ou,uH,List.map_append,List.map_cons,List.map_nil,Nat.zero_add]
theorem JC {s:List UInt8} {i:Nat} {c:UInt8} {L1:List (List UInt8)} (hc:s[i]?=some c) (hl:lab s=(lab (s.drop i)).map (L1++·)) :
  (c.toNat=0→lab s=if i+1=s.length then some L1 else none)∧(63 < c.toNat→lab s=none) ∧
  (c.toNat≠0→c.toNat≤63→(s.length < i+(1+c.toNat)∧lab s=none)∨(i+(1+c.toNat)≤s.length∧((s.drop (i+1)).take c.toNat).length=c.toNat∧lab s=(lab (s.drop (i+(1+c.toNat)))).map ((L1++[(s.drop (i+1)).take c.toNat])++·))):=by
 have hi:i < s.length:=(List.getElem?_eq_some_iff.1 hc).1
 rw [fK hc,fR] at hl
 refine ⟨fun h0=>?_,fun h=>?_,fun h0 h1=>?_⟩
 ·rw [if_pos h0] at hl
  rw [hl,List.length_drop]
  by_cases h:i+1=s.length
  ·rw [if_pos h,if_pos (by omega)]; simp
  ·rw [if_neg h,if_neg (by omega)]; rfl
 ·rw [if_neg (by omega),if_pos (.inl h)] at hl
  exact hl
 ·rw [if_neg h0,List.length_drop] at hl
  by_cases h:s.length < i+(1+c.toNat)
  ·rw [if_pos (by omega)] at hl
   exact .inl ⟨h,hl⟩
  ·rw [if_neg (by omega)] at hl
   refine .inr ⟨by omega,by rw [List.length_take,List.length_drop]; omega,?_⟩
   rw [hl,List.drop_drop,show i+1+c.toNat=i+(1+c.toNat) by omega,Option.map_map]
   congr 1
   funext x
   simp
theorem Nj {s:List UInt8} {i:Nat} {L1:List (List UInt8)} (hi:i=s.length) (hl:lab s=(lab (s.drop i)).map (L1++·)):lab s=none:=by
 rw [hl,hi,List.drop_length,wA]; rfl

theorem D4 (n:Int) (H:Hp):aO Tryz.prog 88 1 [(0,.int .i64 n)] H=some (.slice H.length 0 1 (.ex 1),H++[.cells [.int .i64 n] 3 .rw]):=by
 simp only [aO,vz,El,Option.bind_some]
 rfl

theorem qK (s:List UInt8) (H) (hs:s.length≤cg):∃ b:AV × Hp,(∀ L,nm s=some L→bZ H.length b.2 b.1 3 1 L.length (ou L)) ∧
  ∀ k,ag Tryz.prog 39 [.str s] H k=k (.tuple [b.1,.bool (nm s).isSome],H++b.2,z0):=by
 refine cI (fun b:AV × Hp=>∀ L,nm s=some L→bZ H.length b.2 b.1 3 1 L.length (ou L)) (fun b=>(.tuple [b.1,.bool (nm s).isSome],H++b.2,z0)) ?_
 refine aa (n:=40) (rs:=[.tmp 2,.tmp 3]) Tryz.func39 rfl rfl rfl ?_
 intro σ hl ha
 have h0:=ha 0 (by simp)
 clear ha
 have hs:s.length≤9223372036854775807:=hs
 simp only [Option.getD_some,List.getElem?_cons_zero,List.getElem?_cons_succ] at h0
 by_cases hbig:255 < s.length
 ·have g:decide ((s.length:Int) > 255)=true:=by simp; omega
  have hn:nm s=none:=if_pos hbig
  simp only [go_sem,simprocAttr,hl,h0,g]
  exact ⟨(.aI,[]),by simp [hn],by simp [hn]⟩
 have g:decide ((s.length:Int) > 255)=false:=by simp; omega
 have hnm:nm s=lab s:=if_neg hbig
 simp only [go_sem,simprocAttr,hl,h0,g]
 rw [hnm]
 refine go_rounds (fun n st=>∃ σ i L1 v T e,n+i=400∧i < 320∧i=tot L1∧((i≤s.length∧lab s=(lab (s.drop i)).map (L1++·))∨(s.length < i∧lab s=none))∧L1.length≤i∧bZ H.length T v 3 1 L1.length (ou L1)∧st=⟨σ,H++T,e⟩∧clean H.length e∧σ.length=40∧fr σ 0=.str s∧fr σ 4=v∧fr σ 5=.int .i64 (i:Nat)) 400
  ⟨_,0,[],.aI,[],_,rfl,by omega,rfl,.inl ⟨Nat.zero_le _,by simp⟩,Nat.le_refl _,.inl ⟨rfl,rfl,rfl⟩,by rw [List.append_nil],⟨rfl,rfl⟩,by simp only [go_sem,simprocAttr,hl],by simp only [go_sem,simprocAttr,hl,h0],by simp only [go_sem,simprocAttr,hl],by simp only [go_sem,simprocAttr,hl]⟩ ?_
 rintro n _ ⟨σ,i,L1,v,T,e,hn,hi,hit,hm,hLi,hv,rfl,he,hl,h0,h4,h5⟩
 have fin:∀ b:Bool,(∀ L,lab s=some L→L=L1∧b=true)→(lab s=none→b=false) →
   ∃ b1:AV × Hp,(∀ L,lab s=some L→bZ H.length b1.2 b1.1 3 1 L.length (ou L))∧leave H.length (.tuple [v,.bool b]) (H++T) e=(.tuple [b1.1,.bool (lab s).isSome],H++b1.2,z0):=by
  intro b hb1 hb2
  have hb:b=(lab s).isSome:=by
   cases hs:lab s with
   | none=>exact hb2 hs
   | some L=>exact (hb1 L hs).2
  subst hb
  obtain ⟨rfl,h2,h3⟩ | ⟨h1,h2,m,rfl,h3⟩:=hv
  ·refine ⟨(.aI,[]),fun L hL=>.inl ?_,?_⟩
   ·obtain ⟨rfl,_⟩:=hb1 L hL
    exact ⟨rfl,h2,h3⟩
   ·rw [aW rfl he,List.append_nil]
  ·refine ⟨(.slice (H.length+m) 0 L1.length (.op 0),T),fun L hL=>.inr ?_,?_⟩
   ·obtain ⟨rfl,_⟩:=hb1 L hL
    exact ⟨h1,h2,m,rfl,h3⟩
   ·rw [gb (by simp [flat,bK]) he]
 by_cases hlt:i < s.length
 ·obtain ⟨c,hc⟩:∃ c,s[i]?=some c:=⟨_,List.getElem?_eq_getElem hlt⟩
  have hlb:lab s=(lab (s.drop i)).map (L1++·):=by
   rcases hm with ⟨_,h⟩ | ⟨h,_⟩
   ·exact h
   ·omega
  obtain ⟨s0,s1,s2⟩:=JC hc hlb
  have g0:decide ((i:Int) < (s.length:Int))=true:=by simp; omega
  have hcl:=c.toNat_lt
  by_cases hz:c.toNat=0
  ·have g1:((c.toNat:Int) != 0)=false:=by simp; omega
   have w1:IntKind.i64.wrap ((s.length:Int) - 1)=(s.length:Int) - 1:=by rw [wrap_i64 (by omega)]
   simp only [go_sem,simprocAttr,hl,h0,h4,h5,g0,hc,hlt,g1,w1]
   refine fin _ (fun L hL=>?_) (fun hL=>?_)
   ·rw [s0 hz] at hL
    split at hL
    ·rename_i h; cases hL; exact ⟨rfl,by simp; omega⟩
    ·cases hL
   ·rw [s0 hz] at hL
    split at hL
    ·cases hL
    ·rename_i h; simp; omega
  ·have g1:((c.toNat:Int) != 0)=true:=by simp; omega
   by_cases hb:63 < c.toNat
   ·have g2:decide ((c.toNat:Int) > 63)=true:=by simp; omega
    have hN:=s1 hb
    simp only [go_sem,simprocAttr,hl,h0,h4,h5,g0,hc,hlt,g1,g2,he]
    exact ⟨(.aI,[]),by simp [hN],by simp [hN]⟩
   ·have g2:decide ((c.toNat:Int) > 63)=false:=by simp; omega
    have w0:IntKind.i64.wrap (c.toNat:Int)=(c.toNat:Int):=by rw [wrap_i64 (by omega)]
    have w1:IntKind.i64.wrap (1+(c.toNat:Int))=((1+c.toNat:Nat):Int):=by rw [wrap_i64 (by omega)]; omega
    have w2:IntKind.i64.wrap ((i:Int)+((1+c.toNat:Nat):Int))=((i+(1+c.toNat):Nat):Int):=by rw [wrap_i64 (by omega)]; omega
    have hbs:=D4 (i:Nat)
    obtain ⟨v',T2,e2,happ,_,hcl2,_,hv3,_,_,_⟩:=(hv.more [.cells [.int .i64 (i:Nat)] 3 .rw]).D9 (P:=Tryz.prog) (b:=8) (by decide) Hy [.int .i64 (i:Nat)] 1 (by decide) rfl rfl (by simp only [fits,decide_eq_true_eq]; omega)
    simp only [go_sem,simprocAttr,hl,h0,h4,h5,g0,hc,hlt,g1,g2,w0,w1,w2,hbs,happ]
    obtain ⟨ll,hll,hm'⟩:∃ l:List UInt8,l.length=c.toNat∧((i+(1+c.toNat)≤s.length∧lab s=(lab (s.drop (i+(1+c.toNat)))).map ((L1++[l])++·))∨(s.length < i+(1+c.toNat)∧lab s=none)):=by
     rcases s2 hz (by omega) with h | ⟨h1,h2,h3⟩
     ·exact ⟨List.replicate c.toNat 0,by simp,.inr h⟩
     ·exact ⟨_,h2,.inl ⟨h1,h3⟩⟩
    rw [show ou L1++[.int .i64 (i:Nat)]=ou (L1++[ll]) by rw [Gg,hit]] at hv3
    refine ⟨n - (1+c.toNat),by omega,_,i+(1+c.toNat),L1++[ll],v',T2,_,by omega,by omega,by rw [xL,hll,hit],hm',by simp; omega,by simpa using hv3,rfl,by simp only [go_sem,simprocAttr,he,hcl2],by simp only [go_sem,simprocAttr,hl],by simp only [go_sem,simprocAttr,hl,h0],by simp only [go_sem,simprocAttr,hl],by simp only [go_sem,simprocAttr,hl]⟩
 ·have g0:decide ((i:Int) < (s.length:Int))=false:=by simp; omega
  have hN:lab s=none:=by
   rcases hm with ⟨h,h'⟩ | ⟨_,h⟩
   ·exact Nj (by omega) h'
   ·exact h
  have w1:IntKind.i64.wrap ((s.length:Int) - 1)=(s.length:Int) - 1:=by rw [wrap_i64 (by omega)]
  simp only [go_sem,simprocAttr,hl,h0,h4,h5,hlt,w1]
  refine fin _ (fun L hL=>by rw [hN] at hL; cases hL) (fun _=>by simp; omega)

theorem cU (s:List UInt8) (H k) (hs:s.length≤cg):ag Tryz.prog 19 [.str s] H k=k (.int .i64 (if (nm s).isSome then 0 else 11),H,z0):=by
 obtain ⟨b,_,hb⟩:=qK s H hs
 refine ak (r:=(.int .i64 (if (nm s).isSome then 0 else 11),H,z0)) ?_ k
 refine aa (n:=12) (rs:=[.tmp 2]) Tryz.func19 rfl rfl rfl ?_
 intro σ hl ha
 have h0:=ha 0 (by simp)
 clear ha
 simp only [Option.getD_some,List.getElem?_cons_zero,List.getElem?_cons_succ] at h0
 cases h:(nm s).isSome <;> rw [h] at hb <;> simp only [go_sem,simprocAttr,hl,h0,hb]
theorem cO (p:List UInt8) (H:Hp):aO Tryz.prog 85 1 [(0,.str p)] H=some (.slice H.length 0 1 (.ex 1),H++[.cells [.str p] 9 .rw]):=by
 simp only [aO,jc,nV,Option.bind_some]
 rfl

theorem uC (s:List UInt8) (H) (hs:s.length≤cg):∃ b:AV × Hp,(∀ L,nm s=some L→bZ H.length b.2 b.1 9 1 L.length (strs L)) ∧
  ∀ k,ag Tryz.prog 37 [.str s] H k=k (.tuple [b.1,.bool (nm s).isSome],H++b.2,z0):=by
 refine cI (fun b:AV × Hp=>∀ L,nm s=some L→bZ H.length b.2 b.1 9 1 L.length (strs L)) (fun b=>(.tuple [b.1,.bool (nm s).isSome],H++b.2,z0)) ?_
 refine aa (n:=43) (rs:=[.tmp 2,.tmp 3]) Tryz.func37 rfl rfl rfl ?_
 intro σ hl ha
 have h0:=ha 0 (by simp)
 clear ha
 have hs:s.length≤9223372036854775807:=hs
 simp only [Option.getD_some,List.getElem?_cons_zero,List.getElem?_cons_succ] at h0
 by_cases hbig:255 < s.length
 ·have g:decide ((s.length:Int) > 255)=true:=by simp; omega
  have hn:nm s=none:=if_pos hbig
  simp only [go_sem,simprocAttr,hl,h0,g]
  exact ⟨(.aI,[]),by simp [hn],by simp [hn]⟩
 have g:decide ((s.length:Int) > 255)=false:=by simp; omega
 have hnm:nm s=lab s:=if_neg hbig
 simp only [go_sem,simprocAttr,hl,h0,g]
 rw [hnm]
 refine go_rounds (fun n st=>∃ σ r L1 v T e,n=r.length+1∧lab s=(lab r).map (L1++·)∧L1.length+r.length≤255∧bZ H.length T v 9 1 L1.length (strs L1)∧st=⟨σ,H++T,e⟩∧clean H.length e∧σ.length=43∧fr σ 4=v∧fr σ 5=.str r) (s.length+1)
  ⟨_,s,[],.aI,[],_,rfl,by simp,by simp; omega,.inl ⟨rfl,rfl,rfl⟩,by rw [List.append_nil],⟨rfl,rfl⟩,by simp only [go_sem,simprocAttr,hl],by simp only [go_sem,simprocAttr,hl,h0],by simp only [go_sem,simprocAttr,hl]⟩ ?_
 rintro n _ ⟨σ,r,L1,v,T,e,rfl,hm,hLr,hv,rfl,he,hl,h4,h5⟩
 have fin:∀ b:Bool,(∀ L,lab s=some L→L=L1∧b=true)→(lab s=none→b=false) →
   ∃ b1:AV × Hp,(∀ L,lab s=some L→bZ H.length b1.2 b1.1 9 1 L.length (strs L))∧leave H.length (.tuple [v,.bool b]) (H++T) e=(.tuple [b1.1,.bool (lab s).isSome],H++b1.2,z0):=by
  intro b hb1 hb2
  have hb:b=(lab s).isSome:=by
   cases hs:lab s with
   | none=>exact hb2 hs
   | some L=>exact (hb1 L hs).2
  subst hb
  obtain ⟨rfl,h2,h3⟩ | ⟨h1,h2,m,rfl,h3⟩:=hv
  ·refine ⟨(.aI,[]),fun L hL=>.inl ?_,?_⟩
   ·obtain ⟨rfl,_⟩:=hb1 L hL
    exact ⟨rfl,h2,h3⟩
   ·rw [aW rfl he,List.append_nil]
  ·refine ⟨(.slice (H.length+m) 0 L1.length (.op 0),T),fun L hL=>.inr ?_,?_⟩
   ·obtain ⟨rfl,_⟩:=hb1 L hL
    exact ⟨h1,h2,m,rfl,h3⟩
   ·rw [gb (by simp [flat,bK]) he]
 cases r with
 | nil =>
  have hN:lab s=none:=by rw [hm,wA]; rfl
  simp only [go_sem,simprocAttr,hl,h4,h5,he]
  exact ⟨(.aI,[]),by simp [hN],by simp [hN]⟩
 | cons c t =>
  rw [fR] at hm
  have hcl:=c.toNat_lt
  simp only [List.length_cons] at hLr
  have g0:decide (((t.length+1:Nat):Int) > 0)=true:=by simp
  have w0:IntKind.i64.wrap (c.toNat:Int)=(c.toNat:Int):=by rw [wrap_i64 (by omega)]
  by_cases hz:c.toNat=0
  ·rw [if_pos hz] at hm
   have g1:((c.toNat:Int) == 0)=true:=by simp; omega
   simp only [go_sem,simprocAttr,hl,h4,h5,g0,w0,g1]
   refine fin _ (fun L hL=>?_) (fun hL=>?_)
   ·rw [hm] at hL
    split at hL
    ·rename_i h; simp at hL; subst hL; exact ⟨rfl,by simp; omega⟩
    ·cases hL
   ·rw [hm] at hL
    split at hL
    ·cases hL
    ·rename_i h; simp; intro h'; apply h; omega
  ·rw [if_neg hz] at hm
   have g1:((c.toNat:Int) == 0)=false:=by simp; omega
   have w1:IntKind.i64.wrap ((c.toNat:Int)+1)=((c.toNat+1:Nat):Int):=by rw [wrap_i64 (by omega)]; omega
   by_cases hb:63 < c.toNat
   ·have g2:decide ((c.toNat:Int) > 63)=true:=by simp; omega
    rw [if_pos (.inl hb)] at hm
    have hN:lab s=none:=hm
    simp only [go_sem,simprocAttr,hl,h4,h5,g0,w0,w1,g1,g2,he]
    exact ⟨(.aI,[]),by simp [hN],by simp [hN]⟩
   ·have g2:decide ((c.toNat:Int) > 63)=false:=by simp; omega
    by_cases hsh:t.length < c.toNat
    ·have g3:decide (t.length+1 < c.toNat+1)=true:=by simp; omega
     rw [if_pos (.inr hsh)] at hm
     have hN:lab s=none:=hm
     simp only [go_sem,simprocAttr,hl,h4,h5,g0,w0,w1,g1,g2,g3,he]
     exact ⟨(.aI,[]),by simp [hN],by simp [hN]⟩
    ·have g3:decide (t.length+1 < c.toNat+1)=false:=by simp; omega
     rw [if_neg (by omega)] at hm
     have b1:(1:Int)≤((c.toNat+1:Nat):Int):=by omega
     have b2:c.toNat+1≤t.length+1:=by omega
     have e1:c.toNat+1 - 1=c.toNat:=by omega
     have e2:(t.drop c.toNat).take (t.length - c.toNat)=t.drop c.toNat:=List.take_of_length_le (by rw [List.length_drop]; omega)
     have hbs:=cO (t.take c.toNat)
     obtain ⟨v',T2,e2',happ,_,hcl2,_,hv3,_,_,_⟩:=(hv.more [.cells [.str (t.take c.toNat)] 9 .rw]).D9 (P:=Tryz.prog) (b:=16) (by decide) eU [.str (t.take c.toNat)] 1 (by decide) rfl rfl (by simp only [fits,decide_eq_true_eq]; omega)
     simp only [go_sem,simprocAttr,hl,h4,h5,g0,w0,w1,g1,g2,g3,b1,b2,e1,e2,hbs,happ]
     refine ⟨(t.drop c.toNat).length+1,by rw [List.length_drop]; omega,_,t.drop c.toNat,L1++[t.take c.toNat],v',T2,_,rfl,?_,by simp; omega,by simpa [strs] using hv3,rfl,by simp only [go_sem,simprocAttr,he,hcl2],by simp only [go_sem,simprocAttr,hl],by simp only [go_sem,simprocAttr,hl],by simp only [go_sem,simprocAttr,hl]⟩
     rw [hm,Option.map_map]
     congr 1
     funext x
     simp

theorem vW (s:List UInt8) (H k) (hs:s.length≤cg):ag Tryz.prog 17 [.str s] H k=k (.bool (nm s).isSome,H,z0):=by
 obtain ⟨b,_,hb⟩:=uC s H hs
 refine ak (r:=(.bool (nm s).isSome,H,z0)) ?_ k
 refine aa (n:=11) (rs:=[.tmp 2]) Tryz.func17 rfl rfl rfl ?_
 intro σ hl ha
 have h0:=ha 0 (by simp)
 clear ha
 simp only [Option.getD_some,List.getElem?_cons_zero,List.getElem?_cons_succ] at h0
 simp only [go_sem,simprocAttr,hl,h0,hb]

def kZ (c:UInt8):UInt8:=if 65≤c.toNat∧c.toNat≤90 then c+32 else c
def bB (s:List UInt8):List UInt8:=s.map kZ
theorem Nb {c:UInt8} (h:65≤c.toNat∧c.toNat≤90):IntKind.u8.wrap (BitVec.ofInt 8 (c.toNat:Int) ||| 32#8).toNat=((kZ c).toNat:Int):=by
 have key:∀ c:Fin 256,(65≤c.val∧c.val≤90)→IntKind.u8.wrap (BitVec.ofInt 8 (c.val:Int) ||| 32#8).toNat=((kZ (UInt8.ofNat c.val)).toNat:Int):=by decide +kernel
 have:=key ⟨c.toNat,c.toNat_lt⟩ h
 simpa using this
theorem Jx {c:UInt8} (h:65≤c.toNat∧c.toNat≤90):IntKind.u8.wrap ((c.toNat:Int)+32)=((kZ c).toNat:Int):=by
 have key:∀ c:Fin 256,(65≤c.val∧c.val≤90)→IntKind.u8.wrap ((c.val:Int)+32)=((kZ (UInt8.ofNat c.val)).toNat:Int):=by decide +kernel
 have:=key ⟨c.toNat,c.toNat_lt⟩ h
 simpa using this
theorem sB {c:UInt8} (h:¬ (65≤c.toNat∧c.toNat≤90)):kZ c=c:=if_neg h

theorem OV {kd:IntKind} {a b:Int}:eG .or kd a b=some (.int kd (kd.wrap (BitVec.ofInt kd.bits a ||| BitVec.ofInt kd.bits b).toNat)):=rfl

theorem Jo (c:UInt8) (H k):ag Tryz.prog 41 [.int .u8 c.toNat] H k=k (.int .u8 (kZ c).toNat,H,z0):=by
 refine ak (r:=(.int .u8 (kZ c).toNat,H,z0)) ?_ k
 refine aa (n:=12) (rs:=[.tmp 2]) Tryz.func41 rfl rfl rfl ?_
 intro σ hl ha
 have h0:=ha 0 (by simp)
 clear ha
 simp only [Option.getD_some,List.getElem?_cons_zero,List.getElem?_cons_succ] at h0
 have hcl:=c.toNat_lt
 by_cases h1:65≤c.toNat
 ·have g1:decide ((65:Int)≤(c.toNat:Int))=true:=by simp; omega
  by_cases h2:c.toNat≤90
  ·have g2:decide ((c.toNat:Int)≤90)=true:=by simp; omega
   have hor:=Nb ⟨h1,h2⟩
   simp only [go_sem,simprocAttr,hl,h0,g1,g2,OV]
   exact congrArg (fun n=>(AV.int .u8 n,H,z0)) hor
  ·have g2:decide ((c.toNat:Int)≤90)=false:=by simp; omega
   have hno:=sB (c:=c) (by omega)
   simp only [go_sem,simprocAttr,hl,h0,g1,g2,hno]
 ·have g1:decide ((65:Int)≤(c.toNat:Int))=false:=by simp; omega
  have hno:=sB (c:=c) (by omega)
  simp only [go_sem,simprocAttr,hl,h0,g1,hno]

theorem HK {s:List UInt8} {i:Nat} {c:UInt8} (h:s[i]?=some c):(u8s s)[i]?=some (.int .u8 c.toNat):=by simp [u8s,h]
theorem vr {s:List UInt8} {i n:Nat} {c:UInt8} {e:TypeId} {k:Kd} (h:s[i]?=some c):ldC i n false (.cells (u8s s) e k)=some (.int .u8 c.toNat):=HK h
theorem Bn {s:List UInt8} {i:Nat} {c d:UInt8} (h:s[i]?=some c):splice (u8s s) i [.int .u8 d.toNat]=u8s (s.set i d):=by
 have hi:i < s.length:=(List.getElem?_eq_some_iff.1 h).1
 unfold splice u8s
 rw [List.set_eq_take_append_cons_drop,if_pos hi]
 simp [List.map_take,List.map_drop]
def iH (i:Nat) (s:List UInt8):List UInt8:=bB (s.take i)++s.drop i
theorem uN (i:Nat) (s:List UInt8):(iH i s).length=s.length:=by simp [iH,bB]; omega
theorem zy {i:Nat} {s:List UInt8} {c:UInt8} (h:s[i]?=some c):(iH i s)[i]?=some c:=by
 have hi:i < s.length:=(List.getElem?_eq_some_iff.1 h).1
 unfold iH bB
 rw [List.getElem?_append_right (by simp; omega)]
 simp; rw [show min i s.length=i by omega,Nat.sub_self,Nat.add_zero]; exact h
theorem sA {i:Nat} {s:List UInt8} {c:UInt8} (h:s[i]?=some c):(iH i s).set i (kZ c)=iH (i+1) s:=by
 have hi:i < s.length:=(List.getElem?_eq_some_iff.1 h).1
 unfold iH bB
 rw [cu h,fK h,List.map_append]
 have hl:(List.map kZ (s.take i)).length=i:=by simp; omega
 rw [List.set_append_right _ _ (by omega),hl,Nat.sub_self]
 simp
theorem BV {i:Nat} {s:List UInt8} {c:UInt8} (h:s[i]?=some c) (hc:kZ c=c):iH i s=iH (i+1) s:=by
 unfold iH bB
 rw [cu h,fK h,List.map_append]
 simp [hc]
theorem uO {i:Nat} {s:List UInt8} (h:s.length≤i):iH i s=bB s:=by
 unfold iH
 rw [List.take_of_length_le h,List.drop_eq_nil_of_le h,List.append_nil]
theorem v7 {s:List UInt8} {e:TypeId} {k:Kd} {n:Nat} (h:s.length=n):rdC 0 n (.cells (u8s s) e k)=some (u8s s):=by
 rw [y5,if_pos (by rw [bz]; omega),List.drop_zero,List.take_of_length_le (by rw [bz]; omega)]
theorem nU (s:List UInt8):(s.map fun b=>AV.int .u8 (b.toNat:Int))=u8s s:=rfl

theorem dW (s:List UInt8) (H k) (hs:s.length≤cg):ag Tryz.prog 21 [.str s] H k=k (.str (bB s),H,z0):=by
 refine ak (r:=(.str (bB s),H,z0)) ?_ k
 refine aa (n:=23) (rs:=[.tmp 2]) Tryz.func21 rfl rfl rfl ?_
 intro σ hl ha
 have h0:=ha 0 (by simp)
 clear ha
 have hs:s.length≤9223372036854775807:=hs
 simp only [Option.getD_some,List.getElem?_cons_zero,List.getElem?_cons_succ] at h0
 simp only [go_sem,simprocAttr,hl,h0,nU]
 refine go_rounds (fun n st=>∃ σ i e,n+i=s.length∧st=⟨σ,H++[.cells (u8s (iH i s)) 5 (.op 0 true)],e⟩∧clean H.length e∧σ.length=23∧fr σ 3=.slice H.length 0 s.length (.op 0)∧fr σ 8=.slice H.length 0 s.length (.op 0)∧fr σ 9=.int .i64 (s.length:Nat)∧fr σ 10=.int .i64 (i:Nat)) s.length
  ⟨_,0,_,rfl,rfl,⟨rfl,rfl⟩,by simp only [go_sem,simprocAttr,hl],by simp only [go_sem,simprocAttr,hl],by simp only [go_sem,simprocAttr,hl],by simp only [go_sem,simprocAttr,hl],by simp only [go_sem,simprocAttr,hl]⟩ ?_
 rintro n _ ⟨σ,i,e,hn,rfl,he,hl,h3,h8,h9,h10⟩
 by_cases hlt:i < s.length
 ·obtain ⟨c,hc⟩:∃ c,s[i]?=some c:=⟨_,List.getElem?_eq_getElem hlt⟩
  have hw:=aS (show i < 9223372036854775807 by omega)
  have hlo:=fun H k=>Jo c H k
  have hla:=zy hc
  have hld:=fun (e:TypeId) (k:Kd)=>vr (n:=1) (e:=e) (k:=k) hla
  have hst:=Bn (d:=kZ c) hla
  rw [sA hc] at hst
  have hle:i+1≤(iH i s).length:=by rw [uN]; omega
  simp only [go_sem,simprocAttr,hl,h3,h8,h9,h10,hlt,hw,hlo,hld,hst,hle,bz,gE]
  exact ⟨n - 1,by omega,_,i+1,_,by omega,rfl,by simp only [go_sem,simprocAttr,he],by simp only [go_sem,simprocAttr,hl],by simp only [go_sem,simprocAttr,hl,h3],by simp only [go_sem,simprocAttr,hl,h8],by simp only [go_sem,simprocAttr,hl,h9],by simp only [go_sem,simprocAttr,hl]⟩
 ·have hend:=uO (s:=s) (i:=i) (by omega)
  have hrd:=fun (e:TypeId) (k:Kd)=>v7 (s:=bB s) (e:=e) (k:=k) (n:=s.length) (by simp [bB])
  have hcv:=lS (bB s)
  simp only [go_sem,simprocAttr,hl,h3,h8,h9,h10,hlt,hend,hrd,hcv,he]

theorem MG (s:List UInt8) (H k) (hs:s.length≤cg):ag Tryz.prog 61 [.str s] H k=k (.str (bB s),H,z0):=by
 refine ak (r:=(.str (bB s),H,z0)) ?_ k
 refine aa (n:=35) (rs:=[.tmp 2]) Tryz.func61 rfl rfl rfl ?_
 intro σ hl ha
 have h0:=ha 0 (by simp)
 clear ha
 have hs:s.length≤9223372036854775807:=hs
 simp only [Option.getD_some,List.getElem?_cons_zero,List.getElem?_cons_succ] at h0
 simp only [go_sem,simprocAttr,hl,h0,nU]
 refine go_rounds (fun n st=>∃ σ i e,n+i=s.length∧st=⟨σ,H++[.cells (u8s (iH i s)) 5 (.op 0 true)],e⟩∧clean H.length e∧σ.length=35∧fr σ 3=.slice H.length 0 s.length (.op 0)∧fr σ 4=.int .i64 (i:Nat)) s.length
  ⟨_,0,_,rfl,rfl,⟨rfl,rfl⟩,by simp only [go_sem,simprocAttr,hl],by simp only [go_sem,simprocAttr,hl],by simp only [go_sem,simprocAttr,hl]⟩ ?_
 rintro n _ ⟨σ,i,e,hn,rfl,he,hl,h3,h4⟩
 by_cases hlt:i < s.length
 ·obtain ⟨c,hc⟩:∃ c,s[i]?=some c:=⟨_,List.getElem?_eq_getElem hlt⟩
  have hw:=aS (show i < 9223372036854775807 by omega)
  have hla:=zy hc
  have hld:=fun (e:TypeId) (k:Kd)=>vr (n:=1) (e:=e) (k:=k) hla
  have hst:=Bn (d:=kZ c) hla
  rw [sA hc] at hst
  have hle:i+1≤(iH i s).length:=by rw [uN]; omega
  by_cases h1:65≤c.toNat∧c.toNat≤90
  ·have g1:decide ((c.toNat:Int)≥65)=true:=by simp; omega
   have g2:decide ((c.toNat:Int)≤90)=true:=by simp; omega
   have had:=Jx h1
   simp only [go_sem,simprocAttr,hl,h3,h4,hlt,hw,hld,hst,hle,bz,gE,g1,g2,had]
   exact ⟨n - 1,by omega,_,i+1,_,by omega,rfl,by simp only [go_sem,simprocAttr,he],by simp only [go_sem,simprocAttr,hl],by simp only [go_sem,simprocAttr,hl,h3],by simp only [go_sem,simprocAttr,hl]⟩
  ·have hsame:=BV hc (sB h1)
   by_cases h2:65≤c.toNat
   ·have g1:decide ((c.toNat:Int)≥65)=true:=by simp; omega
    have g2:decide ((c.toNat:Int)≤90)=false:=by simp; omega
    simp only [go_sem,simprocAttr,hl,h3,h4,hlt,hw,hld,hle,bz,gE,g1,g2]
    exact ⟨n - 1,by omega,_,i+1,_,by omega,by rw [hsame],he,by simp only [go_sem,simprocAttr,hl],by simp only [go_sem,simprocAttr,hl,h3],by simp only [go_sem,simprocAttr,hl]⟩
   ·have g1:decide ((c.toNat:Int)≥65)=false:=by simp; omega
    simp only [go_sem,simprocAttr,hl,h3,h4,hlt,hw,hld,hle,bz,gE,g1]
    exact ⟨n - 1,by omega,_,i+1,_,by omega,by rw [hsame],he,by simp only [go_sem,simprocAttr,hl],by simp only [go_sem,simprocAttr,hl,h3],by simp only [go_sem,simprocAttr,hl]⟩
 ·have hend:=uO (s:=s) (i:=i) (by omega)
  have hrd:=fun (e:TypeId) (k:Kd)=>v7 (s:=bB s) (e:=e) (k:=k) (n:=s.length) (by simp [bB])
  have hcv:=lS (bB s)
  simp only [go_sem,simprocAttr,hl,h3,h4,hlt,hend,hrd,hcv,he]

theorem lB (s:List UInt8) (H k) (hs:s.length≤cg):ag Tryz.prog 35 [.str s] H k=k (.str (bB s),H,z0):=by
 refine ak (r:=(.str (bB s),H,z0)) ?_ k
 refine aa (n:=5) (rs:=[.tmp 2]) Tryz.func35 rfl rfl rfl ?_
 intro σ hl ha
 have h0:=ha 0 (by simp)
 clear ha
 simp only [Option.getD_some,List.getElem?_cons_zero,List.getElem?_cons_succ] at h0
 have hlo:=fun H k=>MG s H k hs
 simp only [go_sem,simprocAttr,hl,h0,hlo]
def Rd (H:Hp) (v:AV) (bs:List UInt8):Prop:=(v=.aI∧bs=[]) ∨
 ∃ b o c pre post e k,v=.slice b o bs.length c∧pre.length=o∧H[b]?=some (.cells (pre++(u8s bs++post)) e k)∧((∃ n,c=.ex n∧bs.length≤n)∨(c=.op o∧e=5∧∃ fz st,k=.op fz st))
def Rv (H:Hp) (v:AV) (bs:List UInt8):Prop:=Rd H v bs∨∃ b,v=.slice b 0 0 (.op 0)∧H[b]?=some .void∧bs=[]
theorem Rd.old {H:Hp} {v:AV} {bs:List UInt8} (h:Rd H v bs) (l:Hp):Rd (H++l) v bs:=by
 obtain h | ⟨b,o,c,pre,post,e,k,h1,h2,h3,h4⟩:=h
 ·exact .inl h
 ·exact .inr ⟨b,o,c,pre,post,e,k,h1,h2,iC h3,h4⟩
theorem Rv.old {H:Hp} {v:AV} {bs:List UInt8} (h:Rv H v bs) (l:Hp):Rv (H++l) v bs:=by
 obtain h | ⟨b,h1,h2,h3⟩:=h
 ·exact .inl (h.old l)
 ·exact .inr ⟨b,h1,iC h2,h3⟩
theorem Rd.v {H:Hp} {v:AV} {bs:List UInt8} (h:Rd H v bs):Rv H v bs:=.inl h
theorem Rd.scl {H:Hp} {v:AV} {bs:List UInt8} (h:Rd H v bs):cK v=true:=by
 obtain ⟨rfl,rfl⟩ | ⟨b,o,c,pre,post,e,k,rfl,h2,h3,h4⟩:=h <;> rfl
theorem Rv.len {H:Hp} {v:AV} {bs:List UInt8} (h:Rv H v bs) (H':Hp):bY Tryz.prog 71 v H'=some (.int .i64 bs.length):=by
 obtain (⟨rfl,rfl⟩ | ⟨b,o,c,pre,post,e,k,rfl,h2,h3,h4⟩) | ⟨b,rfl,h2,rfl⟩:=h <;> simp only [bY,dh] <;> rfl
theorem Rv.at {H:Hp} {v:AV} {bs:List UInt8} (h:Rv H v bs) {i:Nat} {c:UInt8} (hc:bs[i]?=some c) :
  ∃ b j row e k,aN Tryz.prog 71 v (.int .i64 (i:Nat))=some (.ptr b j)∧(∀ l:Hp,(H++l)[b]?=some (.cells row e k))∧H[b]?=some (.cells row e k)∧ldC j 1 false (.cells row e k)=some (.int .u8 c.toNat):=by
 have hi:i < bs.length:=(List.getElem?_eq_some_iff.1 hc).1
 obtain (⟨rfl,rfl⟩ | ⟨b,o,cc,pre,post,e,k,rfl,h2,h3,h4⟩) | ⟨b,rfl,h2,rfl⟩:=h
 ·simp at hi
 ·refine ⟨b,o+i,_,e,k,?_,fun l=>iC h3,h3,?_⟩
  ·simp only [aN,dh]
   rw [if_pos (by omega)]
   simp
  ·rw [sE,← h2,List.getElem?_append_right (by omega),Nat.add_sub_cancel_left,List.getElem?_append_left (by rw [bz]; exact hi)]
   exact HK hc
 ·simp at hi
theorem LM {pre post:List AV} {bs:List UInt8} {lo hi:Nat} (h1:lo≤hi) (h2:hi≤bs.length):pre++(u8s bs++post)=(pre++u8s (bs.take lo))++(u8s ((bs.drop lo).take (hi - lo))++(u8s (bs.drop hi)++post)):=by
 have:bs=bs.take lo++((bs.drop lo).take (hi - lo)++bs.drop hi):=by
  have e:bs.drop hi=(bs.drop lo).drop (hi - lo):=by rw [List.drop_drop]; congr 1; omega
  rw [e,List.take_append_drop,List.take_append_drop]
 conv=>lhs; rw [this]
 simp only [j8,List.append_assoc]
theorem Rd.sl {H:Hp} {v:AV} {bs:List UInt8} (h:Rd H v bs) {lo hi:Nat} (h1:lo≤hi) (h2:hi≤bs.length) :
  ∃ y L,(∀ kk,slK Tryz.prog 71 v (some (.int .i64 (lo:Nat))) (some (.int .i64 (hi:Nat))) none H kk=kk (y,H++L,z0))∧Rv (H++L) y ((bs.drop lo).take (hi - lo)):=by
 have b1:(0:Int)≤(hi:Nat):=by omega
 have b2:(0:Int)≤(lo:Nat):=by omega
 have b3:((lo:Nat):Int)≤(hi:Nat):=by omega
 obtain ⟨rfl,rfl⟩ | ⟨b,o,c,pre,post,e,k,rfl,ho,hb,hc⟩:=h
 ·have:hi=0:=by simpa using h2
  subst this
  have:lo=0:=by omega
  subst this
  refine ⟨.aI,[],fun kk=>?_,.inl (.inl ⟨rfl,rfl⟩)⟩
  simp only [go_sem,simprocAttr,List.append_nil]
 ·have hmid:=LM (pre:=pre) (post:=post) h1 h2
  have hlen:((bs.drop lo).take (hi - lo)).length=hi - lo:=by rw [List.length_take,List.length_drop]; omega
  have hpl:(pre++u8s (bs.take lo)).length=o+lo:=by rw [List.length_append,bz,List.length_take,ho]; omega
  have hrow:(pre++(u8s bs++post)).length=o+(bs.length+post.length):=by rw [List.length_append,List.length_append,bz,ho]
  have hb0:=hb
  rw [hmid] at hb
  obtain ⟨n,rfl,hn⟩ | ⟨rfl,rfl,fz,st,rfl⟩:=hc
  ·have c1:hi≤n:=by omega
   by_cases hq:n=lo
   ·refine ⟨.slice b o (hi - lo) (.ex (n - lo)),[],fun kk=>?_,.inl (.inr ⟨b,o,_,pre,u8s (bs.take lo)++(u8s (bs.drop hi)++post),e,k,by rw [hlen],ho,?_,.inl ⟨_,rfl,by rw [hlen]; omega⟩⟩)⟩
    ·simp only [go_sem,simprocAttr,b1,b2,b3,c1,hq,List.append_nil]
     simp [show lo≤hi from h1,show hi≤lo by omega]
    ·have:(bs.drop lo).take (hi - lo)=[]:=by rw [show hi - lo=0 by omega,List.take_zero]
     rw [this] at hb ⊢
     simpa [u8s] using hb
   ·refine ⟨.slice b (o+lo) (hi - lo) (.ex (n - lo)),[],fun kk=>?_,.inl (.inr ⟨b,o+lo,_,pre++u8s (bs.take lo),u8s (bs.drop hi)++post,e,k,by rw [hlen],hpl,by rw [List.append_nil]; exact hb,.inl ⟨_,rfl,by rw [hlen]; omega⟩⟩)⟩
    simp only [go_sem,simprocAttr,b1,b2,b3,c1,hq,List.append_nil]
  ·have hrule:∀ kk,slK Tryz.prog 71 (.slice b o bs.length (.op o)) (some (.int .i64 (lo:Nat))) (some (.int .i64 (hi:Nat))) none H kk=cz (.bool (decide (lo=0∨lo < bs.length+post.length))) true (kk (.slice b (o+lo) (hi - lo) (.op (o+lo)),H,z0)) (lo=hi∧kk (.slice H.length 0 0 (.op 0),H++[.void],z0)):=by
    intro kk
    rw [rX (by rw [dh]; rfl),dh,aD,hb0,aD,zD,if_pos ⟨rfl,by decide,by omega⟩,aD,K3,hrow,Nat.div_one,Nat.add_sub_cancel_left]
    simp only [Int.toNat_natCast,ED,Nat.mul_one]
    have q1:((0:Int)≤(hi:Nat)∧((hi:Nat):Int)≤((bs.length+post.length:Nat):Int))=True:=eq_true ⟨b1,by omega⟩
    have q2:((0:Int)≤(lo:Nat)∧((lo:Nat):Int)≤((hi:Nat):Int))=True:=eq_true ⟨b2,b3⟩
    rw [q1,q2,true_and,true_and,show o+lo*1=o+lo by omega]
   by_cases hq:lo=0∨lo < bs.length+post.length
   ·refine ⟨.slice b (o+lo) (hi - lo) (.op (o+lo)),[],fun kk=>?_,.inl (.inr ⟨b,o+lo,_,pre++u8s (bs.take lo),u8s (bs.drop hi)++post,_,_,by rw [hlen],hpl,by rw [List.append_nil]; exact hb,.inr ⟨rfl,rfl,fz,st,rfl⟩⟩)⟩
    rw [hrule,decide_eq_true hq,cV,List.append_nil]
   ·refine ⟨.slice H.length 0 0 (.op 0),[.void],fun kk=>?_,.inr ⟨H.length,rfl,by simp,?_⟩⟩
    ·rw [hrule,decide_eq_false hq,cn]
     simp only [show lo=hi by omega,true_and]
    ·rw [show hi - lo=0 by omega,List.take_zero]
theorem qV (s:List UInt8):aZ.bytesOf (u8s s)=some s:=lS s
theorem Rv.rd {H:Hp} {v:AV} {bs:List UInt8} (h:Rv H v bs):v=.aI∧bs=[]∨∃ b o c,v=.slice b o bs.length c∧rd H b o bs.length=some (u8s bs):=by
 obtain (⟨rfl,rfl⟩ | ⟨b,o,c,pre,post,e,k,rfl,h2,h3,h4⟩) | ⟨b,rfl,h2,rfl⟩:=h
 ·exact .inl ⟨rfl,rfl⟩
 ·refine .inr ⟨b,o,c,rfl,?_⟩
  unfold V.rd
  rw [h3]
  show (if _ then _ else _)=_
  rw [if_pos (by rw [List.length_append,List.length_append,bz]; omega),← h2,List.drop_left,List.take_left' (by rw [bz])]
 ·refine .inr ⟨b,0,.op 0,rfl,?_⟩
  unfold V.rd
  rw [h2]
  rfl
theorem Rv.str {H:Hp} {v:AV} {bs:List UInt8} (h:Rv H v bs):aZ Tryz.prog 71 9 v H=some (.str bs,H):=by
 obtain ⟨rfl,rfl⟩ | ⟨b,o,c,rfl,hr⟩:=h.rd
 ·exact tu
 ·rw [vh,hr,Option.bind_some,qV]; rfl

theorem RP (H k):ag Tryz.prog 151 [] H k=k (.int .i64 1,H,z0):=by
 refine ak (r:=(.int .i64 1,H,z0)) ?_ k
 refine aa (n:=19) (rs:=[.tmp 0]) Tryz.func151 rfl rfl rfl ?_
 intro σ hl ha
 clear ha
 have w2:IntKind.u8.wrap 0=0:=by decide
 have w3:IntKind.u8.wrap (-1)=255:=by decide
 have w4:IntKind.u32.wrap 255=255:=by decide
 have g1:decide ((255:Int).fdiv (2 ^ min 7 32) > 1)=false:=by decide
 simp only [go_sem,simprocAttr,hl,w2,w3]
 rw [go_loop]
 simp only [go_sem,simprocAttr,hl,w2,w3,w4,g1]

def tk8 (bs:List UInt8) (at_:Nat):Nat × Nat × Nat:=if bs.length < at_ then (0,0,1) else match bs[at_]? with | some c=>(c.toNat,at_+1,0) | none=>(0,0,6)
theorem RM (bs:List UInt8) (a:Nat) (H k) (v:AV) (hv:Rd H v bs) (hn:bs.length≤4611686018427387904) (ha':a≤4611686018427387904) :
  ag Tryz.prog 125 [v,.int .i64 (a:Nat)] H k=k (.tuple [.int .u8 ((tk8 bs a).1:Nat),.int .i64 ((tk8 bs a).2.1:Nat),.int .i64 ((tk8 bs a).2.2:Nat)],H,z0):=by
 refine ak (r:=(.tuple [.int .u8 ((tk8 bs a).1:Nat),.int .i64 ((tk8 bs a).2.1:Nat),.int .i64 ((tk8 bs a).2.2:Nat)],H,z0)) ?_ k
 refine aa (n:=50) (rs:=[.tmp 4,.tmp 5,.tmp 6]) Tryz.func125 rfl rfl rfl ?_
 intro σ hl ha
 have h0:=ha 0 (by simp)
 have h1:=ha 1 (by simp)
 clear ha
 simp only [Option.getD_some,List.getElem?_cons_zero,List.getElem?_cons_succ] at h0 h1
 have hs:=fun H k=>RP H k
 have hlen:=fun H'=>hv.v.len H'
 have g0:decide ((a:Int) < 0)=false:=by simp
 by_cases hbig:bs.length < a
 ·have ht:tk8 bs a=(0,0,1):=if_pos hbig
  simp only [go_sem,simprocAttr,hl,h0,h1,hs,hlen,g0,hbig,ht,gt_iff_lt]
 ·have w1:IntKind.i64.wrap ((bs.length:Int) - (a:Int))=((bs.length - a:Nat):Int):=by rw [wrap_i64 (by omega)]; omega
  cases hc:bs[a]? with
  | none =>
   have ht:tk8 bs a=(0,0,6):=by unfold tk8; rw [if_neg hbig,hc]
   have hl':bs.length≤a:=by simpa using hc
   have g2:decide (((bs.length - a:Nat):Int) < 1)=true:=by simp; omega
   simp only [go_sem,simprocAttr,hl,h0,h1,hs,hlen,g0,hbig,w1,g2,ht]
  | some c =>
   have ht:tk8 bs a=(c.toNat,a+1,0):=by unfold tk8; rw [if_neg hbig,hc]
   have hlt:a < bs.length:=(List.getElem?_eq_some_iff.1 hc).1
   have g2:decide (((bs.length - a:Nat):Int) < 1)=false:=by simp; omega
   have w2:IntKind.i64.wrap ((a:Int)+1)=((a+1:Nat):Int):=by rw [wrap_i64 (by omega)]; omega
   obtain ⟨y,L,hsl,hy⟩:=hv.sl (lo:=a) (hi:=a+1) (by omega) (by omega)
   have hy1:(bs.drop a).take (a+1 - a)=[c]:=by rw [Nat.add_sub_cancel_left,fK hc]; rfl
   rw [hy1] at hy
   have hylen:=fun H'=>hy.len H'
   obtain ⟨b,j,row,e,kd,hix,hg,hg0,hld⟩:=hy.at (i:=0) (c:=c) rfl
   have hix:aN Tryz.prog 71 y (.int .i64 0)=some (.ptr b j):=hix
   have g3:decide ((0:Int) < ((([c]:List UInt8).length:Nat):Int))=true:=by simp
   have hcl:=c.toNat_lt
   have w3:IntKind.u32.wrap (c.toNat:Int)=(c.toNat:Int):=wrap_u32 (by omega)
   have w4:IntKind.u8.wrap (c.toNat:Int)=(c.toNat:Int):=wrap_u8 (by omega)
   have w5:IntKind.u32.wrap (BitVec.ofInt 32 0 ||| BitVec.ofInt 32 (c.toNat:Int)).toNat=(c.toNat:Int):=by
    have:(BitVec.ofInt 32 0 ||| BitVec.ofInt 32 (c.toNat:Int)).toNat=c.toNat:=by
     simp [BitVec.ofInt_natCast]
    rw [this]; exact w3
   simp only [go_sem,simprocAttr,hl,h0,h1,hs,hlen,g0,hbig,w1,g2,w2,hsl,hylen,ht]
   rw [go_loop]
   have w6:IntKind.u32.wrap 0=0:=rfl
   simp only [go_sem,simprocAttr,hl,g3,hix,hg,hg0,hld,w3,OV]
   rw [go_loop]
   simp only [go_sem,simprocAttr,hl,hs,h1,w2,w6,ht]
   refine congrArg (fun n=>(AV.tuple [AV.int IntKind.u8 n,AV.int IntKind.i64 ((a+1:Nat):Int),AV.int IntKind.i64 0],H,z0)) ?_
   show IntKind.u8.wrap (IntKind.u32.wrap (BitVec.ofInt 32 0 ||| BitVec.ofInt 32 (c.toNat:Int)).toNat)=(c.toNat:Int)
   rw [w5,w4]
def e7 (bs:List UInt8) (a:Nat):List UInt8 × Nat × Nat :=
 if bs.length < a then ([],0,1) else match bs[a]? with
  | some c=>if bs.length - (a+1) < c.toNat then ([],0,6) else ((bs.drop (a+1)).take c.toNat,a+(1+c.toNat),0)
  | none=>([],0,6)

theorem Is (bs:List UInt8) (a:Nat) (H k) (v:AV) (hv:Rd H v bs) (hn:bs.length≤4611686018427387904) (ha':a≤4611686018427387904) :
  ag Tryz.prog 92 [v,.int .i64 (a:Nat)] H k=k (.tuple [.str (e7 bs a).1,.int .i64 ((e7 bs a).2.1:Nat),.int .i64 ((e7 bs a).2.2:Nat)],H,z0):=by
 refine ak (r:=(.tuple [.str (e7 bs a).1,.int .i64 ((e7 bs a).2.1:Nat),.int .i64 ((e7 bs a).2.2:Nat)],H,z0)) ?_ k
 refine aa (n:=42) (rs:=[.tmp 4,.tmp 5,.tmp 6]) Tryz.func92 rfl rfl rfl ?_
 intro σ hl ha
 have h0:=ha 0 (by simp)
 have h1:=ha 1 (by simp)
 clear ha
 simp only [Option.getD_some,List.getElem?_cons_zero,List.getElem?_cons_succ] at h0 h1
 have hs:=fun H' (h:Rd H' v bs) k=>RM bs a H' k v h hn ha'
 have hs:=fun k=>hs H hv k
 have hlen:=fun H'=>hv.v.len H'
 by_cases hbig:bs.length < a
 ·have ht:e7 bs a=([],0,1):=if_pos hbig
  have h8:tk8 bs a=(0,0,1):=if_pos hbig
  rw [h8] at hs
  simp only [go_sem,simprocAttr,hl,h0,h1,hs,ht,Int.natCast_one]
 ·cases hc:bs[a]? with
  | none =>
   have ht:e7 bs a=([],0,6):=by unfold e7; rw [if_neg hbig,hc]
   have h8:tk8 bs a=(0,0,6):=by unfold tk8; rw [if_neg hbig,hc]
   rw [h8] at hs
   simp only [go_sem,simprocAttr,hl,h0,h1,hs,ht]
  | some c =>
   have h8:tk8 bs a=(c.toNat,a+1,0):=by unfold tk8; rw [if_neg hbig,hc]
   rw [h8] at hs
   have hlt:a < bs.length:=(List.getElem?_eq_some_iff.1 hc).1
   have hcl:=c.toNat_lt
   have w0:IntKind.i64.wrap (c.toNat:Int)=(c.toNat:Int):=by rw [wrap_i64 (by omega)]
   have w1:IntKind.i64.wrap ((bs.length:Int) - ((a+1:Nat):Int))=((bs.length - (a+1):Nat):Int):=by rw [wrap_i64 (by omega)]; omega
   by_cases hsh:bs.length - (a+1) < c.toNat
   ·have ht:e7 bs a=([],0,6):=by unfold e7; rw [if_neg hbig,hc]; exact if_pos hsh
    simp only [go_sem,simprocAttr,hl,h0,h1,hs,hlen,w0,w1,hsh,ht]
   ·have ht:e7 bs a=((bs.drop (a+1)).take c.toNat,a+(1+c.toNat),0):=by unfold e7; rw [if_neg hbig,hc]; exact if_neg hsh
    have w2:IntKind.i64.wrap (((a+1:Nat):Int)+(c.toNat:Int))=((a+(1+c.toNat):Nat):Int):=by rw [wrap_i64 (by omega)]; omega
    obtain ⟨y,L,hsl,hy⟩:=hv.sl (lo:=a+1) (hi:=a+(1+c.toNat)) (by omega) (by omega)
    rw [show a+(1+c.toNat) - (a+1)=c.toNat by omega] at hy
    have hstr:=hy.str
    simp only [go_sem,simprocAttr,hl,h0,h1,hs,hlen,w0,w1,w2,hsh,hsl,hstr,ht]

def txF:Nat→List UInt8→Option (List (List UInt8))
 | 0,_=>none
 | _+1,[]=>some []
 | n+1,c::t=>if t.length < c.toNat then none else (txF n (t.drop c.toNat)).map (t.take c.toNat::·)
theorem xI:∀ (n m:Nat) (s:List UInt8),s.length < n→s.length < m→txF n s=txF m s
 | 0,_,s,h,_=>by omega
 | _+1,0,s,_,h=>by omega
 | n+1,m+1,[],_,_=>rfl
 | n+1,m+1,k::t,h,h'=>by
  simp only [txF]
  simp only [List.length_cons] at h h'
  rw [xI n m (t.drop k.toNat) (by rw [List.length_drop]; omega) (by rw [List.length_drop]; omega)]
def gv (s:List UInt8):Option (List (List UInt8)):=txF (s.length+1) s
theorem xG:gv []=some []:=rfl
theorem um (k:UInt8) (t:List UInt8):gv (k::t)=if t.length < k.toNat then none else (gv (t.drop k.toNat)).map (t.take k.toNat::·):=by
 unfold gv
 rw [List.length_cons,txF,xI (t.length+1) _ (t.drop k.toNat) (by rw [List.length_drop]; omega) (Nat.lt_succ_self _)]
def kV (s:List UInt8):Bool:=match gv s with
 | some (_::_)=>true
 | _=>false

theorem lu {s:List UInt8} (h:gv s=some []):kV s=false:=by unfold kV; rw [h]
theorem jO {s:List UInt8} (h:gv s=none):kV s=false:=by unfold kV; rw [h]
theorem uq {s:List UInt8} {L:List (List UInt8)} (h:gv s=some L) (hL:L≠[]):kV s=true:=by
 unfold kV; rw [h]
 cases L with
 | nil=>exact absurd rfl hL
 | cons=>rfl

theorem qC (s:List UInt8) (H) (hs:s.length≤1048576):∃ b:AV × Hp,(∀ L,gv s=some L→L≠[]→bZ H.length b.2 b.1 9 1 L.length (strs L)) ∧
  ∀ k,ag Tryz.prog 58 [.str s] H k=k (.tuple [b.1,.bool (kV s)],H++b.2,z0):=by
 refine cI (fun b:AV × Hp=>∀ L,gv s=some L→L≠[]→bZ H.length b.2 b.1 9 1 L.length (strs L)) (fun b=>(.tuple [b.1,.bool (kV s)],H++b.2,z0)) ?_
 refine aa (n:=32) (rs:=[.tmp 2,.tmp 3]) Tryz.func58 rfl rfl rfl ?_
 intro σ hl ha
 have h0:=ha 0 (by simp)
 clear ha
 simp only [Option.getD_some,List.getElem?_cons_zero,List.getElem?_cons_succ] at h0
 simp only [go_sem,simprocAttr,hl,h0]
 refine go_rounds (fun n st=>∃ σ i L1 v T e,n+i=s.length∧gv s=(gv (s.drop i)).map (L1++·)∧L1.length≤i∧bZ H.length T v 9 1 L1.length (strs L1)∧st=⟨σ,H++T,e⟩∧clean H.length e∧σ.length=32∧fr σ 0=.str s∧fr σ 4=v∧fr σ 5=.int .i64 (i:Nat)) s.length
  ⟨_,0,[],.aI,[],_,rfl,by simp,Nat.le_refl _,.inl ⟨rfl,rfl,rfl⟩,by rw [List.append_nil],⟨rfl,rfl⟩,by simp only [go_sem,simprocAttr,hl],by simp only [go_sem,simprocAttr,hl,h0],by simp only [go_sem,simprocAttr,hl],by simp only [go_sem,simprocAttr,hl]⟩ ?_
 rintro n _ ⟨σ,i,L1,v,T,e,hn,hm,hLi,hv,rfl,he,hl,h0,h4,h5⟩
 by_cases hlt:i < s.length
 ·obtain ⟨c,hc⟩:∃ c,s[i]?=some c:=⟨_,List.getElem?_eq_getElem hlt⟩
  rw [fK hc,um,List.length_drop] at hm
  have hcl:=c.toNat_lt
  have hrd:Rd ((H++T)++[.cells (u8s s) 5 (.op 0 true)]) (.slice (H++T).length 0 s.length (.op 0)) s :=
   .inr ⟨_,0,_,[],[],_,_,rfl,rfl,by rw [dg]; simp,.inr ⟨rfl,rfl,0,true,rfl⟩⟩
  have ht:=fun k=>Is s i _ k _ hrd (by omega) (by omega)
  simp only [List.append_assoc,List.length_append] at ht
  by_cases hsh:s.length - (i+1) < c.toNat
  ·have htx:e7 s i=([],0,6):=by unfold e7; rw [if_neg (by omega),hc]; exact if_pos hsh
   rw [htx] at ht
   rw [if_pos hsh] at hm
   have hm:gv s=none:=hm
   have hok:=jO hm
   simp only [go_sem,simprocAttr,hl,h0,h4,h5,hlt,nU,ht,he]
   exact ⟨(.aI,[]),by simp [hm],by simp [hok]⟩
  ·have htx:e7 s i=((s.drop (i+1)).take c.toNat,i+(1+c.toNat),0):=by unfold e7; rw [if_neg (by omega),hc]; exact if_neg hsh
   rw [htx] at ht
   rw [if_neg hsh,Option.map_map,List.drop_drop,Nat.add_assoc] at hm
   have hbs:=cO ((s.drop (i+1)).take c.toNat)
   obtain ⟨v',T2,e2,happ,_,hcl2,_,hv3,_,_,_⟩:=(hv.more ([.cells (u8s s) 5 (.op 0 true),.cells [.str ((s.drop (i+1)).take c.toNat)] 9 .rw])).D9 (P:=Tryz.prog) (b:=16) (by decide) eU [.str ((s.drop (i+1)).take c.toNat)] 1 (by decide) rfl rfl (by simp only [fits,decide_eq_true_eq]; omega)
   simp only [go_sem,simprocAttr,hl,h0,h4,h5,hlt,nU,ht,hbs,happ]
   refine ⟨n - (1+c.toNat),by omega,_,i+(1+c.toNat),L1++[(s.drop (i+1)).take c.toNat],v',T2,_,by omega,?_,by simp; omega,by simpa [strs] using hv3,rfl,by simp only [go_sem,simprocAttr,he,hcl2],by simp only [go_sem,simprocAttr,hl],by simp only [go_sem,simprocAttr,hl,h0],by simp only [go_sem,simprocAttr,hl],by simp only [go_sem,simprocAttr,hl]⟩
   rw [hm]
   congr 1
   funext x
   simp
 ·have hi:i=s.length:=by omega
  rw [hi,List.drop_length,xG] at hm
  have hm:gv s=some L1:=by rw [hm]; simp
  obtain ⟨rfl,h2,h3⟩ | ⟨h1,h2,m,rfl,h3⟩:=hv
  ·have:L1=[]:=List.length_eq_zero_iff.1 h3
   subst this
   have hok:=lu hm
   simp only [go_sem,simprocAttr,hl,h0,h4,h5,hlt,he]
   exact ⟨(.aI,[]),fun L hL hne=>by rw [hm] at hL; cases hL; exact absurd rfl hne,by simp [hok]⟩
  ·have hok:=uq hm (by intro e; rw [e] at h1; cases h1)
   have g:decide ((L1.length:Int) > 0)=true:=by simp; omega
   simp only [go_sem,simprocAttr,hl,h0,h4,h5,hlt,he,g]
   exact ⟨(.slice (H.length+m) 0 L1.length (.op 0),T),fun L hL hne=>by rw [hm] at hL; cases hL; exact .inr ⟨h1,h2,m,rfl,h3⟩,by simp [hok]⟩

theorem uB (s:List UInt8) (H) (hs:s.length≤1048576):∃ b:AV × Hp,(∀ L,gv s=some L→L≠[]→bZ H.length b.2 b.1 9 1 L.length (strs L)) ∧
  ∀ k,ag Tryz.prog 99 [.str s] H k=k (.tuple [b.1,.bool (kV s)],H++b.2,z0):=by
 refine cI (fun b:AV × Hp=>∀ L,gv s=some L→L≠[]→bZ H.length b.2 b.1 9 1 L.length (strs L)) (fun b=>(.tuple [b.1,.bool (kV s)],H++b.2,z0)) ?_
 refine aa (n:=32) (rs:=[.tmp 2,.tmp 3]) Tryz.func99 rfl rfl rfl ?_
 intro σ hl ha
 have h0:=ha 0 (by simp)
 clear ha
 simp only [Option.getD_some,List.getElem?_cons_zero,List.getElem?_cons_succ] at h0
 simp only [go_sem,simprocAttr,hl,h0]
 refine go_rounds (fun n st=>∃ σ r L1 v T e,n=r.length∧gv s=(gv r).map (L1++·)∧L1.length+r.length≤s.length∧bZ H.length T v 9 1 L1.length (strs L1)∧st=⟨σ,H++T,e⟩∧clean H.length e∧σ.length=32∧fr σ 0=.str r∧fr σ 4=v) s.length
  ⟨_,s,[],.aI,[],_,rfl,by simp,by simp,.inl ⟨rfl,rfl,rfl⟩,by rw [List.append_nil],⟨rfl,rfl⟩,by simp only [go_sem,simprocAttr,hl],by simp only [go_sem,simprocAttr,hl,h0],by simp only [go_sem,simprocAttr,hl]⟩ ?_
 rintro n _ ⟨σ,r,L1,v,T,e,rfl,hm,hLr,hv,rfl,he,hl,h0,h4⟩
 cases r with
 | nil =>
  rw [xG] at hm
  have hm:gv s=some L1:=by rw [hm]; simp
  obtain ⟨rfl,h2,h3⟩ | ⟨h1,h2,m,rfl,h3⟩:=hv
  ·have:L1=[]:=List.length_eq_zero_iff.1 h3
   subst this
   have hok:=lu hm
   simp only [go_sem,simprocAttr,hl,h0,h4,he]
   exact ⟨(.aI,[]),fun L hL hne=>by rw [hm] at hL; cases hL; exact absurd rfl hne,by simp [hok]⟩
  ·have hok:=uq hm (by intro e; rw [e] at h1; cases h1)
   have g:decide ((L1.length:Int) > 0)=true:=by simp; omega
   simp only [go_sem,simprocAttr,hl,h0,h4,he,g]
   exact ⟨(.slice (H.length+m) 0 L1.length (.op 0),T),fun L hL hne=>by rw [hm] at hL; cases hL; exact .inr ⟨h1,h2,m,rfl,h3⟩,by simp [hok]⟩
 | cons c t =>
  rw [um] at hm
  have hcl:=c.toNat_lt
  simp only [List.length_cons] at hLr
  have g0:decide (((t.length+1:Nat):Int) > 0)=true:=by simp
  have w0:IntKind.i64.wrap (c.toNat:Int)=(c.toNat:Int):=by rw [wrap_i64 (by omega)]
  have w1:IntKind.i64.wrap ((c.toNat:Int)+1)=((c.toNat+1:Nat):Int):=by rw [wrap_i64 (by omega)]; omega
  by_cases hsh:t.length < c.toNat
  ·have g3:decide (t.length+1 < c.toNat+1)=true:=by simp; omega
   rw [if_pos hsh] at hm
   have hm:gv s=none:=hm
   have hok:=jO hm
   simp only [go_sem,simprocAttr,hl,h0,h4,g0,w0,w1,g3,he]
   exact ⟨(.aI,[]),by simp [hm],by simp [hok]⟩
  ·have g3:decide (t.length+1 < c.toNat+1)=false:=by simp; omega
   rw [if_neg hsh,Option.map_map] at hm
   have b1:(1:Int)≤((c.toNat+1:Nat):Int):=by omega
   have b2:c.toNat+1≤t.length+1:=by omega
   have e1:c.toNat+1 - 1=c.toNat:=by omega
   have e2:(t.drop c.toNat).take (t.length - c.toNat)=t.drop c.toNat:=List.take_of_length_le (by rw [List.length_drop]; omega)
   have hbs:=cO (t.take c.toNat)
   obtain ⟨v',T2,e2',happ,_,hcl2,_,hv3,_,_,_⟩:=(hv.more [.cells [.str (t.take c.toNat)] 9 .rw]).D9 (P:=Tryz.prog) (b:=16) (by decide) eU [.str (t.take c.toNat)] 1 (by decide) rfl rfl (by simp only [fits,decide_eq_true_eq]; omega)
   simp only [go_sem,simprocAttr,hl,h0,h4,g0,w0,w1,g3,b1,b2,e1,e2,hbs,happ]
   refine ⟨(t.drop c.toNat).length,by rw [List.length_drop]; omega,_,t.drop c.toNat,L1++[t.take c.toNat],v',T2,_,rfl,?_,by simp; omega,by simpa [strs] using hv3,rfl,by simp only [go_sem,simprocAttr,he,hcl2],by simp only [go_sem,simprocAttr,hl],by simp only [go_sem,simprocAttr,hl],by simp only [go_sem,simprocAttr,hl]⟩
   rw [hm]
   congr 1
   funext x
   simp
def Buf (n:Nat) (T:Hp) (v:AV) (bs:List UInt8):Prop:=(v=.aI∧bs=[])∨(0 < bs.length∧∃ m,v=.slice (n+m) 0 bs.length (.op 0)∧T[m]?=some (.cells (u8s bs) 5 (.op 0 false)))
def Bld (n:Nat) (T:Hp) (j:Nat) (bs:List UInt8):Prop :=
 ∃ p v,T[j]?=some (.cells [p,v] 73 .rw)∧(p=.fF∨p=.ptr (n+j) 0)∧Buf n T v bs
theorem Bl:Tryz.prog.underlying 70=some (.pointer 73):=by kernel_rfl
theorem PN:liesAt Tryz.prog Tryz.prog.depth 73 (2 / Tryz.prog.cellsOf 73) 0 73 1=true:=by kernel_rfl
theorem B7:∃ j,Tryz.prog.info? 73=some j∧j.size=2:=by
 have:=xJ
 unfold cq at this
 simpa using this
theorem A0 {b:Nat} {p v:AV} {k:Kd} {H:Hp} (h:H[b]?=some (.cells [p,v] 73 k)):aZ Tryz.prog 70 148 (.ptr b 0) H=some (.ptr b 0,H):=by
 obtain ⟨j,hj,hz⟩:=B7
 simp [aZ,Bp,vE,h,hj,hz]
theorem A2 {b:Nat} {p v:AV} {H:Hp} (h:H[b]?=some (.cells [p,v] 73 .rw)):aZ Tryz.prog 148 70 (.ptr b 0) H=some (.ptr b 0,H):=by
 obtain ⟨j,hj,hz⟩:=B7
 have:=PN
 simp only [aZ,Bp,vE,h,hj]
 exact if_pos this
theorem Uk {c:Bool}:gG Tryz.prog .eql 70 .fF .fF c=some (.bool true):=by simp [gG,kS,gj,Bl]
theorem Uj {b o:Nat} {c:Bool}:gG Tryz.prog .eql 70 (.ptr b o) .fF c=some (.bool false):=by simp [gG,kS,gj,Bl]
theorem neB {b o:Nat} {c:Bool}:gG Tryz.prog .neq 70 (.ptr b o) (.ptr b o) c=some (.bool false):=by
 obtain ⟨j,hj,_⟩:=B7
 simp [gG,kS,gj,Bl,hj]
attribute [go_sem] Uk Uj neB

theorem pg (H T:Hp) (j:Nat) (p v:AV) (hj:T[j]?=some (.cells [p,v] 73 .rw)) (hp:p=.fF∨p=.ptr (H.length+j) 0) (hv:cK v=true) :
  ∃ e,(e=z0∨Cl H.length j e)∧∀ k,ag Tryz.prog 50 [.ptr (H.length+j) 0] (H++T) k=k (.tuple [],H++T.set j (.cells [.ptr (H.length+j) 0,v] 73 .rw),e):=by
 have hlt:=ai hj
 have hd:decide (j < T.length)=true:=by simpa using hlt
 refine (fun h:∃ r:{e:Ef // e=z0∨Cl H.length j e},∀ k,ag Tryz.prog 50 [.ptr (H.length+j) 0] (H++T) k=k (.tuple [],H++T.set j (.cells [.ptr (H.length+j) 0,v] 73 .rw),r.1)=>?_) (Bb (fun r:{e:Ef // e=z0∨Cl H.length j e}=>(.tuple [],H++T.set j (.cells [.ptr (H.length+j) 0,v] 73 .rw),r.1)) ?_)
 ·obtain ⟨r,hr⟩:=h
  exact ⟨r.1,r.2,hr⟩
 refine aa (n:=20) (rs:=[]) Tryz.func50 rfl rfl rfl ?_
 intro σ hl ha
 have h0:=ha 0 (by simp)
 clear ha
 simp only [Option.getD_some,List.getElem?_cons_zero,List.getElem?_cons_succ] at h0
 have hb:(H++T)[H.length+j]?=some (.cells [p,v] 73 .rw):=by rw [bX,hj]
 have c1:=A0 hb
 have c2:=A2 hb
 obtain rfl | rfl:=hp
 ·simp only [go_sem,simprocAttr,hl,h0,hj,hd,hv,c1,c2]
  have hcl:Cl H.length j ⟨some (H.length+j),some (H.length+j)⟩:=⟨_,rfl,by omega,by omega,by simp [low]⟩
  obtain ⟨e',h1,h2⟩:=hcl.leave (m:=H.length+T.length) (by omega)
  exact ⟨⟨e',.inr h1⟩,h2 _ _⟩
 ·simp only [go_sem,simprocAttr,hl,h0,hj,hd,hv]
  rw [eT hj]
  refine ⟨⟨z0,.inl rfl⟩,?_⟩
  rw [← List.length_append]
  exact dJ rfl (by rw [iu]; trivial)

theorem Buf.scl {n:Nat} {T:Hp} {v:AV} {bs:List UInt8} (h:Buf n T v bs):cK v=true:=by
 obtain ⟨rfl,_⟩ | ⟨_,m,rfl,_⟩:=h <;> rfl
theorem Buf.len {n:Nat} {T:Hp} {v:AV} {bs:List UInt8} (h:Buf n T v bs) (H:Hp):bY Tryz.prog 71 v H=some (.int .i64 bs.length):=by
 obtain ⟨rfl,rfl⟩ | ⟨_,m,rfl,_⟩:=h
 ·simp only [bY,dh]; rfl
 ·simp only [bY,dh]
theorem Buf.app {H T:Hp} {v:AV} {bs:List UInt8} (h:Buf H.length T v bs) (s:List UInt8) (hf:fits (bs.length+s.length) 1=true) :
  ∃ v' T2 e2,(∀ kk,aF (c9 Tryz.prog (.slice 5 1 1) v (u8s s,s.length) (H++T)) kk=kk (v',H++T2,e2))∧T.length≤T2.length∧clean H.length e2∧(∀ (i:Nat) x,T[i]?=some x→Kh x=true→T2[i]?=some x)∧Buf H.length T2 v' (bs++s):=by
 obtain ⟨rfl,rfl⟩ | ⟨hpos,m,rfl,hm⟩:=h
 ·by_cases hs:s=[]
  ·subst hs
   refine ⟨.aI,T,z0,fun kk=>?_,Nat.le_refl _,⟨rfl,rfl⟩,fun i x hx _=>hx,.inl ⟨rfl,rfl⟩⟩
   rw [dS (by decide) jC]
   have hd:decide (([]:List UInt8).length=0)=true:=rfl
   rw [hd,cV]
  ·have hl:0 < s.length:=by cases s <;> simp_all
   refine ⟨.slice (H.length+T.length) 0 s.length (.op 0),T++[.cells (u8s s) 5 (.op 0 false)],z0,fun kk=>?_,by simp,⟨rfl,rfl⟩,fun i x hx _=>ah hx,.inr ⟨by simpa using hl,T.length,by simp,by simp⟩⟩
   rw [dS (by decide) jC]
   have hd:decide (s.length=0)=false:=by simp; omega
   have hf:fits s.length 1=true:=by simpa using hf
   simp only [hd,cn,hf,true_and,List.length_append,List.append_assoc]
 ·have hlt:=ai hm
  have hg:(H++T)[H.length+m]?=some (.cells (u8s bs) 5 (.op 0 false)):=by rw [bX,hm]
  by_cases hs:s=[]
  ·subst hs
   refine ⟨.slice (H.length+m) 0 bs.length (.op 0),T,⟨none,some (H.length+m)⟩,fun kk=>?_,Nat.le_refl _,by simp [clean,low],fun i x hx _=>hx,.inr ⟨by simpa using hpos,m,by simp,by simpa using hm⟩⟩
   have hsp:splice (u8s bs) (bs.length) []=u8s bs:=by
    unfold splice
    simp
   rw [eC (by decide) jC,hg]
   have hset:(H++T).set (H.length+m) (.cells (u8s bs) 5 (.op 0 false))=H++T:=eT hg
   have hd:decide (0+(bs.length+([]:List UInt8).length)*1≤(u8s bs).length)=true:=by rw [bz]; simp
   have e1:(0+bs.length*1+(u8s []).length≤(u8s bs).length∧gE (Kd.op 0 false) (0+bs.length*1)=true∧(u8s []).all cK=true):=⟨by simp [bz],rfl,rfl⟩
   have e2:splice (u8s bs) (0+bs.length*1) (u8s [])=u8s bs:=by rw [Nat.zero_add,Nat.mul_one]; exact hsp
   have hwr:wr (H++T) (H.length+m) (0+bs.length*1) (u8s [])=some (H++T,⟨none,some (H.length+m)⟩):=by
    unfold wr
    rw [hg]
    show (if _ then _ else _)=_
    rw [if_pos e1,e2,hset,rG,if_pos rfl]
   simp only [aD,hU,hwr]
   rw [hd,cV]
   rw [hwr]
   simp only [aD,bz,Nat.zero_add,Nat.mul_one,Nat.le_refl,and_self,true_and,List.length_nil,Nat.add_zero]
  ·have hl:0 < s.length:=by cases s <;> simp_all
   refine ⟨.slice (H.length+T.length) 0 (bs++s).length (.op 0),T.set m .dead++[.cells (u8s (bs++s)) 5 (.op 0 false)],⟨none,some (H.length+m)⟩,fun kk=>?_,by simp,by simp [clean,low],fun i x hx hf=>?_,.inr ⟨by simp; omega,T.length,rfl,by simp⟩⟩
   ·rw [eC (by decide) jC,hg]
    simp only [aD,hU]
    have hd:decide (0+(bs.length+s.length)*1≤(u8s bs).length)=false:=by
     rw [bz]; simp; omega
    have ht:(List.drop 0 (u8s bs)).take bs.length++u8s s=u8s (bs++s):=by
     rw [List.drop_zero,List.take_of_length_le (by rw [bz]; exact Nat.le_refl _),j8]
    rw [hd,cn]
    simp only [ht,hf,ja,gz,List.length_append,List.append_assoc,bz,Nat.sub_self,Nat.zero_le,true_and,and_true,Nat.mul_one,Nat.zero_add,Nat.le_refl]
   ·have hne:m≠i:=by
     rintro rfl
     rw [hm] at hx; cases hx; cases hf
    rw [ah (x:=x)]
    rw [List.getElem?_set_ne hne]; exact hx

theorem Buf.set {n:Nat} {T:Hp} {v:AV} {bs:List UInt8} {j:Nat} {c:List AV} {e:TypeId} {x:bp} (h:Buf n T v bs) (hj:T[j]?=some (.cells c e .rw)):Buf n (T.set j x) v bs:=by
 obtain h | ⟨hp,m,rfl,hm⟩:=h
 ·exact .inl h
 ·refine .inr ⟨hp,m,rfl,?_⟩
  have:j≠m:=by rintro rfl; rw [hj] at hm; cases hm
  rw [List.getElem?_set_ne this]; exact hm
theorem Buf.pos {n:Nat} {T:Hp} {v:AV} {bs:List UInt8} (h:Buf n T v bs) (hp:0 < bs.length):∃ m,v=.slice (n+m) 0 bs.length (.op 0)∧T[m]?=some (.cells (u8s bs) 5 (.op 0 false)):=by
 obtain ⟨_,rfl⟩ | ⟨_,h⟩:=h
 ·cases hp
 ·exact h

theorem qu (H T:Hp) (j:Nat) (bs s:List UInt8) (hb:Bld H.length T j bs) (hs:0 < s.length) (hf:fits (bs.length+s.length) 1=true) :
  ∃ T' e,Bld H.length T' j (bs++s)∧lp T j T'∧Cl H.length j e∧∀ k,ag Tryz.prog 26 [.ptr (H.length+j) 0,.str s] (H++T) k=k (.tuple [.int .i64 s.length,.de],H++T',e):=by
 obtain ⟨p,v,hj,hp,hv⟩:=hb
 have hlt:=ai hj
 obtain ⟨e1,he1,hck⟩:=pg H T j p v hj hp hv.scl
 have hj1:(T.set j (.cells [.ptr (H.length+j) 0,v] 73 .rw))[j]?=some (.cells [.ptr (H.length+j) 0,v] 73 .rw):=by rw [List.getElem?_set_self hlt]
 have hv1:=hv.set (x:=.cells [.ptr (H.length+j) 0,v] 73 .rw) hj
 obtain ⟨v',T2,e2,happ,hlen,hcl,hkeep,hbuf⟩:=hv1.app s hf
 obtain ⟨m,hvm,hm⟩:=hbuf.pos (by simp; omega)
 have hj2:=hkeep j _ hj1 rfl
 have hlt2:=ai hj2
 have hfl:flat v'=false:=by rw [hvm]; simp only [flat]
 have hsc:=hbuf.scl
 have hvc:bH v'=[v']:=by rw [hvm]; rfl
 have hc0:clean H.length e1:=by
  obtain rfl | h:=he1
  ·exact ⟨rfl,rfl⟩
  ·exact h.cln
 have hcl3:Cl H.length j ((e1.and e2).and ⟨some (H.length+j),some (H.length+j)⟩):=.Ea (bn hc0 hcl) ⟨_,rfl,by omega,by omega,by simp [low]⟩
 obtain ⟨e',hE,hleave⟩:=hcl3.leave (m:=H.length+T.length) (by omega)
 refine ⟨T2.set j (.cells [.ptr (H.length+j) 0,v'] 73 .rw),e',⟨_,v',by rw [List.getElem?_set_self hlt2],.inr rfl,hbuf.set hj2⟩,⟨by simp at hlen ⊢; omega,fun i x hi hx hf=>?_⟩,hE,fun k=>?_⟩
 ·rw [List.getElem?_set_ne (Ne.symm hi)]
  exact hkeep i x (by rw [List.getElem?_set_ne (Ne.symm hi)]; exact hx) hf
 simp only [u8s] at happ
 refine ak ?_ k
 refine aa (n:=19) (rs:=[.tmp 4,.tmp 5]) Tryz.func26 rfl rfl rfl ?_
 intro σ hl ha
 have h0:=ha 0 (by simp)
 have h1:=ha 1 (by simp)
 clear ha
 simp only [Option.getD_some,List.getElem?_cons_zero,List.getElem?_cons_succ] at h0 h1
 have d1:decide (j < T.length)=true:=by simpa using hlt
 have d2:decide (j < T2.length)=true:=by simpa using hlt2
 simp only [go_sem,simprocAttr,hl,h0,h1,hck,d1,d2,hj1,hj2,happ,hvc,hsc,hfl]
 exact hleave _ _

theorem xu (H T:Hp) (j:Nat) (bs:List UInt8) (c:UInt8) (hb:Bld H.length T j bs) (hf:fits (bs.length+1) 1=true) :
  ∃ T' e,Bld H.length T' j (bs++[c])∧lp T j T'∧Cl H.length j e∧∀ k,ag Tryz.prog 53 [.ptr (H.length+j) 0,.int .u8 c.toNat] (H++T) k=k (.de,H++T',e):=by
 obtain ⟨p,v,hj,hp,hv⟩:=hb
 have hlt:=ai hj
 obtain ⟨e1,he1,hck⟩:=pg H T j p v hj hp hv.scl
 have hj1:(T.set j (.cells [.ptr (H.length+j) 0,v] 73 .rw))[j]?=some (.cells [.ptr (H.length+j) 0,v] 73 .rw):=by rw [List.getElem?_set_self hlt]
 have hj1':(T.set j (.cells [.ptr (H.length+j) 0,v] 73 .rw)++[.cells [.int .u8 c.toNat] 5 .rw])[j]?=some (.cells [.ptr (H.length+j) 0,v] 73 .rw):=ah hj1
 have hv1:Buf H.length (T.set j (.cells [.ptr (H.length+j) 0,v] 73 .rw)++[.cells [.int .u8 c.toNat] 5 .rw]) v bs:=by
  obtain h | ⟨hp,m,rfl,hm⟩:=hv.set (x:=.cells [.ptr (H.length+j) 0,v] 73 .rw) hj
  ·exact .inl h
  ·exact .inr ⟨hp,m,rfl,ah hm⟩
 obtain ⟨v',T2,e2,happ,hlen,hcl,hkeep,hbuf⟩:=hv1.app [c] hf
 obtain ⟨m,hvm,hm⟩:=hbuf.pos (by simp)
 have hj2:=hkeep j _ hj1' rfl
 have hlt2:=ai hj2
 have hfl:flat v'=false:=by rw [hvm]; simp only [flat]
 have hsc:=hbuf.scl
 have hvc:bH v'=[v']:=by rw [hvm]; rfl
 have hc0:clean H.length e1:=by
  obtain rfl | h:=he1
  ·exact ⟨rfl,rfl⟩
  ·exact h.cln
 have hcl3:Cl H.length j ((e1.and e2).and ⟨some (H.length+j),some (H.length+j)⟩):=.Ea (bn hc0 hcl) ⟨_,rfl,by omega,by omega,by simp [low]⟩
 obtain ⟨e',hE,hleave⟩:=hcl3.leave (m:=H.length+T.length) (by omega)
 refine ⟨T2.set j (.cells [.ptr (H.length+j) 0,v'] 73 .rw),e',⟨_,v',by rw [List.getElem?_set_self hlt2],.inr rfl,hbuf.set hj2⟩,⟨by simp at hlen ⊢; omega,fun i x hi hx hf=>?_⟩,hE,fun k=>?_⟩
 ·rw [List.getElem?_set_ne (Ne.symm hi)]
  exact hkeep i x (ah (by rw [List.getElem?_set_ne (Ne.symm hi)]; exact hx)) hf
 simp only [u8s,List.map_cons,List.map_nil,List.length_cons,List.length_nil,Nat.zero_add] at happ
 refine ak ?_ k
 refine aa (n:=17) (rs:=[.tmp 4]) Tryz.func53 rfl rfl rfl ?_
 intro σ hl ha
 have h0:=ha 0 (by simp)
 have h1:=ha 1 (by simp)
 clear ha
 simp only [Option.getD_some,List.getElem?_cons_zero,List.getElem?_cons_succ] at h0 h1
 have d1:decide (j < T.length)=true:=by simpa using hlt
 have d2:decide (j < T2.length)=true:=by simpa using hlt2
 have hbs:∀ H,aO Tryz.prog 71 1 [(0,.int .u8 c.toNat)] H=some (.slice H.length 0 1 (.ex 1),H++[.cells [.int .u8 c.toNat] 5 .rw]):=by
  intro H
  simp only [aO,dh,jq,Option.bind_some]
  rfl
 simp only [go_sem,simprocAttr,hl,h0,h1,hck,d1,d2,hj1,hj2,hbs,happ,hvc,hsc,hfl]
 exact hleave _ _

theorem qv (H T:Hp) (j:Nat) (bs:List UInt8) (hb:Bld H.length T j bs) (hn:bs.length≤9223372036854775807) :
  ∃ T' e,lp T j T'∧clean H.length e∧∀ k,ag Tryz.prog 33 [.ptr (H.length+j) 0] (H++T) k=k (.str bs,H++T',e):=by
 obtain ⟨p,v,hj,hp,hv⟩:=hb
 have hlt:=ai hj
 have hlen:=hv.len
 obtain ⟨rfl,rfl⟩ | ⟨hpos,m,rfl,hm⟩:=hv
 ·refine ⟨T,z0,lp.refl T j,⟨rfl,rfl⟩,fun k=>?_⟩
  refine ak ?_ k
  refine aa (n:=14) (rs:=[.tmp 2]) Tryz.func33 rfl rfl rfl ?_
  intro σ hl ha
  have h0:=ha 0 (by simp)
  clear ha
  simp only [Option.getD_some,List.getElem?_cons_zero,List.getElem?_cons_succ] at h0
  have hsd:fA Tryz.prog .aI (H++T)=some .fF:=rfl
  have hst:gA Tryz.prog 122 .fF (.int .i64 0) (H++T)=some (.str [],H++T,z0):=rfl
  have d1:decide (j < T.length)=true:=by simpa using hlt
  simp only [go_sem,simprocAttr,hl,h0]
  refine ay au (by kernel_rfl) ?_
  simp only [go_sem,simprocAttr,hl,h0,hj,d1,hsd,hst,hlen]
  rw [← List.length_append]
  exact dJ rfl (by rw [iu]; trivial)
 ·have hlm:=ai hm
  have hg:(H++T)[H.length+m]?=some (.cells (u8s bs) 5 (.op 0 false)):=by rw [bX,hm]
  have hsd:fA Tryz.prog (.slice (H.length+m) 0 bs.length (.op 0)) (H++T)=some (.ptr (H.length+m) 0):=by
   simp only [fA,hg,rf,Option.bind_some]
   rw [if_pos ⟨by decide,trivial,hpos,by rw [bz]; omega⟩]
  have hst:gA Tryz.prog 122 (.ptr (H.length+m) 0) (.int .i64 bs.length) (H++T)=some (.str bs,(H++T).set (H.length+m) (.cells (u8s bs) 5 (.op bs.length false)),⟨none,some (H.length+m)⟩):=by
   have c1:¬ ((bs.length:Int)=0):=by omega
   have c2:0 < (bs.length:Int)∧(bs.length:Int)≤9223372036854775807:=by omega
   have c3:Tryz.prog.cellsOf 5=1:=by kernel_rfl
   have c5:((u8s bs).drop 0).take (bs.length:Int).toNat=u8s bs:=by
    rw [List.drop_zero,List.take_of_length_le (by rw [bz]; simp)]
   simp only [gA,vH,hg]
   rw [if_neg c1,if_pos c2,if_pos ⟨trivial,rf,c3,by rw [bz]; simp⟩,c5,qs]
   simp
  refine ⟨T.set m (.cells (u8s bs) 5 (.op bs.length false)),⟨none,low (H.length+T.length) (some (H.length+m))⟩,⟨by simp,fun i x hi hx hf=>by
   have hne:m≠i:=by
    rintro rfl
    rw [hm] at hx; cases hx; cases hf
   rw [List.getElem?_set_ne hne]; exact hx⟩,⟨rfl,kB (m:=H.length+T.length) (by simp [low]:low H.length (some (H.length+m))=none)⟩,fun k=>?_⟩
  refine ak ?_ k
  refine aa (n:=14) (rs:=[.tmp 2]) Tryz.func33 rfl rfl rfl ?_
  intro σ hl ha
  have h0:=ha 0 (by simp)
  clear ha
  simp only [Option.getD_some,List.getElem?_cons_zero,List.getElem?_cons_succ] at h0
  have d1:decide (j < T.length)=true:=by simpa using hlt
  simp only [go_sem,simprocAttr,hl,h0]
  refine ay au (by kernel_rfl) ?_
  simp only [go_sem,simprocAttr,hl,h0,hj,d1,hsd,hst,hlen]
  refine ⟨(by kernel_rfl:bN _ _ _=true),?_⟩
  unfold leave
  have hlo:low (H.length+T.length) none=none:=rfl
  simp only [hlo,flat,and_self,if_true]
  rw [List.take_of_length_le (by simp)]
theorem o9 (H T:Hp) (j:Nat) (bs:List UInt8) (hb:Bld H.length T j bs) (hn:bs.length≤9223372036854775807) :
  ∃ T' e,clean H.length e∧∀ k,ag Tryz.prog 33 [.ptr (H.length+j) 0] (H++T) k=k (.str bs,H++T',e):=by
 obtain ⟨T',e,_,h1,h2⟩:=qv H T j bs hb hn
 exact ⟨T',e,h1,h2⟩
def gM (q:Bool) (c:UInt8):List UInt8 :=
 if c.toNat=34∨c.toNat=92 then [92,c]
 else if c.toNat=46∨c.toNat=59∨c.toNat=40∨c.toNat=41∨c.toNat=64∨c.toNat=36 then (if q=true then [c] else [92,c])
 else if (32 < c.toNat∧c.toNat < 127)∨(c.toNat=32∧q=true) then [c]
 else [92,UInt8.ofNat (48+c.toNat / 100),UInt8.ofNat (48+c.toNat / 10 % 10),UInt8.ofNat (48+c.toNat % 10)]
def fJ (q:Bool) (s:List UInt8):List UInt8:=s.flatMap (gM q)
theorem Kw (q:Bool) (c:UInt8):(gM q c).length≤4:=by
 unfold gM; split
 ·simp
 split
 ·split <;> simp
 split <;> simp
theorem u7 {q:Bool} {s:List UInt8} {i:Nat} {c:UInt8} (h:s[i]?=some c):fJ q (s.take (i+1))=fJ q (s.take i)++gM q c:=by
 rw [cu h]; simp [fJ]
theorem fV (q:Bool):∀ (s:List UInt8),(fJ q s).length≤4*s.length
 | []=>by simp [fJ]
 | c::s=>by
  have:=fV q s
  have h:=Kw q c
  have e:fJ q (c::s)=gM q c++fJ q s:=rfl
  rw [e,List.length_append,List.length_cons]; omega

theorem Bld.more {n:Nat} {T:Hp} {j:Nat} {bs:List UInt8} (h:Bld n T j bs) (l:Hp):Bld n (T++l) j bs:=by
 obtain ⟨p,v,hj,hp,hv⟩:=h
 refine ⟨p,v,ah hj,hp,?_⟩
 obtain h | ⟨q,m,rfl,hm⟩:=hv
 ·exact .inl h
 ·exact .inr ⟨q,m,rfl,ah hm⟩
theorem Bld.lt {n:Nat} {T:Hp} {j:Nat} {bs:List UInt8} (h:Bld n T j bs):j < T.length:=by
 obtain ⟨p,v,hj,hp,hv⟩:=h
 exact ai hj

theorem xq (H T:Hp) (j q:Nat) (bs s:List UInt8) (hb:Bld H.length T j bs) (hq:T[q]?=some (.cells (u8s s) 5 .rw)) (hqj:j≠q) (hs:0 < s.length) (hf:fits (bs.length+s.length) 1=true) :
  ∃ T' e,Bld H.length T' j (bs++s)∧lp T j T'∧Cl H.length j e∧∀ k,ag Tryz.prog 88 [.ptr (H.length+j) 0,.slice (H.length+q) 0 s.length (.ex s.length)] (H++T) k=k (.tuple [.int .i64 s.length,.de],H++T',e):=by
 obtain ⟨p,v,hj,hp,hv⟩:=hb
 have hlt:=ai hj
 obtain ⟨e1,he1,hck⟩:=pg H T j p v hj hp hv.scl
 have hj1:(T.set j (.cells [.ptr (H.length+j) 0,v] 73 .rw))[j]?=some (.cells [.ptr (H.length+j) 0,v] 73 .rw):=by rw [List.getElem?_set_self hlt]
 have hq1:(T.set j (.cells [.ptr (H.length+j) 0,v] 73 .rw))[q]?=some (.cells (u8s s) 5 .rw):=by rw [List.getElem?_set_ne hqj]; exact hq
 have hv1:=hv.set (x:=.cells [.ptr (H.length+j) 0,v] 73 .rw) hj
 obtain ⟨v',T2,e2,happ,hlen,hcl,hkeep,hbuf⟩:=hv1.app s hf
 obtain ⟨m,hvm,hm⟩:=hbuf.pos (by simp; omega)
 have hj2:=hkeep j _ hj1 rfl
 have hlt2:=ai hj2
 have hfl:flat v'=false:=by rw [hvm]; simp only [flat]
 have hsc:=hbuf.scl
 have hvc:bH v'=[v']:=by rw [hvm]; rfl
 have hc0:clean H.length e1:=by
  obtain rfl | h:=he1
  ·exact ⟨rfl,rfl⟩
  ·exact h.cln
 have hcl3:Cl H.length j ((e1.and e2).and ⟨some (H.length+j),some (H.length+j)⟩):=.Ea (bn hc0 hcl) ⟨_,rfl,by omega,by omega,by simp [low]⟩
 obtain ⟨e',hE,hleave⟩:=hcl3.leave (m:=H.length+T.length) (by omega)
 refine ⟨T2.set j (.cells [.ptr (H.length+j) 0,v'] 73 .rw),e',⟨_,v',by rw [List.getElem?_set_self hlt2],.inr rfl,hbuf.set hj2⟩,⟨by simp at hlen ⊢; omega,fun i x hi hx hf=>?_⟩,hE,fun k=>?_⟩
 ·rw [List.getElem?_set_ne (Ne.symm hi)]
  exact hkeep i x (by rw [List.getElem?_set_ne (Ne.symm hi)]; exact hx) hf
 have hrd:=fun (e:TypeId) (k:Kd)=>v7 (s:=s) (e:=e) (k:=k) (n:=s.length) rfl
 refine ak ?_ k
 refine aa (n:=19) (rs:=[.tmp 4,.tmp 5]) Tryz.func88 rfl rfl rfl ?_
 intro σ hl ha
 have h0:=ha 0 (by simp)
 have h1:=ha 1 (by simp)
 clear ha
 simp only [Option.getD_some,List.getElem?_cons_zero,List.getElem?_cons_succ] at h0 h1
 have d1:decide (j < T.length)=true:=by simpa using hlt
 have d2:decide (j < T2.length)=true:=by simpa using hlt2
 simp only [go_sem,simprocAttr,hl,h0,h1,hck,d1,d2,hj1,hj2,hq1,hrd,Nat.mul_one,happ,hvc,hsc,hfl]
 exact hleave _ _
theorem dA (H T:Hp) (j:Nat) (bs:List UInt8) (c:UInt8) (n:Int) (hn:n=c.toNat) (hb:Bld H.length T j bs) (hf:fits (bs.length+1) 1=true) :
  ∃ T' e,Bld H.length T' j (bs++[c])∧lp T j T'∧Cl H.length j e∧∀ k,ag Tryz.prog 53 [.ptr (H.length+j) 0,.int .u8 n] (H++T) k=k (.de,H++T',e):=by
 subst hn
 exact xu H T j bs c hb hf
theorem cE (a b c d:Int) (H:Hp):aO Tryz.prog 71 4 [(0,.int .u8 a),(1,.int .u8 b),(2,.int .u8 c),(3,.int .u8 d)] H=some (.slice H.length 0 4 (.ex 4),H++[.cells [.int .u8 a,.int .u8 b,.int .u8 c,.int .u8 d] 5 .rw]):=by
 simp only [aO,dh,jq,Option.bind_some]
 rfl
theorem xd {n:Nat} (h:n < 256):IntKind.u8.wrap (48+IntKind.u8.wrap ((n:Int).tdiv 100))=((UInt8.ofNat (48+n / 100)).toNat:Int):=by
 have e:(n:Int).tdiv 100=((n / 100:Nat):Int):=rfl
 rw [e,show IntKind.u8.wrap ((n / 100:Nat):Int)=((n / 100:Nat):Int) from wrap_u8 (by omega),ofNat_le (m:=255) (by omega) (by omega),wrap_u8 (by omega)]; omega
theorem w9 {n:Nat} (h:n < 256):IntKind.u8.wrap (48+(IntKind.u8.wrap ((n:Int).tdiv 10)).tmod 10)=((UInt8.ofNat (48+n / 10 % 10)).toNat:Int):=by
 have e:(n:Int).tdiv 10=((n / 10:Nat):Int):=rfl
 rw [e,show IntKind.u8.wrap ((n / 10:Nat):Int)=((n / 10:Nat):Int) from wrap_u8 (by omega)]
 have e:((n / 10:Nat):Int).tmod 10=((n / 10 % 10:Nat):Int):=rfl
 rw [e,ofNat_le (m:=255) (by omega) (by omega),wrap_u8 (by omega)]; omega
theorem w7 {n:Nat} (h:n < 256):IntKind.u8.wrap (48+(n:Int).tmod 10)=((UInt8.ofNat (48+n % 10)).toNat:Int):=by
 have e:(n:Int).tmod 10=((n % 10:Nat):Int):=rfl
 rw [e,ofNat_le (m:=255) (by omega) (by omega),wrap_u8 (by omega)]; omega

set_option maxHeartbeats 2000000 in
theorem qM (s:List UInt8) (q:Bool) (H k) (hs:s.length≤1000000):ag Tryz.prog 52 [.str s,.bool q] H k=k (.str (fJ q s),H,z0):=by
 refine ak (r:=(.str (fJ q s),H,z0)) ?_ k
 refine aa (n:=63) (rs:=[.tmp 4]) Tryz.func52 rfl rfl rfl ?_
 intro σ hl ha
 have h0:=ha 0 (by simp)
 have h1:=ha 1 (by simp)
 clear ha
 simp only [Option.getD_some,List.getElem?_cons_zero,List.getElem?_cons_succ] at h0 h1
 have hb0:Bld H.length [.cells [.fF,.aI] 73 .rw] 0 (fJ q (s.take 0)):=⟨_,_,rfl,.inl rfl,.inl ⟨rfl,rfl⟩⟩
 simp only [go_sem,simprocAttr,hl,h0,h1]
 refine go_rounds (fun n st=>∃ σ i T e,n+i=s.length∧st=⟨σ,H++T,e⟩∧Bld H.length T 0 (fJ q (s.take i))∧clean H.length e∧σ.length=63∧fr σ 0=.str s∧fr σ 1=.bool q∧fr σ 5=.ptr H.length 0∧fr σ 10=.int .i64 s.length∧fr σ 11=.int .i64 (i:Nat)) s.length
  ⟨_,0,_,_,rfl,rfl,hb0,⟨rfl,rfl⟩,by simp only [go_sem,simprocAttr,hl],by simp only [go_sem,simprocAttr,hl,h0],by simp only [go_sem,simprocAttr,hl,h1],by simp only [go_sem,simprocAttr,hl],by simp only [go_sem,simprocAttr,hl],by simp only [go_sem,simprocAttr,hl]⟩ ?_
 rintro n _ ⟨σ,i,T,e,hn,rfl,hb,he,hl,h0,h1,h5,h10,h11⟩
 by_cases hlt:i < s.length
 ·obtain ⟨c,hc⟩:∃ c,s[i]?=some c:=⟨_,List.getElem?_eq_getElem hlt⟩
  have hcl:=c.toNat_lt
  have hw:=aS (show i < 9223372036854775807 by omega)
  have hsn:=u7 (q:=q) hc
  have hbl:(fJ q (s.take i)).length≤4000000:=by
   have:=fV q (s.take i)
   rw [List.length_take] at this; omega
  have hT:=hb.lt
  generalize hB:fJ q (s.take i)=B at *
  by_cases q34:c.toNat=34
  ·have hE:gM q c=[92,c]:=by unfold gM; exact if_pos (by omega)
   have g46:((c.toNat:Int) == 46)=false:=by simp; omega
   have g59:((c.toNat:Int) == 59)=false:=by simp; omega
   have g40:((c.toNat:Int) == 40)=false:=by simp; omega
   have g41:((c.toNat:Int) == 41)=false:=by simp; omega
   have g64:((c.toNat:Int) == 64)=false:=by simp; omega
   have g36:((c.toNat:Int) == 36)=false:=by simp; omega
   have g34:((c.toNat:Int) == 34)=true:=by simp; omega
   have g92:((c.toNat:Int) == 92)=false:=by simp; omega
   obtain ⟨T1,e1,b1,k1,c1,r1⟩:=dA H T 0 (B) 92 92 rfl hb (by simp only [fits,decide_eq_true_eq,List.length_append,List.length_cons,List.length_nil] at *; omega)
   have c1:=c1.cln
   simp only [Nat.add_zero] at r1
   obtain ⟨T2,e2,b2,k2,c2,r2⟩:=dA H T1 0 (B++[92]) c c.toNat rfl b1 (by simp only [fits,decide_eq_true_eq,List.length_append,List.length_cons,List.length_nil] at *; omega)
   have c2:=c2.cln
   simp only [Nat.add_zero] at r2
   simp only [go_sem,simprocAttr,hl,h0,h1,h5,h10,h11,hc,hlt,hw,cE,g46,g59,g40,g41,g64,g36,g34,g92,r1,r2]
   refine ⟨n - 1,by omega,_,i+1,T2,_,by omega,rfl,?_,by simp only [go_sem,simprocAttr,he,c1,c2],by simp only [go_sem,simprocAttr,hl],by simp only [go_sem,simprocAttr,hl,h0],by simp only [go_sem,simprocAttr,hl,h1],by simp only [go_sem,simprocAttr,hl,h5],by simp only [go_sem,simprocAttr,hl,h10],by simp only [go_sem,simprocAttr,hl]⟩
   rw [hsn,hE]; simpa [List.append_assoc] using b2
  by_cases q92:c.toNat=92
  ·have hE:gM q c=[92,c]:=by unfold gM; exact if_pos (by omega)
   have g46:((c.toNat:Int) == 46)=false:=by simp; omega
   have g59:((c.toNat:Int) == 59)=false:=by simp; omega
   have g40:((c.toNat:Int) == 40)=false:=by simp; omega
   have g41:((c.toNat:Int) == 41)=false:=by simp; omega
   have g64:((c.toNat:Int) == 64)=false:=by simp; omega
   have g36:((c.toNat:Int) == 36)=false:=by simp; omega
   have g34:((c.toNat:Int) == 34)=false:=by simp; omega
   have g92:((c.toNat:Int) == 92)=true:=by simp; omega
   obtain ⟨T1,e1,b1,k1,c1,r1⟩:=dA H T 0 (B) 92 92 rfl hb (by simp only [fits,decide_eq_true_eq,List.length_append,List.length_cons,List.length_nil] at *; omega)
   have c1:=c1.cln
   simp only [Nat.add_zero] at r1
   obtain ⟨T2,e2,b2,k2,c2,r2⟩:=dA H T1 0 (B++[92]) c c.toNat rfl b1 (by simp only [fits,decide_eq_true_eq,List.length_append,List.length_cons,List.length_nil] at *; omega)
   have c2:=c2.cln
   simp only [Nat.add_zero] at r2
   simp only [go_sem,simprocAttr,hl,h0,h1,h5,h10,h11,hc,hlt,hw,cE,g46,g59,g40,g41,g64,g36,g34,g92,r1,r2]
   refine ⟨n - 1,by omega,_,i+1,T2,_,by omega,rfl,?_,by simp only [go_sem,simprocAttr,he,c1,c2],by simp only [go_sem,simprocAttr,hl],by simp only [go_sem,simprocAttr,hl,h0],by simp only [go_sem,simprocAttr,hl,h1],by simp only [go_sem,simprocAttr,hl,h5],by simp only [go_sem,simprocAttr,hl,h10],by simp only [go_sem,simprocAttr,hl]⟩
   rw [hsn,hE]; simpa [List.append_assoc] using b2
  by_cases q46:c.toNat=46
  ·have hE:gM q c=if q=true then [c] else [92,c]:=by unfold gM; rw [if_neg (by omega),if_pos (by omega)]
   have g46:((c.toNat:Int) == 46)=true:=by simp; omega
   have g59:((c.toNat:Int) == 59)=false:=by simp; omega
   have g40:((c.toNat:Int) == 40)=false:=by simp; omega
   have g41:((c.toNat:Int) == 41)=false:=by simp; omega
   have g64:((c.toNat:Int) == 64)=false:=by simp; omega
   have g36:((c.toNat:Int) == 36)=false:=by simp; omega
   have g34:((c.toNat:Int) == 34)=false:=by simp; omega
   have g92:((c.toNat:Int) == 92)=false:=by simp; omega
   cases q
   ·rw [if_neg (by simp)] at hE
    obtain ⟨T1,e1,b1,k1,c1,r1⟩:=dA H T 0 (B) 92 92 rfl hb (by simp only [fits,decide_eq_true_eq,List.length_append,List.length_cons,List.length_nil] at *; omega)
    have c1:=c1.cln
    simp only [Nat.add_zero] at r1
    obtain ⟨T2,e2,b2,k2,c2,r2⟩:=dA H T1 0 (B++[92]) c c.toNat rfl b1 (by simp only [fits,decide_eq_true_eq,List.length_append,List.length_cons,List.length_nil] at *; omega)
    have c2:=c2.cln
    simp only [Nat.add_zero] at r2
    simp only [go_sem,simprocAttr,hl,h0,h1,h5,h10,h11,hc,hlt,hw,cE,g46,g59,g40,g41,g64,g36,g34,g92,r1,r2]
    refine ⟨n - 1,by omega,_,i+1,T2,_,by omega,rfl,?_,by simp only [go_sem,simprocAttr,he,c1,c2],by simp only [go_sem,simprocAttr,hl],by simp only [go_sem,simprocAttr,hl,h0],by simp only [go_sem,simprocAttr,hl,h1],by simp only [go_sem,simprocAttr,hl,h5],by simp only [go_sem,simprocAttr,hl,h10],by simp only [go_sem,simprocAttr,hl]⟩
    rw [hsn,hE]; simpa [List.append_assoc] using b2
   ·rw [if_pos rfl] at hE
    obtain ⟨T1,e1,b1,k1,c1,r1⟩:=dA H T 0 (B) c c.toNat rfl hb (by simp only [fits,decide_eq_true_eq,List.length_append,List.length_cons,List.length_nil] at *; omega)
    have c1:=c1.cln
    simp only [Nat.add_zero] at r1
    simp only [go_sem,simprocAttr,hl,h0,h1,h5,h10,h11,hc,hlt,hw,cE,g46,g59,g40,g41,g64,g36,g34,g92,r1]
    refine ⟨n - 1,by omega,_,i+1,T1,_,by omega,rfl,?_,by simp only [go_sem,simprocAttr,he,c1],by simp only [go_sem,simprocAttr,hl],by simp only [go_sem,simprocAttr,hl,h0],by simp only [go_sem,simprocAttr,hl,h1],by simp only [go_sem,simprocAttr,hl,h5],by simp only [go_sem,simprocAttr,hl,h10],by simp only [go_sem,simprocAttr,hl]⟩
    rw [hsn,hE]; simpa [List.append_assoc] using b1
  by_cases q59:c.toNat=59
  ·have hE:gM q c=if q=true then [c] else [92,c]:=by unfold gM; rw [if_neg (by omega),if_pos (by omega)]
   have g46:((c.toNat:Int) == 46)=false:=by simp; omega
   have g59:((c.toNat:Int) == 59)=true:=by simp; omega
   have g40:((c.toNat:Int) == 40)=false:=by simp; omega
   have g41:((c.toNat:Int) == 41)=false:=by simp; omega
   have g64:((c.toNat:Int) == 64)=false:=by simp; omega
   have g36:((c.toNat:Int) == 36)=false:=by simp; omega
   have g34:((c.toNat:Int) == 34)=false:=by simp; omega
   have g92:((c.toNat:Int) == 92)=false:=by simp; omega
   cases q
   ·rw [if_neg (by simp)] at hE
    obtain ⟨T1,e1,b1,k1,c1,r1⟩:=dA H T 0 (B) 92 92 rfl hb (by simp only [fits,decide_eq_true_eq,List.length_append,List.length_cons,List.length_nil] at *; omega)
    have c1:=c1.cln
    simp only [Nat.add_zero] at r1
    obtain ⟨T2,e2,b2,k2,c2,r2⟩:=dA H T1 0 (B++[92]) c c.toNat rfl b1 (by simp only [fits,decide_eq_true_eq,List.length_append,List.length_cons,List.length_nil] at *; omega)
    have c2:=c2.cln
    simp only [Nat.add_zero] at r2
    simp only [go_sem,simprocAttr,hl,h0,h1,h5,h10,h11,hc,hlt,hw,cE,g46,g59,g40,g41,g64,g36,g34,g92,r1,r2]
    refine ⟨n - 1,by omega,_,i+1,T2,_,by omega,rfl,?_,by simp only [go_sem,simprocAttr,he,c1,c2],by simp only [go_sem,simprocAttr,hl],by simp only [go_sem,simprocAttr,hl,h0],by simp only [go_sem,simprocAttr,hl,h1],by simp only [go_sem,simprocAttr,hl,h5],by simp only [go_sem,simprocAttr,hl,h10],by simp only [go_sem,simprocAttr,hl]⟩
    rw [hsn,hE]; simpa [List.append_assoc] using b2
   ·rw [if_pos rfl] at hE
    obtain ⟨T1,e1,b1,k1,c1,r1⟩:=dA H T 0 (B) c c.toNat rfl hb (by simp only [fits,decide_eq_true_eq,List.length_append,List.length_cons,List.length_nil] at *; omega)
    have c1:=c1.cln
    simp only [Nat.add_zero] at r1
    simp only [go_sem,simprocAttr,hl,h0,h1,h5,h10,h11,hc,hlt,hw,cE,g46,g59,g40,g41,g64,g36,g34,g92,r1]
    refine ⟨n - 1,by omega,_,i+1,T1,_,by omega,rfl,?_,by simp only [go_sem,simprocAttr,he,c1],by simp only [go_sem,simprocAttr,hl],by simp only [go_sem,simprocAttr,hl,h0],by simp only [go_sem,simprocAttr,hl,h1],by simp only [go_sem,simprocAttr,hl,h5],by simp only [go_sem,simprocAttr,hl,h10],by simp only [go_sem,simprocAttr,hl]⟩
    rw [hsn,hE]; simpa [List.append_assoc] using b1
  by_cases q40:c.toNat=40
  ·have hE:gM q c=if q=true then [c] else [92,c]:=by unfold gM; rw [if_neg (by omega),if_pos (by omega)]
   have g46:((c.toNat:Int) == 46)=false:=by simp; omega
   have g59:((c.toNat:Int) == 59)=false:=by simp; omega
   have g40:((c.toNat:Int) == 40)=true:=by simp; omega
   have g41:((c.toNat:Int) == 41)=false:=by simp; omega
   have g64:((c.toNat:Int) == 64)=false:=by simp; omega
   have g36:((c.toNat:Int) == 36)=false:=by simp; omega
   have g34:((c.toNat:Int) == 34)=false:=by simp; omega
   have g92:((c.toNat:Int) == 92)=false:=by simp; omega
   cases q
   ·rw [if_neg (by simp)] at hE
    obtain ⟨T1,e1,b1,k1,c1,r1⟩:=dA H T 0 (B) 92 92 rfl hb (by simp only [fits,decide_eq_true_eq,List.length_append,List.length_cons,List.length_nil] at *; omega)
    have c1:=c1.cln
    simp only [Nat.add_zero] at r1
    obtain ⟨T2,e2,b2,k2,c2,r2⟩:=dA H T1 0 (B++[92]) c c.toNat rfl b1 (by simp only [fits,decide_eq_true_eq,List.length_append,List.length_cons,List.length_nil] at *; omega)
    have c2:=c2.cln
    simp only [Nat.add_zero] at r2
    simp only [go_sem,simprocAttr,hl,h0,h1,h5,h10,h11,hc,hlt,hw,cE,g46,g59,g40,g41,g64,g36,g34,g92,r1,r2]
    refine ⟨n - 1,by omega,_,i+1,T2,_,by omega,rfl,?_,by simp only [go_sem,simprocAttr,he,c1,c2],by simp only [go_sem,simprocAttr,hl],by simp only [go_sem,simprocAttr,hl,h0],by simp only [go_sem,simprocAttr,hl,h1],by simp only [go_sem,simprocAttr,hl,h5],by simp only [go_sem,simprocAttr,hl,h10],by simp only [go_sem,simprocAttr,hl]⟩
    rw [hsn,hE]; simpa [List.append_assoc] using b2
   ·rw [if_pos rfl] at hE
    obtain ⟨T1,e1,b1,k1,c1,r1⟩:=dA H T 0 (B) c c.toNat rfl hb (by simp only [fits,decide_eq_true_eq,List.length_append,List.length_cons,List.length_nil] at *; omega)
    have c1:=c1.cln
    simp only [Nat.add_zero] at r1
    simp only [go_sem,simprocAttr,hl,h0,h1,h5,h10,h11,hc,hlt,hw,cE,g46,g59,g40,g41,g64,g36,g34,g92,r1]
    refine ⟨n - 1,by omega,_,i+1,T1,_,by omega,rfl,?_,by simp only [go_sem,simprocAttr,he,c1],by simp only [go_sem,simprocAttr,hl],by simp only [go_sem,simprocAttr,hl,h0],by simp only [go_sem,simprocAttr,hl,h1],by simp only [go_sem,simprocAttr,hl,h5],by simp only [go_sem,simprocAttr,hl,h10],by simp only [go_sem,simprocAttr,hl]⟩
    rw [hsn,hE]; simpa [List.append_assoc] using b1
  by_cases q41:c.toNat=41
  ·have hE:gM q c=if q=true then [c] else [92,c]:=by unfold gM; rw [if_neg (by omega),if_pos (by omega)]
   have g46:((c.toNat:Int) == 46)=false:=by simp; omega
   have g59:((c.toNat:Int) == 59)=false:=by simp; omega
   have g40:((c.toNat:Int) == 40)=false:=by simp; omega
   have g41:((c.toNat:Int) == 41)=true:=by simp; omega
   have g64:((c.toNat:Int) == 64)=false:=by simp; omega
   have g36:((c.toNat:Int) == 36)=false:=by simp; omega
   have g34:((c.toNat:Int) == 34)=false:=by simp; omega
   have g92:((c.toNat:Int) == 92)=false:=by simp; omega
   cases q
   ·rw [if_neg (by simp)] at hE
    obtain ⟨T1,e1,b1,k1,c1,r1⟩:=dA H T 0 (B) 92 92 rfl hb (by simp only [fits,decide_eq_true_eq,List.length_append,List.length_cons,List.length_nil] at *; omega)
    have c1:=c1.cln
    simp only [Nat.add_zero] at r1
    obtain ⟨T2,e2,b2,k2,c2,r2⟩:=dA H T1 0 (B++[92]) c c.toNat rfl b1 (by simp only [fits,decide_eq_true_eq,List.length_append,List.length_cons,List.length_nil] at *; omega)
    have c2:=c2.cln
    simp only [Nat.add_zero] at r2
    simp only [go_sem,simprocAttr,hl,h0,h1,h5,h10,h11,hc,hlt,hw,cE,g46,g59,g40,g41,g64,g36,g34,g92,r1,r2]
    refine ⟨n - 1,by omega,_,i+1,T2,_,by omega,rfl,?_,by simp only [go_sem,simprocAttr,he,c1,c2],by simp only [go_sem,simprocAttr,hl],by simp only [go_sem,simprocAttr,hl,h0],by simp only [go_sem,simprocAttr,hl,h1],by simp only [go_sem,simprocAttr,hl,h5],by simp only [go_sem,simprocAttr,hl,h10],by simp only [go_sem,simprocAttr,hl]⟩
    rw [hsn,hE]; simpa [List.append_assoc] using b2
   ·rw [if_pos rfl] at hE
    obtain ⟨T1,e1,b1,k1,c1,r1⟩:=dA H T 0 (B) c c.toNat rfl hb (by simp only [fits,decide_eq_true_eq,List.length_append,List.length_cons,List.length_nil] at *; omega)
    have c1:=c1.cln
    simp only [Nat.add_zero] at r1
    simp only [go_sem,simprocAttr,hl,h0,h1,h5,h10,h11,hc,hlt,hw,cE,g46,g59,g40,g41,g64,g36,g34,g92,r1]
    refine ⟨n - 1,by omega,_,i+1,T1,_,by omega,rfl,?_,by simp only [go_sem,simprocAttr,he,c1],by simp only [go_sem,simprocAttr,hl],by simp only [go_sem,simprocAttr,hl,h0],by simp only [go_sem,simprocAttr,hl,h1],by simp only [go_sem,simprocAttr,hl,h5],by simp only [go_sem,simprocAttr,hl,h10],by simp only [go_sem,simprocAttr,hl]⟩
    rw [hsn,hE]; simpa [List.append_assoc] using b1
  by_cases q64:c.toNat=64
  ·have hE:gM q c=if q=true then [c] else [92,c]:=by unfold gM; rw [if_neg (by omega),if_pos (by omega)]
   have g46:((c.toNat:Int) == 46)=false:=by simp; omega
   have g59:((c.toNat:Int) == 59)=false:=by simp; omega
   have g40:((c.toNat:Int) == 40)=false:=by simp; omega
   have g41:((c.toNat:Int) == 41)=false:=by simp; omega
   have g64:((c.toNat:Int) == 64)=true:=by simp; omega
   have g36:((c.toNat:Int) == 36)=false:=by simp; omega
   have g34:((c.toNat:Int) == 34)=false:=by simp; omega
   have g92:((c.toNat:Int) == 92)=false:=by simp; omega
   cases q
   ·rw [if_neg (by simp)] at hE
    obtain ⟨T1,e1,b1,k1,c1,r1⟩:=dA H T 0 (B) 92 92 rfl hb (by simp only [fits,decide_eq_true_eq,List.length_append,List.length_cons,List.length_nil] at *; omega)
    have c1:=c1.cln
    simp only [Nat.add_zero] at r1
    obtain ⟨T2,e2,b2,k2,c2,r2⟩:=dA H T1 0 (B++[92]) c c.toNat rfl b1 (by simp only [fits,decide_eq_true_eq,List.length_append,List.length_cons,List.length_nil] at *; omega)
    have c2:=c2.cln
    simp only [Nat.add_zero] at r2
    simp only [go_sem,simprocAttr,hl,h0,h1,h5,h10,h11,hc,hlt,hw,cE,g46,g59,g40,g41,g64,g36,g34,g92,r1,r2]
    refine ⟨n - 1,by omega,_,i+1,T2,_,by omega,rfl,?_,by simp only [go_sem,simprocAttr,he,c1,c2],by simp only [go_sem,simprocAttr,hl],by simp only [go_sem,simprocAttr,hl,h0],by simp only [go_sem,simprocAttr,hl,h1],by simp only [go_sem,simprocAttr,hl,h5],by simp only [go_sem,simprocAttr,hl,h10],by simp only [go_sem,simprocAttr,hl]⟩
    rw [hsn,hE]; simpa [List.append_assoc] using b2
   ·rw [if_pos rfl] at hE
    obtain ⟨T1,e1,b1,k1,c1,r1⟩:=dA H T 0 (B) c c.toNat rfl hb (by simp only [fits,decide_eq_true_eq,List.length_append,List.length_cons,List.length_nil] at *; omega)
    have c1:=c1.cln
    simp only [Nat.add_zero] at r1
    simp only [go_sem,simprocAttr,hl,h0,h1,h5,h10,h11,hc,hlt,hw,cE,g46,g59,g40,g41,g64,g36,g34,g92,r1]
    refine ⟨n - 1,by omega,_,i+1,T1,_,by omega,rfl,?_,by simp only [go_sem,simprocAttr,he,c1],by simp only [go_sem,simprocAttr,hl],by simp only [go_sem,simprocAttr,hl,h0],by simp only [go_sem,simprocAttr,hl,h1],by simp only [go_sem,simprocAttr,hl,h5],by simp only [go_sem,simprocAttr,hl,h10],by simp only [go_sem,simprocAttr,hl]⟩
    rw [hsn,hE]; simpa [List.append_assoc] using b1
  by_cases q36:c.toNat=36
  ·have hE:gM q c=if q=true then [c] else [92,c]:=by unfold gM; rw [if_neg (by omega),if_pos (by omega)]
   have g46:((c.toNat:Int) == 46)=false:=by simp; omega
   have g59:((c.toNat:Int) == 59)=false:=by simp; omega
   have g40:((c.toNat:Int) == 40)=false:=by simp; omega
   have g41:((c.toNat:Int) == 41)=false:=by simp; omega
   have g64:((c.toNat:Int) == 64)=false:=by simp; omega
   have g36:((c.toNat:Int) == 36)=true:=by simp; omega
   have g34:((c.toNat:Int) == 34)=false:=by simp; omega
   have g92:((c.toNat:Int) == 92)=false:=by simp; omega
   cases q
   ·rw [if_neg (by simp)] at hE
    obtain ⟨T1,e1,b1,k1,c1,r1⟩:=dA H T 0 (B) 92 92 rfl hb (by simp only [fits,decide_eq_true_eq,List.length_append,List.length_cons,List.length_nil] at *; omega)
    have c1:=c1.cln
    simp only [Nat.add_zero] at r1
    obtain ⟨T2,e2,b2,k2,c2,r2⟩:=dA H T1 0 (B++[92]) c c.toNat rfl b1 (by simp only [fits,decide_eq_true_eq,List.length_append,List.length_cons,List.length_nil] at *; omega)
    have c2:=c2.cln
    simp only [Nat.add_zero] at r2
    simp only [go_sem,simprocAttr,hl,h0,h1,h5,h10,h11,hc,hlt,hw,cE,g46,g59,g40,g41,g64,g36,g34,g92,r1,r2]
    refine ⟨n - 1,by omega,_,i+1,T2,_,by omega,rfl,?_,by simp only [go_sem,simprocAttr,he,c1,c2],by simp only [go_sem,simprocAttr,hl],by simp only [go_sem,simprocAttr,hl,h0],by simp only [go_sem,simprocAttr,hl,h1],by simp only [go_sem,simprocAttr,hl,h5],by simp only [go_sem,simprocAttr,hl,h10],by simp only [go_sem,simprocAttr,hl]⟩
    rw [hsn,hE]; simpa [List.append_assoc] using b2
   ·rw [if_pos rfl] at hE
    obtain ⟨T1,e1,b1,k1,c1,r1⟩:=dA H T 0 (B) c c.toNat rfl hb (by simp only [fits,decide_eq_true_eq,List.length_append,List.length_cons,List.length_nil] at *; omega)
    have c1:=c1.cln
    simp only [Nat.add_zero] at r1
    simp only [go_sem,simprocAttr,hl,h0,h1,h5,h10,h11,hc,hlt,hw,cE,g46,g59,g40,g41,g64,g36,g34,g92,r1]
    refine ⟨n - 1,by omega,_,i+1,T1,_,by omega,rfl,?_,by simp only [go_sem,simprocAttr,he,c1],by simp only [go_sem,simprocAttr,hl],by simp only [go_sem,simprocAttr,hl,h0],by simp only [go_sem,simprocAttr,hl,h1],by simp only [go_sem,simprocAttr,hl,h5],by simp only [go_sem,simprocAttr,hl,h10],by simp only [go_sem,simprocAttr,hl]⟩
    rw [hsn,hE]; simpa [List.append_assoc] using b1
  have g46:((c.toNat:Int) == 46)=false:=by simp; omega
  have g59:((c.toNat:Int) == 59)=false:=by simp; omega
  have g40:((c.toNat:Int) == 40)=false:=by simp; omega
  have g41:((c.toNat:Int) == 41)=false:=by simp; omega
  have g64:((c.toNat:Int) == 64)=false:=by simp; omega
  have g36:((c.toNat:Int) == 36)=false:=by simp; omega
  have g34:((c.toNat:Int) == 34)=false:=by simp; omega
  have g92:((c.toNat:Int) == 92)=false:=by simp; omega
  have hE:gM q c=if (32 < c.toNat∧c.toNat < 127)∨(c.toNat=32∧q=true) then [c] else [92,UInt8.ofNat (48+c.toNat / 100),UInt8.ofNat (48+c.toNat / 10 % 10),UInt8.ofNat (48+c.toNat % 10)]:=by unfold gM; rw [if_neg (by omega),if_neg (by omega)]
  by_cases hp:32 < c.toNat∧c.toNat < 127
  ·rw [if_pos (.inl hp)] at hE
   have p0:decide ((c.toNat:Int) > 32)=true:=by simp; omega
   have p1:decide ((c.toNat:Int) < 127)=true:=by simp; omega
   have p2:((c.toNat:Int) == 32)=false:=by simp; omega
   obtain ⟨T1,e1,b1,k1,c1,r1⟩:=dA H T 0 (B) c c.toNat rfl hb (by simp only [fits,decide_eq_true_eq,List.length_append,List.length_cons,List.length_nil] at *; omega)
   have c1:=c1.cln
   simp only [Nat.add_zero] at r1
   simp only [go_sem,simprocAttr,hl,h0,h1,h5,h10,h11,hc,hlt,hw,cE,g46,g59,g40,g41,g64,g36,g34,g92,p0,p1,p2,r1]
   refine ⟨n - 1,by omega,_,i+1,T1,_,by omega,rfl,?_,by simp only [go_sem,simprocAttr,he,c1],by simp only [go_sem,simprocAttr,hl],by simp only [go_sem,simprocAttr,hl,h0],by simp only [go_sem,simprocAttr,hl,h1],by simp only [go_sem,simprocAttr,hl,h5],by simp only [go_sem,simprocAttr,hl,h10],by simp only [go_sem,simprocAttr,hl]⟩
   rw [hsn,hE]; simpa [List.append_assoc] using b1
  by_cases hz:c.toNat=32
  ·have p0:decide ((c.toNat:Int) > 32)=false:=by simp; omega
   have p1:decide ((c.toNat:Int) < 127)=true:=by simp; omega
   have p2:((c.toNat:Int) == 32)=true:=by simp; omega
   cases q
   ·rw [if_neg (by simp; omega)] at hE
    have hb':=hb.more [.cells (u8s [92,UInt8.ofNat (48+c.toNat / 100),UInt8.ofNat (48+c.toNat / 10 % 10),UInt8.ofNat (48+c.toNat % 10)]) 5 .rw]
    obtain ⟨T1,e1,b1,k1,c1,r1⟩:=xq H (T++[.cells (u8s [92,UInt8.ofNat (48+c.toNat / 100),UInt8.ofNat (48+c.toNat / 10 % 10),UInt8.ofNat (48+c.toNat % 10)]) 5 .rw]) 0 T.length (B) [92,UInt8.ofNat (48+c.toNat / 100),UInt8.ofNat (48+c.toNat / 10 % 10),UInt8.ofNat (48+c.toNat % 10)] hb' (by simp) (by omega) (by simp) (by simp only [fits,decide_eq_true_eq,List.length_append,List.length_cons,List.length_nil] at *; omega)
    simp only [u8s,List.map_cons,List.map_nil,List.length_cons,List.length_nil,← xd hcl,← w9 hcl,← w7 hcl] at r1
    have r1:∀ k,ag Tryz.prog 88 [.ptr (H.length+0) 0,.slice (H.length+T.length) 0 4 (.ex 4)] (H++(T++[.cells [.int .u8 92,.int .u8 (IntKind.u8.wrap (48+IntKind.u8.wrap ((c.toNat:Int).tdiv 100))),.int .u8 (IntKind.u8.wrap (48+(IntKind.u8.wrap ((c.toNat:Int).tdiv 10)).tmod 10)),.int .u8 (IntKind.u8.wrap (48+(c.toNat:Int).tmod 10))] 5 .rw])) k=k (.tuple [.int .i64 4,.de],H++T1,e1):=r1
    have c1:=c1.cln
    simp only [Nat.add_zero] at r1
    simp only [go_sem,simprocAttr,hl,h0,h1,h5,h10,h11,hc,hlt,hw,cE,g46,g59,g40,g41,g64,g36,g34,g92,p0,p1,p2,r1]
    refine ⟨n - 1,by omega,_,i+1,T1,_,by omega,rfl,?_,by simp only [go_sem,simprocAttr,he,c1],by simp only [go_sem,simprocAttr,hl],by simp only [go_sem,simprocAttr,hl,h0],by simp only [go_sem,simprocAttr,hl,h1],by simp only [go_sem,simprocAttr,hl,h5],by simp only [go_sem,simprocAttr,hl,h10],by simp only [go_sem,simprocAttr,hl]⟩
    rw [hsn,hE]; simpa [List.append_assoc] using b1
   ·rw [if_pos (.inr ⟨hz,rfl⟩)] at hE
    obtain ⟨T1,e1,b1,k1,c1,r1⟩:=dA H T 0 (B) c c.toNat rfl hb (by simp only [fits,decide_eq_true_eq,List.length_append,List.length_cons,List.length_nil] at *; omega)
    have c1:=c1.cln
    simp only [Nat.add_zero] at r1
    simp only [go_sem,simprocAttr,hl,h0,h1,h5,h10,h11,hc,hlt,hw,cE,g46,g59,g40,g41,g64,g36,g34,g92,p0,p1,p2,r1]
    refine ⟨n - 1,by omega,_,i+1,T1,_,by omega,rfl,?_,by simp only [go_sem,simprocAttr,he,c1],by simp only [go_sem,simprocAttr,hl],by simp only [go_sem,simprocAttr,hl,h0],by simp only [go_sem,simprocAttr,hl,h1],by simp only [go_sem,simprocAttr,hl,h5],by simp only [go_sem,simprocAttr,hl,h10],by simp only [go_sem,simprocAttr,hl]⟩
    rw [hsn,hE]; simpa [List.append_assoc] using b1
  rw [if_neg (by omega)] at hE
  by_cases hlo:c.toNat < 32
  ·have p0:decide ((c.toNat:Int) > 32)=false:=by simp; omega
   have p1:decide ((c.toNat:Int) < 127)=true:=by simp; omega
   have p2:((c.toNat:Int) == 32)=false:=by simp; omega
   have hb':=hb.more [.cells (u8s [92,UInt8.ofNat (48+c.toNat / 100),UInt8.ofNat (48+c.toNat / 10 % 10),UInt8.ofNat (48+c.toNat % 10)]) 5 .rw]
   obtain ⟨T1,e1,b1,k1,c1,r1⟩:=xq H (T++[.cells (u8s [92,UInt8.ofNat (48+c.toNat / 100),UInt8.ofNat (48+c.toNat / 10 % 10),UInt8.ofNat (48+c.toNat % 10)]) 5 .rw]) 0 T.length (B) [92,UInt8.ofNat (48+c.toNat / 100),UInt8.ofNat (48+c.toNat / 10 % 10),UInt8.ofNat (48+c.toNat % 10)] hb' (by simp) (by omega) (by simp) (by simp only [fits,decide_eq_true_eq,List.length_append,List.length_cons,List.length_nil] at *; omega)
   simp only [u8s,List.map_cons,List.map_nil,List.length_cons,List.length_nil,← xd hcl,← w9 hcl,← w7 hcl] at r1
   have r1:∀ k,ag Tryz.prog 88 [.ptr (H.length+0) 0,.slice (H.length+T.length) 0 4 (.ex 4)] (H++(T++[.cells [.int .u8 92,.int .u8 (IntKind.u8.wrap (48+IntKind.u8.wrap ((c.toNat:Int).tdiv 100))),.int .u8 (IntKind.u8.wrap (48+(IntKind.u8.wrap ((c.toNat:Int).tdiv 10)).tmod 10)),.int .u8 (IntKind.u8.wrap (48+(c.toNat:Int).tmod 10))] 5 .rw])) k=k (.tuple [.int .i64 4,.de],H++T1,e1):=r1
   have c1:=c1.cln
   simp only [Nat.add_zero] at r1
   simp only [go_sem,simprocAttr,hl,h0,h1,h5,h10,h11,hc,hlt,hw,cE,g46,g59,g40,g41,g64,g36,g34,g92,p0,p1,p2,r1]
   refine ⟨n - 1,by omega,_,i+1,T1,_,by omega,rfl,?_,by simp only [go_sem,simprocAttr,he,c1],by simp only [go_sem,simprocAttr,hl],by simp only [go_sem,simprocAttr,hl,h0],by simp only [go_sem,simprocAttr,hl,h1],by simp only [go_sem,simprocAttr,hl,h5],by simp only [go_sem,simprocAttr,hl,h10],by simp only [go_sem,simprocAttr,hl]⟩
   rw [hsn,hE]; simpa [List.append_assoc] using b1
  ·have p0:decide ((c.toNat:Int) > 32)=true:=by simp; omega
   have p1:decide ((c.toNat:Int) < 127)=false:=by simp; omega
   have p2:((c.toNat:Int) == 32)=false:=by simp; omega
   have hb':=hb.more [.cells (u8s [92,UInt8.ofNat (48+c.toNat / 100),UInt8.ofNat (48+c.toNat / 10 % 10),UInt8.ofNat (48+c.toNat % 10)]) 5 .rw]
   obtain ⟨T1,e1,b1,k1,c1,r1⟩:=xq H (T++[.cells (u8s [92,UInt8.ofNat (48+c.toNat / 100),UInt8.ofNat (48+c.toNat / 10 % 10),UInt8.ofNat (48+c.toNat % 10)]) 5 .rw]) 0 T.length (B) [92,UInt8.ofNat (48+c.toNat / 100),UInt8.ofNat (48+c.toNat / 10 % 10),UInt8.ofNat (48+c.toNat % 10)] hb' (by simp) (by omega) (by simp) (by simp only [fits,decide_eq_true_eq,List.length_append,List.length_cons,List.length_nil] at *; omega)
   simp only [u8s,List.map_cons,List.map_nil,List.length_cons,List.length_nil,← xd hcl,← w9 hcl,← w7 hcl] at r1
   have r1:∀ k,ag Tryz.prog 88 [.ptr (H.length+0) 0,.slice (H.length+T.length) 0 4 (.ex 4)] (H++(T++[.cells [.int .u8 92,.int .u8 (IntKind.u8.wrap (48+IntKind.u8.wrap ((c.toNat:Int).tdiv 100))),.int .u8 (IntKind.u8.wrap (48+(IntKind.u8.wrap ((c.toNat:Int).tdiv 10)).tmod 10)),.int .u8 (IntKind.u8.wrap (48+(c.toNat:Int).tmod 10))] 5 .rw])) k=k (.tuple [.int .i64 4,.de],H++T1,e1):=r1
   have c1:=c1.cln
   simp only [Nat.add_zero] at r1
   simp only [go_sem,simprocAttr,hl,h0,h1,h5,h10,h11,hc,hlt,hw,cE,g46,g59,g40,g41,g64,g36,g34,g92,p0,p1,p2,r1]
   refine ⟨n - 1,by omega,_,i+1,T1,_,by omega,rfl,?_,by simp only [go_sem,simprocAttr,he,c1],by simp only [go_sem,simprocAttr,hl],by simp only [go_sem,simprocAttr,hl,h0],by simp only [go_sem,simprocAttr,hl,h1],by simp only [go_sem,simprocAttr,hl,h5],by simp only [go_sem,simprocAttr,hl,h10],by simp only [go_sem,simprocAttr,hl]⟩
   rw [hsn,hE]; simpa [List.append_assoc] using b1
 ·have hi:i=s.length:=by omega
  subst hi
  rw [List.take_length] at hb
  obtain ⟨T1,e1,c1,r1⟩:=o9 H T 0 _ hb (by have:=fV q s; omega)
  simp only [Nat.add_zero] at r1
  simp only [go_sem,simprocAttr,hl,h0,h1,h5,h10,h11,hlt,r1]
  exact aW rfl (bn he c1)
end Go.Proofs.YtdppgaphcmhffaaGreatDoor.V
