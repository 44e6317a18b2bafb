/- Joined by mkclaim.py: WHoldS WHoldT WHoldU WFlat WMsBase WMsBaseP WRec WRecIn WNumD WRefShow WPrint WHeavy WPrLaw. No conditions. -/
import Derived.Test.YtdppgaphcmhffaaGreatDoorJ5
import Derived.Test.YtdppgaphcmhffaaGreatDoorJ2
import Derived.Test.YtdppgaphcmhffaaGreatDoorRows
import Derived.Test.YtdppgaphcmhffaaGreatDoorCards
import Derived.Test.YtdppgaphcmhffaaGreatDoorTie
import Derived.WalkKit
import Derived.ProofKit
import Derived.OpenShut
import Derived.ShutString
import Derived.ChangeOld
import Derived.Below
import Derived.SizedLaws
import Derived.LaidMore
import Derived.Lay
import Derived.MakeChecks
import Derived.SevenTiedAt
import Derived.Deep.DeepHandedRow
import Derived.Test.YtdppgaphcmhffaaGreatDoorJ3
import Derived.Test.YtdppgaphcmhffaaGreatDoorJ4
set_option linter.unusedSimpArgs false
set_option linter.unusedVariables false
set_option maxRecDepth 100000
namespace Go.Proofs.YtdppgaphcmhffaaGreatDoor.V
open Go
attribute [local irreducible] go bt goD opK ag bx aF aH bC

theorem N7 (n r h m : List UInt8) (t a b c d e : Int) (tt : Int) :
    gj Tryz.prog 20 36 (.agg [.str n, .int .u16 t, .int .u16 1, .int .u32 tt, .str r, .str h, .str m, .int .u32 a, .int .u32 b, .int .u32 c, .int .u32 d, .int .u32 e]) (.agg [.str n, .int .u16 t, .int .u16 1, .int .u32 tt, .str r, .str h, .str m, .int .u32 a, .int .u32 b, .int .u32 c, .int .u32 d, .int .u32 e]) = some true := by
  have key : gj Tryz.prog 20 36 (.agg [.str n, .int .u16 t, .int .u16 1, .int .u32 tt, .str r, .str h, .str m, .int .u32 a, .int .u32 b, .int .u32 c, .int .u32 d, .int .u32 e]) (.agg [.str n, .int .u16 t, .int .u16 1, .int .u32 tt, .str r, .str h, .str m, .int .u32 a, .int .u32 b, .int .u32 c, .int .u32 d, .int .u32 e]) =
      if (n == n) = true then (if (t == t) = true then (if (tt == tt) = true then
      ((if (r == r) = true then (if (h == h) = true then (if (m == m) = true then
        ((if (a == a) = true then (if (b == b) = true then (if (c == c) = true then (if (d == d) = true then (if (e == e) = true then some true else some false) else some false) else some false) else some false) else some false : Option Bool).bind fun q => if q = true then some true else some false)
        else some false) else some false) else some false : Option Bool).bind fun q => if q = true then some true else some false) else some false) else some false) else some false := by kernel_rfl
  rw [key]
  simp
theorem Kx (x:Rcd):gj Tryz.prog 20 36 (.agg x.cells) (.agg x.cells)=some true:=by
 obtain ⟨n,t,tt,r,h,m,a,b,c,d,e⟩:=x
 exact N7 n r h m t a b c d e tt
theorem uF:∀ (rs:List Rcd) (i:Nat) (x:Rcd),rs[i]?=some x→((iz rs).drop (i*12)).take 12=x.cells∧i*12+12≤(iz rs).length
 | [],i,x,h=>by simp at h
 | y::rs,0,x,h=>by
  simp only [List.getElem?_cons_zero,Option.some.injEq] at h
  subst h
  exact ⟨rfl,by rw [nt,List.length_cons]; omega⟩
 | y::rs,i+1,x,h=>by
  obtain ⟨h1,h2⟩:=uF rs i x (by simpa using h)
  have e:iz (y::rs)=y.cells++iz rs:=rfl
  have e2:(i+1)*12=y.cells.length+i*12:=by simp [Rcd.cells,RcC.len]; omega
  refine ⟨?_,by rw [nt] at h2 ⊢; simp; omega⟩
  rw [e,e2,← List.drop_drop,List.drop_left]; exact h1
theorem Ob.at {rb:Nat} {H:Hp} {v:AV} {rs:List Rcd} (h:Ob rb H v rs) {i:Nat} {x:Rcd} (hi:rs[i]?=some x) :
  ∃ b q row,aN Tryz.prog 26 v (.int .i64 (i:Nat))=some (.ptr b q)∧H[b]?=some (.cells row 36 (.op 0 false))∧ldC q 12 true (.cells row 36 (.op 0 false))=some (.agg x.cells):=by
 have hlt:=(List.getElem?_eq_some_iff.1 hi).1
 obtain ⟨_,rfl⟩ | ⟨_,b,_,rfl,hx⟩:=h
 ·simp at hlt
 ·obtain ⟨h4,h5⟩:=uF rs i x hi
  refine ⟨b,0+i*12,_,?_,hx,?_⟩
  ·simp only [aN,nc]
   rw [if_pos ⟨by omega,by omega⟩]
   simp
  ·unfold ldC
   simp only [if_true,Nat.zero_add]
   rw [if_pos h5,h4]
theorem Rh:bq Tryz.prog 38 []=some (.agg [.int .i64 0,.int .i64 0]):=by
 simp only [bq,rL,jM,jd,Option.bind_some,fM]
 rfl
theorem Rj (s:List UInt8):bq Tryz.prog 34 [(0,.str s)]=some (.agg ({ Dt.zero with raw:=s }:Dt).cells):=by
 simp only [bq,Bt,nX,nh,Option.bind_some,fM]
 rfl
theorem Rk (s:List UInt8):bq Tryz.prog 34 [(1,.str s)]=some (.agg ({ Dt.zero with host:=s }:Dt).cells):=by
 simp only [bq,Bt,nX,nh,Option.bind_some,fM]
 rfl
theorem Fs (n:List UInt8) (t:Int) (tt:Nat) (d:Dt):bq Tryz.prog 36 [(0,.str n),(1,.int .u16 t),(2,.int .u16 1),(3,.int .u32 tt),(4,.agg d.cells)]=some (.agg (RcC n t 1 tt d)):=by
 simp only [bq,Br,nW,ng,Option.bind_some,fM]
 rfl
theorem QD:gj Tryz.prog 20 38 (.agg [.int .i64 0,.int .i64 0]) (.agg [.int .i64 0,.int .i64 0])=some true:=by kernel_rfl
theorem OL {H:Hp} {rs:List Rcd} {args:List AV} (h:ag Tryz.prog 10 args H (OM H (.ok rs))) :
  ∃ vo H',(∀ k,ag Tryz.prog 10 args H k=k (.tuple [vo,.agg [.int .i64 0,.int .i64 0],.int .i64 0],H',z0))∧H.length≤H'.length∧(∀ (i:Nat) x,H[i]?=some x→H'[i]?=some x)∧Ob H.length H' vo rs:=by
 obtain ⟨⟨vo,H'⟩,⟨h1,h2,h3⟩,h4⟩:=cI (fun b:AV × Hp=>H.length≤b.2.length∧(∀ (i:Nat) x,H[i]?=some x→b.2[i]?=some x)∧Ob H.length b.2 b.1 rs) (fun b=>(.tuple [b.1,.agg [.int .i64 0,.int .i64 0],.int .i64 0],b.2,z0)) (bG h (by
  rintro r ⟨vo,H',rfl,h1,h2,h3⟩
  exact ⟨(vo,H'),⟨h1,h2,h3⟩,rfl⟩))
 exact ⟨vo,H',h4,h1,h2,h3⟩
theorem GB (H:Hp) (hgl:Gl H) (hg:gN≤H.length) (k):ag Tryz.prog 12 [] H k=k (.bool true,H,z0):=by
 refine ak (r:=(.bool true,H,z0)) ?_ k
 obtain ⟨vo,H',hp,hl',hf',hob⟩:=OL (PG H hgl hg)
 unfold MH at hp
 refine aa (n:=37) (rs:=[.tmp 0]) Tryz.func12 rfl rfl rfl ?_
 intro σ hl ha
 clear ha
 have hlen:=hob.len
 have hll:MI.length=2:=rfl
 rw [hll] at hlen
 obtain ⟨H2,hH2⟩:∃ H2:Hp,H2=H'++[.cells [.int .i64 0,.int .i64 0] 38 .rw]:=⟨_,rfl⟩
 have hob2:Ob H.length H2 vo MI:=by rw [hH2]; exact hob.fr (fun i x _ h=>ah h)
 obtain ⟨b,q,row,a1,a2,a3⟩:=hob2.at (i:=0) (x:=⟨[1,101,0],1,60,{ Dt.zero with raw:=[1,1,1,1] }⟩) rfl
 obtain ⟨b',q',row',b1,b2,b3⟩:=hob2.at (i:=1) (x:=⟨[1,101,0],2,5,{ Dt.zero with host:=[1,119,1,101,0] }⟩) rfl
 have a1:aN Tryz.prog 26 vo (.int .i64 0)=some (.ptr b q):=a1
 have b1:aN Tryz.prog 26 vo (.int .i64 1)=some (.ptr b' q'):=b1
 have n2:H2[H'.length]?=some (.cells [.int .i64 0,.int .i64 0] 38 .rw):=by rw [hH2,dg]; rfl
 have e1:=Kx ⟨[1,101,0],1,60,{ Dt.zero with raw:=[1,1,1,1] }⟩
 have e2:=Kx ⟨[1,101,0],2,5,{ Dt.zero with host:=[1,119,1,101,0] }⟩
 have g1:bq Tryz.prog 36 [(0,.str [1,101,0]),(1,.int .u16 1),(2,.int .u16 1),(3,.int .u32 60),(4,.agg (Dt.cells { Dt.zero with raw:=[1,1,1,1] }))]=some (.agg (Rcd.cells ⟨[1,101,0],1,60,{ Dt.zero with raw:=[1,1,1,1] }⟩)):=Fs [1,101,0] 1 60 { Dt.zero with raw:=[1,1,1,1] }
 have g2:bq Tryz.prog 36 [(0,.str [1,101,0]),(1,.int .u16 2),(2,.int .u16 1),(3,.int .u32 5),(4,.agg (Dt.cells { Dt.zero with host:=[1,119,1,101,0] }))]=some (.agg (Rcd.cells ⟨[1,101,0],2,5,{ Dt.zero with host:=[1,119,1,101,0] }⟩)):=Fs [1,101,0] 2 5 { Dt.zero with host:=[1,119,1,101,0] }
 have f1:=Rj [1,1,1,1]
 have f2:=Rk [1,119,1,101,0]
 have sp0:splice [.int .i64 0,.int .i64 0] 0 [.int .i64 0,.int .i64 0]=[AV.int .i64 0,.int .i64 0]:=rfl
 have st2:H2.set H'.length (.cells [.int .i64 0,.int .i64 0] 38 .rw)=H2:=eT n2
 have hll2:((2:Nat):Int)=2:=rfl
 have bs:=Rh
 have es:=QD
 simp only [go_sem,simprocAttr,hl,hp,← hH2,n2,bs,es,hlen,a1,a2,a3,b1,b2,b3,f1,f2,g1,g2,e1,e2,sp0,st2]
 refine mz rfl ?_ (fun j x h=>by rw [hH2]; exact ah (hf' j x h))
 simp only [gZ,iu,lU,j6,iY hl',and_true,true_and,hl']
def Ln.cells (x:Ln):List AV:=[.int .u8 (x.how:Nat),.int .u8 (x.own:Nat),.int .u16 (x.ttl:Nat),.bool x.tm,.bool x.cs,.bool x.bh]
def lnC (L:List Ln):List AV:=L.flatMap Ln.cells
theorem EZ (L:List Ln):(lnC L).length=L.length*6:=by
 induction L with
 | nil=>rfl
 | cons w ws ih =>
  have e:lnC (w::ws)=w.cells++lnC ws:=rfl
  rw [e,List.length_append,ih,List.length_cons]; simp [Ln.cells]; omega
theorem Jy:∀ (L:List Ln) (i:Nat) (x:Ln),L[i]?=some x→((lnC L).drop (i*6)).take 6=x.cells∧i*6+6≤(lnC L).length
 | [],i,x,h=>by simp at h
 | y::rs,0,x,h=>by
  simp only [List.getElem?_cons_zero,Option.some.injEq] at h
  subst h
  exact ⟨rfl,by rw [EZ,List.length_cons]; omega⟩
 | y::rs,i+1,x,h=>by
  obtain ⟨h1,h2⟩:=Jy rs i x (by simpa using h)
  have e:lnC (y::rs)=y.cells++lnC rs:=rfl
  have e2:(i+1)*6=y.cells.length+i*6:=by simp [Ln.cells]; omega
  refine ⟨?_,by rw [EZ] at h2 ⊢; simp; omega⟩
  rw [e,e2,← List.drop_drop,List.drop_left]; exact h1
def Hv (H:Hp) (v:AV) (L:List Ln):Prop:=(v=.aI∧L=[])∨∃ lb c e kd,v=.slice lb 0 L.length c∧H[lb]?=some (.cells (lnC L) e kd)
theorem Hv.len {H:Hp} {v:AV} {L:List Ln} (h:Hv H v L) (H':Hp):bY Tryz.prog 22 v H'=some (.int .i64 L.length):=by
 obtain ⟨rfl,rfl⟩ | ⟨lb,c,e,kd,rfl,_⟩:=h <;> simp only [bY,Im] <;> rfl
theorem Hv.at {H Hc:Hp} {v:AV} {L:List Ln} (h:Hv H v L) (hf:∀ (i:Nat) x,H[i]?=some x→Hc[i]?=some x) {i:Nat} {x:Ln} (hi:L[i]?=some x) :
  ∃ b q row e kd,aN Tryz.prog 22 v (.int .i64 (i:Nat))=some (.ptr b q)∧Hc[b]?=some (.cells row e kd)∧ldC q 6 true (.cells row e kd)=some (.agg x.cells):=by
 have hlt:=(List.getElem?_eq_some_iff.1 hi).1
 obtain ⟨_,rfl⟩ | ⟨b,c,e,kd,rfl,hx⟩:=h
 ·simp at hlt
 ·obtain ⟨h4,h5⟩:=Jy L i x hi
  refine ⟨b,0+i*6,_,e,kd,?_,hf b _ hx,?_⟩
  ·simp only [aN,Im]
   rw [if_pos ⟨by omega,by omega⟩]
   simp
  ·unfold ldC
   simp only [if_true,Nat.zero_add]
   rw [if_pos h5,h4]
structure HJ (S:HS) (i:Nat):Prop where
 hi:HI S
 tl:S.text.length≤64*i
 wl:S.want.length≤i
 owl:S.ow.length≤5
theorem HJ.o3 {S:HS} {i:Nat} (h:HJ S i):S.o.length=3:=(TU h.hi.o).2
theorem PC {S:HS} {i:Nat} (h:HJ S i) (x:Ln):(x.ow S.o S.ow).length≤5:=by
 have:=h.o3
 have:=h.owl
 unfold Ln.ow
 split
 ·omega
 split
 ·simp
 split
 ·simp; omega
 ·omega
theorem HJ.step {S:HS} {i:Nat} (h:HJ S i) (x:Ln) (hx:x.ttl≤65535):HJ (mU S x) (i+1):=by
 refine ⟨Ms h.hi hx,?_,Nat.le_trans FQ (by have:=h.wl; omega),?_⟩
 ·have:=h.tl
  have:=PM x hx
  by_cases ho:on S x
  ·rw [Mr ho]; simp; omega
  ·rw [Iw ho]; omega
 ·have:=h.owl
  have:=PC h x
  unfold mU
  split
  ·exact h.owl
  split
  ·exact h.owl
  split
  ·exact h.owl
  ·exact this
theorem HJ.zero (n:Nat) (hn:n≤65535):HJ (hS0 n) 0:=⟨⟨⟨122,rfl,.inl rfl⟩,hn⟩,Nat.le_refl _,Nat.le_refl _,Nat.zero_le _⟩
attribute [-go_sem] nD
end Go.Proofs.YtdppgaphcmhffaaGreatDoor.V
namespace Go.Proofs.YtdppgaphcmhffaaGreatDoor.V
open Go Go.RowKit

mutual
def qR {H:Type}:DataW H→List AV
 | .lit (.int k n)=>[.int k n]
 | .lit (.string s)=>[.str s]
 | .lit (.bool b)=>[.bool b]
 | .agg ps=>qc ps
 | _=>[.de]
def qc {H:Type}:List (DataW H)→List AV
 | []=>[]
 | d::r=>qR d++qc r
end
def jt (P:Program) (f:TypeId→Bool):List Field→Nat→Nat→Bool
 | [],o,z=>o == z
 | x::r,o,z=>x.offset == o && (f x.type && jt P f r (o+P.cellsOf x.type) z)
def kz (P:Program):Nat→TypeId→Bool
 | 0,_=>false
 | d+1,t=>match P.underlying t with
  | some (.int _)=>true
  | some .string=>true
  | some .bool=>true
  | some (.array n e)=>kz P d e && P.cellsOf t == n*P.cellsOf e
  | some (.struct fs)=>jt P (kz P d) fs.toList 0 (P.cellsOf t)
  | _=>false

section
variable {H:Type} {enc:TypeId × Value→H} {P:Program} {W:World} {base:Nat} {sp:Nat→Bool} {held:Bool}

theorem qk {μ:Mu}:∀ {a b:List AV} {x y:List Value},aA μ a=some x→aA μ b=some y→aA μ (a++b)=some (x++y)
 | [],b,x,y,h,h'=>by cases h; simpa using h'
 | v::a,b,x,y,h,h'=>by
  simp only [aA,Option.bind_eq_some_iff,Option.map_eq_some_iff] at h
  obtain ⟨c,hc,xs,hx,rfl⟩:=h
  have:=qk hx h'
  simp only [List.cons_append,aA,hc,this,Option.bind_some,Option.map_some]
theorem pieces {μ:Mu} {c:Nat}:∀ (xs:List (DataW H × List MemPlace)) (cs:List Value),cs.length=xs.length*c →
  (∀ i x,xs[i]?=some x→aA μ (qR x.1)=some ((cs.drop (i*c)).take c))→aA μ (qc (xs.map (·.1)))=some cs
 | [],cs,hl,_=>by
  have:cs=[]:=List.length_eq_zero_iff.1 (by simpa using hl)
  subst this; rfl
 | x::xs,cs,hl,h=>by
  have h0:=h 0 x rfl
  simp only [Nat.zero_mul,List.drop_zero] at h0
  have ih:=pieces (μ:=μ) (c:=c) xs (cs.drop c) (by rw [List.length_drop,hl,List.length_cons,Nat.add_mul]; omega) (fun i y hy=>by
   have:=h (i+1) y (by simpa using hy)
   rw [List.drop_drop,show c+i*c=(i+1)*c by rw [Nat.add_mul]; omega]
   exact this)
  have:=qk h0 ih
  rw [List.take_append_drop] at this
  simpa [qc] using this
theorem fields {μ:Mu} {z:Nat} {f:TypeId→Bool} {cs:List Value} {g:TypeId→List Value→Option (DataW H × List MemPlace)}
  (hf:∀ t l x,f t=true→g t l=some x→aA μ (qR x.1)=some l):∀ (fs:List Field) (xs:List (DataW H × List MemPlace)) (o:Nat),jt P f fs o z=true→o≤z→xs.length=fs.length→cs.length=z →
  (∀ (i:Nat) (x:Field),fs[i]?=some x→g x.type ((cs.drop x.offset).take (P.cellsOf x.type))=xs[i]?)→aA μ (qc (xs.map (·.1)))=some (cs.drop o)
 | [],[],o,h,hoz,_,hz,_=>by
  simp only [jt,beq_iff_eq] at h
  rw [List.drop_eq_nil_of_le (by omega)]; rfl
 | [],_::_,_,_,_,hl,_,_=>by simp at hl
 | _::_,[],_,_,_,hl,_,_=>by simp at hl
 | x::fs,y::xs,o,h,hoz,hl,hz,hx=>by
  simp only [jt,Bool.and_eq_true,beq_iff_eq] at h
  obtain ⟨rfl,h1,h2⟩:=h
  have h0:=hf _ _ _ h1 (hx 0 x rfl)
  have hle:x.offset+P.cellsOf x.type≤z:=by
   have:∀ (fs:List Field) (o:Nat),jt P f fs o z=true→o≤z:=by
    intro fs
    induction fs with
    | nil=>intro o h; simp only [jt,beq_iff_eq] at h; omega
    | cons a r ih =>
     intro o h
     simp only [jt,Bool.and_eq_true,beq_iff_eq] at h
     have:=ih _ h.2.2
     omega
   exact this _ _ h2
  have ih:=fields hf fs xs (x.offset+P.cellsOf x.type) h2 hle (by simpa using hl) hz (fun i w hw=>by simpa using hx (i+1) w (by simpa using hw))
  have:=qk h0 ih
  have e:(cs.drop x.offset).take (P.cellsOf x.type)++cs.drop (x.offset+P.cellsOf x.type)=cs.drop x.offset:=by
   rw [← List.drop_drop,List.take_append_drop]
  rw [e] at this
  simpa [qc] using this
theorem gR {μ:Mu}:∀ (m fuel:Nat) (t:TypeId) (cs:List Value) (x:DataW H × List MemPlace),kz P m t=true→DataW.trod enc P W base sp held fuel t cs=some x→aA μ (qR x.1)=some cs
 | 0,_,_,_,_,h,_=>by cases h
 | m+1,fuel,t,cs,x,h,hx=>by
  unfold kz at h
  split at h
  ·rename_i k ht
   obtain ⟨n,rfl,rfl,_⟩:=DataW.trod_int ht hx
   simp [qR,aA,aB]
  ·rename_i ht
   obtain ⟨s,rfl,rfl,_⟩:=DataW.trod_string ht hx
   simp [qR,aA,aB]
  ·rename_i ht
   obtain ⟨b,rfl,rfl⟩:=DataW.trod_bool ht hx
   simp [qR,aA,aB]
  ·rename_i n e ht
   simp only [Bool.and_eq_true,beq_iff_eq] at h
   obtain ⟨xs,q,rfl,rfl,hcl,hxl,hel⟩:=DataW.trod_array ht hx
   refine pieces (c:=P.cellsOf e) xs cs (by rw [hcl,hxl,h.2]) (fun i y hy=>?_)
   have hi:i < n:=by rw [← hxl]; exact (List.getElem?_eq_some_iff.1 hy).1
   have:=hel i hi
   rw [hy] at this
   exact gR m q e _ y h.1 this
  ·rename_i fs ht
   obtain ⟨xs,q,rfl,rfl,hcl,hxl,hel⟩:=DataW.trod_struct ht hx
   have:=fields (P:=P) (μ:=μ) (g:=fun t l=>DataW.trod enc P W base sp held q t l) (cs:=cs) (fun t l x h1 h2=>gR m q t l x h1 h2) fs.toList xs 0 h (Nat.zero_le _) (by simpa using hxl) hcl (fun i f hf=>hel i f (by simpa using hf))
   simpa [qR] using this
  ·cases h
end
end Go.Proofs.YtdppgaphcmhffaaGreatDoor.V
namespace Go.Proofs.YtdppgaphcmhffaaGreatDoor.V
open Go Go.ChangeShapes Go.WideShapes Go.ChangeAt Go.RowKit
open Go.ChangeMaps (open_string shut_string)
theorem JV:Tryz.prog.globals.size=9:=by kernel_rfl
theorem own:ownKnob Tryz.prog.godebug=none:=by kernel_rfl
theorem laidOut:laidOutB Tryz.prog=true:=by kernel_rfl
theorem J7 : Tryz.prog.globalNamed "hearsay/rdata.kinds" = some 0 := by kernel_rfl
theorem J8 : Tryz.prog.globalNamed "unicode/utf8.first" = some 2 := by kernel_rfl
theorem SQ : Tryz.prog.globalNamed "unicode/utf8.acceptRanges" = some 3 := by kernel_rfl
theorem Ni:((((begin Tryz.prog (fun _ _=>0) default).world.heap)[9 - 1]?).bind Obj.row?).isSome=true:=by kernel_rfl
theorem MK:((Tryz.prog.globals[0]?).map (·.type)).all (kz Tryz.prog 8)=true:=by kernel_rfl
theorem ML:((Tryz.prog.globals[2]?).map (·.type)).all (kz Tryz.prog 8)=true:=by kernel_rfl
theorem Se:((Tryz.prog.globals[3]?).map (·.type)).all (kz Tryz.prog 8)=true:=by kernel_rfl
theorem y9 {o:Option TypeId} {t:TypeId} {f:TypeId→Bool} (h:o.all f=true) (ht:o=some t):f t=true:=by subst ht; simpa using h

def muX (n:Nat) (xs:List Loc):Mu:=fun i=>if i < n then some ⟨i,0,0⟩ else xs[i - n]?
theorem yK {P:Program} {W:World} {n:Nat} {xs:List Loc} {Bs:List bp} (hn:P.globals.size=n) (hsz:n≤W.heap.size) (hl:Bs.length=n) (hx:∀ x ∈ xs,x.blk < W.heap.size) (hw:∀ x ∈ Bs,apart x=false) (hB:∀ (i:Nat) x,Bs[i]?=some x→mO P (muX n xs) W ⟨i,0,0⟩ x):aY P (start W) (muX n xs) (Bs++List.replicate xs.length .ghost) W:=by
 have hap:∀ x ∈ Bs++List.replicate xs.length bp.ghost,apart x=false:=by
  intro x h
  rcases List.mem_append.1 h with h | h
  ·exact hw x h
  ·rw [(List.mem_replicate.1 h).2]; rfl
 exact {
  dom:=fun b l h=>by
   unfold muX at h
   rw [List.length_append,List.length_replicate,hl]
   split at h
   ·omega
   ·have:=(List.getElem?_eq_some_iff.1 h).1; omega
  eK:=fun i hi=>⟨0,by unfold muX; rw [if_pos (by omega)]⟩
  lt:=fun b l h=>by
   unfold muX at h
   split at h
   ·cases h; show b < _; omega
   ·exact hx l (List.mem_of_getElem? h)
  blk:=fun b l x h h'=>by
   unfold muX at h
   split at h
   ·rename_i hb
    cases h
    rw [List.getElem?_append_left (by omega)] at h'
    exact hB b x h'
   ·rw [List.getElem?_append_right (by omega)] at h'
    have:=List.mem_of_getElem? h'
    rw [(List.mem_replicate.1 this).2]; trivial
  sep:=fun b b' l l' x x' _ _ _ hx _ hwx=>by rw [hap x (List.mem_of_getElem? hx)] at hwx; cases hwx
  own:=fun b l x _ hx hwx=>by have:=xw hwx; rw [hap x (List.mem_of_getElem? hx)] at this; cases this
  old:=fun k hk=>⟨hk,rfl⟩
  os:=rfl
  tape:=rfl
  output:=rfl
  size:=Nat.le_refl _ }
abbrev erN : String := "*errors.errorString"
theorem M6 {u:TypeId} (h:Tryz.prog.typeName? 3 u=some erN):u=219 :=
 typeName_ptr_named (nm := "errors.errorString") (by kernel_rfl) (by kernel_rfl) (by decide) u (h.trans (congrArg some (by decide : erN = "*" ++ "errors.errorString")))
theorem Pc:Tryz.prog.underlying 219=some (.pointer 221):=by kernel_rfl
theorem KS:Tryz.prog.cellsOf 221=1:=by kernel_rfl
theorem Fe {H:Type} {enc:TypeId × Value→H} {W:World} {base fuel:Nat} {sp:Nat→Bool} {cs:List Value} {d:DataW H} {p:List MemPlace} (h:DataW.trod enc Tryz.prog W base sp false fuel 75 cs=some (.iface erN (.ptr d),p)) :
  ∃ l:Loc,l.blk < W.heap.size∧(cs=[.iface 219 (.pointer (some ⟨l.blk,l.base,none⟩))]∨cs=[.iface 219 (.agg #[.pointer (some ⟨l.blk,l.base,none⟩)])]):=by
 obtain ⟨ms,hu⟩:∃ ms,Tryz.prog.underlying 75=some (.interface ms):=by
  have:=nC
  split at this
  ·exact ⟨_,‹_›⟩
  ·cases this
 obtain ⟨fuel',u,v,rfl,hn,hd⟩:=iface_of_trod hu h
 obtain rfl:=M6 hn
 obtain ⟨f2,a,cs',q,hv,hc,_,_⟩:=ptr_of_trod Pc hd
 rw [KS] at hc
 unfold World.cells? at hc
 split at hc
 ·have hc1:∃ x,W.cell? (a.add 0)=some x:=by
   cases hx:W.cell? (a.add 0) with
   | some x=>exact ⟨x,rfl⟩
   | none=>simp [List.range,List.range.loop,hx] at hc
  obtain ⟨x,hx⟩:=hc1
  unfold World.cell? at hx
  split at hx
  ·rename_i c e fr hb
   have hsp:a.spot=none:=by
    cases hs:a.spot with
    | none=>rfl
    | some s=>rw [show (a.add 0).spot=a.spot from rfl,hs] at hx; simp at hx
   refine ⟨⟨a.block,a.off,0⟩,?_,?_⟩
   ·exact (Array.getElem?_eq_some_iff.1 hb).1
   ·obtain ⟨b,o,s⟩:=a
    simp only at hsp
    subst hsp
    cases v with
    | agg l =>
     obtain ⟨l⟩:=l
     simp only [Value.cells] at hv
     exact .inr (by rw [hv])
    | _ =>
     simp only [Value.cells] at hv
     first | (left; have:=List.head_eq_of_cons_eq hv; rw [this]) | (exfalso; cases hv)
  ·cases hx
 ·cases hc
theorem J6 : Tryz.prog.globalNamed "strconv.ErrRange" = some 5 := by kernel_rfl
theorem Fb : Tryz.prog.globalNamed "strconv.ErrSyntax" = some 4 := by kernel_rfl
theorem Pm:(Tryz.prog.globals[5]?).map (·.type)=some 75:=by kernel_rfl
theorem Mp:(Tryz.prog.globals[4]?).map (·.type)=some 75:=by kernel_rfl
theorem Pp:((((begin Tryz.prog (fun _ _=>0) default).world.heap)[6]?).bind Obj.row?)=some (#[.int .i64 0],3):=by kernel_rfl
theorem Um:Tryz.prog.buildable 3=true:=by kernel_rfl
theorem ctI:Tryz.prog.cellTypes Tryz.prog.depth 3=some [3]:=by kernel_rfl
theorem Gu {W:World} (hsh:W.ShapedOpen Tryz.prog):∃ (n:Int) (cs:Array Value) (e:TypeId) (fr:Nat × Nat),W.heap[6]?=some (.cells cs e fr)∧cs.toList=[.int .i64 n]:=by
 obtain ⟨cs,h1,h2,h3⟩:=hsh.1 6 _ _ (by rw [JV]; decide) Pp
 obtain ⟨ts,h4,_,h5⟩:=h3 Um
 rw [ctI] at h4
 cases h4
 have hs:cs.size=1:=h2
 obtain ⟨l⟩:=cs
 match l,hs with
 | [v],_ =>
  obtain ⟨u,h6,h7⟩:=h5 0 v rfl
  simp at h6
  subst h6
  unfold Cell.ok at h7
  rw [Tryz.underlying3] at h7
  cases v <;> simp only at h7 <;> first | exact h7.elim | skip
  obtain ⟨rfl,_⟩:=h7
  exact ⟨_,_,_,_,h1,rfl⟩
def nH:List AV:=(List.range 256).map fun c=>.int .u8 (Lib.firstT c)
def tM:List AV:=(List.range 32).map fun j=>.int .u8 (if j % 2=0 then Lib.accLo (j / 2) else Lib.accHi (j / 2))
theorem at1 {l:List AV} {k:Nat} {x:AV} (h:l[k]?=some x):(l.drop k).take 1=[x]:=by
 obtain ⟨h1,h2⟩:=List.getElem?_eq_some_iff.1 h
 rw [List.drop_eq_getElem_cons h1,h2]; rfl
end Go.Proofs.YtdppgaphcmhffaaGreatDoor.V
namespace Go.Proofs.YtdppgaphcmhffaaGreatDoor.V
open Go Go.ChangeShapes Go.WideShapes Go.ChangeAt Go.RowKit
theorem OY : Tryz.prog.globalNamed "math/bits.deBruijn64tab" = some 8 := by kernel_rfl
theorem SP : Tryz.prog.globalNamed "internal/strconv.uint64pow10" = some 1 := by kernel_rfl
theorem Py:((Tryz.prog.globals[8]?).map (·.type)).all (kz Tryz.prog 8)=true:=by kernel_rfl
theorem Sd:((Tryz.prog.globals[1]?).map (·.type)).all (kz Tryz.prog 8)=true:=by kernel_rfl
theorem Jk {W:World} (hsh:W.ShapedOpen Tryz.prog) (h:laidMetH Tryz.prog Rows.masterHoldsRow.laid W):∃ (Bs:List bp) (μ:Mu),aY Tryz.prog (start W) μ Bs W∧(∀ x ∈ Bs,apart x=false)∧gN≤Bs.length∧Gl Bs∧Tb Bs∧Db Bs:=by
 have hsz:=yN JV hsh Ni
 obtain ⟨nm,cm,em,frm,hbm,hcm⟩:=Gu hsh
 have h:laidMet Tryz.prog Rows.masterHoldsRow.laid W:=h
 obtain ⟨ps,⟨_,_,_,_,_,_,_,_,_,_,⟨g8,t8,c8,f8,p8,q8,hg8,ht8,hv8,hd8,⟨g1,t1,c1,f1,p1,q1,hg1,ht1,hv1,hd1,⟨ga,ta,ca,fa,pa,qa,hga,hta,hva,hda,⟨g4,t4,c4,f4,p4,q4,hg4,ht4,hv4,hd4,⟨g3,t3,c3,f3,p3,q3,hg3,ht3,hv3,hd3,⟨g0,t0,c0,f0,p0,q0,hg0,ht0,hv0,hd0,⟨g2,t2,c2,f2,p2,q2,hg2,ht2,hv2,hd2,_,_⟩,_⟩,_⟩,_⟩,_⟩,_⟩,_⟩,_⟩,_⟩:=h
 obtain rfl:=Option.some.inj (SQ.symm.trans hga)
 obtain rfl:=Option.some.inj (J8.symm.trans hg2)
 obtain rfl:=Option.some.inj (J6.symm.trans hg4)
 obtain rfl:=Option.some.inj (Fb.symm.trans hg3)
 obtain rfl:=Option.some.inj (J7.symm.trans hg0)
 obtain rfl:=Option.some.inj (OY.symm.trans hg8)
 obtain rfl:=Option.some.inj (SP.symm.trans hg1)
 obtain ⟨e8,fr8,hb8⟩:=gQ OY hv8
 obtain ⟨e1,fr1,hb1⟩:=gQ SP hv1
 obtain ⟨ea,fra,hba⟩:=gQ SQ hva
 obtain ⟨e2,fr2,hb2⟩:=gQ J8 hv2
 obtain ⟨e4,fr4,hb4⟩:=gQ J6 hv4
 obtain ⟨e3,fr3,hb3⟩:=gQ Fb hv3
 obtain ⟨e0,fr0,hb0⟩:=gQ J7 hv0
 obtain rfl:=Option.some.inj (Pm.symm.trans ht4)
 obtain rfl:=Option.some.inj (Mp.symm.trans ht3)
 obtain ⟨l4,hl4,k4⟩:=Fe hd4
 obtain ⟨l3,hl3,k3⟩:=Fe hd3
 have ka:aA (muX 9 [l3,l4]) tM=some ca.toList:=gR (μ:=muX 9 [l3,l4]) 8 _ _ _ _ (y9 Se hta) hda
 have k2:aA (muX 9 [l3,l4]) nH=some c2.toList:=gR (μ:=muX 9 [l3,l4]) 8 _ _ _ _ (y9 ML ht2) hd2
 have k8:=gR (μ:=muX 9 [l3,l4]) 8 _ _ _ _ (y9 Py ht8) hd8
 have k1:=gR (μ:=muX 9 [l3,l4]) 8 _ _ _ _ (y9 Sd ht1) hd1
 have k0:=gR (μ:=muX 9 [l3,l4]) 8 _ _ _ _ (y9 MK ht0) hd0
 have km:aA (muX 9 [l3,l4]) [.int .i64 nm]=some cm.toList:=by rw [hcm]; rfl
 obtain ⟨x4,k4⟩:∃ x:AV,aA (muX 9 [l3,l4]) [.iface 219 x]=some c4.toList:=by
  rcases k4 with k4 | k4
  ·exact ⟨.ptr 10 0,by rw [k4]; simp [aA,aB,muX]⟩
  ·exact ⟨.agg [.ptr 10 0],by rw [k4]; simp [aA,aB,muX]⟩
 obtain ⟨x3,k3⟩:∃ x:AV,aA (muX 9 [l3,l4]) [.iface 219 x]=some c3.toList:=by
  rcases k3 with k3 | k3
  ·exact ⟨.ptr 9 0,by rw [k3]; simp [aA,aB,muX]⟩
  ·exact ⟨.agg [.ptr 9 0],by rw [k3]; simp [aA,aB,muX]⟩
 have hap:∀ x ∈ ([.cells nB e0 .ro,.cells we e1 .ro,.cells nH e2 .ro,.cells tM ea .ro,.cells [.iface 219 x3] e3 .ro,.cells [.iface 219 x4] e4 .ro,.cells [.int .i64 nm] em .ro,.ghost,.cells xe e8 .ro]:List bp),apart x=false:=by
  intro x hx
  simp only [List.mem_cons,List.not_mem_nil,or_false] at hx
  rcases hx with rfl | rfl | rfl | rfl | rfl | rfl | rfl | rfl | rfl <;> rfl
 refine ⟨_,_,yK (Bs:=[.cells nB e0 .ro,.cells we e1 .ro,.cells nH e2 .ro,.cells tM ea .ro,.cells [.iface 219 x3] e3 .ro,.cells [.iface 219 x4] e4 .ro,.cells [.int .i64 nm] em .ro,.ghost,.cells xe e8 .ro]) (xs:=[l3,l4]) JV hsz rfl ?_ hap ?_,?_,by simp [gN],⟨⟨e0,.ro,rfl⟩,⟨⟨e3,.ro,_,_,rfl⟩,⟨e4,.ro,_,_,rfl⟩⟩,⟨nm,em,.ro,rfl⟩,⟨by decide,by decide,fun c hc=>?_,fun i hi=>⟨?_,?_⟩⟩⟩,⟨e1,.ro,rfl⟩,⟨e8,.ro,rfl⟩⟩
 ·intro x hx
  simp only [List.mem_cons,List.not_mem_nil,or_false] at hx
  rcases hx with rfl | rfl
  ·exact hl3
  ·exact hl4
 ·intro i x hx
  match i with
  | 0=>cases hx; exact fj hb0 k0
  | 1=>cases hx; exact fj hb1 k1
  | 2=>cases hx; exact fj hb2 k2
  | 3=>cases hx; exact fj hba ka
  | 4=>cases hx; exact fj hb3 k3
  | 5=>cases hx; exact fj hb4 k4
  | 6=>cases hx; exact fj hbm km
  | 7=>cases hx; trivial
  | 8=>cases hx; exact fj hb8 k8
  | i+9=>simp at hx
 ·intro x hx
  rcases List.mem_append.1 hx with h | h
  ·exact hap x h
  ·rw [(List.mem_replicate.1 h).2]; rfl
 ·show (if c+1≤nH.length then some ((nH.drop c).take 1) else none)=_
  rw [if_pos (by simp [nH]; omega),at1 (x:=.int .u8 (Lib.firstT c)) (by simp [nH,hc])]
 ·show (if 2*i+1≤tM.length then some ((tM.drop (2*i)).take 1) else none)=_
  rw [if_pos (by simp [tM]; omega),at1 (x:=.int .u8 (Lib.accLo i)) (by
   have h1:2*i < 32:=by omega
   simp [tM,h1])]
 ·show (if 2*i+1+1≤tM.length then some ((tM.drop (2*i+1)).take 1) else none)=_
  rw [if_pos (by simp [tM]; omega),at1 (x:=.int .u8 (Lib.accHi i)) (by
   have h1:2*i+1 < 32:=by omega
   have h2:¬ (2*i+1) % 2=0:=by omega
   have h3:(2*i+1) / 2=i:=by omega
   simp [tM,h1,h2,h3])]
end Go.Proofs.YtdppgaphcmhffaaGreatDoor.V
namespace Go.Proofs.YtdppgaphcmhffaaGreatDoor.V
open Go
attribute [local irreducible] go bt goD opK ag bx aF aH bC

structure Rr where
 nm:List UInt8
 ty:Nat
 cl:Nat
 tt:Nat
 d:Dt
 deriving DecidableEq
def Rr.cells (x:Rr):List AV:=[.str x.nm,.int .u16 (x.ty:Nat),.int .u16 (x.cl:Nat),.int .u32 (x.tt:Nat)]++x.d.cells
structure Rr.wf (x:Rr):Prop where
 nm:x.nm.length≤1048576
 ty:x.ty < 65536
 cl:x.cl < 65536
 tt:x.tt < 4294967296
 d:x.d.wf
structure Rr.fit (x:Rr):Prop where
 ty:x.ty < 65536
 cl:x.cl < 65536
 tt:x.tt < 4294967296
 n0:iB x.d.n0
 n1:iB x.d.n1
 n2:iB x.d.n2
 n3:iB x.d.n3
 n4:iB x.d.n4
theorem Rr.fit.wf {x:Rr} (h:x.fit) (l:x.nm.length≤2000∧x.d.raw.length≤2000∧x.d.host.length≤2000∧x.d.bW.length≤2000):x.wf :=
 ⟨by omega,h.ty,h.cl,h.tt,⟨by omega,by omega,by omega,h.n0,h.n1,h.n2,h.n3,h.n4⟩⟩
def recC (L:List Rr):List AV:=L.flatMap Rr.cells
theorem Rr.len (x:Rr):x.cells.length=12:=rfl
theorem uD (x:Rr) (L:List Rr):recC (x::L)=x.cells++recC L:=rfl
theorem yU (A B:List Rr):recC (A++B)=recC A++recC B:=by simp [recC]
theorem fQ (L:List Rr):(recC L).length=L.length*12:=by
 induction L with
 | nil=>rfl
 | cons w ws ih=>rw [uD,List.length_append,ih,List.length_cons,Rr.len]; omega
theorem vX:∀ (L:List Rr) (i:Nat) (x:Rr),L[i]?=some x→((recC L).drop (i*12)).take 12=x.cells∧i*12+12≤(recC L).length
 | [],i,x,h=>by simp at h
 | y::rs,0,x,h=>by
  simp only [List.getElem?_cons_zero,Option.some.injEq] at h
  subst h
  exact ⟨rfl,by rw [fQ,List.length_cons]; omega⟩
 | y::rs,i+1,x,h=>by
  obtain ⟨h1,h2⟩:=vX rs i x (by simpa using h)
  have e2:(i+1)*12=y.cells.length+i*12:=by rw [Rr.len]; omega
  refine ⟨?_,by rw [fQ] at h2 ⊢; simp; omega⟩
  rw [uD,e2,← List.drop_drop,List.drop_left]; exact h1
structure At (row:List AV) (q:Nat) (x:Rr):Prop where
 h:(row.drop q).take 12=x.cells
 l:q+12≤row.length
theorem At.g {row:List AV} {q:Nat} {x:Rr} (h:At row q x) {j:Nat} (hj:j < 12):row[q+j]?=x.cells[j]?:=by
 rw [← h.h,List.getElem?_take_of_lt hj,List.getElem?_drop]
theorem At.ld {row:List AV} {q:Nat} {x:Rr} {e:TypeId} {k:Kd} (h:At row q x):ldC q 12 true (.cells row e k)=some (.agg x.cells):=by
 rw [OU,if_pos h.l,h.h]
theorem At.f0 {row:List AV} {q:Nat} {x:Rr} {e:TypeId} {k:Kd} (h:At row q x):ldC q 1 false (.cells row e k)=some (.str x.nm):=h.g (j:=0) (by decide)
theorem At.f1 {row:List AV} {q:Nat} {x:Rr} {e:TypeId} {k:Kd} (h:At row q x):ldC (q+1) 1 false (.cells row e k)=some (.int .u16 (x.ty:Nat)):=h.g (j:=1) (by decide)
theorem At.f2 {row:List AV} {q:Nat} {x:Rr} {e:TypeId} {k:Kd} (h:At row q x):ldC (q+2) 1 false (.cells row e k)=some (.int .u16 (x.cl:Nat)):=h.g (j:=2) (by decide)
theorem At.f3 {row:List AV} {q:Nat} {x:Rr} {e:TypeId} {k:Kd} (h:At row q x):ldC (q+3) 1 false (.cells row e k)=some (.int .u32 (x.tt:Nat)):=h.g (j:=3) (by decide)
theorem At.f4 {row:List AV} {q:Nat} {x:Rr} {e:TypeId} {k:Kd} (h:At row q x):ldC (q+4) 8 true (.cells row e k)=some (.agg x.d.cells):=by
 have hl:=h.l
 rw [OU,if_pos (by omega)]
 have:=congrArg (List.drop 4) h.h
 rw [List.drop_take,List.drop_drop] at this
 rw [this]; rfl
theorem At.zero (x:Rr):At x.cells 0 x:=⟨by rw [List.drop_zero]; exact List.take_of_length_le (by rw [Rr.len]; exact Nat.le_refl _),by rw [Rr.len]; exact Nat.le_refl _⟩
theorem Rr.l0 (x:Rr) (e:TypeId) (k:Kd):ldC 0 1 false (.cells x.cells e k)=some (.str x.nm):=rfl
theorem Rr.l1 (x:Rr) (e:TypeId) (k:Kd):ldC 1 1 false (.cells x.cells e k)=some (.int .u16 (x.ty:Nat)):=rfl
theorem Rr.l2 (x:Rr) (e:TypeId) (k:Kd):ldC 2 1 false (.cells x.cells e k)=some (.int .u16 (x.cl:Nat)):=rfl
theorem Rr.l3 (x:Rr) (e:TypeId) (k:Kd):ldC 3 1 false (.cells x.cells e k)=some (.int .u32 (x.tt:Nat)):=rfl
theorem Rr.l4 (x:Rr) (e:TypeId) (k:Kd):ldC 4 8 true (.cells x.cells e k)=some (.agg x.d.cells):=rfl
theorem Rr.lw (x:Rr) (e:TypeId) (k:Kd):ldC 0 12 true (.cells x.cells e k)=some (.agg x.cells):=rfl
theorem Rr.vc (x:Rr):bH (.agg x.cells)=x.cells:=rfl
theorem Rr.scl (x:Rr):x.cells.all cK=true:=rfl
theorem Rr.flt (x:Rr):bK x.cells=true:=rfl
theorem Dt.sw (d:Dt):splice [.str [],.str [],.str [],.int .u32 0,.int .u32 0,.int .u32 0,.int .u32 0,.int .u32 0] 0 d.cells=d.cells:=rfl
def RL (H:Hp) (v:AV) (R:List Rr):Prop:=(v=.aI∧R=[])∨∃ b o c row e kd,v=.slice b o R.length c∧H[b]?=some (.cells row e kd)∧(row.drop o).take (R.length*12)=recC R∧o+R.length*12≤row.length
theorem RL.len {H:Hp} {v:AV} {R:List Rr} (h:RL H v R) (H':Hp):bY Tryz.prog 26 v H'=some (.int .i64 R.length):=by
 obtain ⟨rfl,rfl⟩ | ⟨_,_,_,_,_,_,rfl,_⟩:=h <;> simp only [bY,nc] <;> rfl
theorem RL.fr {H Hc:Hp} {v:AV} {R:List Rr} (h:RL H v R) (hf:∀ (i:Nat) x,H[i]?=some x→Hc[i]?=some x):RL Hc v R:=by
 obtain h | ⟨b,o,c,row,e,kd,h1,h2,h3⟩:=h
 ·exact .inl h
 ·exact .inr ⟨b,o,c,row,e,kd,h1,hf b _ h2,h3⟩
theorem RL.old {H:Hp} {v:AV} {R:List Rr} (h:RL H v R) (L:Hp):RL (H++L) v R:=h.fr fun _ _ h=>ah h
theorem RL.at {H:Hp} {v:AV} {R:List Rr} (h:RL H v R) {i:Nat} {x:Rr} (hi:R[i]?=some x) :
  ∃ b q row e kd,aN Tryz.prog 26 v (.int .i64 (i:Nat))=some (.ptr b q)∧H[b]?=some (.cells row e kd)∧At row q x:=by
 have hlt:=(List.getElem?_eq_some_iff.1 hi).1
 obtain ⟨_,rfl⟩ | ⟨b,o,c,row,e,kd,rfl,hx,hr,hl⟩:=h
 ·simp at hlt
 ·obtain ⟨h4,h5⟩:=vX R i x hi
  refine ⟨b,o+i*12,row,e,kd,?_,hx,?_,by omega⟩
  ·simp only [aN,nc]
   rw [if_pos ⟨by omega,by omega⟩]
   simp
  ·rw [← hr,List.drop_take,List.drop_drop,List.take_take,Nat.min_eq_left (by omega)] at h4
   exact h4
theorem QE (n r h m n' r' h' m' : List UInt8) (t c tt a0 a1 a2 a3 a4 t' c' tt' b0 b1 b2 b3 b4 : Int) :
    gj Tryz.prog 20 36 (.agg [.str n, .int .u16 t, .int .u16 c, .int .u32 tt, .str r, .str h, .str m, .int .u32 a0, .int .u32 a1, .int .u32 a2, .int .u32 a3, .int .u32 a4])
      (.agg [.str n', .int .u16 t', .int .u16 c', .int .u32 tt', .str r', .str h', .str m', .int .u32 b0, .int .u32 b1, .int .u32 b2, .int .u32 b3, .int .u32 b4]) =
      if (n == n') = true then (if (t == t') = true then (if (c == c') = true then (if (tt == tt') = true then
      ((if (r == r') = true then (if (h == h') = true then (if (m == m') = true then
        ((if (a0 == b0) = true then (if (a1 == b1) = true then (if (a2 == b2) = true then (if (a3 == b3) = true then (if (a4 == b4) = true then some true else some false) else some false) else some false) else some false) else some false : Option Bool).bind fun q => if q = true then some true else some false)
        else some false) else some false) else some false : Option Bool).bind fun q => if q = true then some true else some false) else some false) else some false) else some false) else some false := by kernel_rfl
theorem O3 (x y:Rr):gj Tryz.prog 20 36 (.agg x.cells) (.agg y.cells)=some (decide (x=y)):=by
 obtain ⟨n,t,c,tt,r,h,m,a0,a1,a2,a3,a4⟩:=x
 obtain ⟨n',t',c',tt',r',h',m',b0,b1,b2,b3,b4⟩:=y
 refine (QE n r h m n' r' h' m' t c tt a0 a1 a2 a3 a4 t' c' tt' b0 b1 b2 b3 b4).trans ?_
 simp only [Rr.mk.injEq,Dt.mk.injEq,beq_iff_eq,Int.ofNat_inj]
 by_cases h1:n=n' <;> by_cases h2:t=t' <;> simp only [h1,h2,if_true,if_false,true_and,false_and,and_false,decide_false]
 by_cases h3:c=c' <;> by_cases h4:tt=tt' <;> simp only [h3,h4,if_true,if_false,true_and,false_and,and_false,decide_false]
 by_cases h5:r=r' <;> by_cases h6:h=h' <;> by_cases h7:m=m' <;> simp only [h5,h6,h7,if_true,if_false,true_and,false_and,and_false,decide_false,Option.bind_some,Bool.false_eq_true]
 by_cases h8:a0=b0 <;> by_cases h9:a1=b1 <;> by_cases h10:a2=b2 <;> by_cases h11:a3=b3 <;> by_cases h12:a4=b4 <;> simp [h8,h9,h10,h11,h12]
theorem BJ (H:Hp) (va vb:AV) (A B:List Rr) (ha0:RL H va A) (hb0:RL H vb B) (hl0:A.length≤1048576) (hl1:B.length≤1048576) (k):ag Tryz.prog 11 [va,vb] H k=k (.bool (decide (A=B)),H,z0):=by
 refine ak (r:=(.bool (decide (A=B)),H,z0)) ?_ k
 refine aa (n:=26) (rs:=[.tmp 4]) Tryz.func11 rfl rfl rfl ?_
 intro σ hl ha
 have h0:=ha 0 (by simp)
 have h1:=ha 1 (by simp)
 clear ha
 simp only [Option.getD_some,List.getElem?_cons_zero,List.getElem?_cons_succ] at h0 h1
 have e1:=ha0.len
 have e2:=hb0.len
 by_cases hAB:A.length=B.length
 ·have e3:((A.length:Int) != B.length)=false:=by simp [hAB]
  simp only [go_sem,simprocAttr,hl,h0,h1,e1,e2,e3]
  refine go_rounds (fun m st=>∃ σ i e,m+i=A.length∧A.take i=B.take i∧st=⟨σ,H,e⟩∧clean H.length e∧σ.length=26∧fr σ 0=va∧fr σ 1=vb∧fr σ 5=.int .i64 (i:Nat)) A.length
   ⟨_,0,_,rfl,rfl,rfl,⟨rfl,rfl⟩,by simp only [go_sem,simprocAttr,hl],by simp only [go_sem,simprocAttr,hl,h0],by simp only [go_sem,simprocAttr,hl,h1],by simp only [go_sem,simprocAttr,hl]⟩ ?_
  clear h0 h1 hl
  rintro m _ ⟨σ,i,e,hmi,htk,rfl,hce,hl,h0,h1,h5⟩
  by_cases hi:i < A.length
  ·obtain ⟨x,hx⟩:∃ x,A[i]?=some x:=⟨_,List.getElem?_eq_getElem hi⟩
   obtain ⟨y,hy⟩:∃ y,B[i]?=some y:=⟨_,List.getElem?_eq_getElem (by omega)⟩
   obtain ⟨b,q,row,ee,kd,a1,a2,a3⟩:=ha0.at hx
   obtain ⟨b',q',row',ee',kd',b1,b2,b3⟩:=hb0.at hy
   have a3:=a3.ld (e:=ee) (k:=kd)
   have b3:=b3.ld (e:=ee') (k:=kd')
   have c1:decide (i < A.length)=true:=decide_eq_true hi
   have hq:=O3 x y
   have w1:=aS (show i < 9223372036854775807 by omega)
   simp only [go_sem,simprocAttr,hl,h0,h1,h5,e1,c1]
   refine ay au (by kernel_rfl) ?_
   by_cases hxy:x=y
   ·have hd:decide (x=y)=true:=decide_eq_true hxy
    rw [hd] at hq
    simp only [go_sem,simprocAttr,hl,h0,h1,h5,e1,c1,a1,a2,a3,b1,b2,b3,hq,w1]
    exact ⟨m - 1,by omega,_,i+1,_,by omega,by rw [List.take_add_one,List.take_add_one,htk,hx,hy,hxy],rfl,hce,by simp only [go_sem,simprocAttr,hl],by simp only [go_sem,simprocAttr,hl,h0],by simp only [go_sem,simprocAttr,hl,h1],by simp only [go_sem,simprocAttr,hl]⟩
   ·have hd:decide (x=y)=false:=decide_eq_false hxy
    rw [hd] at hq
    have hn:decide (A=B)=false:=decide_eq_false fun h=>by subst h; rw [hx] at hy; exact hxy (Option.some.inj hy)
    simp only [go_sem,simprocAttr,hl,h0,h1,h5,e1,c1,a1,a2,a3,b1,b2,b3,hq,w1]
    rw [hn]
    exact dJ rfl hce
  ·have c1:decide (i < A.length)=false:=decide_eq_false hi
   have hn:decide (A=B)=true:=decide_eq_true (by rw [← List.take_length (l:=A),← List.take_length (l:=B),← hAB,← show i=A.length by omega]; exact htk)
   simp only [go_sem,simprocAttr,hl,h0,h1,h5,e1,c1]
   rw [hn]
   exact dJ rfl hce
 ·have e3:((A.length:Int) != B.length)=true:=by simp; omega
  have hn:decide (A=B)=false:=decide_eq_false fun h=>hAB (by rw [h])
  simp only [go_sem,simprocAttr,hl,h0,h1,e1,e2,e3]
  rw [hn]
def Rr.fold (x:Rr):Rr:={ x with nm:=bB x.nm,d:=eE x.ty x.d }
theorem jU (s:List UInt8):(bB s).length=s.length:=by simp [bB]
theorem oM {t:Int} {d:Dt} (h:d.wf):(eE t d).wf:=by
 obtain ⟨h1,h2,h3,h4,h5,h6,h7,h8⟩:=h
 refine ⟨h1,?_,?_,h4,h5,h6,h7,h8⟩ <;> simp only [eE] <;> split <;> (try rw [jU]) <;> assumption
theorem Rr.Fc {x:Rr} (h:x.wf):x.fold.wf:=⟨by show (bB x.nm).length≤_; rw [jU]; exact h.nm,h.ty,h.cl,h.tt,oM h.d⟩
theorem Rr.s0 {x:Rr} (s:List UInt8):splice x.cells 0 [.str s]=({ x with nm:=s }:Rr).cells:=rfl
theorem Rr.s4 {x:Rr} (d:Dt):splice x.cells 4 d.cells=({ x with d:=d }:Rr).cells:=rfl
theorem Rr.sw {x:Rr}:splice [.str [],.int .u16 0,.int .u16 0,.int .u32 0,.str [],.str [],.str [],.int .u32 0,.int .u32 0,.int .u32 0,.int .u32 0,.int .u32 0] 0 x.cells=x.cells:=rfl
theorem Gb (x:Rr) (H k) (hx:x.wf):ag Tryz.prog 18 [.agg x.cells] H k=k (.agg x.fold.cells,H,z0):=by
 refine ak (r:=(.agg x.fold.cells,H,z0)) ?_ k
 refine aa (n:=14) (rs:=[.cell 2 36]) Tryz.func18 rfl rfl rfl ?_
 intro σ hl ha
 have h0:=ha 0 (by simp)
 clear ha
 simp only [Option.getD_some,List.getElem?_cons_zero,List.getElem?_cons_succ] at h0
 have f1:=fun s H k (h:s.length≤cg)=>lB s H k h
 have f2:=fun H k=>Gc x.ty x.d H k hx.d
 have hn:x.nm.length≤cg:=by have:=hx.nm; unfold cg; omega
 have f1':=fun H k=>lB x.nm H k hn
 simp only [go_sem,simprocAttr,hl,h0,Rr.l0,Rr.l1,Rr.l4,Rr.vc,Rr.scl,Rr.flt,Rr.len,Rr.s0,Rr.s4,f1',f2,Dt.vc,Dt.len,Dt.scl,Dt.flat,Rr.sw,Rr.lw]
 rfl
end Go.Proofs.YtdppgaphcmhffaaGreatDoor.V
namespace Go.Proofs.YtdppgaphcmhffaaGreatDoor.V
open Go Go.ChangeShapes Go.WideShapes Go.ChangeAt Go.RowKit
open Go.ChangeMaps (open_string shut_string)
theorem OQ:Tryz.prog.cellsOf 36=12:=by kernel_rfl
theorem R9:Tryz.prog.cellsOf 34=8:=by kernel_rfl
theorem rcN:Tryz.prog.cellsOf 32=5:=by kernel_rfl
theorem R7:Tryz.prog.cellsOf 9=1:=by kernel_rfl
theorem R8:Tryz.prog.cellsOf 24=1:=by kernel_rfl
theorem TT:Tryz.prog.cellsOf 23=1:=by kernel_rfl
theorem Sa:Tryz.prog.cellsOf 25=1:=by kernel_rfl
theorem om {n:Int} (h:(Lit.int .u32 n).wf=true):iB n:=by
 simp [Lit.wf,IntKind.min,IntKind.max,IntKind.bits,IntKind.signed] at h
 exact ⟨by omega,by omega⟩
theorem IP {n:Int} (h:(Lit.int .u32 n).wf=true):∃ c:Nat,n=(c:Int)∧c < 4294967296:=by
 simp [Lit.wf,IntKind.min,IntKind.max,IntKind.bits,IntKind.signed] at h
 exact ⟨n.toNat,by omega,by omega⟩
theorem yS {n:Int} (h:(Lit.int .u16 n).wf=true):∃ c:Nat,n=(c:Int)∧c < 65536:=by
 simp [Lit.wf,IntKind.min,IntKind.max,IntKind.bits,IntKind.signed] at h
 exact ⟨n.toNat,by omega,by omega⟩
section
variable {H:Type} {enc:TypeId × Value→H} {W:World} {base:Nat} {sp:Nat→Bool} {held:Bool}
theorem Ge {n:Nat} {cs:List Value} {d:DataW H × List MemPlace} (h:DataW.trod enc Tryz.prog W base sp held n 34 cs=some d) :
  ∃ x:Dt,(∀ μ,aA μ x.cells=some cs)∧(iB x.n0∧iB x.n1∧iB x.n2∧iB x.n3∧iB x.n4):=by
 obtain ⟨xs,n',rfl,hx,hcl,hxl,hf⟩:=DataW.trod_struct Tryz.underlying34 h
 rw [R9] at hcl
 match cs,hcl with
 | [c0,c1,c2,c3,c4,c5,c6,c7],_ =>
  have f0:DataW.trod enc Tryz.prog W base sp held n' 9 (([c0,c1,c2,c3,c4,c5,c6,c7].drop 0).take (Tryz.prog.cellsOf 9))=xs[0]?:=hf 0 _ rfl
  have f1:DataW.trod enc Tryz.prog W base sp held n' 24 (([c0,c1,c2,c3,c4,c5,c6,c7].drop 1).take (Tryz.prog.cellsOf 24))=xs[1]?:=hf 1 _ rfl
  have f2:DataW.trod enc Tryz.prog W base sp held n' 24 (([c0,c1,c2,c3,c4,c5,c6,c7].drop 2).take (Tryz.prog.cellsOf 24))=xs[2]?:=hf 2 _ rfl
  have f3:DataW.trod enc Tryz.prog W base sp held n' 32 (([c0,c1,c2,c3,c4,c5,c6,c7].drop 3).take (Tryz.prog.cellsOf 32))=xs[3]?:=hf 3 _ rfl
  have hx4:xs.length=4:=hxl
  simp only [R7,R8,rcN,List.drop_zero,List.drop_succ_cons,List.take_succ_cons,List.take_zero] at f0 f1 f2 f3
  match xs,hx4 with
  | [x0,x1,x2,x3],_ =>
   simp only [List.getElem?_cons_zero,List.getElem?_cons_succ] at f0 f1 f2 f3
   obtain ⟨s0,e0,z0,_⟩:=DataW.trod_string Tryz.underlying9 f0
   obtain ⟨s1,e1,z1,_⟩:=DataW.trod_string Tryz.underlying24 f1
   obtain ⟨s2,e2,z2,_⟩:=DataW.trod_string Tryz.underlying24 f2
   obtain ⟨ys,m,rfl,z3,_,hyl,hel⟩:=DataW.trod_array Tryz.underlying32 f3
   have i0:=hel 0 (by decide)
   have i1:=hel 1 (by decide)
   have i2:=hel 2 (by decide)
   have i3:=hel 3 (by decide)
   have i4:=hel 4 (by decide)
   simp only [Sa,Nat.mul_one,List.drop_zero,List.drop_succ_cons,List.take_succ_cons,List.take_zero] at i0 i1 i2 i3 i4
   match ys,hyl with
   | [y0,y1,y2,y3,y4],_ =>
    simp only [List.getElem?_cons_zero,List.getElem?_cons_succ] at i0 i1 i2 i3 i4
    obtain ⟨n0,a0,_,w0⟩:=DataW.trod_int Tryz.underlying25 i0
    obtain ⟨n1,a1,_,w1⟩:=DataW.trod_int Tryz.underlying25 i1
    obtain ⟨n2,a2,_,w2⟩:=DataW.trod_int Tryz.underlying25 i2
    obtain ⟨n3,a3,_,w3⟩:=DataW.trod_int Tryz.underlying25 i3
    obtain ⟨n4,a4,_,w4⟩:=DataW.trod_int Tryz.underlying25 i4
    cases e0; cases e1; cases e2; cases a0; cases a1; cases a2; cases a3; cases a4
    exact ⟨⟨s0.data.toList,s1.data.toList,s2.data.toList,n0,n1,n2,n3,n4⟩,fun μ=>by simp [Dt.cells,aB,aA],om w0,om w1,om w2,om w3,om w4⟩
theorem Gd {n:Nat} {cs:List Value} {d:DataW H × List MemPlace} (h:DataW.trod enc Tryz.prog W base sp held n 36 cs=some d) :
  ∃ x:Rr,(∀ μ,aA μ x.cells=some cs)∧x.fit:=by
 obtain ⟨xs,n',rfl,hx,hcl,hxl,hf⟩:=DataW.trod_struct Tryz.underlying36 h
 rw [OQ] at hcl
 match cs,hcl with
 | [b0,b1,b2,b3,c0,c1,c2,c3,c4,c5,c6,c7],_ =>
  have f0:DataW.trod enc Tryz.prog W base sp held n' 24 (([b0,b1,b2,b3,c0,c1,c2,c3,c4,c5,c6,c7].drop 0).take (Tryz.prog.cellsOf 24))=xs[0]?:=hf 0 _ rfl
  have f1:DataW.trod enc Tryz.prog W base sp held n' 23 (([b0,b1,b2,b3,c0,c1,c2,c3,c4,c5,c6,c7].drop 1).take (Tryz.prog.cellsOf 23))=xs[1]?:=hf 1 _ rfl
  have f2:DataW.trod enc Tryz.prog W base sp held n' 23 (([b0,b1,b2,b3,c0,c1,c2,c3,c4,c5,c6,c7].drop 2).take (Tryz.prog.cellsOf 23))=xs[2]?:=hf 2 _ rfl
  have f3:DataW.trod enc Tryz.prog W base sp held n' 25 (([b0,b1,b2,b3,c0,c1,c2,c3,c4,c5,c6,c7].drop 3).take (Tryz.prog.cellsOf 25))=xs[3]?:=hf 3 _ rfl
  have f4:DataW.trod enc Tryz.prog W base sp held n' 34 (([b0,b1,b2,b3,c0,c1,c2,c3,c4,c5,c6,c7].drop 4).take (Tryz.prog.cellsOf 34))=xs[4]?:=hf 4 _ rfl
  have hx5:xs.length=5:=hxl
  simp only [R8,TT,Sa,R9,List.drop_zero,List.drop_succ_cons,List.take_succ_cons,List.take_zero] at f0 f1 f2 f3 f4
  match xs,hx5 with
  | [x0,x1,x2,x3,x4],_ =>
   simp only [List.getElem?_cons_zero,List.getElem?_cons_succ] at f0 f1 f2 f3 f4
   obtain ⟨s0,e0,z0,_⟩:=DataW.trod_string Tryz.underlying24 f0
   obtain ⟨k1,a1,_,w1⟩:=DataW.trod_int Tryz.underlying23 f1
   obtain ⟨k2,a2,_,w2⟩:=DataW.trod_int Tryz.underlying23 f2
   obtain ⟨k3,a3,_,w3⟩:=DataW.trod_int Tryz.underlying25 f3
   obtain ⟨x,hc,hn0,hn1,hn2,hn3,hn4⟩:=Ge f4
   cases e0; cases a1; cases a2; cases a3
   obtain ⟨m1,rfl,l1⟩:=yS w1
   obtain ⟨m2,rfl,l2⟩:=yS w2
   obtain ⟨m3,rfl,l3⟩:=IP w3
   refine ⟨⟨s0.data.toList,m1,m2,m3,x⟩,fun μ=>?_,l1,l2,l3,hn0,hn1,hn2,hn3,hn4⟩
   have:=hc μ
   simp [Rr.cells,aA,aB,this]
theorem EG {a:Addr} {n:Nat}:∀ (len:Nat) (es:List (DataW H × List MemPlace)),es.length=len→(∀ i,i < len→(W.cells? base (a.add (i*12)) 12).bind (DataW.trod enc Tryz.prog W base sp held n 36)=es[i]?) →
  ∃ R:List Rr,R.length=len∧(∃ vs,(∀ μ,aA μ (recC R)=some vs)∧vs.length=len*12∧∀ (j:Nat) (v:Value),vs[j]?=some v→W.cell? (a.add j)=some v) ∧
   (∀ x ∈ R,x.fit)
 | 0,es,he,_=>by
  obtain rfl:es=[]:=List.eq_nil_of_length_eq_zero he
  exact ⟨[],rfl,⟨[],fun μ=>rfl,by simp,by simp⟩,by simp⟩
 | len+1,es,he,h=>by
  have hne:es≠[]:=by rintro rfl; simp at he
  obtain ⟨es',e,rfl⟩:∃ es' e,es=es'++[e]:=⟨es.dropLast,es.getLast hne,(List.dropLast_concat_getLast hne).symm⟩
  have hl':es'.length=len:=by simpa using he
  obtain ⟨R,hl,⟨vs,hv,hvl,hc⟩,h1⟩:=EG len es' hl' (fun i hi=>by rw [h i (by omega),List.getElem?_append_left (by omega)])
  have hlast:=h len (by omega)
  rw [List.getElem?_append_right (by omega),hl',Nat.sub_self,List.getElem?_cons_zero,Option.bind_eq_some_iff] at hlast
  obtain ⟨cs,hcs,ht⟩:=hlast
  obtain ⟨x,hxc,hxn⟩:=Gd ht
  obtain ⟨_,hcl,hcc⟩:=World.cells?_some hcs
  refine ⟨R++[x],by simp [hl],⟨vs++cs,fun μ=>?_,by rw [List.length_append,hvl,hcl]; omega,fun j v hj=>?_⟩,fun y hy=>?_⟩
  ·have:recC (R++[x])=recC R++x.cells:=by simp [recC]
   rw [this]
   exact aL (hv μ) (hxc μ)
  ·by_cases hlt:j < vs.length
   ·rw [List.getElem?_append_left hlt] at hj
    exact hc j v hj
   ·rw [List.getElem?_append_right (by omega)] at hj
    have hjl:=(List.getElem?_eq_some_iff.1 hj).1
    have:=hcc (j - vs.length) (by omega)
    rw [hj] at this
    rw [← this]
    congr 1
    unfold Addr.add
    by_cases hl0:len*12=0
    ·have:vs.length=0:=by omega
     simp [hl0,this]
    ·by_cases hj0:j - vs.length=0
     ·have:j=len*12:=by omega
      rw [if_pos hj0,if_neg hl0,if_neg (by omega),this]
     ·have h3:¬ j=0:=by omega
      simp only [hl0,hj0,h3,if_false]
      congr 1; omega
  ·rcases List.mem_append.1 hy with hy | hy
   ·exact h1 y hy
   ·rw [List.mem_singleton] at hy; subst hy; exact hxn
end
section
variable {H:Type} {enc:TypeId × Value→H} {W:World}
theorem Gk {base:Nat} {v:Value} {d:DataW H} {p:List MemPlace} {Bs:Hp} {μ0:Mu} (hR:aY Tryz.prog (start W) μ0 Bs W) (hBw:∀ x ∈ Bs,apart x=false)
  (hval:Value.okWide Tryz.prog W .any base 26 v) (h:DataW.Trod enc Tryz.prog W 0 (fun _=>true) true 26 v d p) :
  ∃ (lv:AV) (R:List Rr) (L:Hp) (μ:Mu),aY Tryz.prog (start W) μ (Bs++L) W∧(∀ x ∈ Bs++L,apart x=false)∧aB μ lv=some v∧RL (Bs++L) lv R∧∀ x ∈ R,x.fit:=by
 obtain ⟨fuel,ht⟩:=h
 obtain ⟨oa,ol,oc,rfl⟩:=okWide_slice Tryz.underlying26 hval
 rcases DataW.trod_slice Tryz.underlying26 ht with ⟨hs,_⟩ | ⟨a,len,cap,elems,rest,n,_,hs,hd,_,hl,hm,hlen,hel,_,_⟩
 ·have hs:[Value.slice oa ol oc]=[.slice none 0 0]:=hs
  simp only [List.cons.injEq,Value.slice.injEq,and_true] at hs
  obtain ⟨rfl,rfl,rfl⟩:=hs
  exact ⟨.aI,[],[],_,by rw [List.append_nil]; exact hR,by rw [List.append_nil]; exact hBw,rfl,.inl ⟨rfl,rfl⟩,by simp⟩
 ·have hs:[Value.slice oa ol oc]=[.slice (some a) len cap]:=hs
  simp only [List.cons.injEq,Value.slice.injEq,and_true] at hs
  obtain ⟨rfl,rfl,rfl⟩:=hs
  unfold Value.okWide at hval
  rw [Tryz.underlying26] at hval
  have hok:Cell.ok Tryz.prog W .any base 26 (.slice (some a) ol oc):=by
   simpa [Cell.okWide,Tryz.underlying26] using hval
  simp only [Cell.ok,Tryz.underlying26] at hok
  obtain ⟨_,_,_,hspot,row,cells,hsh,hlies⟩:=hok
  rw [OQ] at hel
  obtain ⟨R,hRl,⟨vs,hvs,hvl,hvc⟩,h1⟩:=EG ol elems hlen hel
  have hB:=fun μ=>I1 (P:=Tryz.prog) (cap:=oc) (μ:=μ) hspot (hvs μ) hvc hsh (uP hlies)
  have hblk:a.block < W.heap.size:=by
   unfold World.shape? at hsh
   cases hh:W.heap[a.block]? with
   | none=>rw [hh] at hsh; cases hsh
   | some o=>exact (Array.getElem?_eq_some_iff.1 hh).1
  refine ⟨.slice Bs.length 0 R.length (.ex oc),R,[.cells (recC R) row .ro],_,hR.ro hBw hblk (hB _),?_,?_,.inr ⟨Bs.length,0,_,recC R,row,.ro,rfl,by simp,by rw [List.drop_zero,← fQ,List.take_length],by rw [fQ]; omega⟩,h1⟩
  ·intro x hx
   rcases List.mem_append.1 hx with hx | hx
   ·exact hBw x hx
   ·rw [List.mem_singleton] at hx; subst hx; rfl
  ·obtain ⟨ab,ao,asp⟩:=a
   simp only at hspot
   subst hspot
   rw [hRl]
   simp [aB,upd]
end
end Go.Proofs.YtdppgaphcmhffaaGreatDoor.V
namespace Go.Proofs.YtdppgaphcmhffaaGreatDoor.V
open Go
attribute [local irreducible] go bt goD opK ag bx aF aH bC
theorem SX (n:Nat) (H k) (h1:100000≤n) (hn:n < 1000000):ag Tryz.prog 122 [.slice H.length 1 6 (.ex 23),.int .u64 (n:Nat)] (H++[.cells [.int .u8 0,.int .u8 0,.int .u8 0,.int .u8 0,.int .u8 0,.int .u8 0,.int .u8 0,.int .u8 0,.int .u8 0,.int .u8 0,.int .u8 0,.int .u8 0,.int .u8 0,.int .u8 0,.int .u8 0,.int .u8 0,.int .u8 0,.int .u8 0,.int .u8 0,.int .u8 0,.int .u8 0,.int .u8 0,.int .u8 0,.int .u8 0] 177 .rw]) k =
  k (.tuple [],H++[.cells (.int .u8 0::.int .u8 (aC ((n / 10000 % 100) / 10)).toNat::.int .u8 (aC ((n / 10000 % 100) % 10)).toNat::.int .u8 (aC ((n % 10000 / 100) / 10)).toNat::.int .u8 (aC ((n % 10000 / 100) % 10)).toNat::.int .u8 (aC ((n % 10000 % 100) / 10)).toNat::.int .u8 (aC ((n % 10000 % 100) % 10)).toNat::[.int .u8 0,.int .u8 0,.int .u8 0,.int .u8 0,.int .u8 0,.int .u8 0,.int .u8 0,.int .u8 0,.int .u8 0,.int .u8 0,.int .u8 0,.int .u8 0,.int .u8 0,.int .u8 0,.int .u8 0,.int .u8 0,.int .u8 0]) 177 .rw],⟨none,some H.length⟩):=by
 refine ak ?_ k
 refine aa (n:=167) (rs:=[]) Tryz.func122 rfl rfl rfl ?_
 intro σ hl ha
 have h0:=ha 0 (by simp)
 have h1':=ha 1 (by simp)
 clear ha
 simp only [Option.getD_some,List.getElem?_cons_zero,List.getElem?_cons_succ] at h0 h1'
 have v0:IntKind.u32.wrap (n:Int)=(n:Int):=wrap_u32 (by omega)
 have d1:(n:Int).tmod 10000=((n % 10000:Nat):Int):=dL (by decide)
 have d2:IntKind.u32.wrap ((n:Int).tdiv 10000)=((n / 10000:Nat):Int):=ej (by omega) (by decide)
 have e1:IntKind.u32.wrap (((n % 10000:Nat):Int).tdiv 100)=((n % 10000 / 100:Nat):Int):=ej (by omega) (by decide)
 have e2:((n % 10000:Nat):Int).tmod 100=((n % 10000 % 100:Nat):Int):=dL (by decide)
 have e3:IntKind.u32.wrap (((n % 10000 / 100:Nat):Int)*2)=((2*(n % 10000 / 100):Nat):Int):=w2x (by omega)
 have e4:IntKind.u32.wrap (((n % 10000 % 100:Nat):Int)*2)=((2*(n % 10000 % 100):Nat):Int):=w2x (by omega)
 have e5:IntKind.u32.wrap (((2*(n % 10000 / 100):Nat):Int)+1)=((2*(n % 10000 / 100)+1:Nat):Int):=w2y (by omega)
 have e6:IntKind.u32.wrap (((2*(n % 10000 % 100):Nat):Int)+1)=((2*(n % 10000 % 100)+1:Nat):Int):=w2y (by omega)
 have f1:((n / 10000:Nat):Int).tmod 100=((n / 10000 % 100:Nat):Int):=dL (by decide)
 have f2:IntKind.u32.wrap (((n / 10000:Nat):Int).tdiv 100)=((n / 10000 / 100:Nat):Int):=ej (by omega) (by decide)
 have f3:IntKind.u32.wrap (((n / 10000 % 100:Nat):Int)*2)=((2*(n / 10000 % 100):Nat):Int):=w2x (by omega)
 have f4:IntKind.u32.wrap (((2*(n / 10000 % 100):Nat):Int)+1)=((2*(n / 10000 % 100)+1:Nat):Int):=w2y (by omega)
 simp only [go_sem,simprocAttr,hl,h0,h1',v0,d1,d2,e1,e2,e3,e4,e5,e6,f1,f2,f3,f4]
 rw [go_loop]
 simp only [go_sem,simprocAttr,hl,h0,h1',v0,d1,d2,e1,e2,e3,e4,e5,e6,f1,f2,f3,f4]
 refine ay au (by kernel_rfl) ?_
 simp only [go_sem,simprocAttr,hl,h0,h1',v0,d1,d2,e1,e2,e3,e4,e5,e6,f1,f2,f3,f4]
 rw [aP (by kernel_rfl) (show n % 10000 % 100 < 100 by omega)]
 simp only [go_sem,simprocAttr,hl,h0,h1',v0,d1,d2,e1,e2,e3,e4,e5,e6,f1,f2,f3,f4]
 rw [aQ (by kernel_rfl) (show n % 10000 % 100 < 100 by omega)]
 simp only [go_sem,simprocAttr,hl,h0,h1',v0,d1,d2,e1,e2,e3,e4,e5,e6,f1,f2,f3,f4]
 refine ⟨(by kernel_rfl:bN _ _ _=true),?_⟩
 try simp only [go_sem,simprocAttr,hl,h0,h1',v0,d1,d2,e1,e2,e3,e4,e5,e6,f1,f2,f3,f4]
 refine ay au (by kernel_rfl) ?_
 simp only [go_sem,simprocAttr,hl,h0,h1',v0,d1,d2,e1,e2,e3,e4,e5,e6,f1,f2,f3,f4]
 rw [aP (by kernel_rfl) (show n % 10000 / 100 < 100 by omega)]
 simp only [go_sem,simprocAttr,hl,h0,h1',v0,d1,d2,e1,e2,e3,e4,e5,e6,f1,f2,f3,f4]
 rw [aQ (by kernel_rfl) (show n % 10000 / 100 < 100 by omega)]
 simp only [go_sem,simprocAttr,hl,h0,h1',v0,d1,d2,e1,e2,e3,e4,e5,e6,f1,f2,f3,f4]
 refine ⟨(by kernel_rfl:bN _ _ _=true),?_⟩
 try simp only [go_sem,simprocAttr,hl,h0,h1',v0,d1,d2,e1,e2,e3,e4,e5,e6,f1,f2,f3,f4]
 refine ay au (by kernel_rfl) ?_
 simp only [go_sem,simprocAttr,hl,h0,h1',v0,d1,d2,e1,e2,e3,e4,e5,e6,f1,f2,f3,f4]
 rw [aP (by kernel_rfl) (show n / 10000 % 100 < 100 by omega)]
 simp only [go_sem,simprocAttr,hl,h0,h1',v0,d1,d2,e1,e2,e3,e4,e5,e6,f1,f2,f3,f4]
 rw [aQ (by kernel_rfl) (show n / 10000 % 100 < 100 by omega)]
 simp only [go_sem,simprocAttr,hl,h0,h1',v0,d1,d2,e1,e2,e3,e4,e5,e6,f1,f2,f3,f4]
 refine ⟨(by kernel_rfl:bN _ _ _=true),?_⟩
 try simp only [go_sem,simprocAttr,hl,h0,h1',v0,d1,d2,e1,e2,e3,e4,e5,e6,f1,f2,f3,f4]
 rw [cp rfl (by simp),dP (by omega)]

theorem SW (n:Nat) (H k) (h1:1000000≤n) (hn:n < 10000000):ag Tryz.prog 122 [.slice H.length 1 7 (.ex 23),.int .u64 (n:Nat)] (H++[.cells [.int .u8 0,.int .u8 0,.int .u8 0,.int .u8 0,.int .u8 0,.int .u8 0,.int .u8 0,.int .u8 0,.int .u8 0,.int .u8 0,.int .u8 0,.int .u8 0,.int .u8 0,.int .u8 0,.int .u8 0,.int .u8 0,.int .u8 0,.int .u8 0,.int .u8 0,.int .u8 0,.int .u8 0,.int .u8 0,.int .u8 0,.int .u8 0] 177 .rw]) k =
  k (.tuple [],H++[.cells (.int .u8 0::.int .u8 (aC (n / 10000 / 100)).toNat::.int .u8 (aC ((n / 10000 % 100) / 10)).toNat::.int .u8 (aC ((n / 10000 % 100) % 10)).toNat::.int .u8 (aC ((n % 10000 / 100) / 10)).toNat::.int .u8 (aC ((n % 10000 / 100) % 10)).toNat::.int .u8 (aC ((n % 10000 % 100) / 10)).toNat::.int .u8 (aC ((n % 10000 % 100) % 10)).toNat::[.int .u8 0,.int .u8 0,.int .u8 0,.int .u8 0,.int .u8 0,.int .u8 0,.int .u8 0,.int .u8 0,.int .u8 0,.int .u8 0,.int .u8 0,.int .u8 0,.int .u8 0,.int .u8 0,.int .u8 0,.int .u8 0]) 177 .rw],⟨none,some H.length⟩):=by
 refine ak ?_ k
 refine aa (n:=167) (rs:=[]) Tryz.func122 rfl rfl rfl ?_
 intro σ hl ha
 have h0:=ha 0 (by simp)
 have h1':=ha 1 (by simp)
 clear ha
 simp only [Option.getD_some,List.getElem?_cons_zero,List.getElem?_cons_succ] at h0 h1'
 have v0:IntKind.u32.wrap (n:Int)=(n:Int):=wrap_u32 (by omega)
 have d1:(n:Int).tmod 10000=((n % 10000:Nat):Int):=dL (by decide)
 have d2:IntKind.u32.wrap ((n:Int).tdiv 10000)=((n / 10000:Nat):Int):=ej (by omega) (by decide)
 have e1:IntKind.u32.wrap (((n % 10000:Nat):Int).tdiv 100)=((n % 10000 / 100:Nat):Int):=ej (by omega) (by decide)
 have e2:((n % 10000:Nat):Int).tmod 100=((n % 10000 % 100:Nat):Int):=dL (by decide)
 have e3:IntKind.u32.wrap (((n % 10000 / 100:Nat):Int)*2)=((2*(n % 10000 / 100):Nat):Int):=w2x (by omega)
 have e4:IntKind.u32.wrap (((n % 10000 % 100:Nat):Int)*2)=((2*(n % 10000 % 100):Nat):Int):=w2x (by omega)
 have e5:IntKind.u32.wrap (((2*(n % 10000 / 100):Nat):Int)+1)=((2*(n % 10000 / 100)+1:Nat):Int):=w2y (by omega)
 have e6:IntKind.u32.wrap (((2*(n % 10000 % 100):Nat):Int)+1)=((2*(n % 10000 % 100)+1:Nat):Int):=w2y (by omega)
 have f1:((n / 10000:Nat):Int).tmod 100=((n / 10000 % 100:Nat):Int):=dL (by decide)
 have f2:IntKind.u32.wrap (((n / 10000:Nat):Int).tdiv 100)=((n / 10000 / 100:Nat):Int):=ej (by omega) (by decide)
 have f3:IntKind.u32.wrap (((n / 10000 % 100:Nat):Int)*2)=((2*(n / 10000 % 100):Nat):Int):=w2x (by omega)
 have f4:IntKind.u32.wrap (((2*(n / 10000 % 100):Nat):Int)+1)=((2*(n / 10000 % 100)+1:Nat):Int):=w2y (by omega)
 have g1:IntKind.u8.wrap (IntKind.u32.wrap (48+((n / 10000 / 100:Nat):Int)))=((aC (n / 10000 / 100)).toNat:Int):=lM (by omega)
 simp only [go_sem,simprocAttr,hl,h0,h1',v0,d1,d2,e1,e2,e3,e4,e5,e6,f1,f2,f3,f4,g1]
 rw [go_loop]
 simp only [go_sem,simprocAttr,hl,h0,h1',v0,d1,d2,e1,e2,e3,e4,e5,e6,f1,f2,f3,f4,g1]
 refine ay au (by kernel_rfl) ?_
 simp only [go_sem,simprocAttr,hl,h0,h1',v0,d1,d2,e1,e2,e3,e4,e5,e6,f1,f2,f3,f4,g1]
 rw [aP (by kernel_rfl) (show n % 10000 % 100 < 100 by omega)]
 simp only [go_sem,simprocAttr,hl,h0,h1',v0,d1,d2,e1,e2,e3,e4,e5,e6,f1,f2,f3,f4,g1]
 rw [aQ (by kernel_rfl) (show n % 10000 % 100 < 100 by omega)]
 simp only [go_sem,simprocAttr,hl,h0,h1',v0,d1,d2,e1,e2,e3,e4,e5,e6,f1,f2,f3,f4,g1]
 refine ⟨(by kernel_rfl:bN _ _ _=true),?_⟩
 try simp only [go_sem,simprocAttr,hl,h0,h1',v0,d1,d2,e1,e2,e3,e4,e5,e6,f1,f2,f3,f4,g1]
 refine ay au (by kernel_rfl) ?_
 simp only [go_sem,simprocAttr,hl,h0,h1',v0,d1,d2,e1,e2,e3,e4,e5,e6,f1,f2,f3,f4,g1]
 rw [aP (by kernel_rfl) (show n % 10000 / 100 < 100 by omega)]
 simp only [go_sem,simprocAttr,hl,h0,h1',v0,d1,d2,e1,e2,e3,e4,e5,e6,f1,f2,f3,f4,g1]
 rw [aQ (by kernel_rfl) (show n % 10000 / 100 < 100 by omega)]
 simp only [go_sem,simprocAttr,hl,h0,h1',v0,d1,d2,e1,e2,e3,e4,e5,e6,f1,f2,f3,f4,g1]
 refine ⟨(by kernel_rfl:bN _ _ _=true),?_⟩
 try simp only [go_sem,simprocAttr,hl,h0,h1',v0,d1,d2,e1,e2,e3,e4,e5,e6,f1,f2,f3,f4,g1]
 refine ay au (by kernel_rfl) ?_
 simp only [go_sem,simprocAttr,hl,h0,h1',v0,d1,d2,e1,e2,e3,e4,e5,e6,f1,f2,f3,f4,g1]
 rw [aP (by kernel_rfl) (show n / 10000 % 100 < 100 by omega)]
 simp only [go_sem,simprocAttr,hl,h0,h1',v0,d1,d2,e1,e2,e3,e4,e5,e6,f1,f2,f3,f4,g1]
 rw [aQ (by kernel_rfl) (show n / 10000 % 100 < 100 by omega)]
 simp only [go_sem,simprocAttr,hl,h0,h1',v0,d1,d2,e1,e2,e3,e4,e5,e6,f1,f2,f3,f4,g1]
 refine ⟨(by kernel_rfl:bN _ _ _=true),?_⟩
 try simp only [go_sem,simprocAttr,hl,h0,h1',v0,d1,d2,e1,e2,e3,e4,e5,e6,f1,f2,f3,f4,g1]
 rw [cp rfl (by simp),dP (by omega)]

theorem SV (n:Nat) (H k) (h1:10000000≤n) (hn:n < 100000000):ag Tryz.prog 122 [.slice H.length 1 8 (.ex 23),.int .u64 (n:Nat)] (H++[.cells [.int .u8 0,.int .u8 0,.int .u8 0,.int .u8 0,.int .u8 0,.int .u8 0,.int .u8 0,.int .u8 0,.int .u8 0,.int .u8 0,.int .u8 0,.int .u8 0,.int .u8 0,.int .u8 0,.int .u8 0,.int .u8 0,.int .u8 0,.int .u8 0,.int .u8 0,.int .u8 0,.int .u8 0,.int .u8 0,.int .u8 0,.int .u8 0] 177 .rw]) k =
  k (.tuple [],H++[.cells (.int .u8 0::.int .u8 (aC ((n % 100000000 / 10000 / 100) / 10)).toNat::.int .u8 (aC ((n % 100000000 / 10000 / 100) % 10)).toNat::.int .u8 (aC ((n % 100000000 / 10000 % 100) / 10)).toNat::.int .u8 (aC ((n % 100000000 / 10000 % 100) % 10)).toNat::.int .u8 (aC ((n % 100000000 % 10000 / 100) / 10)).toNat::.int .u8 (aC ((n % 100000000 % 10000 / 100) % 10)).toNat::.int .u8 (aC ((n % 100000000 % 10000 % 100) / 10)).toNat::.int .u8 (aC ((n % 100000000 % 10000 % 100) % 10)).toNat::[.int .u8 0,.int .u8 0,.int .u8 0,.int .u8 0,.int .u8 0,.int .u8 0,.int .u8 0,.int .u8 0,.int .u8 0,.int .u8 0,.int .u8 0,.int .u8 0,.int .u8 0,.int .u8 0,.int .u8 0]) 177 .rw],⟨none,some H.length⟩):=by
 refine ak ?_ k
 refine aa (n:=167) (rs:=[]) Tryz.func122 rfl rfl rfl ?_
 intro σ hl ha
 have h0:=ha 0 (by simp)
 have h1':=ha 1 (by simp)
 clear ha
 simp only [Option.getD_some,List.getElem?_cons_zero,List.getElem?_cons_succ] at h0 h1'
 have a1:(n:Int).tmod 100000000=((n % 100000000:Nat):Int):=dL (by decide)
 have a2:IntKind.u32.wrap ((n % 100000000:Nat):Int)=((n % 100000000:Nat):Int):=wrap_u32 (by omega)
 have a3:IntKind.u64.wrap ((n:Int).tdiv 100000000)=((n / 100000000:Nat):Int):=FM (by omega) (by decide)
 have a4:IntKind.u32.wrap (((n % 100000000:Nat):Int).tdiv 10000)=((n % 100000000 / 10000:Nat):Int):=ej (by omega) (by decide)
 have a5:((n % 100000000:Nat):Int).tmod 10000=((n % 100000000 % 10000:Nat):Int):=dL (by decide)
 have b1:IntKind.u32.wrap (((n % 100000000 % 10000:Nat):Int).tdiv 100)=((n % 100000000 % 10000 / 100:Nat):Int):=ej (by omega) (by decide)
 have b2:((n % 100000000 % 10000:Nat):Int).tmod 100=((n % 100000000 % 10000 % 100:Nat):Int):=dL (by decide)
 have b3:IntKind.u32.wrap (((n % 100000000 % 10000 / 100:Nat):Int)*2)=((2*(n % 100000000 % 10000 / 100):Nat):Int):=w2x (by omega)
 have b4:IntKind.u32.wrap (((n % 100000000 % 10000 % 100:Nat):Int)*2)=((2*(n % 100000000 % 10000 % 100):Nat):Int):=w2x (by omega)
 have b5:IntKind.u32.wrap (((2*(n % 100000000 % 10000 / 100):Nat):Int)+1)=((2*(n % 100000000 % 10000 / 100)+1:Nat):Int):=w2y (by omega)
 have b6:IntKind.u32.wrap (((2*(n % 100000000 % 10000 % 100):Nat):Int)+1)=((2*(n % 100000000 % 10000 % 100)+1:Nat):Int):=w2y (by omega)
 have c1:IntKind.u32.wrap (((n % 100000000 / 10000:Nat):Int).tdiv 100)=((n % 100000000 / 10000 / 100:Nat):Int):=ej (by omega) (by decide)
 have c2:((n % 100000000 / 10000:Nat):Int).tmod 100=((n % 100000000 / 10000 % 100:Nat):Int):=dL (by decide)
 have c3:IntKind.u32.wrap (((n % 100000000 / 10000 / 100:Nat):Int)*2)=((2*(n % 100000000 / 10000 / 100):Nat):Int):=w2x (by omega)
 have c4:IntKind.u32.wrap (((n % 100000000 / 10000 % 100:Nat):Int)*2)=((2*(n % 100000000 / 10000 % 100):Nat):Int):=w2x (by omega)
 have c5:IntKind.u32.wrap (((2*(n % 100000000 / 10000 / 100):Nat):Int)+1)=((2*(n % 100000000 / 10000 / 100)+1:Nat):Int):=w2y (by omega)
 have c6:IntKind.u32.wrap (((2*(n % 100000000 / 10000 % 100):Nat):Int)+1)=((2*(n % 100000000 / 10000 % 100)+1:Nat):Int):=w2y (by omega)
 have v0:IntKind.u32.wrap ((n / 100000000:Nat):Int)=((n / 100000000:Nat):Int):=wrap_u32 (by omega)
 simp only [go_sem,simprocAttr,hl,h0,h1',a1,a2,a3,a4,a5,b1,b2,b3,b4,b5,b6,c1,c2,c3,c4,c5,c6,v0]
 rw [go_loop]
 simp only [go_sem,simprocAttr,hl,h0,h1',a1,a2,a3,a4,a5,b1,b2,b3,b4,b5,b6,c1,c2,c3,c4,c5,c6,v0]
 refine ay au (by kernel_rfl) ?_
 simp only [go_sem,simprocAttr,hl,h0,h1',a1,a2,a3,a4,a5,b1,b2,b3,b4,b5,b6,c1,c2,c3,c4,c5,c6,v0]
 rw [aP (by kernel_rfl) (show n % 100000000 % 10000 % 100 < 100 by omega)]
 simp only [go_sem,simprocAttr,hl,h0,h1',a1,a2,a3,a4,a5,b1,b2,b3,b4,b5,b6,c1,c2,c3,c4,c5,c6,v0]
 rw [aQ (by kernel_rfl) (show n % 100000000 % 10000 % 100 < 100 by omega)]
 simp only [go_sem,simprocAttr,hl,h0,h1',a1,a2,a3,a4,a5,b1,b2,b3,b4,b5,b6,c1,c2,c3,c4,c5,c6,v0]
 refine ⟨(by kernel_rfl:bN _ _ _=true),?_⟩
 try simp only [go_sem,simprocAttr,hl,h0,h1',a1,a2,a3,a4,a5,b1,b2,b3,b4,b5,b6,c1,c2,c3,c4,c5,c6,v0]
 refine ay au (by kernel_rfl) ?_
 simp only [go_sem,simprocAttr,hl,h0,h1',a1,a2,a3,a4,a5,b1,b2,b3,b4,b5,b6,c1,c2,c3,c4,c5,c6,v0]
 rw [aP (by kernel_rfl) (show n % 100000000 % 10000 / 100 < 100 by omega)]
 simp only [go_sem,simprocAttr,hl,h0,h1',a1,a2,a3,a4,a5,b1,b2,b3,b4,b5,b6,c1,c2,c3,c4,c5,c6,v0]
 rw [aQ (by kernel_rfl) (show n % 100000000 % 10000 / 100 < 100 by omega)]
 simp only [go_sem,simprocAttr,hl,h0,h1',a1,a2,a3,a4,a5,b1,b2,b3,b4,b5,b6,c1,c2,c3,c4,c5,c6,v0]
 refine ⟨(by kernel_rfl:bN _ _ _=true),?_⟩
 try simp only [go_sem,simprocAttr,hl,h0,h1',a1,a2,a3,a4,a5,b1,b2,b3,b4,b5,b6,c1,c2,c3,c4,c5,c6,v0]
 refine ay au (by kernel_rfl) ?_
 simp only [go_sem,simprocAttr,hl,h0,h1',a1,a2,a3,a4,a5,b1,b2,b3,b4,b5,b6,c1,c2,c3,c4,c5,c6,v0]
 rw [aP (by kernel_rfl) (show n % 100000000 / 10000 % 100 < 100 by omega)]
 simp only [go_sem,simprocAttr,hl,h0,h1',a1,a2,a3,a4,a5,b1,b2,b3,b4,b5,b6,c1,c2,c3,c4,c5,c6,v0]
 rw [aQ (by kernel_rfl) (show n % 100000000 / 10000 % 100 < 100 by omega)]
 simp only [go_sem,simprocAttr,hl,h0,h1',a1,a2,a3,a4,a5,b1,b2,b3,b4,b5,b6,c1,c2,c3,c4,c5,c6,v0]
 refine ⟨(by kernel_rfl:bN _ _ _=true),?_⟩
 try simp only [go_sem,simprocAttr,hl,h0,h1',a1,a2,a3,a4,a5,b1,b2,b3,b4,b5,b6,c1,c2,c3,c4,c5,c6,v0]
 refine ay au (by kernel_rfl) ?_
 simp only [go_sem,simprocAttr,hl,h0,h1',a1,a2,a3,a4,a5,b1,b2,b3,b4,b5,b6,c1,c2,c3,c4,c5,c6,v0]
 rw [aP (by kernel_rfl) (show n % 100000000 / 10000 / 100 < 100 by omega)]
 simp only [go_sem,simprocAttr,hl,h0,h1',a1,a2,a3,a4,a5,b1,b2,b3,b4,b5,b6,c1,c2,c3,c4,c5,c6,v0]
 rw [aQ (by kernel_rfl) (show n % 100000000 / 10000 / 100 < 100 by omega)]
 simp only [go_sem,simprocAttr,hl,h0,h1',a1,a2,a3,a4,a5,b1,b2,b3,b4,b5,b6,c1,c2,c3,c4,c5,c6,v0]
 refine ⟨(by kernel_rfl:bN _ _ _=true),?_⟩
 try simp only [go_sem,simprocAttr,hl,h0,h1',a1,a2,a3,a4,a5,b1,b2,b3,b4,b5,b6,c1,c2,c3,c4,c5,c6,v0]
 rw [go_loop]
 try simp only [go_sem,simprocAttr,hl,h0,h1',a1,a2,a3,a4,a5,b1,b2,b3,b4,b5,b6,c1,c2,c3,c4,c5,c6,v0]
 rw [cp rfl (by simp),dP (by omega)]

theorem SU (n:Nat) (H k) (h1:100000000≤n) (hn:n < 1000000000):ag Tryz.prog 122 [.slice H.length 1 9 (.ex 23),.int .u64 (n:Nat)] (H++[.cells [.int .u8 0,.int .u8 0,.int .u8 0,.int .u8 0,.int .u8 0,.int .u8 0,.int .u8 0,.int .u8 0,.int .u8 0,.int .u8 0,.int .u8 0,.int .u8 0,.int .u8 0,.int .u8 0,.int .u8 0,.int .u8 0,.int .u8 0,.int .u8 0,.int .u8 0,.int .u8 0,.int .u8 0,.int .u8 0,.int .u8 0,.int .u8 0] 177 .rw]) k =
  k (.tuple [],H++[.cells (.int .u8 0::.int .u8 (aC (n / 100000000)).toNat::.int .u8 (aC ((n % 100000000 / 10000 / 100) / 10)).toNat::.int .u8 (aC ((n % 100000000 / 10000 / 100) % 10)).toNat::.int .u8 (aC ((n % 100000000 / 10000 % 100) / 10)).toNat::.int .u8 (aC ((n % 100000000 / 10000 % 100) % 10)).toNat::.int .u8 (aC ((n % 100000000 % 10000 / 100) / 10)).toNat::.int .u8 (aC ((n % 100000000 % 10000 / 100) % 10)).toNat::.int .u8 (aC ((n % 100000000 % 10000 % 100) / 10)).toNat::.int .u8 (aC ((n % 100000000 % 10000 % 100) % 10)).toNat::[.int .u8 0,.int .u8 0,.int .u8 0,.int .u8 0,.int .u8 0,.int .u8 0,.int .u8 0,.int .u8 0,.int .u8 0,.int .u8 0,.int .u8 0,.int .u8 0,.int .u8 0,.int .u8 0]) 177 .rw],⟨none,some H.length⟩):=by
 refine ak ?_ k
 refine aa (n:=167) (rs:=[]) Tryz.func122 rfl rfl rfl ?_
 intro σ hl ha
 have h0:=ha 0 (by simp)
 have h1':=ha 1 (by simp)
 clear ha
 simp only [Option.getD_some,List.getElem?_cons_zero,List.getElem?_cons_succ] at h0 h1'
 have a1:(n:Int).tmod 100000000=((n % 100000000:Nat):Int):=dL (by decide)
 have a2:IntKind.u32.wrap ((n % 100000000:Nat):Int)=((n % 100000000:Nat):Int):=wrap_u32 (by omega)
 have a3:IntKind.u64.wrap ((n:Int).tdiv 100000000)=((n / 100000000:Nat):Int):=FM (by omega) (by decide)
 have a4:IntKind.u32.wrap (((n % 100000000:Nat):Int).tdiv 10000)=((n % 100000000 / 10000:Nat):Int):=ej (by omega) (by decide)
 have a5:((n % 100000000:Nat):Int).tmod 10000=((n % 100000000 % 10000:Nat):Int):=dL (by decide)
 have b1:IntKind.u32.wrap (((n % 100000000 % 10000:Nat):Int).tdiv 100)=((n % 100000000 % 10000 / 100:Nat):Int):=ej (by omega) (by decide)
 have b2:((n % 100000000 % 10000:Nat):Int).tmod 100=((n % 100000000 % 10000 % 100:Nat):Int):=dL (by decide)
 have b3:IntKind.u32.wrap (((n % 100000000 % 10000 / 100:Nat):Int)*2)=((2*(n % 100000000 % 10000 / 100):Nat):Int):=w2x (by omega)
 have b4:IntKind.u32.wrap (((n % 100000000 % 10000 % 100:Nat):Int)*2)=((2*(n % 100000000 % 10000 % 100):Nat):Int):=w2x (by omega)
 have b5:IntKind.u32.wrap (((2*(n % 100000000 % 10000 / 100):Nat):Int)+1)=((2*(n % 100000000 % 10000 / 100)+1:Nat):Int):=w2y (by omega)
 have b6:IntKind.u32.wrap (((2*(n % 100000000 % 10000 % 100):Nat):Int)+1)=((2*(n % 100000000 % 10000 % 100)+1:Nat):Int):=w2y (by omega)
 have c1:IntKind.u32.wrap (((n % 100000000 / 10000:Nat):Int).tdiv 100)=((n % 100000000 / 10000 / 100:Nat):Int):=ej (by omega) (by decide)
 have c2:((n % 100000000 / 10000:Nat):Int).tmod 100=((n % 100000000 / 10000 % 100:Nat):Int):=dL (by decide)
 have c3:IntKind.u32.wrap (((n % 100000000 / 10000 / 100:Nat):Int)*2)=((2*(n % 100000000 / 10000 / 100):Nat):Int):=w2x (by omega)
 have c4:IntKind.u32.wrap (((n % 100000000 / 10000 % 100:Nat):Int)*2)=((2*(n % 100000000 / 10000 % 100):Nat):Int):=w2x (by omega)
 have c5:IntKind.u32.wrap (((2*(n % 100000000 / 10000 / 100):Nat):Int)+1)=((2*(n % 100000000 / 10000 / 100)+1:Nat):Int):=w2y (by omega)
 have c6:IntKind.u32.wrap (((2*(n % 100000000 / 10000 % 100):Nat):Int)+1)=((2*(n % 100000000 / 10000 % 100)+1:Nat):Int):=w2y (by omega)
 have v0:IntKind.u32.wrap ((n / 100000000:Nat):Int)=((n / 100000000:Nat):Int):=wrap_u32 (by omega)
 have g1:IntKind.u8.wrap (IntKind.u32.wrap (48+((n / 100000000:Nat):Int)))=((aC (n / 100000000)).toNat:Int):=lM (by omega)
 simp only [go_sem,simprocAttr,hl,h0,h1',a1,a2,a3,a4,a5,b1,b2,b3,b4,b5,b6,c1,c2,c3,c4,c5,c6,v0,g1]
 rw [go_loop]
 simp only [go_sem,simprocAttr,hl,h0,h1',a1,a2,a3,a4,a5,b1,b2,b3,b4,b5,b6,c1,c2,c3,c4,c5,c6,v0,g1]
 refine ay au (by kernel_rfl) ?_
 simp only [go_sem,simprocAttr,hl,h0,h1',a1,a2,a3,a4,a5,b1,b2,b3,b4,b5,b6,c1,c2,c3,c4,c5,c6,v0,g1]
 rw [aP (by kernel_rfl) (show n % 100000000 % 10000 % 100 < 100 by omega)]
 simp only [go_sem,simprocAttr,hl,h0,h1',a1,a2,a3,a4,a5,b1,b2,b3,b4,b5,b6,c1,c2,c3,c4,c5,c6,v0,g1]
 rw [aQ (by kernel_rfl) (show n % 100000000 % 10000 % 100 < 100 by omega)]
 simp only [go_sem,simprocAttr,hl,h0,h1',a1,a2,a3,a4,a5,b1,b2,b3,b4,b5,b6,c1,c2,c3,c4,c5,c6,v0,g1]
 refine ⟨(by kernel_rfl:bN _ _ _=true),?_⟩
 try simp only [go_sem,simprocAttr,hl,h0,h1',a1,a2,a3,a4,a5,b1,b2,b3,b4,b5,b6,c1,c2,c3,c4,c5,c6,v0,g1]
 refine ay au (by kernel_rfl) ?_
 simp only [go_sem,simprocAttr,hl,h0,h1',a1,a2,a3,a4,a5,b1,b2,b3,b4,b5,b6,c1,c2,c3,c4,c5,c6,v0,g1]
 rw [aP (by kernel_rfl) (show n % 100000000 % 10000 / 100 < 100 by omega)]
 simp only [go_sem,simprocAttr,hl,h0,h1',a1,a2,a3,a4,a5,b1,b2,b3,b4,b5,b6,c1,c2,c3,c4,c5,c6,v0,g1]
 rw [aQ (by kernel_rfl) (show n % 100000000 % 10000 / 100 < 100 by omega)]
 simp only [go_sem,simprocAttr,hl,h0,h1',a1,a2,a3,a4,a5,b1,b2,b3,b4,b5,b6,c1,c2,c3,c4,c5,c6,v0,g1]
 refine ⟨(by kernel_rfl:bN _ _ _=true),?_⟩
 try simp only [go_sem,simprocAttr,hl,h0,h1',a1,a2,a3,a4,a5,b1,b2,b3,b4,b5,b6,c1,c2,c3,c4,c5,c6,v0,g1]
 refine ay au (by kernel_rfl) ?_
 simp only [go_sem,simprocAttr,hl,h0,h1',a1,a2,a3,a4,a5,b1,b2,b3,b4,b5,b6,c1,c2,c3,c4,c5,c6,v0,g1]
 rw [aP (by kernel_rfl) (show n % 100000000 / 10000 % 100 < 100 by omega)]
 simp only [go_sem,simprocAttr,hl,h0,h1',a1,a2,a3,a4,a5,b1,b2,b3,b4,b5,b6,c1,c2,c3,c4,c5,c6,v0,g1]
 rw [aQ (by kernel_rfl) (show n % 100000000 / 10000 % 100 < 100 by omega)]
 simp only [go_sem,simprocAttr,hl,h0,h1',a1,a2,a3,a4,a5,b1,b2,b3,b4,b5,b6,c1,c2,c3,c4,c5,c6,v0,g1]
 refine ⟨(by kernel_rfl:bN _ _ _=true),?_⟩
 try simp only [go_sem,simprocAttr,hl,h0,h1',a1,a2,a3,a4,a5,b1,b2,b3,b4,b5,b6,c1,c2,c3,c4,c5,c6,v0,g1]
 refine ay au (by kernel_rfl) ?_
 simp only [go_sem,simprocAttr,hl,h0,h1',a1,a2,a3,a4,a5,b1,b2,b3,b4,b5,b6,c1,c2,c3,c4,c5,c6,v0,g1]
 rw [aP (by kernel_rfl) (show n % 100000000 / 10000 / 100 < 100 by omega)]
 simp only [go_sem,simprocAttr,hl,h0,h1',a1,a2,a3,a4,a5,b1,b2,b3,b4,b5,b6,c1,c2,c3,c4,c5,c6,v0,g1]
 rw [aQ (by kernel_rfl) (show n % 100000000 / 10000 / 100 < 100 by omega)]
 simp only [go_sem,simprocAttr,hl,h0,h1',a1,a2,a3,a4,a5,b1,b2,b3,b4,b5,b6,c1,c2,c3,c4,c5,c6,v0,g1]
 refine ⟨(by kernel_rfl:bN _ _ _=true),?_⟩
 try simp only [go_sem,simprocAttr,hl,h0,h1',a1,a2,a3,a4,a5,b1,b2,b3,b4,b5,b6,c1,c2,c3,c4,c5,c6,v0,g1]
 rw [go_loop]
 try simp only [go_sem,simprocAttr,hl,h0,h1',a1,a2,a3,a4,a5,b1,b2,b3,b4,b5,b6,c1,c2,c3,c4,c5,c6,v0,g1]
 rw [cp rfl (by simp),dP (by omega)]

theorem Qq (n:Nat) (H k) (h1:1000000000≤n) (hn:n < 4294967296):ag Tryz.prog 122 [.slice H.length 1 10 (.ex 23),.int .u64 (n:Nat)] (H++[.cells [.int .u8 0,.int .u8 0,.int .u8 0,.int .u8 0,.int .u8 0,.int .u8 0,.int .u8 0,.int .u8 0,.int .u8 0,.int .u8 0,.int .u8 0,.int .u8 0,.int .u8 0,.int .u8 0,.int .u8 0,.int .u8 0,.int .u8 0,.int .u8 0,.int .u8 0,.int .u8 0,.int .u8 0,.int .u8 0,.int .u8 0,.int .u8 0] 177 .rw]) k =
  k (.tuple [],H++[.cells (.int .u8 0::.int .u8 (aC ((n / 100000000 % 100) / 10)).toNat::.int .u8 (aC ((n / 100000000 % 100) % 10)).toNat::.int .u8 (aC ((n % 100000000 / 10000 / 100) / 10)).toNat::.int .u8 (aC ((n % 100000000 / 10000 / 100) % 10)).toNat::.int .u8 (aC ((n % 100000000 / 10000 % 100) / 10)).toNat::.int .u8 (aC ((n % 100000000 / 10000 % 100) % 10)).toNat::.int .u8 (aC ((n % 100000000 % 10000 / 100) / 10)).toNat::.int .u8 (aC ((n % 100000000 % 10000 / 100) % 10)).toNat::.int .u8 (aC ((n % 100000000 % 10000 % 100) / 10)).toNat::.int .u8 (aC ((n % 100000000 % 10000 % 100) % 10)).toNat::[.int .u8 0,.int .u8 0,.int .u8 0,.int .u8 0,.int .u8 0,.int .u8 0,.int .u8 0,.int .u8 0,.int .u8 0,.int .u8 0,.int .u8 0,.int .u8 0,.int .u8 0]) 177 .rw],⟨none,some H.length⟩):=by
 refine ak ?_ k
 refine aa (n:=167) (rs:=[]) Tryz.func122 rfl rfl rfl ?_
 intro σ hl ha
 have h0:=ha 0 (by simp)
 have h1':=ha 1 (by simp)
 clear ha
 simp only [Option.getD_some,List.getElem?_cons_zero,List.getElem?_cons_succ] at h0 h1'
 have a1:(n:Int).tmod 100000000=((n % 100000000:Nat):Int):=dL (by decide)
 have a2:IntKind.u32.wrap ((n % 100000000:Nat):Int)=((n % 100000000:Nat):Int):=wrap_u32 (by omega)
 have a3:IntKind.u64.wrap ((n:Int).tdiv 100000000)=((n / 100000000:Nat):Int):=FM (by omega) (by decide)
 have a4:IntKind.u32.wrap (((n % 100000000:Nat):Int).tdiv 10000)=((n % 100000000 / 10000:Nat):Int):=ej (by omega) (by decide)
 have a5:((n % 100000000:Nat):Int).tmod 10000=((n % 100000000 % 10000:Nat):Int):=dL (by decide)
 have b1:IntKind.u32.wrap (((n % 100000000 % 10000:Nat):Int).tdiv 100)=((n % 100000000 % 10000 / 100:Nat):Int):=ej (by omega) (by decide)
 have b2:((n % 100000000 % 10000:Nat):Int).tmod 100=((n % 100000000 % 10000 % 100:Nat):Int):=dL (by decide)
 have b3:IntKind.u32.wrap (((n % 100000000 % 10000 / 100:Nat):Int)*2)=((2*(n % 100000000 % 10000 / 100):Nat):Int):=w2x (by omega)
 have b4:IntKind.u32.wrap (((n % 100000000 % 10000 % 100:Nat):Int)*2)=((2*(n % 100000000 % 10000 % 100):Nat):Int):=w2x (by omega)
 have b5:IntKind.u32.wrap (((2*(n % 100000000 % 10000 / 100):Nat):Int)+1)=((2*(n % 100000000 % 10000 / 100)+1:Nat):Int):=w2y (by omega)
 have b6:IntKind.u32.wrap (((2*(n % 100000000 % 10000 % 100):Nat):Int)+1)=((2*(n % 100000000 % 10000 % 100)+1:Nat):Int):=w2y (by omega)
 have c1:IntKind.u32.wrap (((n % 100000000 / 10000:Nat):Int).tdiv 100)=((n % 100000000 / 10000 / 100:Nat):Int):=ej (by omega) (by decide)
 have c2:((n % 100000000 / 10000:Nat):Int).tmod 100=((n % 100000000 / 10000 % 100:Nat):Int):=dL (by decide)
 have c3:IntKind.u32.wrap (((n % 100000000 / 10000 / 100:Nat):Int)*2)=((2*(n % 100000000 / 10000 / 100):Nat):Int):=w2x (by omega)
 have c4:IntKind.u32.wrap (((n % 100000000 / 10000 % 100:Nat):Int)*2)=((2*(n % 100000000 / 10000 % 100):Nat):Int):=w2x (by omega)
 have c5:IntKind.u32.wrap (((2*(n % 100000000 / 10000 / 100):Nat):Int)+1)=((2*(n % 100000000 / 10000 / 100)+1:Nat):Int):=w2y (by omega)
 have c6:IntKind.u32.wrap (((2*(n % 100000000 / 10000 % 100):Nat):Int)+1)=((2*(n % 100000000 / 10000 % 100)+1:Nat):Int):=w2y (by omega)
 have v0:IntKind.u32.wrap ((n / 100000000:Nat):Int)=((n / 100000000:Nat):Int):=wrap_u32 (by omega)
 have f1:((n / 100000000:Nat):Int).tmod 100=((n / 100000000 % 100:Nat):Int):=dL (by decide)
 have f2:IntKind.u32.wrap (((n / 100000000:Nat):Int).tdiv 100)=((n / 100000000 / 100:Nat):Int):=ej (by omega) (by decide)
 have f3:IntKind.u32.wrap (((n / 100000000 % 100:Nat):Int)*2)=((2*(n / 100000000 % 100):Nat):Int):=w2x (by omega)
 have f4:IntKind.u32.wrap (((2*(n / 100000000 % 100):Nat):Int)+1)=((2*(n / 100000000 % 100)+1:Nat):Int):=w2y (by omega)
 simp only [go_sem,simprocAttr,hl,h0,h1',a1,a2,a3,a4,a5,b1,b2,b3,b4,b5,b6,c1,c2,c3,c4,c5,c6,v0,f1,f2,f3,f4]
 rw [go_loop]
 simp only [go_sem,simprocAttr,hl,h0,h1',a1,a2,a3,a4,a5,b1,b2,b3,b4,b5,b6,c1,c2,c3,c4,c5,c6,v0,f1,f2,f3,f4]
 refine ay au (by kernel_rfl) ?_
 simp only [go_sem,simprocAttr,hl,h0,h1',a1,a2,a3,a4,a5,b1,b2,b3,b4,b5,b6,c1,c2,c3,c4,c5,c6,v0,f1,f2,f3,f4]
 rw [aP (by kernel_rfl) (show n % 100000000 % 10000 % 100 < 100 by omega)]
 simp only [go_sem,simprocAttr,hl,h0,h1',a1,a2,a3,a4,a5,b1,b2,b3,b4,b5,b6,c1,c2,c3,c4,c5,c6,v0,f1,f2,f3,f4]
 rw [aQ (by kernel_rfl) (show n % 100000000 % 10000 % 100 < 100 by omega)]
 simp only [go_sem,simprocAttr,hl,h0,h1',a1,a2,a3,a4,a5,b1,b2,b3,b4,b5,b6,c1,c2,c3,c4,c5,c6,v0,f1,f2,f3,f4]
 refine ⟨(by kernel_rfl:bN _ _ _=true),?_⟩
 try simp only [go_sem,simprocAttr,hl,h0,h1',a1,a2,a3,a4,a5,b1,b2,b3,b4,b5,b6,c1,c2,c3,c4,c5,c6,v0,f1,f2,f3,f4]
 refine ay au (by kernel_rfl) ?_
 simp only [go_sem,simprocAttr,hl,h0,h1',a1,a2,a3,a4,a5,b1,b2,b3,b4,b5,b6,c1,c2,c3,c4,c5,c6,v0,f1,f2,f3,f4]
 rw [aP (by kernel_rfl) (show n % 100000000 % 10000 / 100 < 100 by omega)]
 simp only [go_sem,simprocAttr,hl,h0,h1',a1,a2,a3,a4,a5,b1,b2,b3,b4,b5,b6,c1,c2,c3,c4,c5,c6,v0,f1,f2,f3,f4]
 rw [aQ (by kernel_rfl) (show n % 100000000 % 10000 / 100 < 100 by omega)]
 simp only [go_sem,simprocAttr,hl,h0,h1',a1,a2,a3,a4,a5,b1,b2,b3,b4,b5,b6,c1,c2,c3,c4,c5,c6,v0,f1,f2,f3,f4]
 refine ⟨(by kernel_rfl:bN _ _ _=true),?_⟩
 try simp only [go_sem,simprocAttr,hl,h0,h1',a1,a2,a3,a4,a5,b1,b2,b3,b4,b5,b6,c1,c2,c3,c4,c5,c6,v0,f1,f2,f3,f4]
 refine ay au (by kernel_rfl) ?_
 simp only [go_sem,simprocAttr,hl,h0,h1',a1,a2,a3,a4,a5,b1,b2,b3,b4,b5,b6,c1,c2,c3,c4,c5,c6,v0,f1,f2,f3,f4]
 rw [aP (by kernel_rfl) (show n % 100000000 / 10000 % 100 < 100 by omega)]
 simp only [go_sem,simprocAttr,hl,h0,h1',a1,a2,a3,a4,a5,b1,b2,b3,b4,b5,b6,c1,c2,c3,c4,c5,c6,v0,f1,f2,f3,f4]
 rw [aQ (by kernel_rfl) (show n % 100000000 / 10000 % 100 < 100 by omega)]
 simp only [go_sem,simprocAttr,hl,h0,h1',a1,a2,a3,a4,a5,b1,b2,b3,b4,b5,b6,c1,c2,c3,c4,c5,c6,v0,f1,f2,f3,f4]
 refine ⟨(by kernel_rfl:bN _ _ _=true),?_⟩
 try simp only [go_sem,simprocAttr,hl,h0,h1',a1,a2,a3,a4,a5,b1,b2,b3,b4,b5,b6,c1,c2,c3,c4,c5,c6,v0,f1,f2,f3,f4]
 refine ay au (by kernel_rfl) ?_
 simp only [go_sem,simprocAttr,hl,h0,h1',a1,a2,a3,a4,a5,b1,b2,b3,b4,b5,b6,c1,c2,c3,c4,c5,c6,v0,f1,f2,f3,f4]
 rw [aP (by kernel_rfl) (show n % 100000000 / 10000 / 100 < 100 by omega)]
 simp only [go_sem,simprocAttr,hl,h0,h1',a1,a2,a3,a4,a5,b1,b2,b3,b4,b5,b6,c1,c2,c3,c4,c5,c6,v0,f1,f2,f3,f4]
 rw [aQ (by kernel_rfl) (show n % 100000000 / 10000 / 100 < 100 by omega)]
 simp only [go_sem,simprocAttr,hl,h0,h1',a1,a2,a3,a4,a5,b1,b2,b3,b4,b5,b6,c1,c2,c3,c4,c5,c6,v0,f1,f2,f3,f4]
 refine ⟨(by kernel_rfl:bN _ _ _=true),?_⟩
 try simp only [go_sem,simprocAttr,hl,h0,h1',a1,a2,a3,a4,a5,b1,b2,b3,b4,b5,b6,c1,c2,c3,c4,c5,c6,v0,f1,f2,f3,f4]
 rw [go_loop]
 try simp only [go_sem,simprocAttr,hl,h0,h1',a1,a2,a3,a4,a5,b1,b2,b3,b4,b5,b6,c1,c2,c3,c4,c5,c6,v0,f1,f2,f3,f4]
 refine ay au (by kernel_rfl) ?_
 simp only [go_sem,simprocAttr,hl,h0,h1',a1,a2,a3,a4,a5,b1,b2,b3,b4,b5,b6,c1,c2,c3,c4,c5,c6,v0,f1,f2,f3,f4]
 rw [aP (by kernel_rfl) (show n / 100000000 % 100 < 100 by omega)]
 simp only [go_sem,simprocAttr,hl,h0,h1',a1,a2,a3,a4,a5,b1,b2,b3,b4,b5,b6,c1,c2,c3,c4,c5,c6,v0,f1,f2,f3,f4]
 rw [aQ (by kernel_rfl) (show n / 100000000 % 100 < 100 by omega)]
 simp only [go_sem,simprocAttr,hl,h0,h1',a1,a2,a3,a4,a5,b1,b2,b3,b4,b5,b6,c1,c2,c3,c4,c5,c6,v0,f1,f2,f3,f4]
 refine ⟨(by kernel_rfl:bN _ _ _=true),?_⟩
 try simp only [go_sem,simprocAttr,hl,h0,h1',a1,a2,a3,a4,a5,b1,b2,b3,b4,b5,b6,c1,c2,c3,c4,c5,c6,v0,f1,f2,f3,f4]
 rw [cp rfl (by simp),dP (by omega)]

theorem Kg (n:Nat) (H k) (ht:Tb H) (hn:n < 4294967296):ag Tryz.prog 93 [.int .i64 (n:Nat),.int .i64 10] H k=k (.str (bF n),H,z0):=by
 refine ak (r:=(.str (bF n),H,z0)) ?_ k
 refine aa (n:=54) (rs:=[.tmp 4]) Tryz.func93 rfl rfl rfl ?_
 intro σ hl ha
 have h0:=ha 0 (by simp)
 have h1:=ha 1 (by simp)
 clear ha
 simp only [Option.getD_some,List.getElem?_cons_zero,List.getElem?_cons_succ] at h0 h1
 have g0:decide ((0:Int)≤(n:Int))=true:=by simp
 have w1:IntKind.u64.wrap (n:Int)=(n:Int):=wrap_u64 (by omega)
 by_cases h100:n < 100
 ·have g1:decide ((n:Int) < 100)=true:=by simp; omega
  have hs:=fun H k=>pJ n H k h100
  simp only [go_sem,simprocAttr,hl,h0,h1,g0,g1,hs]
 ·have g1:decide ((n:Int) < 100)=false:=by simp; omega
  have g2:decide ((n:Int) < 0)=false:=by simp
  have hnum:=fun L k h1 h2 h3=>ny n L (H++[.cells [.int .u8 0,.int .u8 0,.int .u8 0,.int .u8 0,.int .u8 0,.int .u8 0,.int .u8 0,.int .u8 0,.int .u8 0,.int .u8 0,.int .u8 0,.int .u8 0,.int .u8 0,.int .u8 0,.int .u8 0,.int .u8 0,.int .u8 0,.int .u8 0,.int .u8 0,.int .u8 0,.int .u8 0,.int .u8 0,.int .u8 0,.int .u8 0] 177 .rw]) k (ht.old _) h1 h2 h3 (by omega)
  have hc:(n < 1000)∨(1000≤n∧n < 10000)∨(10000≤n∧n < 100000)∨(100000≤n∧n < 1000000)∨(1000000≤n∧n < 10000000)∨(10000000≤n∧n < 100000000)∨(100000000≤n∧n < 1000000000)∨(1000000000≤n):=by omega
  rcases hc with h | ⟨h,h'⟩ | ⟨h,h'⟩ | ⟨h,h'⟩ | ⟨h,h'⟩ | ⟨h,h'⟩ | ⟨h,h'⟩ | h
  ·have hd:=fun k=>hnum 3 k (by decide) (by omega) (by omega)
   have hf:=fun k=>O1 n H k (by omega) (by omega)
   simp only [go_sem,simprocAttr,hl,h0,h1,g0,g1,g2,w1,hd,hf,Int.cast_ofNat_Int]
   rw [QY (n:=n) (by omega) (by omega)]
  ·have hd:=fun k=>hnum 4 k (by decide) (by omega) (by omega)
   have hf:=fun k=>O0 n H k (by omega) (by omega)
   simp only [go_sem,simprocAttr,hl,h0,h1,g0,g1,g2,w1,hd,hf,Int.cast_ofNat_Int]
   rw [QX (n:=n) (by omega) (by omega)]
  ·have hd:=fun k=>hnum 5 k (by decide) (by omega) (by omega)
   have hf:=fun k=>OZ n H k (by omega) (by omega)
   simp only [go_sem,simprocAttr,hl,h0,h1,g0,g1,g2,w1,hd,hf,Int.cast_ofNat_Int]
   rw [QW (n:=n) (by omega) (by omega)]
  ·have hd:=fun k=>hnum 6 k (by decide) (by omega) (by omega)
   have hf:=fun k=>SX n H k (by omega) (by omega)
   simp only [go_sem,simprocAttr,hl,h0,h1,g0,g1,g2,w1,hd,hf,Int.cast_ofNat_Int]
   rw [Tl (n:=n) (by omega) (by omega)]
  ·have hd:=fun k=>hnum 7 k (by decide) (by omega) (by omega)
   have hf:=fun k=>SW n H k (by omega) (by omega)
   simp only [go_sem,simprocAttr,hl,h0,h1,g0,g1,g2,w1,hd,hf,Int.cast_ofNat_Int]
   rw [Tj (n:=n) (by omega) (by omega)]
  ·have hd:=fun k=>hnum 8 k (by decide) (by omega) (by omega)
   have hf:=fun k=>SV n H k (by omega) (by omega)
   simp only [go_sem,simprocAttr,hl,h0,h1,g0,g1,g2,w1,hd,hf,Int.cast_ofNat_Int]
   rw [Ti (n:=n) (by omega) (by omega)]
  ·have hd:=fun k=>hnum 9 k (by decide) (by omega) (by omega)
   have hf:=fun k=>SU n H k (by omega) (by omega)
   simp only [go_sem,simprocAttr,hl,h0,h1,g0,g1,g2,w1,hd,hf,Int.cast_ofNat_Int]
   rw [Th (n:=n) (by omega) (by omega)]
  ·have hd:=fun k=>hnum 10 k (by decide) (by omega) (by omega)
   have hf:=fun k=>Qq n H k (by omega) (by omega)
   simp only [go_sem,simprocAttr,hl,h0,h1,g0,g1,g2,w1,hd,hf,Int.cast_ofNat_Int]
   rw [O4 (n:=n) (by omega) (by omega)]
theorem Nw (n:Nat) (H k) (ht:Tb H) (hn:n < 4294967296):ag Tryz.prog 59 [.int .i64 (n:Nat)] H k=k (.str (bF n),H,z0):=by
 refine ak (r:=(.str (bF n),H,z0)) ?_ k
 refine aa (n:=5) (rs:=[.tmp 2]) Tryz.func59 rfl rfl rfl ?_
 intro σ hl ha
 have h0:=ha 0 (by simp)
 clear ha
 simp only [Option.getD_some,List.getElem?_cons_zero,List.getElem?_cons_succ] at h0
 have hf:=fun k=>Kg n H k ht hn
 simp only [go_sem,simprocAttr,hl,h0,hf]
theorem Sw (n:Nat) (H k) (ht:Tb H) (hn:n < 4294967296):ag Tryz.prog 30 [.int .i64 (n:Nat)] H k=k (.str (bF n),H,z0):=by
 refine ak (r:=(.str (bF n),H,z0)) ?_ k
 refine aa (n:=5) (rs:=[.tmp 2]) Tryz.func30 rfl rfl rfl ?_
 intro σ hl ha
 have h0:=ha 0 (by simp)
 clear ha
 simp only [Option.getD_some,List.getElem?_cons_zero,List.getElem?_cons_succ] at h0
 have hf:=fun k=>Nw n H k ht hn
 simp only [go_sem,simprocAttr,hl,h0,hf]
theorem Dt.l3 (d:Dt) (e:TypeId) (k:Kd):ldC 3 1 false (.cells d.cells e k)=some (.int .u32 d.n0):=rfl
theorem Dt.l4 (d:Dt) (e:TypeId) (k:Kd):ldC 4 1 false (.cells d.cells e k)=some (.int .u32 d.n1):=rfl
theorem Dt.l5 (d:Dt) (e:TypeId) (k:Kd):ldC 5 1 false (.cells d.cells e k)=some (.int .u32 d.n2):=rfl
theorem Dt.l6 (d:Dt) (e:TypeId) (k:Kd):ldC 6 1 false (.cells d.cells e k)=some (.int .u32 d.n3):=rfl
theorem Dt.l7 (d:Dt) (e:TypeId) (k:Kd):ldC 7 1 false (.cells d.cells e k)=some (.int .u32 d.n4):=rfl
theorem oB {n:Int} (h:iB n):∃ m:Nat,n=(m:Int)∧m < 4294967296:=⟨n.toNat,by have:=h.1; omega,by have:=h.2; have:=h.1; omega⟩


set_option maxHeartbeats 1000000 in
theorem F6 (d:Dt) (H) (hd:d.wf) (hg:er 2 d=true):ag Tryz.prog 62 [.int .u16 2,.agg d.cells] H (fun q=>q=(.tuple [.str (dm 2 d),.int .i64 0],H,z0)):=by
 refine aa (n:=173) (rs:=[.tmp 4,.tmp 5]) Tryz.func62 rfl rfl rfl ?_
 intro σ hl ha
 have h0:=ha 0 (by simp)
 have h1:=ha 1 (by simp)
 clear ha
 simp only [Option.getD_some,List.getElem?_cons_zero,List.getElem?_cons_succ] at h0 h1
 have hck:=fun H k=>ep 2 d H k hd
 have hc0:chk 2 d=0:=if_pos hg
 rw [hc0] at hck
 obtain ⟨gh,gm,ga,gq,gx,graw⟩:=fH hg
 have gh1:=gh 104 (by decide) (by decide)
 obtain ⟨Lh,hLh⟩:=Option.isSome_iff_exists.1 gh1
 have hth:=fun H k=>gy d.host H k Lh hLh (by have:=hd.host; show _≤9223372036854775807; omega)
 have hhl:=dO d.host
 have hnm:=fun H k=>dM 2 H k
 have hnu:=fun H k=>dr 2 H k
 rw [show cG 2=true from rfl,show cZ 2=false from rfl] at hnm
 rw [show iA 2=0 from rfl,show iy 2=0 from rfl] at hnu
 simp only [go_sem,simprocAttr,hl,h0,h1,Dt.l8,Dt.vc,Dt.len,Dt.l0,Dt.l1,Dt.l2,Dt.l3,Dt.l4,Dt.l5,Dt.l6,Dt.l7,hth,hck,hnm,hnu]
 rw [go_loop]
 simp only [go_sem,simprocAttr,hl,h0,h1,Dt.l8,Dt.vc,Dt.len,Dt.l0,Dt.l1,Dt.l2,Dt.l3,Dt.l4,Dt.l5,Dt.l6,Dt.l7,hth,hck,hnm,hnu]
 try (repeat (refine ⟨by (unfold cg; omega),?_⟩))
 have hsw:dm 2 d=eo d.host:=by simp [dm,aU,cF,cL,isN,dQ,Dt.n]
 refine ⟨by omega,?_⟩
 rw [List.take_of_length_le (by first | omega | (simp only [List.length_append,List.length_cons]; omega)),hsw]

set_option maxHeartbeats 1000000 in
theorem F5 (d:Dt) (H) (hd:d.wf) (hg:er 5 d=true):ag Tryz.prog 62 [.int .u16 5,.agg d.cells] H (fun q=>q=(.tuple [.str (dm 5 d),.int .i64 0],H,z0)):=by
 refine aa (n:=173) (rs:=[.tmp 4,.tmp 5]) Tryz.func62 rfl rfl rfl ?_
 intro σ hl ha
 have h0:=ha 0 (by simp)
 have h1:=ha 1 (by simp)
 clear ha
 simp only [Option.getD_some,List.getElem?_cons_zero,List.getElem?_cons_succ] at h0 h1
 have hck:=fun H k=>ep 5 d H k hd
 have hc0:chk 5 d=0:=if_pos hg
 rw [hc0] at hck
 obtain ⟨gh,gm,ga,gq,gx,graw⟩:=fH hg
 have gh1:=gh 104 (by decide) (by decide)
 obtain ⟨Lh,hLh⟩:=Option.isSome_iff_exists.1 gh1
 have hth:=fun H k=>gy d.host H k Lh hLh (by have:=hd.host; show _≤9223372036854775807; omega)
 have hhl:=dO d.host
 have hnm:=fun H k=>dM 5 H k
 have hnu:=fun H k=>dr 5 H k
 rw [show cG 5=true from rfl,show cZ 5=false from rfl] at hnm
 rw [show iA 5=0 from rfl,show iy 5=0 from rfl] at hnu
 simp only [go_sem,simprocAttr,hl,h0,h1,Dt.l8,Dt.vc,Dt.len,Dt.l0,Dt.l1,Dt.l2,Dt.l3,Dt.l4,Dt.l5,Dt.l6,Dt.l7,hth,hck,hnm,hnu]
 rw [go_loop]
 simp only [go_sem,simprocAttr,hl,h0,h1,Dt.l8,Dt.vc,Dt.len,Dt.l0,Dt.l1,Dt.l2,Dt.l3,Dt.l4,Dt.l5,Dt.l6,Dt.l7,hth,hck,hnm,hnu]
 try (repeat (refine ⟨by (unfold cg; omega),?_⟩))
 have hsw:dm 5 d=eo d.host:=by simp [dm,aU,cF,cL,isN,dQ,Dt.n]
 refine ⟨by omega,?_⟩
 rw [List.take_of_length_le (by first | omega | (simp only [List.length_append,List.length_cons]; omega)),hsw]

set_option maxHeartbeats 1000000 in
theorem BH (d:Dt) (H) (hd:d.wf) (hg:er 12 d=true):ag Tryz.prog 62 [.int .u16 12,.agg d.cells] H (fun q=>q=(.tuple [.str (dm 12 d),.int .i64 0],H,z0)):=by
 refine aa (n:=173) (rs:=[.tmp 4,.tmp 5]) Tryz.func62 rfl rfl rfl ?_
 intro σ hl ha
 have h0:=ha 0 (by simp)
 have h1:=ha 1 (by simp)
 clear ha
 simp only [Option.getD_some,List.getElem?_cons_zero,List.getElem?_cons_succ] at h0 h1
 have hck:=fun H k=>ep 12 d H k hd
 have hc0:chk 12 d=0:=if_pos hg
 rw [hc0] at hck
 obtain ⟨gh,gm,ga,gq,gx,graw⟩:=fH hg
 have gh1:=gh 104 (by decide) (by decide)
 obtain ⟨Lh,hLh⟩:=Option.isSome_iff_exists.1 gh1
 have hth:=fun H k=>gy d.host H k Lh hLh (by have:=hd.host; show _≤9223372036854775807; omega)
 have hhl:=dO d.host
 have hnm:=fun H k=>dM 12 H k
 have hnu:=fun H k=>dr 12 H k
 rw [show cG 12=true from rfl,show cZ 12=false from rfl] at hnm
 rw [show iA 12=0 from rfl,show iy 12=0 from rfl] at hnu
 simp only [go_sem,simprocAttr,hl,h0,h1,Dt.l8,Dt.vc,Dt.len,Dt.l0,Dt.l1,Dt.l2,Dt.l3,Dt.l4,Dt.l5,Dt.l6,Dt.l7,hth,hck,hnm,hnu]
 rw [go_loop]
 simp only [go_sem,simprocAttr,hl,h0,h1,Dt.l8,Dt.vc,Dt.len,Dt.l0,Dt.l1,Dt.l2,Dt.l3,Dt.l4,Dt.l5,Dt.l6,Dt.l7,hth,hck,hnm,hnu]
 try (repeat (refine ⟨by (unfold cg; omega),?_⟩))
 have hsw:dm 12 d=eo d.host:=by simp [dm,aU,cF,cL,isN,dQ,Dt.n]
 refine ⟨by omega,?_⟩
 rw [List.take_of_length_le (by first | omega | (simp only [List.length_append,List.length_cons]; omega)),hsw]

set_option maxHeartbeats 1000000 in
theorem F4 (d:Dt) (H) (hd:d.wf) (hg:er 6 d=true):ag Tryz.prog 62 [.int .u16 6,.agg d.cells] H (fun q=>q=(.tuple [.str (dm 6 d),.int .i64 0],H,z0)):=by
 refine aa (n:=173) (rs:=[.tmp 4,.tmp 5]) Tryz.func62 rfl rfl rfl ?_
 intro σ hl ha
 have h0:=ha 0 (by simp)
 have h1:=ha 1 (by simp)
 clear ha
 simp only [Option.getD_some,List.getElem?_cons_zero,List.getElem?_cons_succ] at h0 h1
 have hck:=fun H k=>ep 6 d H k hd
 have hc0:chk 6 d=0:=if_pos hg
 rw [hc0] at hck
 obtain ⟨gh,gm,ga,gq,gx,graw⟩:=fH hg
 have gh1:=gh 104 (by decide) (by decide)
 obtain ⟨Lh,hLh⟩:=Option.isSome_iff_exists.1 gh1
 have hth:=fun H k=>gy d.host H k Lh hLh (by have:=hd.host; show _≤9223372036854775807; omega)
 have hhl:=dO d.host
 have gm1:=gm 109 (by decide) rfl
 obtain ⟨Lm,hLm⟩:=Option.isSome_iff_exists.1 gm1
 have htm:=fun H k=>gy d.bW H k Lm hLm (by have:=hd.bW; show _≤9223372036854775807; omega)
 have hml:=dO d.bW
 have hnm:=fun H k=>dM 6 H k
 have hnu:=fun H k=>dr 6 H k
 rw [show cG 6=true from rfl,show cZ 6=true from rfl] at hnm
 rw [show iA 6=5 from rfl,show iy 6=32 from rfl] at hnu
 obtain ⟨m0,hm0,hs0⟩:=oB hd.n0
 have hd0:=fun H k=>dB m0 H k hs0
 have hb0:=cM hs0
 obtain ⟨m1,hm1,hs1⟩:=oB hd.n1
 have hd1:=fun H k=>dB m1 H k hs1
 have hb1:=cM hs1
 obtain ⟨m2,hm2,hs2⟩:=oB hd.n2
 have hd2:=fun H k=>dB m2 H k hs2
 have hb2:=cM hs2
 obtain ⟨m3,hm3,hs3⟩:=oB hd.n3
 have hd3:=fun H k=>dB m3 H k hs3
 have hb3:=cM hs3
 obtain ⟨m4,hm4,hs4⟩:=oB hd.n4
 have hd4:=fun H k=>dB m4 H k hs4
 have hb4:=cM hs4
 simp only [go_sem,simprocAttr,hl,h0,h1,Dt.l8,Dt.vc,Dt.len,Dt.l0,Dt.l1,Dt.l2,Dt.l3,Dt.l4,Dt.l5,Dt.l6,Dt.l7,hth,hck,hnm,hnu,htm,hm0,hd0,hm1,hd1,hm2,hd2,hm3,hd3,hm4,hd4]
 refine ay au (by kernel_rfl) ?_
 simp only [go_sem,simprocAttr,hl,h0,h1,Dt.l8,Dt.vc,Dt.len,Dt.l0,Dt.l1,Dt.l2,Dt.l3,Dt.l4,Dt.l5,Dt.l6,Dt.l7,hth,hck,hnm,hnu,htm,hm0,hd0,hm1,hd1,hm2,hd2,hm3,hd3,hm4,hd4]
 try (repeat (refine ⟨by (unfold cg; omega),?_⟩))
 rw [go_loop]
 simp only [go_sem,simprocAttr,hl,h0,h1,Dt.l8,Dt.vc,Dt.len,Dt.l0,Dt.l1,Dt.l2,Dt.l3,Dt.l4,Dt.l5,Dt.l6,Dt.l7,hth,hck,hnm,hnu,htm,hm0,hd0,hm1,hd1,hm2,hd2,hm3,hd3,hm4,hd4]
 try (repeat (refine ⟨by (unfold cg; omega),?_⟩))
 rw [go_loop]
 simp only [go_sem,simprocAttr,hl,h0,h1,Dt.l8,Dt.vc,Dt.len,Dt.l0,Dt.l1,Dt.l2,Dt.l3,Dt.l4,Dt.l5,Dt.l6,Dt.l7,hth,hck,hnm,hnu,htm,hm0,hd0,hm1,hd1,hm2,hd2,hm3,hd3,hm4,hd4]
 try (repeat (refine ⟨by (unfold cg; omega),?_⟩))
 rw [go_loop]
 simp only [go_sem,simprocAttr,hl,h0,h1,Dt.l8,Dt.vc,Dt.len,Dt.l0,Dt.l1,Dt.l2,Dt.l3,Dt.l4,Dt.l5,Dt.l6,Dt.l7,hth,hck,hnm,hnu,htm,hm0,hd0,hm1,hd1,hm2,hd2,hm3,hd3,hm4,hd4]
 try (repeat (refine ⟨by (unfold cg; omega),?_⟩))
 rw [go_loop]
 simp only [go_sem,simprocAttr,hl,h0,h1,Dt.l8,Dt.vc,Dt.len,Dt.l0,Dt.l1,Dt.l2,Dt.l3,Dt.l4,Dt.l5,Dt.l6,Dt.l7,hth,hck,hnm,hnu,htm,hm0,hd0,hm1,hd1,hm2,hd2,hm3,hd3,hm4,hd4]
 try (repeat (refine ⟨by (unfold cg; omega),?_⟩))
 rw [go_loop]
 simp only [go_sem,simprocAttr,hl,h0,h1,Dt.l8,Dt.vc,Dt.len,Dt.l0,Dt.l1,Dt.l2,Dt.l3,Dt.l4,Dt.l5,Dt.l6,Dt.l7,hth,hck,hnm,hnu,htm,hm0,hd0,hm1,hd1,hm2,hd2,hm3,hd3,hm4,hd4]
 try (repeat (refine ⟨by (unfold cg; omega),?_⟩))
 rw [go_loop]
 simp only [go_sem,simprocAttr,hl,h0,h1,Dt.l8,Dt.vc,Dt.len,Dt.l0,Dt.l1,Dt.l2,Dt.l3,Dt.l4,Dt.l5,Dt.l6,Dt.l7,hth,hck,hnm,hnu,htm,hm0,hd0,hm1,hd1,hm2,hd2,hm3,hd3,hm4,hd4]
 try (repeat (refine ⟨by (unfold cg; omega),?_⟩))
 have hsw:dm 6 d=eo d.host++32::(eo d.bW++32::(bF m0++32::(bF m1++32::(bF m2++32::(bF m3++32::(bF m4)))))):=by simp [dm,aU,cF,cL,isN,dQ,Dt.n,hm0,hm1,hm2,hm3,hm4]
 refine ⟨by omega,?_⟩
 rw [List.take_of_length_le (by first | omega | (simp only [List.length_append,List.length_cons]; omega)),hsw]

set_option maxHeartbeats 1000000 in
theorem BG (d:Dt) (H) (hd:d.wf) (hg:er 15 d=true):ag Tryz.prog 62 [.int .u16 15,.agg d.cells] H (fun q=>q=(.tuple [.str (dm 15 d),.int .i64 0],H,z0)):=by
 refine aa (n:=173) (rs:=[.tmp 4,.tmp 5]) Tryz.func62 rfl rfl rfl ?_
 intro σ hl ha
 have h0:=ha 0 (by simp)
 have h1:=ha 1 (by simp)
 clear ha
 simp only [Option.getD_some,List.getElem?_cons_zero,List.getElem?_cons_succ] at h0 h1
 have hck:=fun H k=>ep 15 d H k hd
 have hc0:chk 15 d=0:=if_pos hg
 rw [hc0] at hck
 obtain ⟨gh,gm,ga,gq,gx,graw⟩:=fH hg
 have gh1:=gh 104 (by decide) (by decide)
 obtain ⟨Lh,hLh⟩:=Option.isSome_iff_exists.1 gh1
 have hth:=fun H k=>gy d.host H k Lh hLh (by have:=hd.host; show _≤9223372036854775807; omega)
 have hhl:=dO d.host
 have hnm:=fun H k=>dM 15 H k
 have hnu:=fun H k=>dr 15 H k
 rw [show cG 15=true from rfl,show cZ 15=false from rfl] at hnm
 rw [show iA 15=1 from rfl,show iy 15=16 from rfl] at hnu
 obtain ⟨m0,hm0,hs0⟩:=oB hd.n0
 have hd0:=fun H k=>dB m0 H k hs0
 have hb0:=cM hs0
 simp only [go_sem,simprocAttr,hl,h0,h1,Dt.l8,Dt.vc,Dt.len,Dt.l0,Dt.l1,Dt.l2,Dt.l3,Dt.l4,Dt.l5,Dt.l6,Dt.l7,hth,hck,hnm,hnu,hm0,hd0]
 rw [go_loop]
 simp only [go_sem,simprocAttr,hl,h0,h1,Dt.l8,Dt.vc,Dt.len,Dt.l0,Dt.l1,Dt.l2,Dt.l3,Dt.l4,Dt.l5,Dt.l6,Dt.l7,hth,hck,hnm,hnu,hm0,hd0]
 try (repeat (refine ⟨by (unfold cg; omega),?_⟩))
 rw [go_loop]
 simp only [go_sem,simprocAttr,hl,h0,h1,Dt.l8,Dt.vc,Dt.len,Dt.l0,Dt.l1,Dt.l2,Dt.l3,Dt.l4,Dt.l5,Dt.l6,Dt.l7,hth,hck,hnm,hnu,hm0,hd0]
 try (repeat (refine ⟨by (unfold cg; omega),?_⟩))
 have hsw:dm 15 d=bF m0++32::(eo d.host):=by simp [dm,aU,cF,cL,isN,dQ,Dt.n,hm0]
 refine ⟨by omega,?_⟩
 rw [List.take_of_length_le (by first | omega | (simp only [List.length_append,List.length_cons]; omega)),hsw]

set_option maxHeartbeats 1000000 in
theorem BD (d:Dt) (H) (hd:d.wf) (hg:er 33 d=true):ag Tryz.prog 62 [.int .u16 33,.agg d.cells] H (fun q=>q=(.tuple [.str (dm 33 d),.int .i64 0],H,z0)):=by
 refine aa (n:=173) (rs:=[.tmp 4,.tmp 5]) Tryz.func62 rfl rfl rfl ?_
 intro σ hl ha
 have h0:=ha 0 (by simp)
 have h1:=ha 1 (by simp)
 clear ha
 simp only [Option.getD_some,List.getElem?_cons_zero,List.getElem?_cons_succ] at h0 h1
 have hck:=fun H k=>ep 33 d H k hd
 have hc0:chk 33 d=0:=if_pos hg
 rw [hc0] at hck
 obtain ⟨gh,gm,ga,gq,gx,graw⟩:=fH hg
 have gh1:=gh 112 (by decide) (by decide)
 obtain ⟨Lh,hLh⟩:=Option.isSome_iff_exists.1 gh1
 have hth:=fun H k=>gy d.host H k Lh hLh (by have:=hd.host; show _≤9223372036854775807; omega)
 have hhl:=dO d.host
 have hnm:=fun H k=>dM 33 H k
 have hnu:=fun H k=>dr 33 H k
 rw [show cG 33=true from rfl,show cZ 33=false from rfl] at hnm
 rw [show iA 33=3 from rfl,show iy 33=16 from rfl] at hnu
 obtain ⟨m0,hm0,hs0⟩:=oB hd.n0
 have hd0:=fun H k=>dB m0 H k hs0
 have hb0:=cM hs0
 obtain ⟨m1,hm1,hs1⟩:=oB hd.n1
 have hd1:=fun H k=>dB m1 H k hs1
 have hb1:=cM hs1
 obtain ⟨m2,hm2,hs2⟩:=oB hd.n2
 have hd2:=fun H k=>dB m2 H k hs2
 have hb2:=cM hs2
 simp only [go_sem,simprocAttr,hl,h0,h1,Dt.l8,Dt.vc,Dt.len,Dt.l0,Dt.l1,Dt.l2,Dt.l3,Dt.l4,Dt.l5,Dt.l6,Dt.l7,hth,hck,hnm,hnu,hm0,hd0,hm1,hd1,hm2,hd2]
 rw [go_loop]
 simp only [go_sem,simprocAttr,hl,h0,h1,Dt.l8,Dt.vc,Dt.len,Dt.l0,Dt.l1,Dt.l2,Dt.l3,Dt.l4,Dt.l5,Dt.l6,Dt.l7,hth,hck,hnm,hnu,hm0,hd0,hm1,hd1,hm2,hd2]
 try (repeat (refine ⟨by (unfold cg; omega),?_⟩))
 rw [go_loop]
 simp only [go_sem,simprocAttr,hl,h0,h1,Dt.l8,Dt.vc,Dt.len,Dt.l0,Dt.l1,Dt.l2,Dt.l3,Dt.l4,Dt.l5,Dt.l6,Dt.l7,hth,hck,hnm,hnu,hm0,hd0,hm1,hd1,hm2,hd2]
 try (repeat (refine ⟨by (unfold cg; omega),?_⟩))
 rw [go_loop]
 simp only [go_sem,simprocAttr,hl,h0,h1,Dt.l8,Dt.vc,Dt.len,Dt.l0,Dt.l1,Dt.l2,Dt.l3,Dt.l4,Dt.l5,Dt.l6,Dt.l7,hth,hck,hnm,hnu,hm0,hd0,hm1,hd1,hm2,hd2]
 try (repeat (refine ⟨by (unfold cg; omega),?_⟩))
 rw [go_loop]
 simp only [go_sem,simprocAttr,hl,h0,h1,Dt.l8,Dt.vc,Dt.len,Dt.l0,Dt.l1,Dt.l2,Dt.l3,Dt.l4,Dt.l5,Dt.l6,Dt.l7,hth,hck,hnm,hnu,hm0,hd0,hm1,hd1,hm2,hd2]
 try (repeat (refine ⟨by (unfold cg; omega),?_⟩))
 have hsw:dm 33 d=bF m0++32::(bF m1++32::(bF m2++32::(eo d.host))):=by simp [dm,aU,cF,cL,isN,dQ,Dt.n,hm0,hm1,hm2]
 refine ⟨by omega,?_⟩
 rw [List.take_of_length_le (by first | omega | (simp only [List.length_append,List.length_cons]; omega)),hsw]

def jY (sep:List UInt8) (L:List (List UInt8)):List UInt8:=L.flatMap (sep++·)
theorem nF {sep:List UInt8} {L:List (List UInt8)} {i:Nat} {x:List UInt8} (h:L[i]?=some x):jY sep (L.take (i+1))=jY sep (L.take i)++(sep++x):=by
 rw [cu h]; simp [jY]
theorem nG (c:UInt8):∀ (L:List (List UInt8)),(jY [c] L).drop 1=dQ [c] L
 | []=>rfl
 | x::L=>rfl
theorem gT (c:UInt8):∀ (L:List (List UInt8)),(jY [c] L).length=b9 L+L.length
 | []=>rfl
 | x::L=>by
  have e1:jY [c] (x::L)=([c]++x)++jY [c] L:=rfl
  have e2:b9 (x::L)=x.length+b9 L:=by simp [b9]
  rw [e1,List.length_append,gT c L,e2,List.length_append,List.length_singleton,List.length_cons]; omega
theorem nL {s:List UInt8}:(s.drop 1).take (s.length - 1)=s.drop 1:=by
 rw [List.take_of_length_le (by rw [List.length_drop]; exact Nat.le_refl _)]


set_option maxHeartbeats 1000000 in
theorem F7 (d:Dt) (H) (hd:d.wf) (hg:er 1 d=true):ag Tryz.prog 62 [.int .u16 1,.agg d.cells] H (fun q=>q=(.tuple [.str (dm 1 d),.int .i64 0],H,z0)):=by
 refine aa (n:=173) (rs:=[.tmp 4,.tmp 5]) Tryz.func62 rfl rfl rfl ?_
 intro σ hl ha
 have h0:=ha 0 (by simp)
 have h1:=ha 1 (by simp)
 clear ha
 simp only [Option.getD_some,List.getElem?_cons_zero,List.getElem?_cons_succ] at h0 h1
 have hck:=fun H k=>ep 1 d H k hd
 have hc0:chk 1 d=0:=if_pos hg
 rw [hc0] at hck
 obtain ⟨gh,gm,ga,gq,gx,graw⟩:=fH hg
 have hnm:=fun H k=>dM 1 H k
 have hnu:=fun H k=>dr 1 H k

 rw [show cG 1=false from rfl,show cZ 1=false from rfl] at hnm
 rw [show iA 1=0 from rfl,show iy 1=0 from rfl] at hnu
 have hrl:=ga 97 (by decide) rfl
 have hAl:(cP d.raw).length=4:=by simp [cP,hrl]
 have htot:=kg (cP d.raw) 256 (by intro x hx; simp only [cP,List.mem_map] at hx; obtain ⟨b,_,rfl⟩:=hx; have:=oV b.toNat; have:=b.toNat_lt; omega)
 simp only [go_sem,simprocAttr,hl,h0,h1,Dt.l8,Dt.vc,Dt.len,Dt.l0,Dt.l1,Dt.l2,hck,hnm,hnu]
 refine go_rounds (fun (r:Nat) (st:St)=>∃ σ j,r+j=4∧st=⟨σ,H++[.cells d.cells 34 .rw],z0⟩∧σ.length=173∧fr σ 3=.ptr H.length 0∧fr σ 10=.str (jY [46] ((cP d.raw).take j))∧fr σ 11=.int .i64 (j:Nat)) 4
  ⟨_,0,rfl,rfl,by simp only [go_sem,simprocAttr,hl],by simp only [go_sem,simprocAttr,hl],by simp only [go_sem,simprocAttr,hl]; rfl,by simp only [go_sem,simprocAttr,hl]⟩ ?_
 rintro r _ ⟨σ,j,hr,rfl,hl,h3,h10,h11⟩
 by_cases hjn:j < 4
 ·obtain ⟨b,hb⟩:∃ b,d.raw[j]?=some b:=⟨_,List.getElem?_eq_getElem (by omega)⟩
  have hA:(cP d.raw)[j]?=some (bF b.toNat):=by simp [cP,hb]
  have hbl:=b.toNat_lt
  have hdg:=fun H k=>dB b.toNat H k (by omega)
  have hdl:=oV b.toNat
  have hsn:=nF (sep:=[46]) hA
  have hfl:=gT 46 ((cP d.raw).take j)
  have htt:=eN (cP d.raw) j
  rw [List.length_take] at hfl
  have w1:IntKind.u32.wrap (b.toNat:Int)=(b.toNat:Int):=wrap_u32 (by omega)
  have hw:=aS (show j < 9223372036854775807 by omega)
  have hjr:j < d.raw.length:=by omega
  have hjd:decide ((j:Int) < 4)=true:=by simp; omega
  simp only [go_sem,simprocAttr,hl,h3,h10,h11,Dt.l8,Dt.vc,Dt.len,Dt.l0,Dt.l1,Dt.l2,hck,hnm,hnu,hb,hdg,w1,hw,hjn,hjr,hjd]
  refine ⟨by (unfold cg; omega),by (unfold cg; omega),r - 1,by omega,_,j+1,by omega,rfl,by simp only [go_sem,simprocAttr,hl],by simp only [go_sem,simprocAttr,hl,h3],?_,by simp only [go_sem,simprocAttr,hl]⟩
  simp only [go_sem,simprocAttr,hl,hsn]
 ·have hj4:j=4:=by omega
  subst hj4
  rw [show (cP d.raw).take 4=cP d.raw by rw [← hAl,List.take_length]] at h10
  have hjd:decide (((4:Nat):Int) < 4)=false:=by simp
  have hfl:=gT 46 (cP d.raw)
  have hsw:dm 1 d=(jY [46] (cP d.raw)).drop 1:=by rw [nG]; simp [dm,aU,cF,cL,isN,dQ]
  rw [hsw]
  simp only [go_sem,simprocAttr,hl,h3,h10,h11,hjd]
  refine ⟨by omega,?_⟩
  rw [nL]

set_option maxHeartbeats 1000000 in
theorem BE (d:Dt) (H) (hd:d.wf) (hg:er 28 d=true):ag Tryz.prog 62 [.int .u16 28,.agg d.cells] H (fun q=>q=(.tuple [.str (dm 28 d),.int .i64 0],H,z0)):=by
 refine aa (n:=173) (rs:=[.tmp 4,.tmp 5]) Tryz.func62 rfl rfl rfl ?_
 intro σ hl ha
 have h0:=ha 0 (by simp)
 have h1:=ha 1 (by simp)
 clear ha
 simp only [Option.getD_some,List.getElem?_cons_zero,List.getElem?_cons_succ] at h0 h1
 have hck:=fun H k=>ep 28 d H k hd
 have hc0:chk 28 d=0:=if_pos hg
 rw [hc0] at hck
 obtain ⟨gh,gm,ga,gq,gx,graw⟩:=fH hg
 have hnm:=fun H k=>dM 28 H k
 have hnu:=fun H k=>dr 28 H k

 rw [show cG 28=false from rfl,show cZ 28=false from rfl] at hnm
 rw [show iA 28=0 from rfl,show iy 28=0 from rfl] at hnu
 have hrl:=gq 113 (by decide) rfl
 have hAl:(ek d.raw).length=8:=by simp [ek]
 have htot:=kg (ek d.raw) 65536 (by intro x hx; simp only [ek,List.mem_map] at hx; obtain ⟨b,_,rfl⟩:=hx; have h1:=oK (jS d.raw b); have h2:jS d.raw b≤65535:=(by unfold jS; have:=((d.raw[2*b]?).getD 0).toNat_lt; have:=((d.raw[2*b+1]?).getD 0).toNat_lt; omega); omega)
 simp only [go_sem,simprocAttr,hl,h0,h1,Dt.l8,Dt.vc,Dt.len,Dt.l0,Dt.l1,Dt.l2,hck,hnm,hnu]
 refine go_rounds (fun (r:Nat) (st:St)=>∃ σ j,r+j=8∧st=⟨σ,H++[.cells d.cells 34 .rw],z0⟩∧σ.length=173∧fr σ 3=.ptr H.length 0∧fr σ 10=.str (jY [58] ((ek d.raw).take j))∧fr σ 12=.int .i64 ((2*j:Nat))) 8
  ⟨_,0,rfl,rfl,by simp only [go_sem,simprocAttr,hl],by simp only [go_sem,simprocAttr,hl],by simp only [go_sem,simprocAttr,hl]; rfl,by simp only [go_sem,simprocAttr,hl]⟩ ?_
 rintro r _ ⟨σ,j,hr,rfl,hl,h3,h10,h12⟩
 by_cases hjn:j < 8
 ·obtain ⟨a,hxa⟩:∃ a,d.raw[2*j]?=some a:=⟨_,List.getElem?_eq_getElem (by omega)⟩
  obtain ⟨b,hxb⟩:∃ b,d.raw[2*j+1]?=some b:=⟨_,List.getElem?_eq_getElem (by omega)⟩
  have hA:(ek d.raw)[j]?=some (gi (256*a.toNat+b.toNat)):=by
   have hp:jS d.raw j=256*a.toNat+b.toNat:=by unfold jS; rw [hxa,hxb]; simp only [Option.getD_some]; omega
   simp [ek,hjn,hp]
  have hal:=a.toNat_lt
  have hbl:=b.toNat_lt
  have hdg:=fun H k=>pQ (256*a.toNat+b.toNat) H k (by omega)
  have hdl:=oK (256*a.toNat+b.toNat)
  have hsn:=nF (sep:=[58]) hA
  have hfl:=gT 58 ((ek d.raw).take j)
  have htt:=eN (ek d.raw) j
  rw [List.length_take] at hfl
  have w0:IntKind.i64.wrap (a.toNat:Int)=(a.toNat:Int):=wrap_i64 (by omega)
  have w1:IntKind.i64.wrap (b.toNat:Int)=(b.toNat:Int):=wrap_i64 (by omega)
  have w2:IntKind.i64.wrap (256*(a.toNat:Int))=((256*a.toNat:Nat):Int):=by rw [wrap_i64 (by omega)]; omega
  have w3:IntKind.i64.wrap (((256*a.toNat:Nat):Int)+(b.toNat:Int))=((256*a.toNat+b.toNat:Nat):Int):=by rw [wrap_i64 (by omega)]; omega
  have w4:IntKind.i64.wrap (((2*j:Nat):Int)+1)=((2*j+1:Nat):Int):=by rw [wrap_i64 (by omega)]; omega
  have w5:IntKind.i64.wrap (((2*j:Nat):Int)+2)=((2*(j+1):Nat):Int):=by rw [wrap_i64 (by omega)]; omega
  have hjr:2*j < d.raw.length:=by omega
  have hjr2:2*j+1 < d.raw.length:=by omega
  have hjd:decide (((2*j:Nat):Int) < 16)=true:=by simp; omega
  simp only [go_sem,simprocAttr,hl,h3,h10,h12,Dt.l8,Dt.vc,Dt.len,Dt.l0,Dt.l1,Dt.l2,hck,hnm,hnu,hxa,hxb,hdg,w0,w1,w2,w3,w4,w5,hjn,hjr,hjr2,hjd]
  refine ay au (by kernel_rfl) ?_
  simp only [go_sem,simprocAttr,hl,h3,h10,h12,Dt.l8,Dt.vc,Dt.len,Dt.l0,Dt.l1,Dt.l2,hck,hnm,hnu,hxa,hxb,hdg,w0,w1,w2,w3,w4,w5,hjn,hjr,hjr2,hjd]
  refine ⟨by (unfold cg; omega),by (unfold cg; omega),r - 1,by omega,_,j+1,by omega,rfl,by simp only [go_sem,simprocAttr,hl],by simp only [go_sem,simprocAttr,hl,h3],?_,by simp only [go_sem,simprocAttr,hl]⟩
  simp only [go_sem,simprocAttr,hl,hsn]
 ·have hj4:j=8:=by omega
  subst hj4
  rw [show (ek d.raw).take 8=ek d.raw by rw [← hAl,List.take_length]] at h10
  have hjd:decide (((2*8:Nat):Int) < 16)=false:=by simp
  have hfl:=gT 58 (ek d.raw)
  have hsw:dm 28 d=(jY [58] (ek d.raw)).drop 1:=by rw [nG]; simp [dm,aU,cF,cL,isN,dQ]
  rw [hsw]
  simp only [go_sem,simprocAttr,hl,h3,h10,h12,hjd]
  refine ⟨by omega,?_⟩
  rw [nL]

set_option maxHeartbeats 1000000 in
theorem BF (d:Dt) (H) (hd:d.wf) (hg:er 16 d=true):ag Tryz.prog 62 [.int .u16 16,.agg d.cells] H (fun q=>q=(.tuple [.str (dm 16 d),.int .i64 0],H,z0)):=by
 refine aa (n:=173) (rs:=[.tmp 4,.tmp 5]) Tryz.func62 rfl rfl rfl ?_
 intro σ hl ha
 have h0:=ha 0 (by simp)
 have h1:=ha 1 (by simp)
 clear ha
 simp only [Option.getD_some,List.getElem?_cons_zero,List.getElem?_cons_succ] at h0 h1
 have hck:=fun H k=>ep 16 d H k hd
 have hc0:chk 16 d=0:=if_pos hg
 rw [hc0] at hck
 obtain ⟨gh,gm,ga,gq,gx,graw⟩:=fH hg
 have hnm:=fun H k=>dM 16 H k
 have hnu:=fun H k=>dr 16 H k

 rw [show cG 16=false from rfl,show cZ 16=false from rfl] at hnm
 rw [show iA 16=0 from rfl,show iy 16=0 from rfl] at hnu
 have hok:=gx 120 (by decide) rfl
 obtain ⟨L,hL,hLn⟩:∃ L,gv d.raw=some L∧L≠[]:=by
  cases h:gv d.raw with
  | none=>rw [jO h] at hok; cases hok
  | some L =>
   cases L with
   | nil=>rw [lu h] at hok; cases hok
   | cons a b=>exact ⟨_,rfl,by simp⟩
 obtain ⟨⟨bv,bT⟩,hb,htx⟩:=uB d.raw (H++[.cells d.cells 34 .rw]) hd.raw
 have hB:=hb L hL hLn
 obtain ⟨rfl,_,h3'⟩ | ⟨g1,g2,bm,hbv,g3⟩:=hB
 ·exact absurd (List.length_eq_zero_iff.1 h3') hLn
 simp only at hbv g3 htx
 subst hbv
 have hLl2:=nY hL
 have hqt:=rR L
 have hQl:(L.map iM).length=L.length:=List.length_map _
 have hgb:(H++[.cells d.cells 34 .rw]++bT)[(H++[bp.cells d.cells 34 .rw]).length+bm]?=some (.cells (strs L) 9 (.op 0 false)):=by rw [bX]; exact g3
 have htx:∀ k,ag Tryz.prog 99 [.str d.raw] (H++[.cells d.cells 34 .rw]) k=k (.tuple [.slice (H.length+(bm+1)) 0 L.length (.op 0),.bool (kV d.raw)],H++(.cells d.cells 34 .rw::bT),z0):=by
  intro k; rw [htx]; simp only [List.length_append,List.length_singleton,List.append_assoc,List.singleton_append,Nat.add_assoc,Nat.add_comm 1 bm]
 have hgb:(H++(.cells d.cells 34 .rw::bT))[H.length+(bm+1)]?=some (.cells (strs L) 9 (.op 0 false)):=by rw [bX]; exact g3
 simp only [go_sem,simprocAttr,hl,h0,h1,htx,Dt.l8,Dt.vc,Dt.len,Dt.l0,Dt.l1,Dt.l2,hck,hnm,hnu]
 refine go_rounds (fun (r:Nat) (st:St)=>∃ σ j,r+j=L.length∧st=⟨σ,H++(.cells d.cells 34 .rw::bT),z0⟩∧σ.length=173∧fr σ 10=.str (jY [32] ((L.map iM).take j))∧fr σ 13=.slice (H.length+(bm+1)) 0 L.length (.op 0)∧fr σ 15=.int .i64 (j:Nat)) L.length
  ⟨_,0,rfl,rfl,by simp only [go_sem,simprocAttr,hl],by simp only [go_sem,simprocAttr,hl]; rfl,by simp only [go_sem,simprocAttr,hl],by simp only [go_sem,simprocAttr,hl]⟩ ?_
 rintro r _ ⟨σ,j,hr,rfl,hl,h10,h13,h15⟩
 by_cases hjn:j < L.length
 ·obtain ⟨x,hx⟩:∃ x,L[j]?=some x:=⟨_,List.getElem?_eq_getElem hjn⟩
  have hxl2:x.length≤65535:=by
   have h1:=mj hx
   have h2:=eN L (j+1)
   omega
  have hA:(L.map iM)[j]?=some (iM x):=by simp [hx]
  have hld:=iK hx
  have hE:=fun H' k=>se x true H' k (by omega)
  have hEl:=fV true x
  have hsn:=nF (sep:=[32]) hA
  have hfl:=gT 32 ((L.map iM).take j)
  have htt:=eN (L.map iM) j
  rw [List.length_take] at hfl
  have hw:=aS (show j < 9223372036854775807 by omega)
  simp only [go_sem,simprocAttr,hl,h10,h13,h15,hgb,g3,hld,hE,hw,hjn]
  refine ⟨by (unfold cg; omega),by (unfold cg; omega),by (unfold cg; omega),r - 1,by omega,_,j+1,by omega,rfl,by simp only [go_sem,simprocAttr,hl],?_,by simp only [go_sem,simprocAttr,hl,h13],by simp only [go_sem,simprocAttr,hl]⟩
  simp only [go_sem,simprocAttr,hl,hsn]
  simp [iM]
 ·have hj4:j=L.length:=by omega
  subst hj4
  rw [show (L.map iM).take L.length=L.map iM by rw [← hQl,List.take_length]] at h10
  have hfl:=gT 32 (L.map iM)
  have hsw:dm 16 d=(jY [32] (L.map iM)).drop 1:=by rw [nG]; simp [dm,aU,cF,cL,isN,hL]
  rw [hsw]
  have hLp:0 < L.length:=List.length_pos_iff.2 hLn
  simp only [go_sem,simprocAttr,hl,h10,h13,h15,hjn]
  refine ⟨by omega,?_⟩
  rw [nL]

set_option maxHeartbeats 1000000 in
theorem F3 (t:Int) (d:Dt) (H) (ht:t≠1∧t≠2∧t≠5∧t≠6∧t≠12∧t≠15∧t≠16∧t≠28∧t≠33) (hd:d.wf) (hg:er t d=true):ag Tryz.prog 62 [.int .u16 t,.agg d.cells] H (fun q=>q=(.tuple [.str (dm t d),.int .i64 0],H,z0)):=by
 refine aa (n:=173) (rs:=[.tmp 4,.tmp 5]) Tryz.func62 rfl rfl rfl ?_
 intro σ hl ha
 have h0:=ha 0 (by simp)
 have h1:=ha 1 (by simp)
 clear ha
 simp only [Option.getD_some,List.getElem?_cons_zero,List.getElem?_cons_succ] at h0 h1
 have hck:=fun H k=>ep t d H k hd
 have hc0:chk t d=0:=if_pos hg
 rw [hc0] at hck
 obtain ⟨gh,gm,ga,gq,gx,graw⟩:=fH hg
 have hnm:=fun H k=>dM t H k
 have hnu:=fun H k=>dr t H k

 have hfo:=iO ht
 obtain ⟨q1,q2,q5,q6,q12,q15,q16,q28,q33⟩:=ht
 have eh:cG t=false:=by simp only [cG,decide_eq_false_iff_not]; omega
 have em:cZ t=false:=by simp only [cZ,decide_eq_false_iff_not]; omega
 have en:iA t=0:=by unfold iA; rw [if_neg q6,if_neg q15,if_neg q33]
 have eb:iy t=0:=by unfold iy; rw [if_neg q6,if_neg q15,if_neg q33]
 rw [eh,em] at hnm
 rw [en,eb] at hnu
 have b1:=jo q1
 have b28:=jo q28
 have b16:=jo q16
 have w0:IntKind.u32.wrap (d.raw.length:Int)=(d.raw.length:Int):=wrap_u32 (by omega)
 have hdg:=fun H k=>dB d.raw.length H k (by omega)
 have hdl:=cM (n:=d.raw.length) (by omega)
 have hsw:dm t d=92::35::32::(bF d.raw.length++(if d.raw=[] then [] else 32::mM d.raw)):=by
  unfold dm
  rw [hfo]
  by_cases hr:d.raw=[]
  ·simp [cF,cL,isN,dQ,hr]
  ·simp [cF,cL,isN,dQ,hr]
 simp only [go_sem,simprocAttr,hl,h0,h1,b1,b28,b16,w0,hdg,Dt.l8,Dt.vc,Dt.len,Dt.l0,Dt.l1,Dt.l2,hck,hnm,hnu]
 try (refine ⟨by (unfold cg; omega),?_⟩)
 refine go_rounds (fun (r:Nat) (st:St)=>∃ σ j,r+j=d.raw.length∧st=⟨σ,H++[.cells d.cells 34 .rw],z0⟩∧σ.length=173∧fr σ 3=.ptr H.length 0∧fr σ 10=.str (92::35::32::(bF d.raw.length++(if j=0 then [] else 32::mM (d.raw.take j))))∧fr σ 16=.int .i64 (j:Nat)) d.raw.length
  ⟨_,0,rfl,rfl,by simp only [go_sem,simprocAttr,hl],by simp only [go_sem,simprocAttr,hl],by simp only [go_sem,simprocAttr,hl,List.append_nil],by simp only [go_sem,simprocAttr,hl]⟩ ?_
 clear hl h0 h1
 rintro r _ ⟨σ,j,hr,rfl,hl,h3,h10,h16⟩
 by_cases hjn:j < d.raw.length
 ·obtain ⟨b,hb⟩:∃ b,d.raw[j]?=some b:=⟨_,List.getElem?_eq_getElem hjn⟩
  have hbl:=b.toNat_lt
  have hsn:=uU hb
  have hpl:=lJ (d.raw.take j)
  rw [List.length_take] at hpl
  have v0:IntKind.i64.wrap (b.toNat:Int)=(b.toNat:Int):=wrap_i64 (by omega)
  have v1:IntKind.i64.wrap ((b.toNat:Int).tdiv 16)=((b.toNat / 16:Nat):Int):=by
   have e:(b.toNat:Int).tdiv 16=((b.toNat / 16:Nat):Int):=rfl
   rw [e,wrap_i64 (by omega)]
  have v2:(b.toNat:Int).tmod 16=((b.toNat % 16:Nat):Int):=rfl
  have s1:=fun H k=>pQ (b.toNat / 16) H k (by omega)
  have s2:=fun H k=>pQ (b.toNat % 16) H k (by omega)
  rw [fk (n:=b.toNat / 16) (by omega)] at s1
  rw [fk (n:=b.toNat % 16) (by omega)] at s2
  have hw:=aS (show j < 9223372036854775807 by omega)
  by_cases hj0:j=0
  ·subst hj0
   rw [if_pos rfl,List.append_nil] at h10
   have hjd:decide ((0:Int) < (d.raw.length:Int))=true:=by simp; omega
   have hw0:IntKind.i64.wrap (0+1)=((0+1:Nat):Int):=by decide
   simp only [go_sem,simprocAttr,hl,h3,h10,h16,Dt.l0,hb,v0,v1,v2,s1,s2,hw,hw0,hjn,hjd]
   refine ⟨by (unfold cg; omega),by (unfold cg; omega),by (unfold cg; omega),r - 1,by omega,_,1,by omega,rfl,by simp only [go_sem,simprocAttr,hl],by simp only [go_sem,simprocAttr,hl,h3],?_,by simp only [go_sem,simprocAttr,hl]⟩
   simp only [go_sem,simprocAttr,hl]
   rw [hsn]
   simp [FI,mM]
  ·have hjz:((j:Int) == 0)=false:=by simp; omega
   rw [if_neg hj0] at h10
   simp only [go_sem,simprocAttr,hl,h3,h10,h16,Dt.l0,hb,v0,v1,v2,s1,s2,hw,hjn,hjz]
   refine ⟨by (unfold cg; omega),by (unfold cg; omega),r - 1,by omega,_,j+1,by omega,rfl,by simp only [go_sem,simprocAttr,hl],by simp only [go_sem,simprocAttr,hl,h3],?_,by simp only [go_sem,simprocAttr,hl]⟩
   simp only [go_sem,simprocAttr,hl,hsn]
   simp [FI]
 ·have hj4:j=d.raw.length:=by omega
  subst hj4
  rw [List.take_length] at h10
  rw [hsw]
  simp only [go_sem,simprocAttr,hl,h3,h10,h16,Dt.l0,hjn]
  by_cases hr0:d.raw=[]
  ·simp [hr0]
  ·have:d.raw.length≠0:=fun e=>hr0 (List.length_eq_zero_iff.1 e)
   rw [if_neg this,if_neg hr0]

theorem I5 (t:Int) (d:Dt) (H) (hd:d.wf) (hg:er t d=false):ag Tryz.prog 62 [.int .u16 t,.agg d.cells] H (fun q=>q=(.tuple [.str [],.int .i64 40],H,z0)):=by
 refine aa (n:=173) (rs:=[.tmp 4,.tmp 5]) Tryz.func62 rfl rfl rfl ?_
 intro σ hl ha
 have h0:=ha 0 (by simp)
 have h1:=ha 1 (by simp)
 clear ha
 simp only [Option.getD_some,List.getElem?_cons_zero,List.getElem?_cons_succ] at h0 h1
 have hck:=fun H k=>ep t d H k hd
 have hc0:chk t d=40:=if_neg (by rw [hg]; simp)
 rw [hc0] at hck
 simp only [go_sem,simprocAttr,hl,h0,h1,hck,Dt.l8,Dt.vc,Dt.len]
theorem F9 (t:Int) (d:Dt) (H k) (hd:d.wf):ag Tryz.prog 62 [.int .u16 t,.agg d.cells] H k=k (.tuple [.str (lA t d),.int .i64 (chk t d)],H,z0):=by
 cases hg:er t d with
 | true =>
  rw [show lA t d=dm t d from if_pos hg,show chk t d=0 from if_pos hg]
  refine ak ?_ k
  rcases cR t with rfl | rfl | rfl | rfl | rfl | rfl | rfl | rfl | rfl | ht
  ·exact F7 d H hd hg
  ·exact F6 d H hd hg
  ·exact F5 d H hd hg
  ·exact F4 d H hd hg
  ·exact BH d H hd hg
  ·exact BG d H hd hg
  ·exact BF d H hd hg
  ·exact BE d H hd hg
  ·exact BD d H hd hg
  ·exact F3 t d H ht hd hg
 | false =>
  rw [show lA t d=[] from if_neg (by rw [hg]; simp),show chk t d=40 from if_neg (by rw [hg]; simp)]
  exact ak (I5 t d H hd hg) k
theorem EK {n:Nat} (h:n < 10):((([48,49,50,51,52,53,54,55,56,57]:List UInt8).drop n).take 1)=[aC n]:=by
 have:∀ n:Fin 10,((([48,49,50,51,52,53,54,55,56,57]:List UInt8).drop n.val).take 1)=[aC n.val]:=by decide
 exact this ⟨n,h⟩
theorem yT:∀ (n:Nat) (H k),n < 4294967296→ag Tryz.prog 63 [.int .u32 (n:Nat)] H k=k (.str (bF n),H,z0):=by
 intro n
 induction n using Nat.strongRecOn with
 | _ n ih =>
  intro H k hn
  refine ak (r:=(.str (bF n),H,z0)) ?_ k
  refine aa (n:=19) (rs:=[.tmp 2]) Tryz.func63 rfl rfl rfl ?_
  intro σ hl ha
  have h0:=ha 0 (by simp)
  clear ha
  simp only [Option.getD_some,List.getElem?_cons_zero,List.getElem?_cons_succ] at h0
  by_cases hlt:n < 10
  ·have c1:decide ((n:Int) < 10)=true:=by simp; omega
   have hsl:=EK hlt
   have w1:IntKind.u32.wrap ((n:Int)+1)=((n+1:Nat):Int):=by rw [wrap_u32 (by omega)]; omega
   have d1:n≤9:=by omega
   have d1':n≤10:=by omega
   have d2:n+1≤10:=by omega
   have d3:n+1 - n=1:=by omega
   simp only [go_sem,simprocAttr,hl,h0,c1,w1,d1,d2,d3,hsl]
   exact ⟨by omega,by rw [cW hlt]⟩
  ·have c1:decide ((n:Int) < 10)=false:=by simp; omega
   have w0:(n:Int).tmod 10=((n % 10:Nat):Int):=rfl
   have e:(n:Int).tdiv 10=((n / 10:Nat):Int):=rfl
   have w4:IntKind.u32.wrap ((n:Int).tdiv 10)=((n / 10:Nat):Int):=by rw [e,wrap_u32 (by omega)]
   have hr:=fun H' k'=>ih (n / 10) (by omega) H' k' (by omega)
   have hsl:=EK (n:=n % 10) (by omega)
   have w3:IntKind.u32.wrap (((n % 10:Nat):Int)+1)=((n % 10+1:Nat):Int):=by rw [wrap_u32 (by omega)]; omega
   have d1:n % 10≤9:=by omega
   have d2:n % 10+1≤10:=by omega
   have d3:n % 10+1 - n % 10=1:=by omega
   have a1:=iF (a:=bF (n / 10)) (b:=[aC (n % 10)]) (m:=20) (n:=1) (Nat.le_trans (cM (by omega)) (by omega)) (by simp) (by omega)
   simp only [go_sem,simprocAttr,hl,h0,c1]
   refine ay au (by kernel_rfl) ?_
   simp only [go_sem,simprocAttr,hl,h0,c1,w0,w3,w4,hr,d1,d2,d3,hsl,a1,gC hlt]
   omega

def nA (x:Rr):List UInt8:=eo (bB x.nm)++[32]++bF x.tt++[32,73,78,32]++rJ x.ty++[32]++lA x.ty (eE x.ty x.d)++[10]
def gK (x:Rr):Int:=if (nm x.nm).isSome=false then 90 else if x.cl≠1 then 92 else if 2147483647 < x.tt then 91 else if chk x.ty (eE x.ty x.d)≠0 then 40 else 0
def lD:List Rr→List UInt8→List UInt8 × Int
 | [],out=>if 262144 < out.length then ([],2) else (out,0)
 | x::r,out=>if gK x=0 then lD r (out++nA x) else ([],gK x)
def pT (o:List UInt8):List UInt8:=[36,79,82,73,71,73,78,32]++eo (bB o)++[10]
def nw (o:List UInt8) (R:List Rr):List UInt8 × Int:=if (nm o).isSome=false then ([],11) else if 4096 < R.length then ([],2) else lD R (pT o)

theorem pE {t:Nat} (h:t < 65536):(rJ t).length≤20:=by
 have h1:=cM (n:=t) (by omega)
 unfold rJ
 repeat' split
 all_goals first | decide | (simp only [List.length_append,List.length_cons,List.length_nil]; omega)
theorem pH (t:Int) (d:Dt) (hd:d.wf):(lA t d).length≤14000000:=by
 unfold lA
 split
 ·rename_i hg
  obtain ⟨h1,h2⟩:=pN hd hg (aU t) 0 (fun c h=>h)
  have h3:=sL [32] (cF d (aU t) 0)
  have h4:=AJ t
  have h5:(cF d (aU t) 0).length≤b9 (cF d (aU t) 0):=by
   generalize cF d (aU t) 0=L at h1
   clear h2 h3
   induction L with
   | nil=>simp
   | cons a L ih =>
    have:=h1 a (by simp)
    have:=ih (fun x hx=>h1 x (by simp [hx]))
    simp only [b9,List.map_cons,List.sum_cons,List.length_cons] at this ⊢
    omega
  have h6:(aU t).length*1000000≤7*1000000:=Nat.mul_le_mul_right _ h4
  unfold dm
  simp only [List.length_cons,List.length_nil] at h3
  omega
 ·simp
theorem zz {x:Rr} (h:x.wf):(nA x).length≤14002000:=by
 have h1:=dO (bB x.nm)
 have h2:=cM h.tt
 have h3:=pE h.ty
 have h4:=pH x.ty _ (oM (t:=x.ty) h.d)
 simp only [nA,List.length_append,List.length_cons,List.length_nil]
 omega
theorem I6 (x:Rr) (H k) (hx:x.wf):ag Tryz.prog 36 [.agg x.cells] H k=k (.tuple [.str (if gK x=0 then nA x else []),.int .i64 (gK x)],H,z0):=by
 refine ak (r:=(.tuple [.str (if gK x=0 then nA x else []),.int .i64 (gK x)],H,z0)) ?_ k
 refine aa (n:=46) (rs:=[.tmp 2,.tmp 3]) Tryz.func36 rfl rfl rfl ?_
 intro σ hl ha
 have h0:=ha 0 (by simp)
 clear ha
 simp only [Option.getD_some,List.getElem?_cons_zero,List.getElem?_cons_succ] at h0
 have hn:x.nm.length≤cg:=by have:=hx.nm; unfold cg; omega
 have f1:=fun H k=>vW x.nm H k hn
 by_cases c1:(nm x.nm).isSome=false
 ·have e:gK x=90:=if_pos c1
  simp only [go_sem,simprocAttr,hl,h0,Rr.l0,Rr.vc,f1,c1,e]
 have c1':(nm x.nm).isSome=true:=by cases h:(nm x.nm).isSome; exact absurd h c1; rfl
 by_cases c2:x.cl≠1
 ·have e:gK x=92:=by unfold gK; rw [if_neg c1,if_pos c2]
  have d2:((x.cl:Int) != 1)=true:=by simp; omega
  simp only [go_sem,simprocAttr,hl,h0,Rr.l0,Rr.l2,Rr.vc,f1,c1',d2,e]
 have d2:((x.cl:Int) != 1)=false:=by simp; omega
 by_cases c3:2147483647 < x.tt
 ·have e:gK x=91:=by unfold gK; rw [if_neg c1,if_neg c2,if_pos c3]
  have d3:decide ((x.tt:Int) > 2147483647)=true:=by simp; omega
  simp only [go_sem,simprocAttr,hl,h0,Rr.l0,Rr.l2,Rr.l3,Rr.vc,f1,c1',d2,d3,e]
 have d3:decide ((x.tt:Int) > 2147483647)=false:=by simp; omega
 have f2:=fun H k=>Gb x H k hx
 have hw:=Rr.Fc hx
 have f3:=fun H k=>F9 x.fold.ty x.fold.d H k hw.d
 by_cases c4:chk x.ty (eE x.ty x.d)≠0
 ·have e:gK x=40:=by unfold gK; rw [if_neg c1,if_neg c2,if_neg c3,if_pos c4]
  have d4:(chk x.fold.ty x.fold.d != 0)=true:=bne_iff_ne.2 c4
  simp only [go_sem,simprocAttr,hl,h0,Rr.l0,Rr.l1,Rr.l2,Rr.l3,Rr.l4,Rr.lw,Rr.sw,Rr.len,Rr.scl,Rr.flt,Rr.vc,f1,c1',d2,d3,f2,f3,d4,e]
 have c4':chk x.ty (eE x.ty x.d)=0:=by simpa using c4
 have e:gK x=0:=by unfold gK; rw [if_neg c1,if_neg c2,if_neg c3,if_neg c4]
 have d4:(chk x.fold.ty x.fold.d != 0)=false:=by rw [show chk x.fold.ty x.fold.d=0 from c4']; rfl
 have hns:(nm (bB x.nm)).isSome=true:=by rw [wj]; exact c1'
 obtain ⟨L,hL⟩:=Option.isSome_iff_exists.1 hns
 have f4:=fun H k=>gy x.fold.nm H k L hL (by show (bB x.nm).length≤cg; rw [jU]; exact hn)
 have f5:=fun H k=>yT x.tt H k hx.tt
 have f6:=fun H k=>vV x.ty H k hx.ty
 have b1:=dO (bB x.nm)
 have b2:=cM hx.tt
 have b3:=pE hx.ty
 have b4:=pH x.ty _ (oM (t:=x.ty) hx.d)
 simp only [go_sem,simprocAttr,hl,h0,Rr.l0,Rr.l1,Rr.l2,Rr.l3,Rr.l4,Rr.lw,Rr.sw,Rr.len,Rr.scl,Rr.flt,Rr.vc,f1,c1',d2,d3,f2,f3,d4,e]
 refine ay au (by kernel_rfl) ?_
 simp only [go_sem,simprocAttr,hl,h0,Rr.l0,Rr.l1,Rr.l2,Rr.l3,Rr.l4,Rr.lw,Rr.sw,Rr.len,Rr.scl,Rr.flt,Rr.vc,f1,f4,f5,f6]
 have b1:(eo x.fold.nm).length≤1021:=b1
 have b4:(lA x.fold.ty x.fold.d).length≤14000000:=b4
 unfold cg
 refine ⟨by omega,by omega,by omega,by omega,by omega,by omega,by omega,?_⟩
 rw [e]
 simp [nA,Rr.fold]
theorem zb (o:List UInt8):(pT o).length≤1030:=by
 have:=dO (bB o)
 simp only [pT,List.length_append,List.length_cons,List.length_nil]; omega
theorem Ga (o:List UInt8) (v:AV) (R:List Rr) (H k) (ho:o.length≤1048576) (hv:RL H v R) (hR:R.length≤4096) (hw:∀ x ∈ R,x.wf) :
  ag Tryz.prog 16 [.str o,v] H k=k (.tuple [.str (nw o R).1,.int .i64 (nw o R).2],H,z0):=by
 refine ak (r:=(.tuple [.str (nw o R).1,.int .i64 (nw o R).2],H,z0)) ?_ k
 refine aa (n:=45) (rs:=[.tmp 4,.tmp 5]) Tryz.func16 rfl rfl rfl ?_
 intro σ hl ha
 have h0:=ha 0 (by simp)
 have h1:=ha 1 (by simp)
 clear ha
 simp only [Option.getD_some,List.getElem?_cons_zero,List.getElem?_cons_succ] at h0 h1
 have hn:o.length≤cg:=by unfold cg; omega
 have f1:=fun H k=>vW o H k hn
 have hlen:=hv.len
 by_cases c1:(nm o).isSome=false
 ·have e:nw o R=([],11):=if_pos c1
  simp only [go_sem,simprocAttr,hl,h0,h1,f1,c1,e]
 have c1':(nm o).isSome=true:=by cases h:(nm o).isSome; exact absurd h c1; rfl
 have c2:decide ((R.length:Int) > 4096)=false:=by simp; omega
 have e:nw o R=lD R (pT o):=by unfold nw; rw [if_neg c1,if_neg (by omega)]
 rw [e]
 have f2:=fun H k=>lB o H k hn
 obtain ⟨L,hL⟩:=Option.isSome_iff_exists.1 (show (nm (bB o)).isSome=true by rw [wj]; exact c1')
 have f3:=fun H k=>gy (bB o) H k L hL (by rw [jU]; exact hn)
 have b0:=dO (bB o)
 have a1:=iF (a:=[36,79,82,73,71,73,78,32]) (b:=eo (bB o)) (m:=8) (n:=1021) (by simp) b0 (by omega)
 have a2:=iF (a:=[36,79,82,73,71,73,78,32]++eo (bB o)) (b:=[10]) (m:=1029) (n:=1) (by simp; omega) (by simp) (by omega)
 have b1:=zb o
 have hH:[36,79,82,73,71,73,78,32]++eo (bB o)++[10]=pT o:=rfl
 rw [hH] at a2
 simp only [List.cons_append,List.nil_append] at a1 a2
 simp only [go_sem,simprocAttr,hl,h0,h1,f1,f2,f3,c1',c2,hlen,a1,a2]
 refine go_rounds (fun m st=>∃ σ i e out,m+i=R.length∧lD (R.drop i) out=lD R (pT o)∧out.length≤1030+i*14002000∧st=⟨σ,H,e⟩∧clean H.length e∧σ.length=45∧fr σ 1=v∧fr σ 6=.str out∧fr σ 7=.int .i64 (i:Nat)) R.length
  ⟨_,0,_,pT o,rfl,rfl,by omega,rfl,⟨rfl,rfl⟩,by simp only [go_sem,simprocAttr,hl],by simp only [go_sem,simprocAttr,hl,h1],by simp only [go_sem,simprocAttr,hl],by simp only [go_sem,simprocAttr,hl]⟩ ?_
 clear h0 h1 hl
 rintro m _ ⟨σ,i,e,out,hmi,hF,hol,rfl,hce,hl,h1,h6,h7⟩
 by_cases hi:i < R.length
 ·obtain ⟨x,hx⟩:∃ x,R[i]?=some x:=⟨_,List.getElem?_eq_getElem hi⟩
  have hxw:=hw x (List.mem_of_getElem? hx)
  obtain ⟨b,q,row,ee,kd,g1,g2,g3⟩:=hv.at hx
  have g3:=g3.ld (e:=ee) (k:=kd)
  have c3:decide (i < R.length)=true:=decide_eq_true hi
  have w1:=aS (show i < 9223372036854775807 by omega)
  have f4:=fun H k=>I6 x H k hxw
  have hdr:R.drop i=x::R.drop (i+1):=by rw [List.drop_eq_getElem_cons hi]; congr 1; rw [List.getElem?_eq_getElem hi] at hx; exact Option.some.inj hx
  rw [hdr] at hF
  have hll:=zz hxw
  have him:i*14002000≤4096*14002000:=Nat.mul_le_mul_right _ (by omega)
  by_cases c4:gK x=0
  ·rw [lD,if_pos c4] at hF
   have a3:=iF (a:=out) (b:=nA x) (m:=100000000000) (n:=14002000) (by omega) hll (by omega)
   have c5:(gK x != 0)=false:=by rw [c4]; rfl
   have c6:(if gK x=0 then nA x else [])=nA x:=if_pos c4
   simp only [go_sem,simprocAttr,hl,h1,h6,h7,hlen,c3,g1,g2,g3,f4,c5,c6,a3,w1]
   refine ⟨m - 1,by omega,_,i+1,_,out++nA x,by omega,hF,by rw [List.length_append]; omega,rfl,hce,by simp only [go_sem,simprocAttr,hl],by simp only [go_sem,simprocAttr,hl,h1],by simp only [go_sem,simprocAttr,hl],by simp only [go_sem,simprocAttr,hl]⟩
  ·rw [lD,if_neg c4] at hF
   have c5:(gK x != 0)=true:=bne_iff_ne.2 c4
   rw [← hF]
   simp only [go_sem,simprocAttr,hl,h1,h6,h7,hlen,c3,g1,g2,g3,f4,c5]
   exact dJ rfl hce
 ·have c3:decide (i < R.length)=false:=decide_eq_false hi
  rw [List.drop_eq_nil_of_le (by omega),lD] at hF
  rw [← hF]
  by_cases c4:262144 < out.length
  ·have c5:decide ((out.length:Int) > 262144)=true:=by simp; omega
   rw [if_pos c4]
   simp only [go_sem,simprocAttr,hl,h1,h6,h7,hlen,c3,c5]
   exact dJ rfl hce
  ·have c5:decide ((out.length:Int) > 262144)=false:=by simp; omega
   rw [if_neg c4]
   simp only [go_sem,simprocAttr,hl,h1,h6,h7,hlen,c3,c5]
   exact dJ rfl hce
theorem Cl.qt {n j:Nat} {e:Ef} (h:Cl n j e) (v:AV) (H' H:Hp):quiet (v,H',e) H=false:=by
 obtain ⟨x,h1,_⟩:=h
 simp [quiet,h1]
theorem Cl.tg {n j:Nat} {e:Ef} (h:Cl n j e) (i:Nat):V.tg i e=2*i:=by
 obtain ⟨x,h1,_⟩:=h
 simp [V.tg,h1]
theorem Tx (H T:Hp) (j:Nat) (bs:List UInt8) (hb:Bld H.length T j bs) (k):ag Tryz.prog 32 [.ptr (H.length+j) 0] (H++T) k=k (.int .i64 bs.length,H++T,z0):=by
 refine ak (r:=(.int .i64 bs.length,H++T,z0)) ?_ k
 refine aa (n:=8) (rs:=[.tmp 2]) Tryz.func32 rfl rfl rfl ?_
 intro σ hl ha
 have h0:=ha 0 (by simp)
 clear ha
 simp only [Option.getD_some,List.getElem?_cons_zero,List.getElem?_cons_succ] at h0
 obtain ⟨p,v,hj,hp,hv⟩:=hb
 have hlen:=hv.len
 simp only [go_sem,simprocAttr,hl,h0,hj,hlen]
 rw [← List.length_append]
 exact dJ rfl (by rw [iu]; trivial)
theorem Jq (o:List UInt8) (v:AV) (R:List Rr) (H k) (hk:Tk H) (ht:Tb H) (hdb:Db H) (ho:o.length≤1048576) (hv:RL H v R) (hR:R.length≤4096) (hw:∀ x ∈ R,x.wf) :
  ag Tryz.prog 15 [.str o,v] H k=k (.tuple [.str (nw o R).1,.int .i64 (nw o R).2],H,z0):=by
 refine ak (r:=(.tuple [.str (nw o R).1,.int .i64 (nw o R).2],H,z0)) ?_ k
 refine aa (n:=79) (rs:=[.tmp 4,.tmp 5]) Tryz.func15 rfl rfl rfl ?_
 intro σ hl ha
 have h0:=ha 0 (by simp)
 have h1:=ha 1 (by simp)
 clear ha
 simp only [Option.getD_some,List.getElem?_cons_zero,List.getElem?_cons_succ] at h0 h1
 have hn:o.length≤cg:=by unfold cg; omega
 have f1:=fun H k=>cU o H k hn
 have hlen:=hv.len
 by_cases c1:(nm o).isSome=false
 ·have e:nw o R=([],11):=if_pos c1
  simp only [go_sem,simprocAttr,hl,h0,h1,f1,c1,e]
 have c1':(nm o).isSome=true:=by cases h:(nm o).isSome; exact absurd h c1; rfl
 have c2:decide ((R.length:Int) > 4096)=false:=by simp; omega
 have e:nw o R=lD R (pT o):=by unfold nw; rw [if_neg c1,if_neg (by omega)]
 rw [e]
 have f2:=fun H k=>dW o H k hn
 have f3:=fun H k=>jT (bB o) H k (by rw [jU]; exact hn)
 have b0:=dO (bB o)
 have a1:=iF (a:=[36,79,82,73,71,73,78,32]) (b:=eo (bB o)) (m:=8) (n:=1021) (by simp) b0 (by omega)
 have a2:=iF (a:=[36,79,82,73,71,73,78,32]++eo (bB o)) (b:=[10]) (m:=1029) (n:=1) (by simp; omega) (by simp) (by omega)
 have b1:=zb o
 have hH:[36,79,82,73,71,73,78,32]++eo (bB o)++[10]=pT o:=rfl
 rw [hH] at a2
 simp only [List.cons_append,List.nil_append] at a1 a2
 have hb0:Bld H.length [.cells [.fF,.aI] 73 .rw] 0 []:=⟨_,_,rfl,.inl rfl,.inl ⟨rfl,rfl⟩⟩
 obtain ⟨T1,e1,p1,k1,c3,r1⟩:=qu H _ 0 _ (pT o) hb0 (by simp [pT]) (by simp only [fits,decide_eq_true_eq,List.length_nil]; omega)
 have c3:=c3.cln
 simp only [Nat.add_zero] at r1
 simp only [List.nil_append] at p1
 simp only [go_sem,simprocAttr,hl,h0,h1,f1,f2,f3,c1',c2,hlen,a1,a2,r1]
 refine go_rounds (fun m st=>∃ σ i e out T,m+i=R.length∧lD (R.drop i) out=lD R (pT o)∧out.length≤1030+i*14002000∧st=⟨σ,H++T,e⟩∧Bld H.length T 0 out∧clean H.length e∧σ.length=79∧fr σ 6=.ptr H.length 0∧fr σ 23=v∧fr σ 24=.int .i64 R.length∧fr σ 25=.int .i64 (i:Nat)) R.length
  ⟨_,0,_,pT o,T1,rfl,rfl,by omega,rfl,p1,by simp only [go_sem,simprocAttr,c3],by simp only [go_sem,simprocAttr,hl],by simp only [go_sem,simprocAttr,hl],by simp only [go_sem,simprocAttr,hl,h1],by simp only [go_sem,simprocAttr,hl],by simp only [go_sem,simprocAttr,hl]⟩ ?_
 clear h0 h1 hl
 rintro m _ ⟨σ,i,e,out,T,hmi,hF,hol,rfl,hb,hce,hl,h6,h23,h24,h25⟩
 by_cases hi:i < R.length
 ·obtain ⟨x,hx⟩:∃ x,R[i]?=some x:=⟨_,List.getElem?_eq_getElem hi⟩
  have hxw:=hw x (List.mem_of_getElem? hx)
  obtain ⟨b,q,row,ee,kd,g1,g2,g3⟩:=hv.at hx
  have g2:(H++T)[b]?=some (.cells row ee kd):=ah g2
  have g3:=g3.ld (e:=ee) (k:=kd)
  have c3:decide (i < R.length)=true:=decide_eq_true hi
  have w1:=aS (show i < 9223372036854775807 by omega)
  have hdr:R.drop i=x::R.drop (i+1):=by rw [List.drop_eq_getElem_cons hi]; congr 1; rw [List.getElem?_eq_getElem hi] at hx; exact Option.some.inj hx
  rw [hdr] at hF
  have hll:=zz hxw
  have him:i*14002000≤4096*14002000:=Nat.mul_le_mul_right _ (by omega)
  have hxn:x.nm.length≤cg:=by have:=hxw.nm; unfold cg; omega
  have f4:=fun H k=>cU x.nm H k hxn
  have hT2:∀ X,(H++T)++X=H++(T++X):=fun X=>List.append_assoc _ _ _
  obtain ⟨T1,hT1⟩:∃ T1:Hp,T1=T++[.cells x.cells 36 .rw]:=⟨_,rfl⟩
  have n1:T1[T.length]?=some (.cells x.cells 36 .rw):=by rw [hT1]; simp
  have hb1:Bld H.length T1 0 out:=by rw [hT1]; exact hb.more _
  have hcw:clean H.length (e.and ⟨none,some (H.length+T.length)⟩):=bn hce (by simp only [go_sem,simprocAttr])
  have fin:∀ n:Int,leave H.length (.tuple [.str [],.int .i64 n]) (H++T1) (e.and ⟨none,some (H.length+T.length)⟩)=(.tuple [.str [],.int .i64 n],H,z0):=fun n=>aW rfl hcw
  by_cases d1:(nm x.nm).isSome=false
  ·have el:gK x=90:=if_pos d1
   rw [lD,if_neg (by rw [el]; decide),el] at hF
   rw [← hF]
   simp only [go_sem,simprocAttr,hl,h6,h23,h24,h25,c3,g1,g2,g3,Rr.vc,Rr.scl,Rr.flt,Rr.len,Rr.sw,Rr.l0,f4,d1,← hT1,n1,fin]
  have d1':(nm x.nm).isSome=true:=by cases h:(nm x.nm).isSome; exact absurd h d1; rfl
  by_cases d2:x.cl≠1
  ·have el:gK x=92:=by unfold gK; rw [if_neg d1,if_pos d2]
   have d2:((x.cl:Int) != 1)=true:=by simp; omega
   rw [lD,if_neg (by rw [el]; decide),el] at hF
   rw [← hF]
   simp only [go_sem,simprocAttr,hl,h6,h23,h24,h25,c3,g1,g2,g3,Rr.vc,Rr.scl,Rr.flt,Rr.len,Rr.sw,Rr.l0,Rr.l2,f4,d1',d2,← hT1,n1,fin]
  have d2':((x.cl:Int) != 1)=false:=by simp; omega
  by_cases d3:2147483647 < x.tt
  ·have el:gK x=91:=by unfold gK; rw [if_neg d1,if_neg d2,if_pos d3]
   have d3:decide ((x.tt:Int) > 2147483647)=true:=by simp; omega
   rw [lD,if_neg (by rw [el]; decide),el] at hF
   rw [← hF]
   simp only [go_sem,simprocAttr,hl,h6,h23,h24,h25,c3,g1,g2,g3,Rr.vc,Rr.scl,Rr.flt,Rr.len,Rr.sw,Rr.l0,Rr.l2,Rr.l3,f4,d1',d2',d3,← hT1,n1,fin]
  have d3':decide ((x.tt:Int) > 2147483647)=false:=by simp; omega
  have hw:=Rr.Fc hxw
  have f5:=fun k=>si x.ty x.d (H++T1) k (hk.old _) hxw.d
  have f6:=fun k=>yV x.ty (eE x.ty x.d) (H++T1) k (hk.old _) (ht.old _) (hdb.old _) hw.d
  by_cases d4:chk x.ty (eE x.ty x.d)≠0
  ·have el:gK x=40:=by unfold gK; rw [if_neg d1,if_neg d2,if_neg d3,if_pos d4]
   have d4:(chk x.ty (eE x.ty x.d) != 0)=true:=bne_iff_ne.2 d4
   rw [lD,if_neg (by rw [el]; decide),el] at hF
   rw [← hF]
   simp only [go_sem,simprocAttr,hl,h6,h23,h24,h25,c3,g1,g2,g3,Rr.vc,Rr.scl,Rr.flt,Rr.len,Rr.sw,Rr.l0,Rr.l1,Rr.l2,Rr.l3,Rr.l4,f4,f5,f6,d1',d2',d3',d4,← hT1,n1]
   refine ay au (by kernel_rfl) ?_
   simp only [go_sem,simprocAttr,hl,h6,h23,h24,h25,c3,Rr.l0,Rr.l1,Rr.l2,Rr.l3,Rr.l4,f4,f5,f6,d4,n1,fin]
  have d4':chk x.ty (eE x.ty x.d)=0:=by simpa using d4
  have el:gK x=0:=by unfold gK; rw [if_neg d1,if_neg d2,if_neg d3,if_neg d4]
  have d4':(chk x.ty (eE x.ty x.d) != 0)=false:=by rw [d4']; rfl
  rw [lD,if_pos el] at hF
  have f7:=fun H k=>dW x.nm H k hxn
  have f8:=fun H k=>jT (bB x.nm) H k (by rw [jU]; exact hxn)
  have f9:=fun k=>Sw x.tt (H++T1) k (ht.old _) hxw.tt
  have f10:=fun k=>sg x.ty (H++T1) k (hk.old _) (ht.old _) hxw.ty
  have wt:IntKind.i64.wrap (x.tt:Int)=(x.tt:Int):=wrap_i64 (by have:=hxw.tt; omega)
  have q1:=dO (bB x.nm)
  have q2:=cM hxw.tt
  have q3:=pE hxw.ty
  have q4:=pH x.ty _ (oM (t:=x.ty) hxw.d)
  simp only [go_sem,simprocAttr,hl,h6,h23,h24,h25,c3,g1,g2,g3,Rr.vc,Rr.scl,Rr.flt,Rr.len,Rr.sw,Rr.l0,Rr.l1,Rr.l2,Rr.l3,Rr.l4,f4,f5,f6,d1',d2',d3',d4',← hT1,n1]
  refine ay au (by kernel_rfl) ?_
  simp only [go_sem,simprocAttr,hl,h6,h23,h24,h25,c3,Rr.l0,Rr.l1,Rr.l2,Rr.l3,Rr.l4,f4,f5,f6,d4',n1]
  refine ay au (by kernel_rfl) ?_
  simp only [go_sem,simprocAttr,hl,h6,h23,h24,h25,c3,Rr.l0,Rr.l1,Rr.l2,Rr.l3,Rr.l4,f7,f8,f9,f10,wt,n1]
  have hls:eo (bB x.nm)++32::(bF x.tt++32::73::78::32::(rJ x.ty++32::(lA x.ty (eE x.ty x.d)++[10])))=nA x:=by simp [nA]
  obtain ⟨T2,e2,p2,k2,c4,r2⟩:=qu H T1 0 _ (nA x) hb1 (by simp only [nA,List.length_append,List.length_cons,List.length_nil]; omega) (by simp only [fits,decide_eq_true_eq]; omega)
  have c5:=c4.cln
  simp only [Nat.add_zero] at r2
  rw [hls]
  unfold cg
  refine ⟨by omega,by omega,by omega,by omega,by omega,by omega,by omega,?_⟩
  have hqt:=fun v=>c4.qt v (H++T2) (H++T1)
  simp only [go_sem,simprocAttr,r2,hqt,c4.tg,hl,h25,w1]
  refine ⟨(by kernel_rfl:bN _ _ _=true),?_⟩
  refine ⟨m - 1,by omega,_,i+1,_,out++nA x,T2,by omega,hF,by rw [List.length_append]; omega,rfl,p2,bn hcw c5,by simp only [go_sem,simprocAttr,hl],by simp only [go_sem,simprocAttr,hl,h6],by simp only [go_sem,simprocAttr,hl,h23],by simp only [go_sem,simprocAttr,hl,h24],by simp only [go_sem,simprocAttr,hl]⟩
 ·have c3:decide (i < R.length)=false:=decide_eq_false hi
  rw [List.drop_eq_nil_of_le (by omega),lD] at hF
  rw [← hF]
  have f12:=Tx H T 0 out hb
  simp only [Nat.add_zero] at f12
  by_cases c4:262144 < out.length
  ·have c5:decide ((out.length:Int) > 262144)=true:=by simp; omega
   rw [if_pos c4]
   simp only [go_sem,simprocAttr,hl,h6,h23,h24,h25,c3,c5,f12]
   exact aW rfl hce
  ·have c5:decide ((out.length:Int) > 262144)=false:=by simp; omega
   rw [if_neg c4]
   obtain ⟨T2,e2,c6,r2⟩:=o9 H T 0 out hb (by omega)
   simp only [Nat.add_zero] at r2
   simp only [go_sem,simprocAttr,hl,h6,h23,h24,h25,c3,c5,f12,r2]
   exact aW rfl (bn hce c6)
def BW (o:List UInt8) (R:List Rr):Prop:=o.length≤2000∧R.length≤40∧∀ x ∈ R,x.nm.length≤2000∧x.d.raw.length≤2000∧x.d.host.length≤2000∧x.d.bW.length≤2000
theorem BZ (H:Hp) (o:List UInt8) (v:AV) (R:List Rr) (hv:RL H v R):ag Tryz.prog 13 [.str o,v] H (fun q=>∃ b:Bool,(b=false→BW o R)∧q=(.bool b,H,z0)):=by
 refine aa (n:=51) (rs:=[.tmp 4]) Tryz.func13 rfl rfl rfl ?_
 intro σ hl ha
 have h0:=ha 0 (by simp)
 have h1:=ha 1 (by simp)
 clear ha
 simp only [Option.getD_some,List.getElem?_cons_zero,List.getElem?_cons_succ] at h0 h1
 have hlen:=hv.len
 by_cases c1:R.length > 40
 ·have d1:decide ((R.length:Int) > 40)=true:=by simp; omega
  simp only [go_sem,simprocAttr,hl,h0,h1,hlen,d1]
  exact ⟨true,by simp,rfl⟩
 have d1:decide ((R.length:Int) > 40)=false:=by simp; omega
 by_cases c2:o.length > 2000
 ·have d2:decide ((o.length:Int) > 2000)=true:=by simp; omega
  simp only [go_sem,simprocAttr,hl,h0,h1,hlen,d1,d2]
  exact ⟨true,by simp,rfl⟩
 have d2:decide ((o.length:Int) > 2000)=false:=by simp; omega
 simp only [go_sem,simprocAttr,hl,h0,h1,hlen,d1,d2]
 refine go_rounds (fun m st=>∃ σ i e L,m+i=R.length∧st=⟨σ,H++L,e⟩∧clean H.length e∧(∀ j x,j < i→R[j]?=some x→x.nm.length≤2000∧x.d.raw.length≤2000∧x.d.host.length≤2000∧x.d.bW.length≤2000)∧σ.length=51∧fr σ 1=v∧fr σ 5=.int .i64 (i:Nat)) R.length
  ⟨_,0,_,[],rfl,by rw [List.append_nil],⟨rfl,rfl⟩,by intro j x h; omega,by simp only [go_sem,simprocAttr,hl],by simp only [go_sem,simprocAttr,hl,h1],by simp only [go_sem,simprocAttr,hl]⟩ ?_
 clear h0 h1 hl
 rintro m _ ⟨σ,i,e,L,hmi,rfl,hce,hall,hl,h1,h5⟩
 by_cases hi:i < R.length
 ·obtain ⟨x,hx⟩:∃ x,R[i]?=some x:=⟨_,List.getElem?_eq_getElem hi⟩
  obtain ⟨b,q,row,ee,kd,g1,g2,g3⟩:=hv.at hx
  have g2':∀ X,(H++X)[b]?=some (.cells row ee kd):=fun X=>ah g2
  have g4:=g3.f4 (e:=ee) (k:=kd)
  have g0:=g3.f0 (e:=ee) (k:=kd)
  have c3:decide (i < R.length)=true:=decide_eq_true hi
  have w1:=aS (show i < 9223372036854775807 by omega)
  obtain ⟨L1,hL1⟩:∃ L1:Hp,L1=L++[.cells x.d.cells 34 .rw]:=⟨_,rfl⟩
  have n1:L1[L.length]?=some (.cells x.d.cells 34 .rw):=by rw [hL1]; simp
  have hcw:clean H.length (e.and ⟨none,some (H.length+L.length)⟩):=bn hce (by simp only [go_sem,simprocAttr])
  have bad:leave H.length (.bool true) (H++L1) (e.and ⟨none,some (H.length+L.length)⟩)=(.bool true,H,z0):=aW rfl hcw
  by_cases p1:x.nm.length > 2000
  ·have d1:decide ((x.nm.length:Int) > 2000)=true:=by simp; omega
   simp only [go_sem,simprocAttr,hl,h1,h5,hlen,c3,g0,g1,g2',g4,Dt.vc,Dt.len,Dt.scl,Dt.flat,Dt.sw,← hL1,d1,bad]
   exact ⟨true,by simp,rfl⟩
  have d1:decide ((x.nm.length:Int) > 2000)=false:=by simp; omega
  by_cases p2:x.d.raw.length > 2000
  ·have d2:decide ((x.d.raw.length:Int) > 2000)=true:=by simp; omega
   simp only [go_sem,simprocAttr,hl,h1,h5,hlen,c3,g0,g1,g2',g4,n1,Dt.vc,Dt.len,Dt.scl,Dt.flat,Dt.sw,Dt.l0,← hL1,d1,d2,bad]
   exact ⟨true,by simp,rfl⟩
  have d2:decide ((x.d.raw.length:Int) > 2000)=false:=by simp; omega
  by_cases p3:x.d.host.length > 2000
  ·have d3:decide ((x.d.host.length:Int) > 2000)=true:=by simp; omega
   simp only [go_sem,simprocAttr,hl,h1,h5,hlen,c3,g0,g1,g2',g4,n1,Dt.vc,Dt.len,Dt.scl,Dt.flat,Dt.sw,Dt.l0,Dt.l1,← hL1,d1,d2,d3,bad]
   exact ⟨true,by simp,rfl⟩
  have d3:decide ((x.d.host.length:Int) > 2000)=false:=by simp; omega
  by_cases p4:x.d.bW.length > 2000
  ·have d4:decide ((x.d.bW.length:Int) > 2000)=true:=by simp; omega
   simp only [go_sem,simprocAttr,hl,h1,h5,hlen,c3,g0,g1,g2',g4,n1,Dt.vc,Dt.len,Dt.scl,Dt.flat,Dt.sw,Dt.l0,Dt.l1,Dt.l2,← hL1,d1,d2,d3,d4,bad]
   exact ⟨true,by simp,rfl⟩
  have d4:decide ((x.d.bW.length:Int) > 2000)=false:=by simp; omega
  simp only [go_sem,simprocAttr,hl,h1,h5,hlen,c3,g0,g1,g2',g4,n1,Dt.vc,Dt.len,Dt.scl,Dt.flat,Dt.sw,Dt.l0,Dt.l1,Dt.l2,← hL1,d1,d2,d3,d4,w1]
  refine ⟨m - 1,by omega,_,i+1,_,L1,by omega,rfl,hcw,?_,by simp only [go_sem,simprocAttr,hl],by simp only [go_sem,simprocAttr,hl,h1],by simp only [go_sem,simprocAttr,hl]⟩
  intro j y hj hy
  by_cases hji:j=i
  ·subst hji
   rw [hx] at hy
   obtain rfl:=Option.some.inj hy
   exact ⟨by omega,by omega,by omega,by omega⟩
  ·exact hall j y (by omega) hy
 ·have c3:decide (i < R.length)=false:=decide_eq_false hi
  simp only [go_sem,simprocAttr,hl,h1,h5,hlen,c3]
  exact ⟨false,fun _=>⟨by omega,by omega,fun x hx=>by obtain ⟨j,hj,rfl⟩:=List.getElem_of_mem hx; exact hall j _ (by omega) (List.getElem?_eq_getElem hj)⟩,aW rfl hce⟩
theorem GD (H:Hp) (o:List UInt8) (v:AV) (R:List Rr) (hv:RL H v R):∃ b:Bool,(b=false→BW o R)∧∀ k,ag Tryz.prog 13 [.str o,v] H k=k (.bool b,H,z0) :=
 cI (fun b:Bool=>b=false→BW o R) (fun b=>(.bool b,H,z0)) (BZ H o v R hv)
def iN:Rr:=⟨[],0,0,77,Dt.zero⟩
theorem K0 (H:Hp):aO Tryz.prog 26 1 [(0,.agg iN.cells)] H=some (.slice H.length 0 1 (.ex 1),H++[.cells iN.cells 36 .rw]):=by kernel_rfl
theorem I8 (e:TypeId) (k:Kd):rdC 0 12 (.cells iN.cells e k)=some iN.cells:=rfl
theorem Ft:bq Tryz.prog 36 [(3,.int .u32 77)]=some (.agg iN.cells):=by kernel_rfl
theorem GC (H:Hp) (v:AV) (R:List Rr) (hv:RL H v R) (hR:R.length≤1048576):ag Tryz.prog 14 [v] H (fun q=>∃ r:Hp × Ef,(clean H.length r.2∧∃ m,m+1=r.1.length∧r.1[m]?=some (.cells (recC (R++[iN])) 36 (.op 0 false)))∧q=(.slice (H.length+(r.1.length - 1)) 0 R.length (.op 0),H++r.1,r.2)):=by
 refine aa (n:=15) (rs:=[.tmp 2]) Tryz.func14 rfl rfl rfl ?_
 intro σ hl ha
 have h0:=ha 0 (by simp)
 clear ha
 simp only [Option.getD_some,List.getElem?_cons_zero,List.getElem?_cons_succ] at h0
 have hlen:=hv.len
 obtain ⟨rfl,rfl⟩ | ⟨b,o,c,row,e,kd,rfl,hx,hr,hlr⟩:=hv
 ·simp only [go_sem,simprocAttr,hl,h0,hlen,Ft,K0,I8,Rr.vc,Rr.len,Rr.scl,Rr.flt]
  exact ⟨by decide,⟨[.cells iN.cells 36 .rw,.cells iN.cells 36 (.op 0 false)],z0⟩,⟨⟨rfl,rfl⟩,1,rfl,rfl⟩,rfl⟩
 ·have h2:rdC o (R.length*12) (.cells row e kd)=some (recC R):=by rw [y5,if_pos hlr,hr]
  by_cases hz:R=[]
  ·subst hz
   have h2:rdC o 0 (.cells row e kd)=some []:=by rw [y5,if_pos (by simpa using hlr),List.take_zero]
   simp only [go_sem,simprocAttr,hl,h0,hx,h2,hlen,Ft,K0,I8,Rr.vc,Rr.len,Rr.scl,Rr.flt]
   exact ⟨by decide,⟨[.cells iN.cells 36 .rw,.cells iN.cells 36 (.op 0 false)],z0⟩,⟨⟨rfl,rfl⟩,1,rfl,rfl⟩,rfl⟩
  ·have hz:¬ R.length=0:=by intro h; exact hz (List.eq_nil_of_length_eq_zero h)
   have f1:fits R.length 96=true:=by simp only [fits,decide_eq_true_eq]; omega
   have f2:fits (R.length+1) 96=true:=by simp only [fits,decide_eq_true_eq]; omega
   have d1:¬ (R.length+1)*12≤R.length*12:=by omega
   simp only [go_sem,simprocAttr,hl,h0,hx,h2,hlen,Ft,K0,I8,Rr.vc,Rr.len,Rr.scl,Rr.flt,hz,f1,f2,fQ,d1]
   have ht:List.take (R.length*12) (recC R)=recC R:=List.take_of_length_le (by rw [fQ]; exact Nat.le_refl _)
   rw [ht]
   exact ⟨by rw [fQ]; omega,⟨[.dead,.cells iN.cells 36 .rw,.cells (recC R++iN.cells) 36 (.op 0 false)],z0⟩,⟨⟨rfl,rfl⟩,2,rfl,by rw [yU]; rfl⟩,rfl⟩
theorem JB (H:Hp) (v:AV) (R:List Rr) (hv:RL H v R) (hR:R.length≤1048576):∃ r:Hp × Ef,(clean H.length r.2∧∃ m,m+1=r.1.length∧r.1[m]?=some (.cells (recC (R++[iN])) 36 (.op 0 false)))∧∀ k,ag Tryz.prog 14 [v] H k=k (.slice (H.length+(r.1.length - 1)) 0 R.length (.op 0),H++r.1,r.2) :=
 cI (fun r:Hp × Ef=>clean H.length r.2∧∃ m,m+1=r.1.length∧r.1[m]?=some (.cells (recC (R++[iN])) 36 (.op 0 false))) (fun r=>(.slice (H.length+(r.1.length - 1)) 0 R.length (.op 0),H++r.1,r.2)) (GC H v R hv hR)
theorem B0 (H:Hp) (o:List UInt8) (v:AV) (R:List Rr) (hgl:Gl H) (htb:Tb H) (hdb:Db H) (hg:gN≤H.length) (hv:RL H v R) (hw:∀ x ∈ R,x.fit) :
  ag Tryz.prog 5 [.str o,v] H (fun q=>q=(.bool true,H,z0)):=by
 refine aa (n:=56) (rs:=[.tmp 4]) Tryz.func5 rfl rfl rfl ?_
 intro σ hl ha
 have h0:=ha 0 (by simp)
 have h1:=ha 1 (by simp)
 clear ha
 simp only [Option.getD_some,List.getElem?_cons_zero,List.getElem?_cons_succ] at h0 h1
 obtain ⟨b,hb,f1⟩:=GD H o v R hv
 cases b with
 | true=>simp only [go_sem,simprocAttr,hl,h0,h1,f1]
 | false =>
  obtain ⟨l1,l2,l3⟩:=hb rfl
  have hwf:∀ x ∈ R,x.wf:=fun x hx=>(hw x hx).wf (l3 x hx)
  obtain ⟨⟨T,e⟩,⟨hce,m,hm,hT⟩,f2⟩:=JB H v R hv (by omega)
  simp only at hce hm hT f2
  have hbl:H.length+(T.length - 1)=H.length+m:=by omega
  rw [hbl] at f2
  have hT':(H++T)[H.length+m]?=some (.cells (recC (R++[iN])) 36 (.op 0 false)):=by rw [bX,hT]
  have hv2:RL (H++T) (.slice (H.length+m) 0 R.length (.op 0)) R:=.inr ⟨_,0,_,_,_,_,rfl,hT',by rw [List.drop_zero,yU,← fQ,List.take_left],by rw [fQ]; simp; omega⟩
  obtain ⟨g1,g2⟩:=vX (R++[iN]) R.length iN (by simp)
  have g3:At (recC (R++[iN])) (R.length*12) iN:=⟨g1,g2⟩
  have hgl2:=hgl.old T
  have f3:=fun k=>Jq o (.slice (H.length+m) 0 R.length (.op 0)) R (H++T) k hgl2.1 (htb.old T) (hdb.old T) (by omega) hv2 (by omega) hwf
  have f4:=fun k=>Ga o v R (H++T) k (by omega) (hv.old T) (by omega) hwf
  have f5:=fun k=>BJ (H++T) (.slice (H.length+m) 0 R.length (.op 0)) v R R hv2 (hv.old T) (by omega) (by omega) k
  have f6:=fun k=>GB (H++T) hgl2 (by simp; omega) k
  have d0:decide (R=R)=true:=decide_eq_true rfl
  have hq:=O3 iN iN
  have d1:decide (iN=iN)=true:=decide_eq_true rfl
  rw [d1] at hq
  have g4:=g3.ld (e:=36) (k:=.op 0 false)
  have g5:(recC (R++[iN])).length=(R.length+1)*12:=by rw [fQ]; simp
  have w1:=aS (show R.length < 9223372036854775807 by omega)
  simp only [go_sem,simprocAttr,hl,h0,h1,f1,f2,f3,f4,f5,f6,d0,Ft,hT,hq,w1,g4,g5]
  exact ⟨by omega,by omega,aW rfl hce⟩
end Go.Proofs.YtdppgaphcmhffaaGreatDoor.V
