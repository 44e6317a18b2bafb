/- Joined by mkclaim.py: WTokC WTypeOf WWordB WIndex WWordC WWordD WWordE WRead WReadB WMapLay WMasA WMasB WFold WMasC WTokE WMasD WHoldP WHoldQ WReadN WNmLow WHoldR. No conditions. -/
import Derived.Test.YtdppgaphcmhffaaGreatDoorJ4
import Derived.Test.YtdppgaphcmhffaaGreatDoorJ2
import Derived.Test.YtdppgaphcmhffaaGreatDoorChecked
import Derived.WalkKit
import Derived.Lib.TrimAscii
import Derived.Test.YtdppgaphcmhffaaGreatDoorJ3
set_option linter.unusedSimpArgs false
set_option linter.unusedVariables false
set_option maxRecDepth 100000
namespace Go.Proofs.YtdppgaphcmhffaaGreatDoor.V
open Go
attribute [local irreducible] go bt goD opK ag bx aF aH bC fO
attribute [-go_sem] dG dX qO sV

def TI (H T00:Hp) (j:Nat) (t:List UInt8) (i ln bg:Nat) (op:List (Nat × Nat)) (cur:Option En) (es:List (En × AV)) (T:Hp) (e:Ef):Prop :=
 ∃ vo bl el vw ve ins ws,T[j]?=some (.cells (TkC t i ln bg vo bl el vw ve ins) 93 .rw)∧Oo H.length T vo op∧bZ H.length T vw 63 4 ws.length (cA ws)∧Eo H T ve es ∧
  (∀ x ∈ es,∀ m,bkT H.length x.2 m→¬ bkT H.length vw m)∧((ins=true∧cur=some ⟨bl,el,ws⟩)∨(ins=false∧cur=none∧vw=.aI∧ws=[])) ∧
  i≤t.length∧bg≤i∧ln≤i+1∧ws.length≤i∧es.length≤i∧op.length≤i∧clean H.length e∧(Sto (H.length+j) e∨(vo=.aI∧vw=.aI∧ve=.aI)) ∧
  T00.length≤T.length∧(∀ x c e',x≠j→T00[x]?=some (.cells c e' .rw)→T[x]?=some (.cells c e' .rw))

def TZ (H T00:Hp) (j:Nat) (t:List UInt8) (r:TR) (v:AV) (T:Hp) (e:Ef):Prop :=
 clean H.length e∧T00.length≤T.length∧(∀ x c e',x≠j→T00[x]?=some (.cells c e' .rw)→T[x]?=some (.cells c e' .rw)) ∧
 match r with
 | .bad l c n=>v=.tuple [.agg [.int .i64 (l:Nat),.int .i64 (c:Nat)],.int .i64 (n:Nat)]
 | .ok l=>v=.tuple [.agg [.int .i64 0,.int .i64 0],.int .i64 0]∧∃ i ln bg vo bl el vw ve ins es,T[j]?=some (.cells (TkC t i ln bg vo bl el vw ve ins) 93 .rw)∧Eo H T ve es∧es.map (·.1)=l

theorem uQ {H T:Hp} {n b:Nat} {v:AV} {e:Ef} (hn:n≤T.length):∃ T' e',leave (H.length+n) v (H++T) e=(v,H++T',e')∧n≤T'.length∧(∀ x,x < n→T'[x]?=T[x]?)∧(Sto b e→b < H.length+n→T'=T)∧(clean H.length e→clean H.length e'):=by
 by_cases hc:flat v=true∧low (H.length+n) e.es=none
 ·refine ⟨T.take n,⟨low (H.length+n) e.es,low (H.length+n) e.ws⟩,?_,by simp; omega,fun x hx=>by rw [List.getElem?_take_of_lt hx],fun hs hb=>?_,fun h=>eH h⟩
  ·unfold leave
   rw [if_pos hc,List.take_length_add_append]
  ·obtain ⟨x,h1,h2⟩:=hs
   have:=hc.2
   rw [h1] at this
   simp [low] at this
   omega
 ·refine ⟨T,⟨low (H.length+n) e.es,low (H.length+n) e.ws⟩,?_,hn,fun _ _=>rfl,fun _ _=>rfl,fun h=>eH h⟩
  unfold leave
  rw [if_neg hc]
theorem Oo.hd {H T:Hp} {v:AV} {l c:Nat} {op:List (Nat × Nat)} (h:Oo H.length T v ((l,c)::op)):∃ m row e k,aN Tryz.prog 91 v (.int .i64 0)=some (.ptr (H.length+m) 0)∧T[m]?=some (.cells row e k)∧ldC 0 2 true (.cells row e k)=some (.agg [.int .i64 l,.int .i64 c]):=by
 obtain ⟨_,h⟩ | ⟨m,r,rfl,hm,_⟩:=h
 ·cases h
 ·refine ⟨m,_,_,_,?_,hm,rfl⟩
  simp only [aN,pF]
  rw [if_pos (by simp)]
  rfl

theorem Oo.set {n:Nat} {T:Hp} {v:AV} {op:List (Nat × Nat)} (h:Oo n T v op) {j:Nat} {c:List AV} {x:bp} (hj:T[j]?=some (.cells c 93 .rw)):Oo n (T.set j x) v op :=
 h.fr (fun m y hm hy=>by
  rw [List.getElem?_set_ne]
  ·exact hy
  ·rintro rfl
   exact h.ne hj (by decide) hm)
theorem Eo.set {H T:Hp} {v:AV} {es:List (En × AV)} (h:Eo H T v es) {j:Nat} {c:List AV} {x:bp} (hj:T[j]?=some (.cells c 93 .rw)):Eo H (T.set j x) v es :=
 ⟨h.1.set hj,fun x hx=>⟨(h.2 x hx).1,(h.2 x hx).2.set hj⟩⟩
theorem EF {t:List UInt8} {a:Nat} {c:UInt8} (h:t[a]?=some c):vU (t.drop a)=if c=10 then t.drop a else vU (t.drop (a+1)):=by
 have hl:=(List.getElem?_eq_some_iff.1 h).1
 have e:t.drop a=c::t.drop (a+1):=by rw [List.drop_eq_getElem_cons hl]; congr 1; rw [List.getElem?_eq_getElem hl] at h; exact Option.some.inj h
 rw [e,vU]
theorem eX {c n:UInt8} (h:c≠n):((c.toNat:Int) == (n.toNat:Int))=false:=by rw [vt]; simp [h]
theorem vu {H T00 T:Hp} {j:Nat} {t:List UInt8} {l c n:Nat} {e:Ef} (hR:ni t=.bad l c n) (hT0:T00.length≤T.length) (hfr:∀ x c e',x≠j→T00[x]?=some (.cells c e' .rw)→T[x]?=some (.cells c e' .rw)) (hce:clean H.length e) (Y:bp) :
  ∃ v T1 e1,TZ H T00 j t (ni t) v T1 e1∧leave (H.length+T00.length) (.tuple [.agg [.int .i64 l,.int .i64 c],.int .i64 n]) (H++T.set T00.length Y) (e.and ⟨none,some (H.length+T00.length)⟩)=(v,H++T1,e1):=by
 obtain ⟨T',e',h1,h2,h3,h4,h5⟩:=uQ (H:=H) (T:=T.set T00.length Y) (n:=T00.length) (b:=0) (v:=.tuple [.agg [.int .i64 l,.int .i64 c],.int .i64 n]) (e:=e.and ⟨none,some (H.length+T00.length)⟩) (by simpa using hT0)
 refine ⟨_,T',e',⟨h5 ?_,h2,fun x c' e2 hx hy=>?_,?_⟩,h1⟩
 ·rw [aV,b7]; exact ⟨hce,by omega⟩
 ·have hl:=ai hy
  rw [h3 x hl,List.getElem?_set_ne (by omega)]
  exact hfr x c' e2 hx hy
 ·rw [hR]
theorem RH {H T00 T:Hp} {j:Nat} {t:List UInt8} {i ln bg:Nat} {vo vw ve:AV} {bl ins:Bool} {el:Nat} {es:List (En × AV)} {e:Ef} (hjl:j < T00.length) (hR:ni t=.ok (es.map (·.1))) (hb:T[j]?=some (.cells (TkC t i ln bg vo bl el vw ve ins) 93 .rw)) (hE:Eo H T ve es)
  (hst:Sto (H.length+j) e∨(ve=.aI∧es=[])) (hT0:T00.length≤T.length) (hfr:∀ x c e',x≠j→T00[x]?=some (.cells c e' .rw)→T[x]?=some (.cells c e' .rw)) (hsb:∃ c k,T[T00.length]?=some (.cells c 38 k)∧k=.rw) (hce:clean H.length e) (Y:bp) :
  ∃ v T1 e1,TZ H T00 j t (ni t) v T1 e1∧leave (H.length+T00.length) (.tuple [.agg [.int .i64 0,.int .i64 0],.int .i64 0]) (H++T.set T00.length Y) (e.and ⟨none,some (H.length+T00.length)⟩)=(v,H++T1,e1):=by
 obtain ⟨c0,k0,hs0,rfl⟩:=hsb
 obtain ⟨T',e',h1,h2,h3,h4,h5⟩:=uQ (H:=H) (T:=T.set T00.length Y) (n:=T00.length) (b:=H.length+j) (v:=.tuple [.agg [.int .i64 0,.int .i64 0],.int .i64 0]) (e:=e.and ⟨none,some (H.length+T00.length)⟩) (by simpa using hT0)
 refine ⟨_,T',e',⟨h5 ?_,h2,fun x c' e2 hx hy=>?_,?_⟩,h1⟩
 ·rw [aV,b7]; exact ⟨hce,by omega⟩
 ·have hl:=ai hy
  rw [h3 x hl,List.getElem?_set_ne (by omega)]
  exact hfr x c' e2 hx hy
 ·rw [hR]
  refine ⟨rfl,i,ln,bg,vo,bl,el,vw,ve,ins,es,?_,?_,rfl⟩
  ·rw [h3 j hjl,List.getElem?_set_ne (by omega)]; exact hb
  ·rcases hst with hst | ⟨rfl,rfl⟩
   ·rw [h4 (hst.l _) (by omega)]
    exact ⟨hE.1.set hs0,fun x hx=>⟨(hE.2 x hx).1,(hE.2 x hx).2.set hs0⟩⟩
   ·exact ⟨.inl ⟨rfl,rfl,rfl⟩,fun x hx=>by cases hx⟩

set_option maxHeartbeats 4000000 in
theorem Ip (H T00:Hp) (j:Nat) (t:List UInt8) (ht:t.length≤262144) (hb0:T00[j]?=some (.cells (TkC t 0 1 0 .aI false 0 .aI .aI false) 93 .rw)) :
  ag Tryz.prog 40 [.ptr (H.length+j) 0] (H++T00) (fun r=>∃ v T e,TZ H T00 j t (ni t) v T e∧r=(v,H++T,e)):=by
 refine aa (n:=345) (rs:=[.cell 2 38,.tmp 3]) Tryz.func40 rfl rfl rfl ?_
 intro σ hl ha
 have h0:=ha 0 (by simp)
 clear ha
 simp only [Option.getD_some,List.getElem?_cons_zero,List.getElem?_cons_succ] at h0
 simp only [go_sem,simprocAttr,hl,h0]
 rw [mV rfl]
 have hbi:(T00++[.cells [.int .i64 0,.int .i64 0] 38 .rw])[j]?=some (.cells (TkC t 0 1 0 .aI false 0 .aI .aI false) 93 .rw):=ah hb0
 refine sK (fun n st=>∃ σ T e i ln bg op cur es k,st=⟨σ,H++T,e⟩∧n+i=t.length∧TI H (T00++[.cells [.int .i64 0,.int .i64 0] 38 .rw]) j t i ln bg op cur es T e∧t.length≤k+i∧ni t=rdT k (t.drop i) ln (i - bg+1) op cur (es.map (·.1))∧σ.length=345∧fr σ 0=.ptr (H.length+j) 0∧fr σ 2=.ptr (H.length+T00.length) 0∧fr σ 3=.int .i64 0) t.length
  ⟨_,T00++[.cells [.int .i64 0,.int .i64 0] 38 .rw],_,0,1,0,[],none,[],t.length,rfl,rfl,⟨.aI,false,0,.aI,.aI,false,[],hbi,.inl ⟨rfl,rfl⟩,.inl ⟨rfl,rfl,rfl⟩,⟨.inl ⟨rfl,rfl,rfl⟩,fun x hx=>by cases hx⟩,fun x hx=>(by cases hx),.inr ⟨rfl,rfl,rfl,rfl⟩,Nat.zero_le _,Nat.le_refl _,Nat.le_refl _,Nat.le_refl _,Nat.le_refl _,Nat.le_refl _,by simp [clean,z0,low],.inr ⟨rfl,rfl,rfl⟩,Nat.le_refl _,fun x c e' _ h=>h⟩,Nat.le_refl _,rfl,by simp only [go_sem,simprocAttr,hl],by simp only [go_sem,simprocAttr,hl,h0],by simp only [go_sem,simprocAttr,hl],by simp only [go_sem,simprocAttr,hl]⟩ rfl ?_
 clear h0 hl hbi
 rintro n σ H' e ⟨σ',T,e',i,ln,bg,op,cur,es,k,heq,hni,⟨vo,bl,el,vw,ve,ins,ws,hb,hO,hw,hE,hdj,hcur,hi,hbg,hln,hwl,hel,hol,hce,hst,hTl,hfr⟩,hk,hrd,hl,h0,h2,h3⟩ ih
 cases heq
 by_cases hit:i=t.length
 ·subst hit
  have hd:decide (t.length < t.length)=false:=by simp
  have hq:(t.length == t.length)=true:=by simp
  have hlo:=hO.len
  have hsb:T[T00.length]?=some (.cells [.int .i64 0,.int .i64 0] 38 .rw):=hfr T00.length _ _ (by have:=ai hb0; omega) (by simp)
  have hT0:T00.length≤T.length:=by simp at hTl; omega
  have hfr0:∀ x c e',x≠j→T00[x]?=some (.cells c e' .rw)→T[x]?=some (.cells c e' .rw):=fun x c e' hx h=>hfr x c e' hx (ah h)
  rw [List.drop_length] at hrd
  cases op with
  | cons p op =>
   obtain ⟨l,c⟩:=p
   have hdp:decide (((op.length+1:Nat):Int) > 0)=true:=by simp
   obtain ⟨m,row,em,km,hix,hgm,hlm⟩:=hO.hd
   have hss:∀ y,(T.set T00.length y)[T00.length]?=some y:=fun y=>List.getElem?_set_self (ai hsb)
   have hR:ni t=.bad l c 81:=by rw [hrd]; cases k <;> rfl
   cases ins
   all_goals
    simp only [go_sem,simprocAttr,hl,h0]
    refine ay au (by kernel_rfl) ?_
    simp only [go_sem,simprocAttr,hl,h0,hb,TkC.l9,TkC.l1,TkC.l0,hd]
    refine ay au (by kernel_rfl) ?_
    simp only [go_sem,simprocAttr,hl,h0,hb,TkC.l1,TkC.l0,hq]
    rw [dG,show findLabel _ 1=some _ from rfl,dX]
    simp only [go_sem,simprocAttr,hl,h0,h2,hb,TkC.l4,hlo,hdp,hix,hgm,hlm,hsb,hss]
    exact vu hR hT0 hfr0 hce _
  | nil =>
   have hdp:decide ((([]:List (Nat × Nat)).length:Int) > 0)=false:=by simp
   obtain ⟨b,⟨c1,c2,c3,c5,c4⟩,hc⟩:=uu H T j t t.length ln bg vo bl el vw ve ins ws es hb hw hE (by omega)
   have hbz:bq Tryz.prog 38 []=some (.agg [.int .i64 0,.int .i64 0]):=by kernel_rfl
   have hjl:=ai hb0
   have hsb2:b.2.1[T00.length]?=some (.cells [.int .i64 0,.int .i64 0] 38 .rw):=c4 _ _ (by omega) (hE.1.ne hsb (by decide)) hsb
   have hss:∀ y,(b.2.1.set T00.length y)[T00.length]?=some y:=fun y=>List.getElem?_set_self (ai hsb2)
   have hT1:T00.length≤b.2.1.length:=by have:=ai hsb2; omega
   have hfr1:∀ x c e',x≠j→T00[x]?=some (.cells c e' .rw)→b.2.1[x]?=some (.cells c e' .rw):=by
    intro x c e' hx h
    refine c4 x _ hx ?_ (hfr0 x c e' hx h)
    rintro ⟨q,rfl⟩
    obtain ⟨h',_⟩ | ⟨_,_,m',h',hm'⟩:=hE.1
    ·cases h'
    ·have:x=m':=by injection h'; omega
     rw [this] at h
     rw [hfr0 m' c e' (this ▸ hx) h] at hm'
     cases hm'
   have hR:ni t=.ok (((if ws=[] then es else es++[(⟨bl,el,ws⟩,vw)]):List (En × AV)).map (·.1)):=by
    have:ni t=.ok (shut cur (es.map (·.1))):=by rw [hrd]; cases k <;> rfl
    rw [this]
    rcases hcur with ⟨_,rfl⟩ | ⟨_,rfl,_,rfl⟩
    ·by_cases hw0:ws=[]
     ·simp [shut,hw0]
     ·simp [shut,hw0]
    ·simp [shut]
   have hst2:Sto (H.length+j) (e.and b.2.2)∨(b.1=.aI∧(if ws=[] then es else es++[((⟨bl,el,ws⟩:En),vw)])=[]):=by
    rcases hst with h | ⟨_,rfl,rfl⟩
    ·exact .inl (h.l _)
    ·rcases c5 with ⟨hw0,hlb⟩ | h
     ·have hes:es=[]:=by
       rcases hE.1 with ⟨_,_,h⟩ | ⟨_,_,m,h,_⟩
       ·exact List.length_eq_zero_iff.1 h
       ·cases h
      subst hes
      rw [if_pos hw0] at c2 ⊢
      rcases c2.1 with ⟨h,_⟩ | ⟨h,_⟩
      ·exact .inr ⟨h,rfl⟩
      ·exact absurd h (by simp)
     ·exact .inl (h.r _)
   cases ins
   all_goals
    simp only [go_sem,simprocAttr,hl,h0]
    refine ay au (by kernel_rfl) ?_
    simp only [go_sem,simprocAttr,hl,h0,hb,TkC.l9,TkC.l1,TkC.l0,hd]
    refine ay au (by kernel_rfl) ?_
    simp only [go_sem,simprocAttr,hl,h0,hb,TkC.l1,TkC.l0,hq]
    rw [dG,show findLabel _ 1=some _ from rfl,dX]
    simp only [go_sem,simprocAttr,hl,h0,h2,hb,TkC.l4,hlo,hdp,hc,hbz,hsb2,hss]
    exact RH hjl hR c1 c2 hst2 hT1 hfr1 ⟨_,_,hsb2,rfl⟩ (aV.2 ⟨hce,c3⟩) _
 ·have hil:i < t.length:=by omega
  obtain ⟨c,hc⟩:∃ c,t[i]?=some c:=⟨t[i],List.getElem?_eq_getElem hil⟩
  obtain ⟨k,rfl⟩:∃ k',k=k'+1:=⟨k - 1,by omega⟩
  have hdc:t.drop i=c::t.drop (i+1):=by rw [List.drop_eq_getElem_cons hil]; congr 1; rw [List.getElem?_eq_getElem hil] at hc; exact Option.some.inj hc
  rw [hdc] at hrd
  have hd:decide (i < t.length)=true:=by simpa using hil
  have hq:(i == t.length)=false:=by simpa using hit
  rw [nD,go_skip,nD]
  refine go_cut (fun st=>∃ σ T e vo bl el vw ve ws,st=⟨σ,H++T,e⟩∧T[j]?=some (.cells (TkC t i ln bg vo bl el vw ve true) 93 .rw)∧Oo H.length T vo op∧bZ H.length T vw 63 4 ws.length (cA ws)∧Eo H T ve es ∧
   (∀ x ∈ es,∀ m,bkT H.length x.2 m→¬ bkT H.length vw m)∧cur.getD ⟨wG c,ln,[]⟩=⟨bl,el,ws⟩∧ws.length≤i∧clean H.length e∧(Sto (H.length+j) e∨(vo=.aI∧vw=.aI∧ve=.aI)) ∧
   T00.length+1≤T.length∧(∀ x c e',x≠j→(T00++[.cells [.int .i64 0,.int .i64 0] 38 .rw])[x]?=some (.cells c e' .rw)→T[x]?=some (.cells c e' .rw))∧σ.length=345∧fr σ 0=.ptr (H.length+j) 0∧fr σ 2=.ptr (H.length+T00.length) 0∧fr σ 3=.int .i64 0) ?_ ?_
  ·have hTl':T00.length+1≤T.length:=by simpa using hTl
   cases ins
   ·obtain ⟨_,rfl,rfl,rfl⟩:False=False∧cur=none∧vw=.aI∧ws=[]:=by
     rcases hcur with ⟨h,_⟩ | ⟨_,h⟩
     ·cases h
     ·exact ⟨rfl,h⟩
    have hlt:=ai hb
    have hg2:∀ y,(T.set j y)[j]?=some y:=fun y=>List.getElem?_set_self hlt
    have hbd:∀ (a:Nat) (b:Bool),bq Tryz.prog 68 [(1,.int .i64 a),(0,.bool b)]=some (.agg [.bool b,.int .i64 a,.aI]):=by
     intro a b
     simp only [bq,Ij,rH,rN,Option.bind_some,fM]
     rfl
    have hbl:=fun H' k=>pG c H' k
    simp only [go_sem,simprocAttr,hl,h0]
    refine ay au (by kernel_rfl) ?_
    simp only [go_sem,simprocAttr,hl,h0,hb,TkC.l9,TkC.l1,TkC.l0,hd,TkC.len,TkC.s9]
    refine ay au (by kernel_rfl) ?_
    simp only [go_sem,simprocAttr,hl,h0,hb,hg2,TkC.l0,TkC.l1,TkC.l2,hc,hbl,hbd,TkC.len,TkC.s5,List.set_set]
    have hcl:clean H.length (⟨none,some (H.length+j)⟩:Ef):=by simp [clean,low]
    refine ⟨(by kernel_rfl:bN _ _ _=true),_,T.set j (.cells (TkC t i ln bg vo (wG c) ln .aI ve true) 93 .rw),_,vo,wG c,ln,.aI,ve,[],rfl,hg2 _,hO.set hb,.inl ⟨rfl,rfl,rfl⟩,hE.set hb,hdj,rfl,Nat.zero_le _,aV.2 ⟨aV.2 ⟨hce,hcl⟩,hcl⟩,?_,by simpa using hTl',fun x c' e' hx h=>?_,?_,?_,?_,?_⟩
    ·rcases hst with h | ⟨h1,_,h3⟩
     ·exact .inl ((h.l _).l _)
     ·exact .inr ⟨h1,rfl,h3⟩
    ·rw [List.getElem?_set_ne (Ne.symm hx)]; exact hfr x c' e' hx h
    all_goals simp only [go_sem,simprocAttr,hl,h0,h2,h3]
   ·have hcur2:cur=some ⟨bl,el,ws⟩:=by
     rcases hcur with ⟨_,h⟩ | ⟨h,_⟩
     ·exact h
     ·cases h
    simp only [go_sem,simprocAttr,hl,h0]
    refine ay au (by kernel_rfl) ?_
    simp only [go_sem,simprocAttr,hl,h0,hb,TkC.l9]
    refine ⟨_,T,_,vo,bl,el,vw,ve,ws,rfl,hb,hO,hw,hE,hdj,by rw [hcur2]; rfl,hwl,hce,hst,hTl',hfr,?_,?_,?_,?_⟩
    all_goals simp only [go_sem,simprocAttr,hl,h0,h2,h3]
  ·clear hb hO hw hE hdj hwl hce hst hl h0 h2 h3 hcur hfr hTl
   rintro _ ⟨σ,T,e,vo,bl,el,vw,ve,ws,rfl,hb,hO,hw,hE,hdj,hcur,hwl,hce,hst,hTl,hfr,hl,h0,h2,h3⟩
   have hlt:=ai hb
   have hg2:∀ y,(T.set j y)[j]?=some y:=fun y=>List.getElem?_set_self hlt
   have w1:=aS (show i < 9223372036854775807 by omega)
   have hbl:=fun H' k=>pG c H' k
   have hq2:((i:Int) == (t.length:Int))=false:=by rw [beq_eq_false_iff_ne]; omega
   simp only [go_sem,simprocAttr,hl,h0]
   refine ay au (by kernel_rfl) ?_
   simp only [go_sem,simprocAttr,hl,h0,hb,TkC.l1,TkC.l0,hq,hq2]
   refine ay au (by kernel_rfl) ?_
   simp only [go_sem,simprocAttr,hl,h0,hb,hg2,TkC.l0,TkC.l1,TkC.len,TkC.s1,hc,hbl,w1,List.set_set]
   have hcl:clean H.length (⟨none,some (H.length+j)⟩:Ef):=by simp [clean,low]
   have back:=fun (σ:List AV) (T2:Hp) (e2:Ef) (i2 ln2 bg2:Nat) (op2:List (Nat × Nat)) (cur2:Option En) (es2:List (En × AV)) (k2:Nat) (hii:i < i2) (hi2:i2≤t.length) (hTI:TI H (T00++[.cells [.int .i64 0,.int .i64 0] 38 .rw]) j t i2 ln2 bg2 op2 cur2 es2 T2 e2) (hk2:t.length≤k2+i2)
    (hrd2:ni t=rdT k2 (t.drop i2) ln2 (i2 - bg2+1) op2 cur2 (es2.map (·.1))) (hl2:σ.length=345) (g0:fr σ 0=.ptr (H.length+j) 0) (g2:fr σ 2=.ptr (H.length+T00.length) 0) (g3:fr σ 3=.int .i64 0)=>ih (t.length - i2) ⟨σ,H++T2,e2⟩ (by omega) ⟨σ,T2,e2,i2,ln2,bg2,op2,cur2,es2,k2,rfl,by omega,hTI,hk2,hrd2,hl2,g0,g2,g3⟩
   clear ih
   obtain ⟨T1,hT1⟩:∃ T1,T1=T.set j (.cells (TkC t (i+1) ln bg vo bl el vw ve true) 93 .rw):=⟨_,rfl⟩
   have hb1:T1[j]?=some (.cells (TkC t (i+1) ln bg vo bl el vw ve true) 93 .rw):=by rw [hT1]; exact hg2 _
   have hO1:Oo H.length T1 vo op:=by rw [hT1]; exact hO.set hb
   have hw1:bZ H.length T1 vw 63 4 ws.length (cA ws):=by rw [hT1]; exact hw.set hb
   have hE1:Eo H T1 ve es:=by rw [hT1]; exact hE.set hb
   have hTl1:T00.length+1≤T1.length:=by rw [hT1]; simpa using hTl
   have hfr1:∀ x c e',x≠j→(T00++[.cells [.int .i64 0,.int .i64 0] 38 .rw])[x]?=some (.cells c e' .rw)→T1[x]?=some (.cells c e' .rw):=fun x c e' hx h=>by rw [hT1,List.getElem?_set_ne (Ne.symm hx)]; exact hfr x c e' hx h
   have hcb:i+1 - bg+1=i - bg+1+1:=by omega
   have hce1:clean H.length (e.and ⟨none,some (H.length+j)⟩):=aV.2 ⟨hce,hcl⟩
   have hst1:Sto (H.length+j) (e.and ⟨none,some (H.length+j)⟩)∨(vo=.aI∧vw=.aI∧ve=.aI):=hst.imp_left (fun h=>h.l _)
   rw [← hT1]
   unfold rdT at hrd
   simp only [hcur] at hrd
   cases hbc:wG c with
   | true =>
    rw [hbc,if_pos rfl] at hrd
    simp only [go_sem,simprocAttr,hl,hbc]
    refine back _ T1 _ (i+1) ln bg op (some ⟨bl,el,ws⟩) es k (by omega) (by omega) ⟨vo,bl,el,vw,ve,true,ws,hb1,hO1,hw1,hE1,hdj,.inl ⟨rfl,rfl⟩,by omega,by omega,by omega,by omega,by omega,by omega,hce1,hst1,by simpa using hTl1,hfr1⟩ (by omega) (by rw [hcb]; exact hrd) ?_ ?_ ?_ ?_
    all_goals simp only [go_sem,simprocAttr,hl,h0,h2,h3]
   | false =>
    rw [hbc,if_neg (by decide)] at hrd
    simp only [go_sem,simprocAttr,hl,hbc]
    by_cases c10:c=10
    ·rw [if_pos c10] at hrd
     subst c10
     obtain ⟨b,⟨d1,d2,d3,d4⟩,hen⟩:=FK H T1 j t (i+1) ln bg vo bl el vw ve true op ws es hb1 hO1 hw1 hE1 (by omega) (by omega)
     have g10:(((10:UInt8).toNat:Int) == 10)=true:=rfl
     simp only [go_sem,simprocAttr,hl,h0,g10,hen]
     have hfr2:∀ x c e',x≠j→(T00++[.cells [.int .i64 0,.int .i64 0] 38 .rw])[x]?=some (.cells c e' .rw)→b.2.1[x]?=some (.cells c e' .rw):=fun x c e' hx h=>d4 x _ hx (hE1.1.nrw (hfr1 x c e' hx h)) (hfr1 x c e' hx h)
     have hTl2:T00.length+1≤b.2.1.length:=by
      have:=ai (hfr2 T00.length [.int .i64 0,.int .i64 0] 38 (by have:=ai hb0; omega) (by simp))
      omega
     have hO2:Oo H.length b.2.1 vo op:=hO1.fr (fun m y hm hy=>d4 m y (fun h=>hO1.ne (h ▸ hb1) (by decide) hm) (hO1.nb hE1.1 (by decide) hm) hy)
     have hcol:i+1 - (i+1)+1=1:=by omega
     by_cases hop:op=[]
     ·rw [if_pos hop] at d1 hrd
      have hst2:Sto (H.length+j) ((e.and ⟨none,some (H.length+j)⟩).and b.2.2)∨(vo=.aI∧AV.aI=.aI∧b.1=.aI):=by
       rcases hst1 with h | ⟨h1,h4,h5⟩
       ·exact .inl (h.l _)
       ·rcases d3 with ⟨hw0 | ho,hlb⟩ | h
        ·have hes:es=[]:=by
          rcases hE1.1 with ⟨_,_,h⟩ | ⟨_,_,m,h,_⟩
          ·exact List.length_eq_zero_iff.1 h
          ·rw [h5] at h; cases h
         have hd:=d1.2
         rw [if_pos hw0,hes] at hd
         rcases hd.1 with ⟨h,_⟩ | ⟨h,_⟩
         ·exact .inr ⟨h1,rfl,h⟩
         ·exact absurd h (by simp)
        ·exact absurd hop ho
        ·exact .inl (h.r _)
      have hrd3:ni t=rdT k (t.drop (i+1)) (ln+1) (i+1 - (i+1)+1) op none (((if ws=[] then es else es++[(⟨bl,el,ws⟩,vw)]):List (En × AV)).map (·.1)):=by
       rw [hcol,hrd,hop]
       congr 1
       by_cases hw0:ws=[]
       ·simp [shut,hw0]
       ·simp [shut,hw0]
      have hel2:(((if ws=[] then es else es++[(⟨bl,el,ws⟩,vw)]):List (En × AV))).length≤i+1:=by
       split
       ·omega
       ·rw [List.length_append,List.length_singleton]; omega
      refine back _ b.2.1 _ (i+1) (ln+1) (i+1) op none _ k (by omega) (by omega) ⟨vo,false,0,.aI,b.1,false,[],d1.1,hO2,.inl ⟨rfl,rfl,rfl⟩,d1.2,fun x _ m _ h=>(by obtain ⟨q,h⟩:=h; cases h),.inr ⟨rfl,rfl,rfl,rfl⟩,by omega,by omega,by omega,Nat.zero_le _,hel2,by omega,aV.2 ⟨hce1,d2⟩,hst2,by simpa using hTl2,hfr2⟩ (by omega) hrd3 ?_ ?_ ?_ ?_
      all_goals simp only [go_sem,simprocAttr,hl,h0,h2,h3]
     ·rw [if_neg hop] at d1 hrd
      have hw2:bZ H.length b.2.1 vw 63 4 ws.length (cA ws):=hw1.fr (fun m y hm hy=>d4 m y (fun h=>hw1.ne (h ▸ hb1) (by decide) hm) (hE1.1.nb hw1 (by decide) hm) hy)
      have hst2:Sto (H.length+j) ((e.and ⟨none,some (H.length+j)⟩).and b.2.2)∨(vo=.aI∧vw=.aI∧ve=.aI):=hst1.imp_left (fun h=>h.l _)
      refine back _ b.2.1 _ (i+1) (ln+1) (i+1) op (some ⟨bl,el,ws⟩) es k (by omega) (by omega) ⟨vo,bl,el,vw,ve,true,ws,d1.1,hO2,hw2,d1.2.2,hdj,.inl ⟨rfl,rfl⟩,by omega,by omega,by omega,by omega,by omega,by omega,aV.2 ⟨hce1,d2⟩,hst2,by simpa using hTl2,hfr2⟩ (by omega) (by rw [hcol]; exact hrd) ?_ ?_ ?_ ?_
      all_goals simp only [go_sem,simprocAttr,hl,h0,h2,h3]
    ·rw [if_neg c10] at hrd
     have g10:((c.toNat:Int) == 10)=false:=eX c10
     by_cases c59:c=59
     ·rw [if_pos c59] at hrd
      subst c59
      have g59:(((59:UInt8).toNat:Int) == 59)=true:=rfl
      simp only [go_sem,simprocAttr,hl,h0,g10,g59]
      rw [dG,show findLabel _ 2=some _ from rfl,dX]
      simp only [go_sem,simprocAttr,hl]
      refine go_rounds (fun n st=>∃ σ a T2 e2,n+a=t.length∧i < a∧a≤t.length∧T2=T.set j (.cells (TkC t a ln bg vo bl el vw ve true) 93 .rw)∧st=⟨σ,H++T2,e2⟩∧vU (t.drop (i+1))=vU (t.drop a)∧clean H.length e2∧(Sto (H.length+j) e2∨(vo=.aI∧vw=.aI∧ve=.aI))∧σ.length=345∧fr σ 0=.ptr (H.length+j) 0∧fr σ 2=.ptr (H.length+T00.length) 0∧fr σ 3=.int .i64 0) (t.length - (i+1))
       ⟨_,i+1,T1,_,by omega,by omega,by omega,hT1,rfl,rfl,hce1,hst1,by simp only [go_sem,simprocAttr,hl],by simp only [go_sem,simprocAttr,hl,h0],by simp only [go_sem,simprocAttr,hl,h2],by simp only [go_sem,simprocAttr,hl,h3]⟩ ?_
      clear hl h0 h2 h3
      rintro n _ ⟨σ,a,T2,e2,hna,hia,hal,hT2,rfl,hrem,hce2,hst2,hl,h0,h2,h3⟩
      have hb2:T2[j]?=some (.cells (TkC t a ln bg vo bl el vw ve true) 93 .rw):=by rw [hT2]; exact hg2 _
      by_cases hstop:a=t.length∨t[a]?=some 10
      ·
       have hrem2:vU (t.drop (i+1))=t.drop a:=by
        rw [hrem]
        rcases hstop with rfl | h
        ·rw [List.drop_length]; rfl
        ·rw [EF h,if_pos rfl]
       have hcol:i - bg+1+1+((t.drop (i+1)).length - (t.drop a).length)=a - bg+1:=by rw [List.length_drop,List.length_drop]; omega
       rw [hrem2,hcol] at hrd
       have hfr2:∀ x c e',x≠j→(T00++[.cells [.int .i64 0,.int .i64 0] 38 .rw])[x]?=some (.cells c e' .rw)→T2[x]?=some (.cells c e' .rw):=fun x c e' hx h=>by rw [hT2,List.getElem?_set_ne (Ne.symm hx)]; exact hfr x c e' hx h
       have hTI2:∀ e3,clean H.length e3→(Sto (H.length+j) e3∨(vo=.aI∧vw=.aI∧ve=.aI))→TI H (T00++[.cells [.int .i64 0,.int .i64 0] 38 .rw]) j t a ln bg op (some ⟨bl,el,ws⟩) es T2 e3:=fun e3 q1 q2=>⟨vo,bl,el,vw,ve,true,ws,hb2,hT2 ▸ hO.set hb,hT2 ▸ hw.set hb,hT2 ▸ hE.set hb,hdj,.inl ⟨rfl,rfl⟩,by omega,by omega,by omega,by omega,by omega,by omega,q1,q2,by rw [hT2]; simpa using hTl,hfr2⟩
       rcases hstop with hae | h10
       ·have hda:decide (a < t.length)=false:=by simp; omega
        simp only [go_sem,simprocAttr,hl,h0]
        refine ay au (by kernel_rfl) ?_
        simp only [go_sem,simprocAttr,hl,h0,hb2,TkC.l1,TkC.l0,hda]
        refine back _ T2 _ a ln bg op (some ⟨bl,el,ws⟩) es k hia hal (hTI2 _ hce2 hst2) (by omega) hrd ?_ ?_ ?_ ?_
        all_goals simp only [go_sem,simprocAttr,hl,h0,h2,h3]
       ·have hda:decide (a < t.length)=true:=by simpa using (List.getElem?_eq_some_iff.1 h10).1
        have gx:(((10:UInt8).toNat:Int) != 10)=false:=rfl
        simp only [go_sem,simprocAttr,hl,h0]
        refine ay au (by kernel_rfl) ?_
        simp only [go_sem,simprocAttr,hl,h0,hb2,TkC.l1,TkC.l0,hda,h10,gx]
        refine back _ T2 _ a ln bg op (some ⟨bl,el,ws⟩) es k hia hal (hTI2 _ hce2 hst2) (by omega) hrd ?_ ?_ ?_ ?_
        all_goals simp only [go_sem,simprocAttr,hl,h0,h2,h3]
      ·have hal2:a < t.length:=by
        rcases Nat.lt_or_ge a t.length with h | h
        ·exact h
        ·exact absurd (.inl (by omega)) hstop
       obtain ⟨d,hd⟩:∃ d,t[a]?=some d:=⟨t[a],List.getElem?_eq_getElem hal2⟩
       have hd10:d≠10:=fun h=>hstop (.inr (h ▸ hd))
       have hda:decide (a < t.length)=true:=by simpa using hal2
       have gx:((d.toNat:Int) != 10)=true:=by
        have:=eX hd10
        rw [bne,show ((d.toNat:Int) == 10)=false from this]; rfl
       have wa:=aS (show a < 9223372036854775807 by omega)
       have hset:∀ y,T2.set j y=T.set j y:=fun y=>by rw [hT2,List.set_set]
       simp only [go_sem,simprocAttr,hl,h0]
       refine ay au (by kernel_rfl) ?_
       simp only [go_sem,simprocAttr,hl,h0,hb2,TkC.l1,TkC.l0,hda,hd,gx,wa,TkC.len,TkC.s1,hset]
       refine ⟨n - 1,by omega,_,a+1,_,_,by omega,by omega,by omega,rfl,rfl,?_,aV.2 ⟨hce2,hcl⟩,hst2.imp_left (fun h=>h.l _),?_,?_,?_,?_⟩
       ·rw [hrem,EF hd,if_neg hd10]
       all_goals simp only [go_sem,simprocAttr,hl,h0,h2,h3]
     ·rw [if_neg c59] at hrd
      have g59:((c.toNat:Int) == 59)=false:=eX c59
      have hsp:=fun k=>rT (H++T1) (H.length+j) t (i+1) ln bg vo bl el vw ve true (by rw [bX]; exact hb1) i hbg (by omega) k
      have hg21:∀ y,(T1.set j y)[j]?=some y:=fun y=>List.getElem?_set_self (ai hb1)
      by_cases c40:c=40
      ·rw [if_pos c40] at hrd
       subst c40
       have g40:(((40:UInt8).toNat:Int) == 40)=true:=rfl
       obtain ⟨y,hy⟩:∃ y:bp,y=.cells [.int .i64 ln,.int .i64 (i - bg+1:Nat)] 38 .rw:=⟨_,rfl⟩
       have hO1':Oo H.length (T1++[y]) vo op:=hO1.fr (fun m z _ hz=>ah hz)
       obtain ⟨v',T2,e2,happ,hlen2,hcl2,hkp,hO2,hflv,hqu,hbk⟩:=hO1'.app (ln,i - bg+1) (by simp only [fits,decide_eq_true_eq]; omega)
       have hkj:=hkp j _ (hO1.ne hb1 (by decide)) (ah hb1)
       have hrdy:rdC 0 2 y=some [.int .i64 ln,.int .i64 (i - bg+1:Nat)]:=by rw [hy]; rfl
       have g1:(T1++[y])[j]?=some (.cells (TkC t (i+1) ln bg vo bl el vw ve true) 93 .rw):=ah hb1
       have n1:(T1++[y])[T1.length]?=some y:=by simp
       have q1:∀ (v:AV) (e:Ef),quiet (v,H++(T1++[y]),e) (H++T1)=false:=by intro v e; simp [quiet]
       obtain ⟨hsc2,hvc2⟩:=hO2.scl
       have hbs:=fun H=>Hj ln (i - bg+1:Nat) H
       rw [← hy] at hbs
       simp only [go_sem,simprocAttr,hl,h0,g10,g59,g40]
       refine ay au (by kernel_rfl) ?_
       simp only [go_sem,simprocAttr,hl,h0,hb1,TkC.l4,↓hsp,hbs,hrdy,n1,happ,hqu,q1,hkj,TkC.len,TkC.s4,hvc2,hsc2,hflv,List.append_assoc,List.cons_append,List.nil_append]
       refine ⟨by rcases uw 9 e2 with h | h <;> rw [h] <;> kernel_rfl,?_⟩
       have hw3:bZ H.length T2 vw 63 4 ws.length (cA ws):=hw1.fr (fun m z hm hz=>hkp m z (fun h=>hO1.nb hw1 (by decide) h hm) (ah hz))
       have hE3:Eo H T2 ve es:=hE1.fr (fun m z hm hz=>hkp m z (fun h=>by
        rcases hm with hm | ⟨x,hx,hm⟩
        ·exact hO1.nb hE1.1 (by decide) h hm
        ·exact hO1.nb (hE1.2 x hx).2 (by decide) h hm) (ah hz))
       have hfr3:∀ (Y:bp) x c e',x≠j→(T00++[.cells [.int .i64 0,.int .i64 0] 38 .rw])[x]?=some (.cells c e' .rw)→(T2.set j Y)[x]?=some (.cells c e' .rw):=fun Y x c e' hx h=>by
        rw [List.getElem?_set_ne (Ne.symm hx)]
        exact hkp x _ (hO1.nrw (hfr1 x c e' hx h)) (ah (hfr1 x c e' hx h))
       have hTl3:T00.length+1≤T2.length:=by rw [List.length_append] at hlen2; omega
       have hol3:(op++[(ln,i - bg+1)]).length≤i+1:=by rw [List.length_append,List.length_singleton]; omega
       refine back _ (T2.set j (.cells (TkC t (i+1) ln bg v' bl el vw ve true) 93 .rw)) _ (i+1) ln bg (op++[(ln,i - bg+1)]) (some ⟨bl,el,ws⟩) es k (by omega) (by omega) ⟨v',bl,el,vw,ve,true,ws,List.getElem?_set_self (ai hkj),hO2.set hkj,hw3.set hkj,hE3.set hkj,hdj,.inl ⟨rfl,rfl⟩,by omega,by omega,by omega,by omega,by omega,hol3,?_,.inl (Sto.this.r _),by simpa using hTl3,hfr3 _⟩ (by omega) (by rw [hcb]; exact hrd) ?_ ?_ ?_ ?_
       ·simp only [aV,lV,b7,hce,hcl2,true_and,and_true]; omega
       all_goals simp only [go_sem,simprocAttr,hl,h0,h2,h3]
      ·rw [if_neg c40] at hrd
       have g40:((c.toNat:Int) == 40)=false:=eX c40
       by_cases c41:c=41
       ·rw [if_pos c41] at hrd
        subst c41
        have g41:(((41:UInt8).toNat:Int) == 41)=true:=rfl
        have hlo:=hO1.len
        by_cases hop:op=[]
        ·rw [if_pos hop] at hrd
         subst hop
         have hz:((([]:List (Nat × Nat)).length:Int) == 0)=true:=rfl
         have hsb:T1[T00.length]?=some (.cells [.int .i64 0,.int .i64 0] 38 .rw):=hfr1 T00.length _ _ (by have:=ai hb0; omega) (by simp)
         have hss:∀ y,(T1.set T00.length y)[T00.length]?=some y:=fun y=>List.getElem?_set_self (ai hsb)
         simp only [go_sem,simprocAttr,hl,h0,h2,g10,g59,g40,g41,hb1,TkC.l4,hlo,hz,↓hsp,hsb,hss]
         exact vu hrd (by omega) (fun x c e' hx h=>hfr1 x c e' hx (ah h)) hce1 _
        ·rw [if_neg hop] at hrd
         have hpos:=List.length_pos_iff.2 hop
         have hz:((op.length:Int) == 0)=false:=by rw [beq_eq_false_iff_ne]; omega
         have wm:IntKind.i64.wrap ((op.length:Int) - 1)=((op.length - 1:Nat):Int):=by rw [wrap_i64 (by omega)]; omega
         obtain ⟨v',hsl,hO2,hflv,hbk⟩:=hO1.pop hop
         obtain ⟨hsc2,hvc2⟩:=hO2.scl
         simp only [go_sem,simprocAttr,hl,h0,h2,g10,g59,g40,g41,hb1,TkC.l4,hlo,hz]
         refine ay au (by kernel_rfl) ?_
         simp only [go_sem,simprocAttr,hl,h0,hb1,TkC.l4,hlo,wm,hsl,TkC.len,TkC.s4,hvc2,hsc2,hflv]
         refine ⟨(by kernel_rfl:bN _ _ _=true),?_⟩
         have hg2':=hg21
         have hfr3:∀ (Y:bp) x c e',x≠j→(T00++[.cells [.int .i64 0,.int .i64 0] 38 .rw])[x]?=some (.cells c e' .rw)→(T1.set j Y)[x]?=some (.cells c e' .rw):=fun Y x c e' hx h=>by
          rw [List.getElem?_set_ne (Ne.symm hx)]
          exact hfr1 x c e' hx h
         have hol3:op.dropLast.length≤i+1:=by rw [List.length_dropLast]; omega
         refine back _ (T1.set j (.cells (TkC t (i+1) ln bg v' bl el vw ve true) 93 .rw)) _ (i+1) ln bg op.dropLast (some ⟨bl,el,ws⟩) es k (by omega) (by omega) ⟨v',bl,el,vw,ve,true,ws,hg21 _,hO2.set hb1,hw1.set hb1,hE1.set hb1,hdj,.inl ⟨rfl,rfl⟩,by omega,by omega,by omega,by omega,by omega,hol3,?_,.inl (Sto.this.r _),by simpa using hTl1,hfr3 _⟩ (by omega) (by rw [hcb]; exact hrd) ?_ ?_ ?_ ?_
         ·simp only [aV,lV,b7,hce,true_and,and_true]; omega
         all_goals simp only [go_sem,simprocAttr,hl,h0,h2,h3]
       ·rw [if_neg c41] at hrd
        have g41:((c.toNat:Int) == 41)=false:=eX c41
        by_cases c34:c=34
        ·rw [if_pos c34] at hrd
         subst c34
         have g34:(((34:UInt8).toNat:Int) == 34)=true:=rfl
         simp only [go_sem,simprocAttr,hl,h0,g10,g59,g40,g41,g34]
         have hsb:T[T00.length]?=some (.cells [.int .i64 0,.int .i64 0] 38 .rw):=hfr T00.length _ _ (by have:=ai hb0; omega) (by simp)
         refine sK (fun n st=>∃ σ a T2 e2,n+a=t.length∧i < a∧a≤t.length∧T2=T.set j (.cells (TkC t a ln bg vo bl el vw ve true) 93 .rw)∧st=⟨σ,H++T2,e2⟩∧QuA t (i+1) a∧clean H.length e2∧(Sto (H.length+j) e2∨(vo=.aI∧vw=.aI∧ve=.aI))∧σ.length=345∧fr σ 0=.ptr (H.length+j) 0∧fr σ 2=.ptr (H.length+T00.length) 0∧fr σ 3=.int .i64 0∧fr σ 4=.int .i64 i) (t.length - (i+1))
          ⟨_,i+1,T1,_,by omega,by omega,by omega,hT1,rfl,QuA.refl _ _,hce1,hst1,by simp only [go_sem,simprocAttr,hl],by simp only [go_sem,simprocAttr,hl,h0],by simp only [go_sem,simprocAttr,hl,h2],by simp only [go_sem,simprocAttr,hl,h3],by simp only [go_sem,simprocAttr,hl]⟩ rfl ?_
         clear hl h0 h2 h3
         rintro n σ' H' e' ⟨σ,a,T2,e2,hna,hia,hal,hT2,heq,hqa,hce2,hst2,hl,h0,h2,h3,h4⟩ ih3
         cases heq
         have hb2:T2[j]?=some (.cells (TkC t a ln bg vo bl el vw ve true) 93 .rw):=by rw [hT2]; exact hg2 _
         have hs2:T2[T00.length]?=some (.cells [.int .i64 0,.int .i64 0] 38 .rw):=by rw [hT2,List.getElem?_set_ne (by have:=ai hb0; omega)]; exact hsb
         have hsp2:=fun k=>rT (H++T2) (H.length+j) t a ln bg vo bl el vw ve true (by rw [bX]; exact hb2) i hbg (by omega) k
         have hss:∀ y,(T2.set T00.length y)[T00.length]?=some y:=fun y=>List.getElem?_set_self (ai hs2)
         have hfr2:∀ x c e',x≠j→T00[x]?=some (.cells c e' .rw)→T2[x]?=some (.cells c e' .rw):=fun x c e' hx h=>by rw [hT2,List.getElem?_set_ne (Ne.symm hx)]; exact hfr x c e' hx (ah h)
         have hTl2:T00.length≤T2.length:=by rw [hT2,List.length_set]; omega
         by_cases hae:a=t.length
         ·have hqe:(a == t.length)=true:=by simpa using hae
          have hqe2:((a:Int) == (t.length:Int))=true:=by rw [hae]; simp
          rw [hqa.bad (.inl (List.getElem?_eq_none (by omega)))] at hrd
          simp only [go_sem,simprocAttr,hl,h0]
          refine ay au (by kernel_rfl) ?_
          simp only [go_sem,simprocAttr,hl,h0,h2,h4,hb2,TkC.l1,TkC.l0,hqe,hqe2,↓hsp2,hs2,hss]
          exact vu hrd hTl2 hfr2 hce2 _
         ·obtain ⟨d,hd⟩:∃ d,t[a]?=some d:=⟨t[a]'(by omega),List.getElem?_eq_getElem (by omega)⟩
          have hqe:(a == t.length)=false:=by simpa using hae
          have hqe2:((a:Int) == (t.length:Int))=false:=by rw [beq_eq_false_iff_ne]; omega
          by_cases d10:d=10
          ·subst d10
           have gd:(((10:UInt8).toNat:Int) == 10)=true:=rfl
           rw [hqa.bad (.inr hd)] at hrd
           simp only [go_sem,simprocAttr,hl,h0]
           refine ay au (by kernel_rfl) ?_
           simp only [go_sem,simprocAttr,hl,h0,h2,h4,hb2,TkC.l1,TkC.l0,hqe,hqe2,hd,gd,↓hsp2,hs2,hss]
           exact vu hrd hTl2 hfr2 hce2 _
          ·have gd10:((d.toNat:Int) == 10)=false:=eX d10
           have wa:=aS (show a < 9223372036854775807 by omega)
           have wa2:=aS (show a+1 < 9223372036854775807 by omega)
           have hset:∀ y,T2.set j y=T.set j y:=fun y=>by rw [hT2,List.set_set]
           simp only [go_sem,simprocAttr,hl,h0]
           refine ay au (by kernel_rfl) ?_
           simp only [go_sem,simprocAttr,hl,h0,h2,h4,hb2,TkC.l1,TkC.l0,hqe,hqe2,hd,gd10]
           refine ay au (by kernel_rfl) ?_
           simp only [go_sem,simprocAttr,hl,h0,h2,h4,hb2,TkC.l1,TkC.l0,hd,wa,TkC.len,TkC.s1,hset]
           by_cases d92:d=92
           ·subst d92
            have g92:(((92:UInt8).toNat:Int) == 92)=true:=rfl
            have g34:(((92:UInt8).toNat:Int) != 34)=true:=rfl
            by_cases hlt2:a+1 < t.length
            ·have hdl:decide (a+1 < t.length)=true:=by simpa using hlt2
             obtain ⟨f,hf⟩:∃ f,t[a+1]?=some f:=⟨t[a+1],List.getElem?_eq_getElem hlt2⟩
             by_cases f10:f=10
             ·subst f10
              have gf:(((10:UInt8).toNat:Int) != 10)=false:=rfl
              refine ay au (by kernel_rfl) ?_
              simp only [go_sem,simprocAttr,hl,h0,h2,h4,hg2,TkC.l1,TkC.l0,g92,hdl,hf,gf,g34]
              refine ih3 (n - 1) _ (by omega) ⟨_,a+1,T.set j (.cells (TkC t (a+1) ln bg vo bl el vw ve true) 93 .rw),_,by omega,by omega,by omega,rfl,rfl,hqa.one (by omega) hd d10 (by decide) (fun _=>.inr hf),?_,?_,?_,?_,?_,?_,?_⟩
              ·simp only [aV,b7,hce2,true_and,and_true]; omega
              ·exact hst2.imp_left (fun h=>by first | exact (h.l _).l _ | exact h.l _)
              all_goals simp only [go_sem,simprocAttr,hl,h0,h2,h3,h4]
             ·have gf:((f.toNat:Int) != 10)=true:=by
               rw [bne,show ((f.toNat:Int) == 10)=false from eX f10]; rfl
              refine ay au (by kernel_rfl) ?_
              simp only [go_sem,simprocAttr,hl,h0,h2,h4,hg2,TkC.l1,TkC.l0,g92,hdl,hf,gf,g34,wa2,TkC.len,TkC.s1,List.set_set]
              refine ih3 (n - 2) _ (by omega) ⟨_,a+2,T.set j (.cells (TkC t (a+2) ln bg vo bl el vw ve true) 93 .rw),_,by omega,by omega,by omega,rfl,rfl,hqa.two (by omega) hd hf f10,?_,?_,?_,?_,?_,?_,?_⟩
              ·simp only [aV,b7,hce2,true_and,and_true]; omega
              ·exact hst2.imp_left (fun h=>by first | exact (h.l _).l _ | exact h.l _)
              all_goals simp only [go_sem,simprocAttr,hl,h0,h2,h3,h4]
            ·have hdl:decide (a+1 < t.length)=false:=by simpa using hlt2
             refine ay au (by kernel_rfl) ?_
             simp only [go_sem,simprocAttr,hl,h0,h2,h4,hg2,TkC.l1,TkC.l0,g92,hdl,g34]
             refine ih3 (n - 1) _ (by omega) ⟨_,a+1,T.set j (.cells (TkC t (a+1) ln bg vo bl el vw ve true) 93 .rw),_,by omega,by omega,by omega,rfl,rfl,hqa.one (by omega) hd d10 (by decide) (fun _=>.inl (List.getElem?_eq_none (by omega))),?_,?_,?_,?_,?_,?_,?_⟩
             ·simp only [aV,b7,hce2,true_and,and_true]; omega
             ·exact hst2.imp_left (fun h=>by first | exact (h.l _).l _ | exact h.l _)
             all_goals simp only [go_sem,simprocAttr,hl,h0,h2,h3,h4]
           ·have g92:((d.toNat:Int) == 92)=false:=eX d92
            by_cases d34:d=34
            ·subst d34
             have g34:(((34:UInt8).toNat:Int) != 34)=false:=rfl
             have hal2:a < t.length:=by omega
             obtain ⟨T3,hT3⟩:∃ T3,T3=T.set j (.cells (TkC t (a+1) ln bg vo bl el vw ve true) 93 .rw):=⟨_,rfl⟩
             have hb3:T3[j]?=some (.cells (TkC t (a+1) ln bg vo bl el vw ve true) 93 .rw):=by rw [hT3]; exact hg2 _
             have hO3:Oo H.length T3 vo op:=by rw [hT3]; exact hO.set hb
             have hw3:bZ H.length T3 vw 63 4 ws.length (cA ws):=by rw [hT3]; exact hw.set hb
             have hE3:Eo H T3 ve es:=by rw [hT3]; exact hE.set hb
             have hfr3:∀ x c e',x≠j→(T00++[.cells [.int .i64 0,.int .i64 0] 38 .rw])[x]?=some (.cells c e' .rw)→T3[x]?=some (.cells c e' .rw):=fun x c e' hx h=>by rw [hT3,List.getElem?_set_ne (Ne.symm hx)]; exact hfr x c e' hx h
             obtain ⟨b,⟨p1,p2,p3,p4,p6,p5⟩,hput⟩:=vJ H T3 j t (a+1) ln bg vo bl el vw ve true ws hb3 hw3 i (a+1) true hbg (by omega) (fun _=>by omega) (by omega) ht (by omega)
             rw [hqa.fin hd] at hrd
             simp only [] at hrd
             have hwd:lC t i (a+1) true ln bg=⟨(t.drop (i+1)).take (a - (i+1)),true,(ln:Nat),((i - bg+1:Nat):Int)⟩:=by
              unfold lC
              rw [if_pos rfl,show a+1 - 1 - (i+1)=a - (i+1) by omega]
             have hcol:i - bg+1+2+((t.drop (i+1)).take (a - (i+1))).length=a+1 - bg+1:=by rw [List.length_take,List.length_drop]; omega
             rw [hcol,← hwd] at hrd
             have hfr4:∀ x c e',x≠j→(T00++[.cells [.int .i64 0,.int .i64 0] 38 .rw])[x]?=some (.cells c e' .rw)→b.2.1[x]?=some (.cells c e' .rw):=fun x c e' hx h=>p5 x _ hx (hw3.nrw (hfr3 x c e' hx h)) (hfr3 x c e' hx h)
             have hTl4:T00.length+1≤b.2.1.length:=by
              have:=ai (hfr4 T00.length [.int .i64 0,.int .i64 0] 38 (by have:=ai hb0; omega) (by simp))
              omega
             have hO4:Oo H.length b.2.1 vo op:=hO3.fr (fun m y hm hy=>p5 m y (fun h=>hO3.ne (h ▸ hb3) (by decide) hm) (hO3.nb hw3 (by decide) hm) hy)
             have hE4:Eo H b.2.1 ve es:=hE3.fr (fun m y hm hy=>by
              rcases hm with hm | ⟨x,hx,hm⟩
              ·exact p5 m y (fun h=>hE3.1.ne (h ▸ hb3) (by decide) hm) (hw3.nb hE3.1 (by decide) hm) hy
              ·exact p5 m y (fun h=>(hE3.2 x hx).2.ne (h ▸ hb3) (by decide) hm) (hdj x hx m hm) hy)
             have hdj4:∀ x ∈ es,∀ m,bkT H.length x.2 m→¬ bkT H.length b.1 m:=by
              intro x hx m hm h
              have h1:=p6 m h
              obtain ⟨q,hq⟩:=hm
              rcases (hE3.2 x hx).2 with ⟨h2,_⟩ | ⟨_,_,m',h2,h3⟩
              ·rw [h2] at hq; cases hq
              ·rw [hq] at h2
               injection h2 with h2
               have:=ai h3
               omega
             have hws4:(ws++[lC t i (a+1) true ln bg]).length=ws.length+1:=by simp
             refine ay au (by kernel_rfl) ?_
             simp only [go_sem,simprocAttr,hl,h0,h2,h4,hg2,TkC.l1,TkC.l0,g92,g34,← hT3,hb3,↓hput]
             refine back _ b.2.1 _ (a+1) ln bg op (some ⟨bl,el,ws++[lC t i (a+1) true ln bg]⟩) es k (by omega) (by omega) ⟨vo,bl,el,b.1,ve,true,_,p1,hO4,by rw [hws4]; exact p2,hE4,hdj4,.inl ⟨rfl,rfl⟩,by omega,by omega,by omega,by omega,by omega,by omega,?_,.inl (p4.r _),by simpa using hTl4,hfr4⟩ (by omega) hrd ?_ ?_ ?_ ?_
             ·simp only [aV,b7,hce2,p3,true_and,and_true]; omega
             all_goals simp only [go_sem,simprocAttr,hl,h0,h2,h3,h4]
            ·have g34:((d.toNat:Int) != 34)=true:=by
              rw [bne,show ((d.toNat:Int) == 34)=false from eX d34]; rfl
             refine ay au (by kernel_rfl) ?_
             simp only [go_sem,simprocAttr,hl,h0,h2,h4,hg2,TkC.l1,TkC.l0,g92,g34]
             refine ih3 (n - 1) _ (by omega) ⟨_,a+1,T.set j (.cells (TkC t (a+1) ln bg vo bl el vw ve true) 93 .rw),_,by omega,by omega,by omega,rfl,rfl,hqa.one (by omega) hd d10 d34 (fun h=>absurd h d92),?_,?_,?_,?_,?_,?_,?_⟩
             ·simp only [aV,b7,hce2,true_and,and_true]; omega
             ·exact hst2.imp_left (fun h=>by first | exact (h.l _).l _ | exact h.l _)
             all_goals simp only [go_sem,simprocAttr,hl,h0,h2,h3,h4]
        ·rw [if_neg c34] at hrd
         have g34:((c.toNat:Int) == 34)=false:=eX c34
         have wm:IntKind.i64.wrap (((i+1:Nat):Int) - 1)=(i:Nat):=by rw [wrap_i64 (by omega)]; omega
         have hset1:∀ y,T1.set j y=T.set j y:=fun y=>by rw [hT1,List.set_set]
         have hcs:sM c=false:=by
          unfold sM
          simp [hbc,c10,c59,c40,c41,c34]
         simp only [go_sem,simprocAttr,hl,h0,g10,g59,g40,g41,g34,hb1,TkC.l1,wm,TkC.len,TkC.s1,hset1]
         rw [mV rfl]
         refine sK (fun n st=>∃ σ a T2 e2,n+a=t.length∧i≤a∧a≤t.length∧T2=T.set j (.cells (TkC t a ln bg vo bl el vw ve true) 93 .rw)∧st=⟨σ,H++T2,e2⟩∧BaA t i a∧clean H.length e2∧(Sto (H.length+j) e2∨(vo=.aI∧vw=.aI∧ve=.aI))∧σ.length=345∧fr σ 0=.ptr (H.length+j) 0∧fr σ 2=.ptr (H.length+T00.length) 0∧fr σ 3=.int .i64 0∧fr σ 4=.int .i64 i) (t.length - i)
          ⟨_,i,T.set j (.cells (TkC t i ln bg vo bl el vw ve true) 93 .rw),_,by omega,by omega,by omega,rfl,rfl,BaA.refl _ _,aV.2 ⟨hce1,hcl⟩,hst1.imp_left (fun h=>h.l _),by simp only [go_sem,simprocAttr,hl],by simp only [go_sem,simprocAttr,hl,h0],by simp only [go_sem,simprocAttr,hl,h2],by simp only [go_sem,simprocAttr,hl,h3],by simp only [go_sem,simprocAttr,hl]⟩ rfl ?_
         clear hl h0 h2 h3
         rintro n σ' H' e' ⟨σ,a,T2,e2,hna,hia,hal,hT2,heq,hqa,hce2,hst2,hl,h0,h2,h3,h4⟩ ih5
         cases heq
         have hb2:T2[j]?=some (.cells (TkC t a ln bg vo bl el vw ve true) 93 .rw):=by rw [hT2]; exact hg2 _
         have hset:∀ y,T2.set j y=T.set j y:=fun y=>by rw [hT2,List.set_set]
         by_cases hae:a=t.length
         ·have hqe:(a == t.length)=true:=by simpa using hae
          have hqe2:((a:Int) == (t.length:Int))=true:=by rw [hae]; simp
          simp only [go_sem,simprocAttr,hl,h0]
          refine ay au (by kernel_rfl) ?_
          simp only [go_sem,simprocAttr,hl,h0,h2,h4,hb2,TkC.l1,TkC.l0,hqe,hqe2]
          have hlt9:i < a:=by omega
          rw [dG,show findLabel _ 4=some _ from rfl,dX]
          have hO3:Oo H.length T2 vo op:=by rw [hT2]; exact hO.set hb
          have hw3:bZ H.length T2 vw 63 4 ws.length (cA ws):=by rw [hT2]; exact hw.set hb
          have hE3:Eo H T2 ve es:=by rw [hT2]; exact hE.set hb
          have hfr3:∀ x c e',x≠j→(T00++[.cells [.int .i64 0,.int .i64 0] 38 .rw])[x]?=some (.cells c e' .rw)→T2[x]?=some (.cells c e' .rw):=fun x c e' hx h=>by rw [hT2,List.getElem?_set_ne (Ne.symm hx)]; exact hfr x c e' hx h
          obtain ⟨b,⟨p1,p2,p3,p4,p6,p5⟩,hput⟩:=vJ H T2 j t a ln bg vo bl el vw ve true ws hb2 hw3 i a false hbg hia (fun h=>by cases h) hal ht (by omega)
          have hfin:=hqa.fin (.inl (List.getElem?_eq_none (by omega)))
          rw [← hdc,hfin] at hrd
          simp only [] at hrd
          have hwd:lC t i a false ln bg=⟨(t.drop i).take (a - i),false,(ln:Nat),((i - bg+1:Nat):Int)⟩:=by unfold lC; rw [if_neg (by decide)]
          have hcol:i - bg+1+((t.drop i).take (a - i)).length=a - bg+1:=by rw [List.length_take,List.length_drop]; omega
          rw [hcol,← hwd] at hrd
          have hfr4:∀ x c e',x≠j→(T00++[.cells [.int .i64 0,.int .i64 0] 38 .rw])[x]?=some (.cells c e' .rw)→b.2.1[x]?=some (.cells c e' .rw):=fun x c e' hx h=>p5 x _ hx (hw3.nrw (hfr3 x c e' hx h)) (hfr3 x c e' hx h)
          have hTl4:T00.length+1≤b.2.1.length:=by
           have:=ai (hfr4 T00.length [.int .i64 0,.int .i64 0] 38 (by have:=ai hb0; omega) (by simp))
           omega
          have hO4:Oo H.length b.2.1 vo op:=hO3.fr (fun m y hm hy=>p5 m y (fun h=>hO3.ne (h ▸ hb2) (by decide) hm) (hO3.nb hw3 (by decide) hm) hy)
          have hE4:Eo H b.2.1 ve es:=hE3.fr (fun m y hm hy=>by
           rcases hm with hm | ⟨x,hx,hm⟩
           ·exact p5 m y (fun h=>hE3.1.ne (h ▸ hb2) (by decide) hm) (hw3.nb hE3.1 (by decide) hm) hy
           ·exact p5 m y (fun h=>(hE3.2 x hx).2.ne (h ▸ hb2) (by decide) hm) (hdj x hx m hm) hy)
          have hdj4:∀ x ∈ es,∀ m,bkT H.length x.2 m→¬ bkT H.length b.1 m:=by
           intro x hx m hm h
           have h1:=p6 m h
           obtain ⟨q,hq⟩:=hm
           rcases (hE3.2 x hx).2 with ⟨h2,_⟩ | ⟨_,_,m',h2,h3⟩
           ·rw [h2] at hq; cases hq
           ·rw [hq] at h2
            injection h2 with h2
            have:=ai h3
            omega
          have hws4:(ws++[lC t i a false ln bg]).length=ws.length+1:=by simp
          simp only [go_sem,simprocAttr,hl,h0,h4,hb2,TkC.l1,↓hput]
          refine back _ b.2.1 _ a ln bg op (some ⟨bl,el,ws++[lC t i a false ln bg]⟩) es k hlt9 hal ⟨vo,bl,el,b.1,ve,true,_,p1,hO4,by rw [hws4]; exact p2,hE4,hdj4,.inl ⟨rfl,rfl⟩,by omega,by omega,by omega,by omega,by omega,by omega,aV.2 ⟨hce2,p3⟩,.inl (p4.r _),by simpa using hTl4,hfr4⟩ (by omega) hrd ?_ ?_ ?_ ?_
          all_goals simp only [go_sem,simprocAttr,hl,h0,h2,h3,h4]
         ·obtain ⟨d,hd⟩:∃ d,t[a]?=some d:=⟨t[a]'(by omega),List.getElem?_eq_getElem (by omega)⟩
          have hqe:(a == t.length)=false:=by simpa using hae
          have hqe2:((a:Int) == (t.length:Int))=false:=by rw [beq_eq_false_iff_ne]; omega
          have hbl2:=fun H' k=>pG d H' k
          simp only [go_sem,simprocAttr,hl,h0]
          refine ay au (by kernel_rfl) ?_
          simp only [go_sem,simprocAttr,hl,h0,h2,h4,hb2,TkC.l1,TkC.l0,hqe,hqe2]
          refine ay au (by kernel_rfl) ?_
          simp only [go_sem,simprocAttr,hl,h0,h2,h4,hb2,TkC.l1,TkC.l0,hd,hbl2]
          refine qj (fun st=>∃ σ e3,st=⟨σ,H++T2,e3⟩∧fr σ 155=.bool (sM d)∧fr σ 5=.int .u8 d.toNat∧σ.length=345∧fr σ 0=.ptr (H.length+j) 0∧fr σ 2=.ptr (H.length+T00.length) 0∧fr σ 3=.int .i64 0∧fr σ 4=.int .i64 i∧clean H.length e3∧(Sto (H.length+j) e3∨(vo=.aI∧vw=.aI∧ve=.aI))) (fun hbd=>?_) (fun hbd=>?_) ?_
          ·simp only [go_sem,simprocAttr,hl]
           exact ⟨_,_,rfl,by simp only [go_sem,simprocAttr,hl,hbd]; simp [sM,hbd],by simp only [go_sem,simprocAttr,hl],by simp only [go_sem,simprocAttr,hl],by simp only [go_sem,simprocAttr,hl,h0],by simp only [go_sem,simprocAttr,hl,h2],by simp only [go_sem,simprocAttr,hl,h3],by simp only [go_sem,simprocAttr,hl,h4],hce2,hst2⟩
          ·simp only [go_sem,simprocAttr,hl]
           by_cases d10:d=10
           ·subst d10
            simp only [go_sem,simprocAttr,hl,show (((10:UInt8).toNat:Int) == 10)=true from rfl]
            exact ⟨_,_,rfl,by simp only [go_sem,simprocAttr,hl]; rfl,by simp only [go_sem,simprocAttr,hl],by simp only [go_sem,simprocAttr,hl],by simp only [go_sem,simprocAttr,hl,h0],by simp only [go_sem,simprocAttr,hl,h2],by simp only [go_sem,simprocAttr,hl,h3],by simp only [go_sem,simprocAttr,hl,h4],hce2,hst2⟩
           ·have q10:((d.toNat:Int) == 10)=false:=eX d10
            by_cases d59:d=59
            ·subst d59
             simp only [go_sem,simprocAttr,hl,show (((59:UInt8).toNat:Int) == 59)=true from rfl,show (((59:UInt8).toNat:Int) == 10)=false from rfl]
             exact ⟨_,_,rfl,by simp only [go_sem,simprocAttr,hl]; rfl,by simp only [go_sem,simprocAttr,hl],by simp only [go_sem,simprocAttr,hl],by simp only [go_sem,simprocAttr,hl,h0],by simp only [go_sem,simprocAttr,hl,h2],by simp only [go_sem,simprocAttr,hl,h3],by simp only [go_sem,simprocAttr,hl,h4],hce2,hst2⟩
            ·have q59:((d.toNat:Int) == 59)=false:=eX d59
             by_cases d40:d=40
             ·subst d40
              simp only [go_sem,simprocAttr,hl,show (((40:UInt8).toNat:Int) == 40)=true from rfl,show (((40:UInt8).toNat:Int) == 10)=false from rfl,show (((40:UInt8).toNat:Int) == 59)=false from rfl]
              exact ⟨_,_,rfl,by simp only [go_sem,simprocAttr,hl]; rfl,by simp only [go_sem,simprocAttr,hl],by simp only [go_sem,simprocAttr,hl],by simp only [go_sem,simprocAttr,hl,h0],by simp only [go_sem,simprocAttr,hl,h2],by simp only [go_sem,simprocAttr,hl,h3],by simp only [go_sem,simprocAttr,hl,h4],hce2,hst2⟩
             ·have q40:((d.toNat:Int) == 40)=false:=eX d40
              by_cases d41:d=41
              ·subst d41
               simp only [go_sem,simprocAttr,hl,show (((41:UInt8).toNat:Int) == 41)=true from rfl,show (((41:UInt8).toNat:Int) == 10)=false from rfl,show (((41:UInt8).toNat:Int) == 59)=false from rfl,show (((41:UInt8).toNat:Int) == 40)=false from rfl]
               exact ⟨_,_,rfl,by simp only [go_sem,simprocAttr,hl]; rfl,by simp only [go_sem,simprocAttr,hl],by simp only [go_sem,simprocAttr,hl],by simp only [go_sem,simprocAttr,hl,h0],by simp only [go_sem,simprocAttr,hl,h2],by simp only [go_sem,simprocAttr,hl,h3],by simp only [go_sem,simprocAttr,hl,h4],hce2,hst2⟩
              ·have q41:((d.toNat:Int) == 41)=false:=eX d41
               by_cases d34:d=34
               ·subst d34
                simp only [go_sem,simprocAttr,hl,show (((34:UInt8).toNat:Int) == 34)=true from rfl,show (((34:UInt8).toNat:Int) == 10)=false from rfl,show (((34:UInt8).toNat:Int) == 59)=false from rfl,show (((34:UInt8).toNat:Int) == 40)=false from rfl,show (((34:UInt8).toNat:Int) == 41)=false from rfl]
                exact ⟨_,_,rfl,by simp only [go_sem,simprocAttr,hl]; rfl,by simp only [go_sem,simprocAttr,hl],by simp only [go_sem,simprocAttr,hl],by simp only [go_sem,simprocAttr,hl,h0],by simp only [go_sem,simprocAttr,hl,h2],by simp only [go_sem,simprocAttr,hl,h3],by simp only [go_sem,simprocAttr,hl,h4],hce2,hst2⟩
               ·have q34:((d.toNat:Int) == 34)=false:=eX d34
                simp only [go_sem,simprocAttr,hl,q10,q59,q40,q41,q34]
                exact ⟨_,_,rfl,by simp only [go_sem,simprocAttr,hl]; simp [sM,hbd,d10,d59,d40,d41,d34],by simp only [go_sem,simprocAttr,hl],by simp only [go_sem,simprocAttr,hl],by simp only [go_sem,simprocAttr,hl,h0],by simp only [go_sem,simprocAttr,hl,h2],by simp only [go_sem,simprocAttr,hl,h3],by simp only [go_sem,simprocAttr,hl,h4],hce2,hst2⟩
          ·clear hl h0 h2 h3 h4
           rintro _ ⟨σ,e3,rfl,h155,h5,hl,h0,h2,h3,h4,hce3,hst3⟩
           have wa:=aS (show a < 9223372036854775807 by omega)
           have wa2:=aS (show a+1 < 9223372036854775807 by omega)
           cases hsd:sM d with
           | true =>
            rw [hsd] at h155
            simp only [go_sem,simprocAttr,hl,h155]
            have hlt9:i < a:=by
             rcases Nat.lt_or_ge i a with h | h
             ·exact h
             ·have:a=i:=by omega
              rw [this] at hd
              have hdc2:d=c:=Option.some.inj (hd.symm.trans hc)
              rw [hdc2,hcs] at hsd
              cases hsd
            rw [dG,show findLabel _ 4=some _ from rfl,dX]
            have hO3:Oo H.length T2 vo op:=by rw [hT2]; exact hO.set hb
            have hw3:bZ H.length T2 vw 63 4 ws.length (cA ws):=by rw [hT2]; exact hw.set hb
            have hE3:Eo H T2 ve es:=by rw [hT2]; exact hE.set hb
            have hfr3:∀ x c e',x≠j→(T00++[.cells [.int .i64 0,.int .i64 0] 38 .rw])[x]?=some (.cells c e' .rw)→T2[x]?=some (.cells c e' .rw):=fun x c e' hx h=>by rw [hT2,List.getElem?_set_ne (Ne.symm hx)]; exact hfr x c e' hx h
            obtain ⟨b,⟨p1,p2,p3,p4,p6,p5⟩,hput⟩:=vJ H T2 j t a ln bg vo bl el vw ve true ws hb2 hw3 i a false hbg hia (fun h=>by cases h) hal ht (by omega)
            have hfin:=hqa.fin (.inr ⟨d,hd,hsd⟩)
            rw [← hdc,hfin] at hrd
            simp only [] at hrd
            have hwd:lC t i a false ln bg=⟨(t.drop i).take (a - i),false,(ln:Nat),((i - bg+1:Nat):Int)⟩:=by unfold lC; rw [if_neg (by decide)]
            have hcol:i - bg+1+((t.drop i).take (a - i)).length=a - bg+1:=by rw [List.length_take,List.length_drop]; omega
            rw [hcol,← hwd] at hrd
            have hfr4:∀ x c e',x≠j→(T00++[.cells [.int .i64 0,.int .i64 0] 38 .rw])[x]?=some (.cells c e' .rw)→b.2.1[x]?=some (.cells c e' .rw):=fun x c e' hx h=>p5 x _ hx (hw3.nrw (hfr3 x c e' hx h)) (hfr3 x c e' hx h)
            have hTl4:T00.length+1≤b.2.1.length:=by
             have:=ai (hfr4 T00.length [.int .i64 0,.int .i64 0] 38 (by have:=ai hb0; omega) (by simp))
             omega
            have hO4:Oo H.length b.2.1 vo op:=hO3.fr (fun m y hm hy=>p5 m y (fun h=>hO3.ne (h ▸ hb2) (by decide) hm) (hO3.nb hw3 (by decide) hm) hy)
            have hE4:Eo H b.2.1 ve es:=hE3.fr (fun m y hm hy=>by
             rcases hm with hm | ⟨x,hx,hm⟩
             ·exact p5 m y (fun h=>hE3.1.ne (h ▸ hb2) (by decide) hm) (hw3.nb hE3.1 (by decide) hm) hy
             ·exact p5 m y (fun h=>(hE3.2 x hx).2.ne (h ▸ hb2) (by decide) hm) (hdj x hx m hm) hy)
            have hdj4:∀ x ∈ es,∀ m,bkT H.length x.2 m→¬ bkT H.length b.1 m:=by
             intro x hx m hm h
             have h1:=p6 m h
             obtain ⟨q,hq⟩:=hm
             rcases (hE3.2 x hx).2 with ⟨h2,_⟩ | ⟨_,_,m',h2,h3⟩
             ·rw [h2] at hq; cases hq
             ·rw [hq] at h2
              injection h2 with h2
              have:=ai h3
              omega
            have hws4:(ws++[lC t i a false ln bg]).length=ws.length+1:=by simp
            simp only [go_sem,simprocAttr,hl,h0,h4,hb2,TkC.l1,↓hput]
            refine back _ b.2.1 _ a ln bg op (some ⟨bl,el,ws++[lC t i a false ln bg]⟩) es k hlt9 hal ⟨vo,bl,el,b.1,ve,true,_,p1,hO4,by rw [hws4]; exact p2,hE4,hdj4,.inl ⟨rfl,rfl⟩,by omega,by omega,by omega,by omega,by omega,by omega,aV.2 ⟨hce3,p3⟩,.inl (p4.r _),by simpa using hTl4,hfr4⟩ (by omega) hrd ?_ ?_ ?_ ?_
            all_goals simp only [go_sem,simprocAttr,hl,h0,h2,h3,h4]
           | false =>
            rw [hsd] at h155
            have hal2:a < t.length:=by omega
            simp only [go_sem,simprocAttr,hl,h155]
            by_cases d92:d=92
            ·subst d92
             have g92:(((92:UInt8).toNat:Int) == 92)=true:=rfl
             by_cases hlt2:a+1 < t.length
             ·have hdl:decide (a+1 < t.length)=true:=by simpa using hlt2
              obtain ⟨f,hf⟩:∃ f,t[a+1]?=some f:=⟨t[a+1],List.getElem?_eq_getElem hlt2⟩
              by_cases f10:f=10
              ·subst f10
               have gf:(((10:UInt8).toNat:Int) != 10)=false:=rfl
               refine ay au (by kernel_rfl) ?_
               simp only [go_sem,simprocAttr,hl,h0,h5,hb2,TkC.l1,TkC.l0,g92,wa,hdl,hf,gf,TkC.len,TkC.s1,hset]
               refine ih5 (n - 1) _ (by omega) ⟨_,a+1,T.set j (.cells (TkC t (a+1) ln bg vo bl el vw ve true) 93 .rw),_,by omega,by omega,by omega,rfl,rfl,hqa.one (by omega) hd hsd (fun _=>.inr hf),?_,?_,?_,?_,?_,?_,?_⟩
               ·simp only [aV,b7,hce3,true_and,and_true]; omega
               ·exact hst3.imp_left (fun h=>by first | exact (h.l _).l _ | exact h.l _)
               all_goals simp only [go_sem,simprocAttr,hl,h0,h2,h3,h4]
              ·have gf:((f.toNat:Int) != 10)=true:=by
                rw [bne,show ((f.toNat:Int) == 10)=false from eX f10]; rfl
               refine ay au (by kernel_rfl) ?_
               simp only [go_sem,simprocAttr,hl,h0,h5,hb2,hg2,TkC.l1,TkC.l0,g92,wa,wa2,hdl,hf,gf,TkC.len,TkC.s1,hset,List.set_set]
               refine ih5 (n - 2) _ (by omega) ⟨_,a+2,T.set j (.cells (TkC t (a+2) ln bg vo bl el vw ve true) 93 .rw),_,by omega,by omega,by omega,rfl,rfl,hqa.two (by omega) hd hf f10,?_,?_,?_,?_,?_,?_,?_⟩
               ·simp only [aV,b7,hce3,true_and,and_true]; omega
               ·exact hst3.imp_left (fun h=>by first | exact (h.l _).l _ | exact h.l _)
               all_goals simp only [go_sem,simprocAttr,hl,h0,h2,h3,h4]
             ·have hdl:decide (a+1 < t.length)=false:=by simpa using hlt2
              refine ay au (by kernel_rfl) ?_
              simp only [go_sem,simprocAttr,hl,h0,h5,hb2,TkC.l1,TkC.l0,g92,wa,hdl,TkC.len,TkC.s1,hset]
              refine ih5 (n - 1) _ (by omega) ⟨_,a+1,T.set j (.cells (TkC t (a+1) ln bg vo bl el vw ve true) 93 .rw),_,by omega,by omega,by omega,rfl,rfl,hqa.one (by omega) hd hsd (fun _=>.inl (List.getElem?_eq_none (by omega))),?_,?_,?_,?_,?_,?_,?_⟩
              ·simp only [aV,b7,hce3,true_and,and_true]; omega
              ·exact hst3.imp_left (fun h=>by first | exact (h.l _).l _ | exact h.l _)
              all_goals simp only [go_sem,simprocAttr,hl,h0,h2,h3,h4]
            ·have g92:((d.toNat:Int) == 92)=false:=eX d92
             refine ay au (by kernel_rfl) ?_
             simp only [go_sem,simprocAttr,hl,h0,h5,hb2,TkC.l1,TkC.l0,g92,wa,TkC.len,TkC.s1,hset]
             refine ih5 (n - 1) _ (by omega) ⟨_,a+1,T.set j (.cells (TkC t (a+1) ln bg vo bl el vw ve true) 93 .rw),_,by omega,by omega,by omega,rfl,rfl,hqa.one (by omega) hd hsd (fun h=>absurd h d92),?_,?_,?_,?_,?_,?_,?_⟩
             ·simp only [aV,b7,hce3,true_and,and_true]; omega
             ·exact hst3.imp_left (fun h=>by first | exact (h.l _).l _ | exact h.l _)
             all_goals simp only [go_sem,simprocAttr,hl,h0,h2,h3,h4]
end Go.Proofs.YtdppgaphcmhffaaGreatDoor.V
namespace Go.Proofs.YtdppgaphcmhffaaGreatDoor.V
open Go
attribute [local irreducible] go bt goD opK ag bx aF aH bC

def tyO (l:List UInt8):Option Nat :=
 if l=[97] then some 1 else if l=[110,115] then some 2 else if l=[99,110,97,109,101] then some 5 else if l=[115,111,97] then some 6 else if l=[112,116,114] then some 12 else
 if l=[109,120] then some 15 else if l=[116,120,116] then some 16 else if l=[97,97,97,97] then some 28 else if l=[115,114,118] then some 33 else
 if l.take 4=[116,121,112,101] then jH (l.drop 4) 65535 else none
theorem ia {i:Nat} (h:i < 9):bB (kXt i)=(([[97],[110,115],[99,110,97,109,101],[115,111,97],[112,116,114],[109,120],[116,120,116],[97,97,97,97],[115,114,118]]:List (List UInt8))[i]?).getD []:=by
 have:i=0∨i=1∨i=2∨i=3∨i=4∨i=5∨i=6∨i=7∨i=8:=by omega
 rcases this with rfl | rfl | rfl | rfl | rfl | rfl | rfl | rfl | rfl <;> decide
theorem HP {i:Nat} (h:i < 9) {l:List UInt8} (hl:bB (kXt i)=l):∃ n:Nat,tyO l=some n∧kT i=(n:Int)∧n < 65536:=by
 rw [ia h] at hl
 have:i=0∨i=1∨i=2∨i=3∨i=4∨i=5∨i=6∨i=7∨i=8:=by omega
 rcases this with rfl | rfl | rfl | rfl | rfl | rfl | rfl | rfl | rfl <;> (subst hl; exact ⟨_,rfl,rfl,by decide⟩)
theorem Bo {l:List UInt8} (h:∀ j,j < 9→bB (kXt j)≠l):tyO l=if l.take 4=[116,121,112,101] then jH (l.drop 4) 65535 else none:=by
 have h0:=h 0 (by decide); have h1:=h 1 (by decide); have h2:=h 2 (by decide); have h3:=h 3 (by decide); have h4:=h 4 (by decide)
 have h5:=h 5 (by decide); have h6:=h 6 (by decide); have h7:=h 7 (by decide); have h8:=h 8 (by decide)
 have h0:([97]:List UInt8)≠l:=fun e=>h0 (by rw [ia (by decide)]; exact e)
 have h1:[110,115]≠l:=fun e=>h1 (by rw [ia (by decide)]; exact e)
 have h2:[99,110,97,109,101]≠l:=fun e=>h2 (by rw [ia (by decide)]; exact e)
 have h3:[115,111,97]≠l:=fun e=>h3 (by rw [ia (by decide)]; exact e)
 have h4:[112,116,114]≠l:=fun e=>h4 (by rw [ia (by decide)]; exact e)
 have h5:[109,120]≠l:=fun e=>h5 (by rw [ia (by decide)]; exact e)
 have h6:[116,120,116]≠l:=fun e=>h6 (by rw [ia (by decide)]; exact e)
 have h7:[97,97,97,97]≠l:=fun e=>h7 (by rw [ia (by decide)]; exact e)
 have h8:[115,114,118]≠l:=fun e=>h8 (by rw [ia (by decide)]; exact e)
 unfold tyO
 rw [if_neg (Ne.symm h0),if_neg (Ne.symm h1),if_neg (Ne.symm h2),if_neg (Ne.symm h3),if_neg (Ne.symm h4),if_neg (Ne.symm h5),if_neg (Ne.symm h6),if_neg (Ne.symm h7),if_neg (Ne.symm h8)]
theorem Fg (n:Nat):bF n≠[]:=by
 unfold bF
 split <;> simp
theorem zQ {n:Nat} (h:n < 10):isD (aC n)=true∧(aC n).toNat - 48=n∧(n≠0→aC n≠48):=by
 have:∀ n:Fin 10,isD (aC n.val)=true∧(aC n.val).toNat - 48=n.val∧(n.val≠0→aC n.val≠48):=by decide
 exact this ⟨n,h⟩
theorem N9 (n:Nat):(bF n).all isD=true∧Bk (bF n)=n∧(n≠0→(bF n)[0]?≠some 48)∧(n < 10→(bF n).length=1):=by
 induction n using Nat.strongRecOn with
 | _ n ih =>
  by_cases h:n < 10
  ·obtain ⟨h1,h2,h3⟩:=zQ h
   have he:bF n=[aC n]:=by unfold bF; exact if_pos h
   rw [he]
   refine ⟨by simp [h1],by simp [Bk,h2],fun hn=>by simpa using h3 hn,fun _=>rfl⟩
  ·have he:bF n=bF (n / 10)++[aC (n % 10)]:=by rw [bF]; exact if_neg h
   obtain ⟨i1,i2,i3,_⟩:=ih (n / 10) (by omega)
   obtain ⟨h1,h2,_⟩:=zQ (n:=n % 10) (by omega)
   rw [he]
   refine ⟨by rw [List.all_append,i1]; simp [h1],?_,fun _=>?_,fun h'=>absurd h' h⟩
   ·have:Bk (bF (n / 10)++[aC (n % 10)])=10*Bk (bF (n / 10))+((aC (n % 10)).toNat - 48):=by simp [Bk]
    rw [this,i2,h2]; omega
   ·have hp:0 < (bF (n / 10)).length:=List.length_pos_iff.2 (Fg _)
    rw [List.getElem?_append_left hp]
    exact i3 (by omega)
theorem Pd {l:List UInt8} {n:Nat} (h:tyO l=some n):n < 65536:=by
 by_cases hk:∃ j,j < 9∧bB (kXt j)=l
 ·obtain ⟨j,hj,hk⟩:=hk
  obtain ⟨m,h1,_,h3⟩:=HP hj hk
  rw [h1] at h; cases h; exact h3
 ·rw [Bo (fun j hj hh=>hk ⟨j,hj,hh⟩)] at h
  split at h
  ·unfold jH at h
   split at h
   ·cases h
   ·split at h
    ·split at h
     ·cases h; omega
     ·cases h
    ·cases h
  ·cases h

theorem LQ (l:List UInt8):jk l [116,121,112,101]=if l.take 4=[116,121,112,101] then (l.drop 4,true) else (l,false):=rfl
theorem Nv {i:Nat} (h:i < 9):(kXt i).length≤5:=by
 have:i=0∨i=1∨i=2∨i=3∨i=4∨i=5∨i=6∨i=7∨i=8:=by omega
 rcases this with rfl | rfl | rfl | rfl | rfl | rfl | rfl | rfl | rfl <;> decide
theorem vY (s:List UInt8) (H k) (hk:Tk H) (hte:Te H) (hs:s.length≤1048576):ag Tryz.prog 48 [.str s] H k=k (.tuple [.int .u16 (((tyO (bB s)).getD 0:Nat)),.bool (tyO (bB s)).isSome],H,z0):=by
 have hmax:s.length≤cg:=by unfold cg; omega
 have hlw:=fun k=>uE s H k hmax
 have hll:(bB s).length=s.length:=by simp [bB]
 obtain ⟨e,kd,hg⟩:=hk
 refine ak (r:=(.tuple [.int .u16 (((tyO (bB s)).getD 0:Nat)),.bool (tyO (bB s)).isSome],H,z0)) ?_ k
 refine aa (n:=40) (rs:=[.tmp 2,.tmp 3]) Tryz.func48 rfl rfl rfl ?_
 intro σ hl ha
 have h0:=ha 0 (by simp)
 clear ha
 simp only [Option.getD_some,List.getElem?_cons_zero,List.getElem?_cons_succ] at h0
 generalize hL:bB s=L at *
 simp only [go_sem,simprocAttr,hl,h0,hlw]
 refine go_rounds (fun n st=>∃ σ i,n+i=9∧(∀ j,j < i→bB (kXt j)≠L)∧st=⟨σ,H,z0⟩∧σ.length=40∧fr σ 0=.str L∧fr σ 11=.int .i64 (i:Nat)) 9
  ⟨_,0,rfl,fun j hj=>by omega,rfl,by simp only [go_sem,simprocAttr,hl],by simp only [go_sem,simprocAttr,hl],by simp only [go_sem,simprocAttr,hl]⟩ ?_
 rintro n _ ⟨σ,i,hn,hall,rfl,hl,h0,h11⟩
 by_cases hlt:i < 9
 ·obtain ⟨l1,_⟩:=sI hlt e kd
  have l2:=zE hlt e kd
  have hw:=aS (show i < 9223372036854775807 by omega)
  have g0:decide ((i:Int) < 9)=true:=by simp; omega
  have b0:(i:Int) < 9:=by omega
  have hlk:=fun k=>uE (kXt i) H k (by have:=Nv hlt; unfold cg; omega)
  by_cases hk:bB (kXt i)=L
  ·have g1:(bB (kXt i) == L)=true:=by rw [hk]; exact beq_self_eq_true _
   obtain ⟨m,hm,hkm,_⟩:=HP hlt hk
   simp only [go_sem,simprocAttr,hl,h0,h11,g0,b0,hg,l1,l2,g1,hlk,hm,hkm,Option.getD_some,Option.isSome_some]
  ·have g1:(bB (kXt i) == L)=false:=by rw [beq_eq_false_iff_ne]; exact hk
   simp only [go_sem,simprocAttr,hl,h0,h11,g0,b0,hg,l1,l2,g1,hlk,hw]
   refine ⟨n - 1,by omega,_,i+1,by omega,fun j hj=>?_,rfl,by simp only [go_sem,simprocAttr,hl],by simp only [go_sem,simprocAttr,hl,h0],by simp only [go_sem,simprocAttr,hl]⟩
   by_cases hji:j=i
   ·rw [hji]; exact hk
   ·exact hall j (by omega)
 ·have g0:decide ((i:Int) < 9)=false:=by simp; omega
  rw [Bo (fun j hj=>hall j (by omega))]
  have hcp:=fun k=>DS L [116,121,112,101] H k (by unfold cg; omega) (by unfold cg; simp)
  rw [LQ] at hcp
  by_cases ht:L.take 4=[116,121,112,101]
  ·rw [if_pos ht] at hcp ⊢
   have hnm:=fun k=>oq (L.drop 4) 16 65535 (.inr (.inl ⟨rfl,rfl⟩)) (by decide) H k hte (by rw [List.length_drop]; omega)
   have hw2:IntKind.u16.wrap ((((jH (L.drop 4) 65535).getD 0:Nat)):Int)=(((jH (L.drop 4) 65535).getD 0:Nat):Int):=by
    refine wrap_u16 ?_
    have:tyO L=jH (L.drop 4) 65535:=by rw [Bo (fun j hj=>hall j (by omega)),if_pos ht]
    cases hq:jH (L.drop 4) 65535 with
    | none=>simp
    | some m=>have:=Pd (this.trans hq); simp; omega
   simp only [go_sem,simprocAttr,hl,h0,h11,g0,hcp,hnm,hw2]
  ·rw [if_neg ht] at hcp ⊢
   simp only [go_sem,simprocAttr,hl,h0,h11,g0,hcp,Option.getD_none,Option.isSome_none]
def two (n:Nat):List UInt8:=[UInt8.ofNat (n / 256),UInt8.ofNat n]
def BP (s:List UInt8):Prop:=∀ j:Nat,s[j]?=some 58→s[j+1]?≠some 58
theorem BP.drop {s:List UInt8} (h:BP s) (i:Nat):BP (s.drop i):=by
 intro j h1 h2
 rw [List.getElem?_drop] at h1 h2
 exact h (i+j) h1 h2
theorem BP.tk {s:List UInt8} (h:BP s) (i:Nat):((s.drop i).take 2 == [58,58])=false:=by
 rw [beq_eq_false_iff_ne]
 intro e
 have h1:s[i]?=some 58:=by have:=congrArg (·[0]?) e; simpa [List.getElem?_take,List.getElem?_drop] using this
 have h2:s[i+1]?=some 58:=by have:=congrArg (·[1]?) e; simpa [List.getElem?_take,List.getElem?_drop] using this
 exact h i h1 h2
theorem BP.ix {s:List UInt8} (h:BP s):Lib.index s [58,58]=-1:=by
 refine Lib.index_none (fun j _=>?_)
 cases ho:Lib.occAt s [58,58] j with
 | false=>rfl
 | true=>exact absurd (Lib.occAt_second rfl ho) (h j (Lib.occAt_head rfl ho))
def Ml (H:Hp):Prop:=∃ (m:Int) (e:TypeId) (k:Kd),H[6]?=some (.cells [.int .i64 m] e k)
theorem Ml.old {H:Hp} (h:Ml H) (l:Hp):Ml (H++l):=by
 obtain ⟨m,e,k,h⟩:=h
 exact ⟨m,e,k,ah h⟩
theorem EE {H T:Hp} {rb a:Nat} {y x:bp} (h:T[a]?=some x):(H.set rb y++T)[H.length+a]?=some x:=by
 rw [List.getElem?_append_right (by simp)]
 simpa using h
theorem Gr {n mx:Nat} (h:n≤mx) (hm:mx≤4294967295):jH (bF n) mx=some n:=by
 obtain ⟨h1,h2,h3,h4⟩:=N9 n
 have hl:=cM (n:=n) (by omega)
 unfold jH
 rw [if_neg,if_pos h1,h2,if_pos h]
 rintro (h | ⟨h,h'⟩ | h)
 ·exact Fg n h
 ·by_cases hn:n < 10
  ·have:=h4 hn; omega
  ·exact h3 (by omega) h'
 ·omega
theorem DR (raw:List UInt8) (hr:raw≠[]):cH 46 (dQ [46] (cP raw))=cP raw:=by
 have hno:∀ x ∈ cP raw,(46:UInt8) ∉ x:=by
  intro x hx h
  simp only [cP,List.mem_map] at hx
  obtain ⟨b,_,rfl⟩:=hx
  have:=KG _ _ h
  revert this; decide
 cases raw with
 | nil=>exact absurd rfl hr
 | cons b r=>exact qB 46 _ _ (hno _ (by simp [cP])) (fun y hy=>hno y (by simp [cP] at hy ⊢; exact .inr hy))
section
variable (H:Hp) (rb:Nat) (v:AV) (o:List UInt8) (d:Dt) (j:Nat) (w:Wd) (ws:List Wd) (hq:w.q=false) (hb:H[rb]?=some (.cells (WdC v o d j) 144 .rw)) (hv:Wv H v (w::ws)) (hw:w.t.length≤1048576)
include hq hb hv hw
set_option maxHeartbeats 2000000 in
theorem LK (raw:List UInt8) (hr:raw.length=4) (hwt:w.t=dQ [46] (cP raw)) (ht:Te H) (hdr:d.raw.length≤1048576) :
  ∃ b:AV × Hp,Wv (H++b.2) b.1 ws∧∀ k,ag Tryz.prog 84 [.ptr rb 0] H k=k (.tuple [],H.set rb (.cells (WdC b.1 o { d with raw:=d.raw++raw } j) 144 .rw)++b.2,⟨some rb,some rb⟩):=by
 obtain ⟨v',L,hv',hnx⟩:=Eh H rb v o d j w ws hq hb hv
 have hlt:=ai hb
 have hg:∀ y T,(H.set rb y++T)[rb]?=some y:=fun y T=>ah (by rw [List.getElem?_set_self hlt])
 have hs:∀ y z T,(H.set rb y++T).set rb z=H.set rb z++T:=fun y z T=>by rw [List.set_append_left _ _ (by simpa using hlt),List.set_set]
 have hlv:∀ (x:AV) (H':Hp),leave H.length x H' ⟨some rb,some rb⟩=(x,H',⟨some rb,some rb⟩):=fun x H'=>jV hlt
 have hsp:=fun y k=>MA w.t 46 (H.set rb y++L) k hw
 have hne:raw≠[]:=by rintro rfl; simp at hr
 rw [hwt,DR raw hne] at hsp
 have hAl:(cP raw).length=4:=by simp [cP,hr]
 simp only [List.length_append,List.length_set,hAl] at hsp
 rw [hwt] at hnx
 refine cI (fun b:AV × Hp=>Wv (H++b.2) b.1 ws) (fun b=>(.tuple [],H.set rb (.cells (WdC b.1 o { d with raw:=d.raw++raw } j) 144 .rw)++b.2,⟨some rb,some rb⟩)) ?_
 refine aa (n:=42) (rs:=[]) Tryz.func84 rfl rfl rfl ?_
 intro σ hl ha
 have h0:=ha 0 (by simp)
 clear ha
 simp only [Option.getD_some,List.getElem?_cons_zero,List.getElem?_cons_succ] at h0
 simp only [go_sem,simprocAttr,hl,h0,hnx,hsp]
 refine go_rounds (fun n st=>∃ σ i T,n+i=4∧(L++[.cells (strs (cP raw)) 9 .rw])[L.length]?=T[L.length]?∧(∃ T2,T=L++T2)∧st=⟨σ,H.set rb (.cells (WdC v' o { d with raw:=d.raw++raw.take i } j) 144 .rw)++T,⟨some rb,some rb⟩⟩∧σ.length=42∧fr σ 0=.ptr rb 0∧fr σ 14=.slice (H.length+L.length) 0 4 (.ex 4)∧fr σ 15=.int .i64 4∧fr σ 16=.int .i64 (i:Nat)) 4
  ⟨_,0,L++[.cells (strs (cP raw)) 9 .rw],rfl,rfl,⟨_,rfl⟩,by simp only [List.take_zero,List.append_nil]; rfl,by simp only [go_sem,simprocAttr,hl],by simp only [go_sem,simprocAttr,hl,h0],by simp only [go_sem,simprocAttr,hl],by simp only [go_sem,simprocAttr,hl],by simp only [go_sem,simprocAttr,hl]⟩ ?_
 rintro n _ ⟨σ,i,T,hn,hT,⟨T2,hT2⟩,rfl,hl,h0,h14,h15,h16⟩
 have hT':T[L.length]?=some (.cells (strs (cP raw)) 9 .rw):=by rw [← hT,List.getElem?_append_right (Nat.le_refl _)]; simp
 by_cases hlt4:i < 4
 ·obtain ⟨c,hc⟩:∃ c,raw[i]?=some c:=⟨_,List.getElem?_eq_getElem (by omega)⟩
  have hgA:=fun y=>EE (H:=H) (rb:=rb) (y:=y) hT'
  have hdi:(cP raw)[i]?=some (bF c.toNat):=by simp [cP,hc]
  have hld:=iK hdi
  have hcl:=c.toNat_lt
  have hw1:=aS (show i < 9223372036854775807 by omega)
  have hdl:=cM (n:=c.toNat) (by omega)
  have hnm:=fun y k=>oq (bF c.toNat) 8 255 (.inl ⟨rfl,rfl⟩) (by decide) (H.set rb y++T) k ((ht.set hb).old T) (by omega)
  rw [Gr (n:=c.toNat) (mx:=255) (by omega) (by decide)] at hnm
  simp only [Option.getD_some,Option.isSome_some] at hnm
  have g0:decide ((i:Int) < 4)=true:=by simp; omega
  have g1:(i:Int) < 4:=by omega
  have w8:IntKind.u8.wrap (c.toNat:Int)=(c.toNat:Int):=wrap_u8 (by omega)
  have hbs:=rB c.toNat
  have hsn:raw.take i++[c]=raw.take (i+1):=(cu hc).symm
  have hml:d.raw.length+((raw.take i).length+1)≤cg:=by unfold cg; rw [List.length_take]; omega
  have hgN:∀ y X,(H.set rb y++(T++[X]))[H.length+T.length]?=some X:=fun y X=>EE (by simp)
  simp only [go_sem,simprocAttr,hl,h0,h14,h15,h16,g0,g1,hgA,hld,hnm]
  refine ay au (by kernel_rfl) ?_
  simp only [go_sem,simprocAttr,hl,h0,h14,h15,h16,hg,hs,WdC.l2,WdC.len,WdC.s2,w8,hbs,hgN,hml,hw1,qx,hsn]
  exact ⟨by kernel_rfl,n - 1,by omega,_,i+1,T++[_],by omega,(ah hT').symm,⟨T2++[_],by rw [hT2,List.append_assoc]⟩,rfl,by simp only [go_sem,simprocAttr,hl],by simp only [go_sem,simprocAttr,hl,h0],by simp only [go_sem,simprocAttr,hl,h14],by simp only [go_sem,simprocAttr,hl,h15],by simp only [go_sem,simprocAttr,hl]⟩
 ·have hi:i=4:=by omega
  subst hi
  rw [List.take_of_length_le (by omega)]
  simp only [go_sem,simprocAttr,hl,h0,h14,h15,h16,hlv]
  exact ⟨(v',T),by rw [hT2,← List.append_assoc]; exact hv'.old _,rfl⟩
end
theorem Ml.set {H:Hp} (h:Ml H) {rb:Nat} {v:AV} {o:List UInt8} {d:Dt} {j:Nat} {x:bp} (hb:H[rb]?=some (.cells (WdC v o d j) 144 .rw)):Ml (H.set rb x):=by
 obtain ⟨m,e,k,h1⟩:=h
 have g1:rb≠6:=by rintro rfl; rw [hb] at h1; simp [WdC] at h1
 exact ⟨m,e,k,by rw [List.getElem?_set_ne g1]; exact h1⟩
section
variable (H:Hp) (rb:Nat) (v:AV) (o:List UInt8) (d:Dt) (j:Nat) (w:Wd) (ws:List Wd) (hq:w.q=false) (hb:H[rb]?=some (.cells (WdC v o d j) 144 .rw)) (hv:Wv H v (w::ws))
include hq hb hv
end
section
variable (H:Hp) (rb:Nat) (v:AV) (o:List UInt8) (d:Dt) (j:Nat) (ws:List Wd) (hb:H[rb]?=some (.cells (WdC v o d j) 144 .rw)) (hv:Wv H v ws) (hw:∀ w ∈ ws,w.t.length≤1048576)
include hb hv hw
end
theorem Tk.set {H:Hp} (h:Tk H) {rb:Nat} {v:AV} {o:List UInt8} {d:Dt} {j:Nat} {x:bp} (hb:H[rb]?=some (.cells (WdC v o d j) 144 .rw)):Tk (H.set rb x):=by
 obtain ⟨e,k,h⟩:=h
 have hne:rb≠0:=by
  rintro rfl
  rw [hb] at h
  have:=congrArg (Option.map fun | bp.cells c _ _=>c.length | _=>0) h
  simp [WdC,nB] at this
 exact ⟨e,k,by rw [List.getElem?_set_ne hne]; exact h⟩
theorem Wv.keep {B T T':Hp} {v:AV} {ws:List Wd} {jb:Nat} {c:List AV} {e:TypeId} (h:Wv (B++T) v ws) (hk:lp T jb T') (hj:T[jb]?=some (.cells c e .rw)):Wv (B++T') v ws:=by
 have key:∀ (b:Nat) (x:bp),(B++T)[b]?=some x→Kh x=true→(∀ c e,x≠.cells c e .rw)→(B++T')[b]?=some x:=by
  intro b x hb hf hr
  by_cases hlt:b < B.length
  ·rw [List.getElem?_append_left hlt] at hb ⊢; exact hb
  ·rw [List.getElem?_append_right (by omega)] at hb ⊢
   refine hk.2 (b - B.length) x ?_ hb hf
   intro he
   rw [he,hj] at hb
   cases hb
   exact hr c e rfl
 obtain h | ⟨b,k,pre,fz,st,h1,h2,h3⟩ | ⟨b,h1,h2,h3⟩:=h
 ·exact .inl h
 ·exact .inr (.inl ⟨b,k,pre,fz,st,h1,h2,key b _ h3 rfl (by intro c e h; injection h with _ _ h; cases h)⟩)
 ·exact .inr (.inr ⟨b,h1,key b _ h2 rfl (by intro c e h; cases h),h3⟩)
section
variable (H:Hp) (rb:Nat) (v:AV) (o:List UInt8) (d:Dt) (j:Nat) (w:Wd) (ws:List Wd) (hq:w.q=false) (hb:H[rb]?=some (.cells (WdC v o d j) 144 .rw)) (hv:Wv H v (w::ws)) (hw:w.t.length≤1048576)
include hq hb hv hw
end
def Wd.key (w:Wd):List UInt8 × Bool:=(w.t,w.q)
theorem Wv.yP {H:Hp} {v:AV} {ws:List Wd} (h:Wv H v ws) {rb:Nat} {x y:bp} (hb:H[rb]?=some y) (hy:(∀ c e fz st,y≠.cells c e (.op fz st))∧y≠.void):Wv (H.set rb x) v ws:=by
 obtain h | ⟨b,k,pre,fz,st,h1,h2,h3⟩ | ⟨b,h1,h2,h3⟩:=h
 ·exact .inl h
 ·have hne:rb≠b:=by
   rintro rfl
   rw [hb] at h3; injection h3 with h3; exact hy.1 _ _ _ _ h3
  exact .inr (.inl ⟨b,k,pre,fz,st,h1,h2,by rw [List.getElem?_set_ne hne]; exact h3⟩)
 ·have hne:rb≠b:=by
   rintro rfl
   rw [hb] at h2; injection h2 with h2; exact hy.2 h2
  exact .inr (.inr ⟨b,h1,by rw [List.getElem?_set_ne hne]; exact h2,h3⟩)
section
variable (H:Hp) (rb:Nat) (v:AV) (o:List UInt8) (d:Dt) (j:Nat) (w:Wd) (ws:List Wd) (hq:w.q=false) (hb:H[rb]?=some (.cells (WdC v o d j) 144 .rw)) (hv:Wv H v (w::ws)) (hw:w.t.length≤1048576)
include hq hb hv hw
end
def doW (rb:Nat):List (AV × AV):=[(.int .i32 104,.func (.func 80) [.ptr rb 0] []),(.int .i32 112,.func (.func 80) [.ptr rb 0] []),(.int .i32 109,.func (.func 81) [.ptr rb 0] []),(.int .i32 115,.func (.func 82) [.ptr rb 0] []),(.int .i32 108,.func (.func 83) [.ptr rb 0] []),(.int .i32 97,.func (.func 84) [.ptr rb 0] []),(.int .i32 113,.func (.func 85) [.ptr rb 0] []),(.int .i32 120,.func (.func 86) [.ptr rb 0] [])]
end Go.Proofs.YtdppgaphcmhffaaGreatDoor.V
namespace Go.Proofs.YtdppgaphcmhffaaGreatDoor.V
open Go
open Go.Shelf

def lH:Go.Shelf.Ren:=⟨fun | 230=>71 | 197=>101 | 118=>102 | 165=>91 | 166=>26 | 168=>103 | 270=>104 | 167=>53 | 169=>33 | 260=>127 | 240=>50 | 241=>124 | 242=>128 | 276=>87 | 277=>150 | 278=>152 | n=>n,fun | 107=>131 | 9=>9 | 72=>73 | 0=>0 | 4=>4 | 3=>3 | 21=>21 | 105=>161 | 76=>76 | 5=>5 | 75=>75 | 70=>70 | 20=>20 | 37=>71 | 127=>122 | 119=>205 | 46=>118 | 139=>208 | 138=>207 | 164=>148 | 51=>25 | 80=>83 | n=>n,fun | 3=>2 | 4=>3 | n=>n⟩
theorem oJ:Go.Proofs.Lays.n230 Tryz.prog lH:={
 mixed:=by kernel_rfl
 f118:=Tryz.func102.trans (congrArg some (by kernel_rfl))
 f165:=Tryz.func91.trans (congrArg some (by kernel_rfl))
 f166:=Tryz.func26.trans (congrArg some (by kernel_rfl))
 f167:=Tryz.func53.trans (congrArg some (by kernel_rfl))
 f168:=Tryz.func103.trans (congrArg some (by kernel_rfl))
 f169:=Tryz.func33.trans (congrArg some (by kernel_rfl))
 f197:=Tryz.func101.trans (congrArg some (by kernel_rfl))
 f230:=Tryz.func71.trans (congrArg some (by kernel_rfl))
 f240:=Tryz.func50.trans (congrArg some (by kernel_rfl))
 f241:=Tryz.func124.trans (congrArg some (by kernel_rfl))
 f242:=Tryz.func128.trans (congrArg some (by kernel_rfl))
 f260:=Tryz.func127.trans (congrArg some (by kernel_rfl))
 f270:=Tryz.func104.trans (congrArg some (by kernel_rfl))
 f276:=Tryz.func87.trans (congrArg some (by kernel_rfl))
 f277:=Tryz.func150.trans (congrArg some (by kernel_rfl))
 f278:=Tryz.func152.trans (congrArg some (by kernel_rfl))
 t0:=Tryz.underlying0
 a0:=Tryz.isAgg0
 z0:=Tryz.sizeOf0
 v0:=Tryz.zeroValue0
 t3:=Tryz.underlying3
 a3:=Tryz.isAgg3
 z3:=Tryz.sizeOf3
 v3:=Tryz.zeroValue3
 t4:=Tryz.underlying4
 a4:=Tryz.isAgg4
 z4:=Tryz.sizeOf4
 v4:=Tryz.zeroValue4
 t5:=Tryz.underlying5
 a5:=Tryz.isAgg5
 z5:=Tryz.sizeOf5
 v5:=Tryz.zeroValue5
 t9:=Tryz.underlying9
 a9:=Tryz.isAgg9
 z9:=Tryz.sizeOf9
 v9:=Tryz.zeroValue9
 t20:=Tryz.underlying20
 a20:=Tryz.isAgg20
 z20:=Tryz.sizeOf20
 v20:=Tryz.zeroValue20
 t21:=Tryz.underlying21
 a21:=Tryz.isAgg21
 z21:=Tryz.sizeOf21
 v21:=Tryz.zeroValue21
 t37:=Tryz.underlying71
 a37:=Tryz.isAgg71
 z37:=Tryz.sizeOf71
 v37:=Tryz.zeroValue71
 t46:=Tryz.underlying118
 a46:=Tryz.isAgg118
 z46:=Tryz.sizeOf118
 v46:=Tryz.zeroValue118
 t51:=Tryz.underlying25
 a51:=Tryz.isAgg25
 z51:=Tryz.sizeOf25
 v51:=Tryz.zeroValue25
 t70:=Tryz.underlying70
 a70:=Tryz.isAgg70
 z70:=Tryz.sizeOf70
 v70:=Tryz.zeroValue70
 t72:=Tryz.underlying73
 a72:=Tryz.isAgg73
 z72:=Tryz.sizeOf73
 v72:=Tryz.zeroValue73
 t75:=Tryz.underlying75
 a75:=Tryz.isAgg75
 z75:=Tryz.sizeOf75
 v75:=Tryz.zeroValue75
 t76:=Tryz.underlying76
 a76:=Tryz.isAgg76
 z76:=Tryz.sizeOf76
 v76:=Tryz.zeroValue76
 t105:=Tryz.underlying161
 a105:=Tryz.isAgg161
 z105:=Tryz.sizeOf161
 v105:=Tryz.zeroValue161
 t107:=Tryz.underlying131
 a107:=Tryz.isAgg131
 z107:=Tryz.sizeOf131
 v107:=Tryz.zeroValue131
 t119:=Tryz.underlying205
 a119:=Tryz.isAgg205
 z119:=Tryz.sizeOf205
 t127:=Tryz.underlying122
 a127:=Tryz.isAgg122
 z127:=Tryz.sizeOf122
 v127:=Tryz.zeroValue122
 t138:=Tryz.underlying207
 a138:=Tryz.isAgg207
 z138:=Tryz.sizeOf207
 v138:=Tryz.zeroValue207
 t139:=Tryz.underlying208
 a139:=Tryz.isAgg208
 z139:=Tryz.sizeOf208
 v139:=Tryz.zeroValue208
 t164:=Tryz.underlying148
 a164:=Tryz.isAgg148
 z164:=Tryz.sizeOf148
 v164:=Tryz.zeroValue148
 g3:=by kernel_rfl
 g4:=by kernel_rfl }
theorem Ki:Builder.Extra Tryz.prog lH:={
 sizeBuilder:=by kernel_rfl
 liesBuilder:=by kernel_rfl
 t5:=oJ.t5
 a5:=oJ.a5
 z5:=oJ.z5
 v5:=oJ.v5
 infoByte:=by kernel_rfl
 cellsByte:=by kernel_rfl
 sizeByte:=by kernel_rfl
 neB5:=by decide }
def gJ (c:Int):Int:=if 65≤c∧c≤90 then c+32 else c
set_option maxHeartbeats 1000000 in
theorem Gw (W:World) (x:Nat) (hx:x≤1114111):FnGives Tryz.prog 72 #[] #[encR x] (.int .i32 (gJ x)) W:=by
 show Calls Tryz.prog 72 #[.int .i32 (x:Int)] W _
 unfold gJ
 go_enter Tryz.func72,Tryz.ntmps72
 go_wp2
 ·go_ret
  refine ⟨?_,0,rfl⟩
  rw [show (x:Int) - 65+97=(x:Int)+32 by omega]
  rfl
 ·go_ret
  exact ⟨rfl,0,rfl⟩
 ·go_ret
  exact ⟨rfl,0,rfl⟩

theorem wo (x:Nat) (hx:x≤1114111):0≤gJ x∧gJ x≤2147483647:=by
 unfold gJ; split <;> omega
def U8 (H:Hp):Prop:=U8H Tryz.prog H 2 3
theorem N4 {s:List UInt8} {H:Hp} (hu:U8 H) (hs:s.length < 35184372088832):evS Tryz.prog 71 [.func (.func 72) [] [],.str s] H=some (.str (Lib.mapD gJ s),H,z0):=by
 have hm:OT (fnName Tryz.prog 72)=some gJ:=by kernel_rfl
 have hl:Fv Tryz.prog 71 72 gJ H:=⟨lH,oJ,Ki,rfl,by kernel_rfl,by kernel_rfl,hu,Gw,wo⟩
 unfold evS
 simp only [hm,Option.bind_some]
 rw [if_pos ⟨hl,hs⟩]

theorem Gx {c:UInt8} {r:List UInt8} (h:c.toNat < 128):Lib.mapD gJ (c::r)=(if 65≤c.toNat∧c.toNat≤90 then c+32 else c)::Lib.mapD gJ r:=by
 rw [Lib.mapD_step _ _ (by simp),Lib.decodeL_ascii c r h]
 have h0:0≤gJ (c.toNat:Nat):=(wo _ (by omega)).1
 simp only []
 rw [if_pos h0,List.drop_succ_cons,List.drop_zero]
 have:Lib.encodeRune (gJ (c.toNat:Nat))=[if 65≤c.toNat∧c.toNat≤90 then c+32 else c]:=by
  unfold gJ
  split
  ·rename_i hc
   have hc':65≤c.toNat∧c.toNat≤90:=by omega
   rw [if_pos hc']
   unfold Lib.encodeRune
   rw [Lib.encodeRuneZ_one (by omega) (by omega)]
   simp only [List.map_cons,List.map_nil,List.cons.injEq,and_true]
   apply UInt8.toNat.inj
   have e1:((c.toNat:Int)+32).toNat=c.toNat+32:=by omega
   rw [e1,UInt8.toNat_add]
   simp
  ·rename_i hc
   have hc':¬ (65≤c.toNat∧c.toNat≤90):=by omega
   rw [if_neg hc']
   unfold Lib.encodeRune
   rw [Lib.encodeRuneZ_one (by omega) (by omega)]
   simp
 rw [this]; rfl
theorem Jw {c:UInt8} {r:List UInt8} (h:128≤c.toNat):∃ d x,Lib.mapD gJ (c::r)=d::x∧128≤d.toNat:=by
 rw [Lib.mapD_step _ _ (by simp)]
 have hle:=Lib.decodeL_rune (c::r)
 rw [if_pos (wo _ hle).1]
 by_cases hv:(Lib.decodeL (c::r)).1=65533∧(Lib.decodeL (c::r)).2=1
 ·rw [hv.1]
  exact ⟨239,_,rfl,by decide⟩
 ·have he:=Lib.encode_decode (c::r) (by simp) hv
  have hw:=Lib.decodeL_width (c::r)
  have hx:gJ ((Lib.decodeL (c::r)).1:Nat)=((Lib.decodeL (c::r)).1:Nat):=by
   unfold gJ
   split
   ·rename_i hc
    exfalso
    unfold Lib.encodeRune at he
    rw [Lib.encodeRuneZ_one (by omega) (by omega)] at he
    obtain ⟨m,hm⟩:∃ m,(Lib.decodeL (c::r)).2=m+1:=⟨_,(Nat.sub_add_cancel hw).symm⟩
    rw [hm,List.take_succ_cons] at he
    simp only [List.map_cons,List.map_nil,List.cons.injEq] at he
    have:=he.1
    rw [← this] at h
    have e1:(((Lib.decodeL (c::r)).1:Nat):Int).toNat.toUInt8.toNat=(Lib.decodeL (c::r)).1 % 256:=by simp
    rw [e1] at h
    omega
   ·rfl
  rw [hx,he]
  obtain ⟨m,hm⟩:∃ m,(Lib.decodeL (c::r)).2=m+1:=⟨_,(Nat.sub_add_cancel hw).symm⟩
  rw [hm,List.take_succ_cons]
  exact ⟨c,_,rfl,h⟩
theorem EX:∀ (s t:List UInt8),(∀ c ∈ t,c.toNat < 128)→(Lib.mapD gJ s == t)=((s.map fun c=>if 65≤c.toNat∧c.toNat≤90 then c+32 else c) == t)
 | [],t,_=>rfl
 | c::r,t,ht=>by
  by_cases hc:c.toNat < 128
  ·rw [Gx hc]
   cases t with
   | nil=>rfl
   | cons d t =>
    have:=EX r t (fun x hx=>ht x (by simp [hx]))
    simp only [List.map_cons,List.cons_beq_cons,this]
  ·obtain ⟨d,x,e,hd⟩:=Jw (c:=c) (r:=r) (by omega)
   rw [e]
   have hcc:¬ (65≤c.toNat∧c.toNat≤90):=by omega
   cases t with
   | nil=>rfl
   | cons y t =>
    have hy:=ht y (by simp)
    have n1:(d == y)=false:=by rw [beq_eq_false_iff_ne]; rintro rfl; omega
    have n2:(c == y)=false:=by rw [beq_eq_false_iff_ne]; rintro rfl; omega
    simp only [List.map_cons,List.cons_beq_cons,n1,if_neg hcc,n2,Bool.false_and]
end Go.Proofs.YtdppgaphcmhffaaGreatDoor.V
namespace Go.Proofs.YtdppgaphcmhffaaGreatDoor.V
open Go
attribute [local irreducible] go bt goD opK ag bx aF aH bC

def gN:Nat:=9
def Gl (H:Hp):Prop:=Tk H∧Te H∧Ml H∧U8 H
def Fm (rb:Nat) (H H':Hp):Prop:=H.length≤H'.length∧∀ (i:Nat) x,i≠rb→H[i]?=some x→H'[i]?=some x
theorem Fm.refl (rb:Nat) (H:Hp):Fm rb H H:=⟨Nat.le_refl _,fun _ _ _ h=>h⟩
theorem Fm.trans {rb:Nat} {H H' H'':Hp} (h:Fm rb H H') (h':Fm rb H' H''):Fm rb H H'':=⟨Nat.le_trans h.1 h'.1,fun i x hi hx=>h'.2 i x hi (h.2 i x hi hx)⟩
theorem Fm.old {rb:Nat} (H L:Hp):Fm rb H (H++L):=⟨by simp,fun i x _ h=>ah h⟩
theorem Fm.set {rb:Nat} (H:Hp) (x:bp):Fm rb H (H.set rb x):=⟨by simp,fun i y hi h=>by rw [List.getElem?_set_ne (Ne.symm hi)]; exact h⟩
theorem Fm.TN {rb j:Nat} {H H':Hp} (h:Fm rb H H') (hj:H.length≤j) (z:bp):Fm rb H (H'.set j z) :=
 ⟨by simp; exact h.1,fun i x hi hx=>by rw [List.getElem?_set_ne (by have:=ai hx; omega)]; exact h.2 i x hi hx⟩
theorem Fm.app {rb:Nat} {H H':Hp} (h:Fm rb H H') (L:Hp):Fm rb H (H'++L):=h.trans (Fm.old _ _)
theorem I7 {H H':Hp} {b o n:Nat} {c:List AV} (h:rd H b o n=some c) (hn:0 < n) (hb:∀ x,H[b]?=some x→H'[b]?=some x):rd H' b o n=some c:=by
 unfold V.rd at h ⊢
 cases hx:H[b]? with
 | none=>rw [hx] at h; simp at h
 | some x=>rw [hb x hx]; rw [hx] at h; exact h
theorem Gl.fr {H H':Hp} (h:Gl H) (hf:∀ (i:Nat) x,i < gN→H[i]?=some x→H'[i]?=some x):Gl H':=by
 obtain ⟨⟨e1,k1,h1⟩,⟨⟨e2,k2,u2,b2,h2⟩,⟨e3,k3,u3,b3,h3⟩⟩,⟨m4,e4,k4,h4⟩,⟨a1,a2,a3,a4⟩⟩:=h
 refine ⟨⟨e1,k1,hf _ _ (by decide) h1⟩,⟨⟨e2,k2,u2,b2,hf _ _ (by decide) h2⟩,⟨e3,k3,u3,b3,hf _ _ (by decide) h3⟩⟩,⟨m4,e4,k4,hf _ _ (by decide) h4⟩,⟨a1,a2,fun c hc=>?_,fun i hi=>⟨?_,?_⟩⟩⟩
 ·exact I7 (a3 c hc) (by decide) (fun x hx=>hf _ _ (by decide) hx)
 ·exact I7 (a4 i hi).1 (by decide) (fun x hx=>hf _ _ (by decide) hx)
 ·exact I7 (a4 i hi).2 (by decide) (fun x hx=>hf _ _ (by decide) hx)
theorem Gl.old {H:Hp} (h:Gl H) (L:Hp):Gl (H++L):=h.fr (fun i x _ hx=>ah hx)
theorem Gl.frm {H H':Hp} {rb:Nat} (h:Gl H) (hr:gN≤rb) (hf:Fm rb H H'):Gl H':=h.fr (fun i x hi hx=>hf.2 i x (by omega) hx)

def MsC (o ow:List UInt8) (tt:Nat) (tl fx:Bool) (vo vf vw:AV):List AV:=[.str o,.str ow,.int .u32 tt,.bool tl,.bool fx,vo,vf,vw]
section
variable {o ow:List UInt8} {tt:Nat} {tl fx:Bool} {vo vf vw:AV} {e:TypeId} {kd:Kd}
theorem MsC.l0:ldC 0 1 false (.cells (MsC o ow tt tl fx vo vf vw) e kd)=some (.str o):=rfl
theorem MsC.l1:ldC 1 1 false (.cells (MsC o ow tt tl fx vo vf vw) e kd)=some (.str ow):=rfl
theorem MsC.l2:ldC 2 1 false (.cells (MsC o ow tt tl fx vo vf vw) e kd)=some (.int .u32 tt):=rfl
theorem MsC.l3:ldC 3 1 false (.cells (MsC o ow tt tl fx vo vf vw) e kd)=some (.bool tl):=rfl
theorem MsC.l4:ldC 4 1 false (.cells (MsC o ow tt tl fx vo vf vw) e kd)=some (.bool fx):=rfl
theorem MsC.l5:ldC 5 1 false (.cells (MsC o ow tt tl fx vo vf vw) e kd)=some vo:=rfl
theorem MsC.l6:ldC 6 1 false (.cells (MsC o ow tt tl fx vo vf vw) e kd)=some vf:=rfl
theorem MsC.l7:ldC 7 1 false (.cells (MsC o ow tt tl fx vo vf vw) e kd)=some vw:=rfl
theorem MsC.len:(MsC o ow tt tl fx vo vf vw).length=8:=rfl
theorem MsC.s0 {x:List UInt8}:splice (MsC o ow tt tl fx vo vf vw) 0 [.str x]=MsC x ow tt tl fx vo vf vw:=rfl
theorem MsC.s1 {x:List UInt8}:splice (MsC o ow tt tl fx vo vf vw) 1 [.str x]=MsC o x tt tl fx vo vf vw:=rfl
theorem MsC.s2 {x:Nat}:splice (MsC o ow tt tl fx vo vf vw) 2 [.int .u32 x]=MsC o ow x tl fx vo vf vw:=rfl
theorem MsC.s3 {x:Bool}:splice (MsC o ow tt tl fx vo vf vw) 3 [.bool x]=MsC o ow tt x fx vo vf vw:=rfl
theorem MsC.s4 {x:Bool}:splice (MsC o ow tt tl fx vo vf vw) 4 [.bool x]=MsC o ow tt tl x vo vf vw:=rfl
theorem MsC.s5 {x:AV}:splice (MsC o ow tt tl fx vo vf vw) 5 [x]=MsC o ow tt tl fx x vf vw:=rfl
theorem MsC.s6 {x:AV}:splice (MsC o ow tt tl fx vo vf vw) 6 [x]=MsC o ow tt tl fx vo x vw:=rfl
theorem MsC.s7 {x:AV}:splice (MsC o ow tt tl fx vo vf vw) 7 [x]=MsC o ow tt tl fx vo vf x:=rfl
end
theorem Wv.fr {H H':Hp} {v:AV} {ws:List Wd} {rb:Nat} {c:List AV} (h:Wv H v ws) (hf:Fm rb H H') (hb:H[rb]?=some (.cells c 61 .rw)):Wv H' v ws:=by
 obtain h | ⟨b,k,pre,fz,st,h1,h2,h3⟩ | ⟨b,h1,h2,h3⟩:=h
 ·exact .inl h
 ·exact .inr (.inl ⟨b,k,pre,fz,st,h1,h2,hf.2 b _ (by rintro rfl; rw [hb] at h3; injection h3 with h3; injection h3 with _ _ h3; cases h3) h3⟩)
 ·exact .inr (.inr ⟨b,h1,hf.2 b _ (by rintro rfl; rw [hb] at h2; cases h2) h2,h3⟩)

theorem bU {w:Wd} {e:TypeId} {k:Kd}:ldC 0 4 true (.cells w.cells e k)=some (.agg w.cells):=rfl
theorem bR {w:Wd}:splice [.str [],.bool false,.int .i64 0,.int .i64 0] 0 w.cells=w.cells:=rfl
theorem bV {w:Wd}:bK w.cells=true:=rfl
theorem bS {w:Wd}:w.cells.length=4:=rfl
theorem bD {w:Wd}:w.cells.all cK=true:=rfl

theorem uA {c0:List AV} {e0:TypeId}:(∀ c e fz st,bp.cells c0 e0 .rw≠.cells c e (.op fz st))∧bp.cells c0 e0 .rw≠.void :=
 ⟨(fun c e fz st h=>by injection h with _ _ h; cases h),(fun h=>by cases h)⟩
theorem wk (H:Hp) (rb:Nat) (o ow:List UInt8) (tt:Nat) (tl fx:Bool) (vo vf vw:AV) (w:Wd) (ws:List Wd) (hb:H[rb]?=some (.cells (MsC o ow tt tl fx vo vf vw) 61 .rw)) (hv:Wv H vw (w::ws)) :
  ∃ v' H',Fm rb H H'∧H'[rb]?=some (.cells (MsC o ow tt tl fx vo vf v') 61 .rw)∧Wv H' v' ws∧∀ k,ag Tryz.prog 43 [.ptr rb 0] H k=k (.agg w.cells,H',⟨some rb,some rb⟩):=by
 have hlt:=ai hb
 obtain ⟨b,q,row,e,kd,hi,hg,hl4⟩:=hv.at (i:=0) rfl
 have hi:aN Tryz.prog 59 vw (.int .i64 0)=some (.ptr b q):=hi
 obtain ⟨X,hX⟩:∃ X:Hp,X=[.cells [.str [],.bool false,.int .i64 0,.int .i64 0] 63 .rw,.cells w.cells 63 .rw]:=⟨_,rfl⟩
 obtain ⟨v',L,hsl,hv',hL,hfl⟩:=(hv.old X).tl
 obtain ⟨hsc,hvc⟩:=hv'.scl
 have hgX:(H++X)[rb]?=some (.cells (MsC o ow tt tl fx vo vf vw) 61 .rw):=ah hb
 refine (fun h=>?_) (cI (P:=Tryz.prog) (f:=43) (args:=[.ptr rb 0]) (H:=H) (fun H':Hp=>Fm rb H H'∧H'[rb]?=some (.cells (MsC o ow tt tl fx vo vf v') 61 .rw)∧Wv H' v' ws) (fun H'=>(.agg w.cells,H',⟨some rb,some rb⟩)) ?_)
 ·obtain ⟨H',⟨h1,h2,h3⟩,h4⟩:=h
  exact ⟨v',H',h1,h2,h3,h4⟩
 refine aa (n:=19) (rs:=[.cell 2 63]) Tryz.func43 rfl rfl rfl ?_
 intro σ hl ha
 have h0:=ha 0 (by simp)
 clear ha
 simp only [Option.getD_some,List.getElem?_cons_zero] at h0
 have hg1:∀ x,(H++[x])[rb]?=some (.cells (MsC o ow tt tl fx vo vf vw) 61 .rw):=fun x=>ah hb
 have hg3:∀ x y,(H++[x,y])[rb]?=some (.cells (MsC o ow tt tl fx vo vf vw) 61 .rw):=fun x y=>ah hb
 have hg2:∀ x,(H++[x])[b]?=some (.cells row e kd):=fun x=>ah hg
 obtain ⟨Hc,hHc⟩:∃ Hc:Hp,Hc=H++X++L:=⟨_,rfl⟩
 have hsl':∀ kk,slK Tryz.prog 59 vw (some (.int .i64 1)) none none (H++[.cells [.str [],.bool false,.int .i64 0,.int .i64 0] 63 .rw,.cells w.cells 63 .rw]) kk=kk (v',Hc,z0):=by rw [hX] at hsl; rw [hHc,hX]; exact hsl
 have c0:Hc[rb]?=some (.cells (MsC o ow tt tl fx vo vf vw) 61 .rw):=by rw [hHc]; exact ah hgX
 have c1:Hc[H.length]?=some (.cells [.str [],.bool false,.int .i64 0,.int .i64 0] 63 .rw):=by rw [hHc,hX]; exact ah (by rw [dg]; rfl)
 have c2:Hc[H.length+1]?=some (.cells w.cells 63 .rw):=by rw [hHc,hX]; exact ah (by rw [bX]; rfl)
 have d1:∀ y,(Hc.set rb y)[H.length]?=some (.cells [.str [],.bool false,.int .i64 0,.int .i64 0] 63 .rw):=fun y=>by rw [List.getElem?_set_ne (by omega)]; exact c1
 have d2:∀ y,(Hc.set rb y)[H.length+1]?=some (.cells w.cells 63 .rw):=fun y=>by rw [List.getElem?_set_ne (by omega)]; exact c2
 have d3:∀ y z,((Hc.set rb y).set H.length z)[H.length]?=some z:=fun y z=>List.getElem?_set_self (by simp; exact ai c1)
 have hfm:Fm rb H Hc:=by rw [hHc,List.append_assoc]; exact Fm.old _ _
 have hvc':Wv Hc v' ws:=by rw [hHc]; exact hv'
 simp only [go_sem,simprocAttr,hl,h0,hg1,hg2,MsC.l7,hi,hl4,bU,bR,bV,bS,bD,hsl',hg3,c0,d1,d2,d3,MsC.len,MsC.s7,hvc,hsc,hfl]
 have e1:((⟨none,some (H.length+1)⟩:Ef).and ⟨some rb,some rb⟩).and ⟨none,some H.length⟩=⟨some rb,some rb⟩:=by
  rw [Ru (n:=H.length) (by simp [clean,low]) hlt,Eb (n:=H.length) (by simp [clean,low]) hlt]
 rw [e1,jV hlt]
 have hs1:Wv (Hc.set rb (.cells (MsC o ow tt tl fx vo vf v') 61 .rw)) v' ws:=hvc'.yP c0 uA
 refine ⟨_,⟨(hfm.trans (Fm.set _ _)).TN (Nat.le_refl _) _,?_,?_⟩,rfl⟩
 ·rw [List.getElem?_set_ne (by omega),List.getElem?_set_self (ai c0)]
 ·exact hs1.yP (d1 _) uA

theorem Uh:gG Tryz.prog .eql 75 .de .de true=some (.bool true):=by simp only [gG,if_true,vA]
theorem Ui {t:TypeId} {v:AV}:gG Tryz.prog .eql 75 (.iface t v) .de true=some (.bool false):=by
 simp only [gG]
 simp [kS,gj,vA]
def sq (w:Wd):Option Nat:=if w.q=true then none else jH w.t 4294967295
theorem uL (w:Wd) (H) (ht:Te H) (hw:w.t.length≤1048576):∃ x:Int,(∀ n,sq w=some n→x=(n:Nat))∧∀ k,ag Tryz.prog 46 [.agg w.cells] H k=k (.tuple [.int .u32 x,.bool (sq w).isSome],H,z0):=by
 refine cI (fun x:Int=>∀ n,sq w=some n→x=(n:Nat)) (fun x=>(.tuple [.int .u32 x,.bool (sq w).isSome],H,z0)) ?_
 refine aa (n:=52) (rs:=[.tmp 2,.tmp 3]) Tryz.func46 rfl rfl rfl ?_
 intro σ hl ha
 have h0:=ha 0 (by simp)
 clear ha
 simp only [Option.getD_some,List.getElem?_cons_zero] at h0
 have hlq:ldC 1 1 false (.cells w.cells 63 .rw)=some (.bool w.q):=rfl
 have hlt:ldC 0 1 false (.cells w.cells 63 .rw)=some (.str w.t):=rfl
 have hvc:bH (.agg w.cells)=w.cells:=rfl
 unfold sq
 cases hq:w.q
 case true =>
  rw [hq] at hlq
  simp only [go_sem,simprocAttr,hl,h0,hlq,hlt,hvc,bD,if_true,Option.isSome_none]
  exact ⟨0,(fun n h=>by cases h),rfl⟩
 rw [hq] at hlq
 rw [if_neg Bool.false_ne_true]
 generalize hs:w.t=s at *
 by_cases hz:s=[]
 ·rw [oz (.inl hz)]
  subst hz
  simp only [go_sem,simprocAttr,hl,h0,hlq,hlt,hvc,bD,Option.isSome_none]
  exact ⟨0,(fun n h=>by cases h),rfl⟩
 have hpos:0 < s.length:=List.length_pos_iff.2 hz
 obtain ⟨c,hc⟩:∃ c,s[0]?=some c:=⟨_,List.getElem?_eq_getElem hpos⟩
 have e0:(s == [])=false:=by simpa using hz
 have hcl:=c.toNat_lt
 by_cases hld:1 < s.length∧c.toNat=48
 ·rw [oz (.inr (.inl ⟨hld.1,by rw [hc]; congr 1; exact UInt8.toNat.inj hld.2⟩))]
  have g1:decide ((s.length:Int) > 1)=true:=by simp; omega
  have g2:((c.toNat:Int) == 48)=true:=by simp; omega
  simp only [go_sem,simprocAttr,hl,h0,hlq,hlt,hvc,bD,hc,hpos,g1,g2,e0,Option.isSome_none]
  exact ⟨0,(fun n h=>by cases h),rfl⟩
 have hcase:(decide ((s.length:Int) > 1)=true∧((c.toNat:Int) == 48)=false)∨decide ((s.length:Int) > 1)=false:=by
  by_cases h1:1 < s.length
  ·exact .inl ⟨by simp; omega,by simp; intro h; exact hld ⟨h1,by omega⟩⟩
  ·exact .inr (by simp; omega)
 have hnb:¬ (1 < s.length∧s[0]?=some 48):=by
  rintro ⟨h1,h2⟩
  rw [hc] at h2
  cases h2
  exact hld ⟨h1,rfl⟩
 have hnd:∀ i c,s[i]?=some c→isD c=false→jH s 4294967295=none:=fun i c h hd=>by
  have h2:=Fu (p:=isD) h hd
  have h3:=(fe (mx:=4294967295) s 0).2 (by rw [h2]; simp) (by decide)
  rw [wh (by decide) hz hnb,if_neg (by omega)]
 rcases hcase with ⟨g1,g2⟩ | g1
 all_goals first
  | simp only [go_sem,simprocAttr,hl,h0,hlq,hlt,hvc,bD,hc,hpos,g1,g2,e0]
  | simp only [go_sem,simprocAttr,hl,h0,hlq,hlt,hvc,bD,hc,hpos,g1,e0]
 all_goals
  refine go_rounds (fun m st=>∃ σ i e,m+i=s.length∧st=⟨σ,H++[.cells w.cells 63 .rw,.cells (u8s s) 5 (.op 0 true)],e⟩∧(s.take i).all isD=true∧clean H.length e∧σ.length=52∧fr σ 1=.ptr H.length 0∧fr σ 29=.slice (H.length+1) 0 s.length (.op 0)∧fr σ 30=.int .i64 s.length∧fr σ 31=.int .i64 (i:Nat)) s.length
   ⟨_,0,_,rfl,rfl,rfl,⟨rfl,rfl⟩,by simp only [go_sem,simprocAttr,hl],by simp only [go_sem,simprocAttr,hl],by simp only [go_sem,simprocAttr,hl],by simp only [go_sem,simprocAttr,hl],by simp only [go_sem,simprocAttr,hl]⟩ ?_
  clear g1 hl h0
  rintro m _ ⟨σ,i,e,hmi,rfl,hall,hce,hl,h1,h29,h30,h31⟩
  by_cases hil:i < s.length
  ·obtain ⟨d,hd⟩:∃ d,s[i]?=some d:=⟨_,List.getElem?_eq_getElem hil⟩
   have hld:=fun (e:TypeId) (k:Kd)=>vr (n:=1) (e:=e) (k:=k) hd
   have hdl:=d.toNat_lt
   have c1:decide ((i:Int) < (s.length:Int))=true:=by simp; omega
   have w1:=aS (show i < 9223372036854775807 by omega)
   by_cases hdd:isD d=true
   ·have hdd':=hdd
    unfold isD at hdd
    have hdd:=of_decide_eq_true hdd
    have c2:decide ((d.toNat:Int) < 48)=false:=by simp; omega
    have c3:decide ((d.toNat:Int) > 57)=false:=by simp; omega
    simp only [go_sem,simprocAttr,hl,h1,h29,h30,h31,c1,c2,c3,hld,w1,hil]
    exact ⟨m - 1,by omega,_,i+1,_,by omega,rfl,uf hd hall hdd',by simp only [aV,b7,rA,hce,and_true,true_and],by simp only [go_sem,simprocAttr,hl],by simp only [go_sem,simprocAttr,hl,h1],by simp only [go_sem,simprocAttr,hl,h29],by simp only [go_sem,simprocAttr,hl,h30],by simp only [go_sem,simprocAttr,hl]⟩
   ·rw [hnd i d hd (by simpa using hdd)]
    have hdd':¬ (48≤d.toNat∧d.toNat≤57):=fun h=>hdd (decide_eq_true h)
    by_cases c2:d.toNat < 48
    ·have c2:decide ((d.toNat:Int) < 48)=true:=by simp; omega
     simp only [go_sem,simprocAttr,hl,h1,h29,h30,h31,c1,c2,hld,w1,hil,Option.isSome_none]
     exact ⟨0,(fun n h=>by cases h),aW rfl hce⟩
    ·have c3:decide ((d.toNat:Int) > 57)=true:=by simp; omega
     have c2:decide ((d.toNat:Int) < 48)=false:=by simp; omega
     simp only [go_sem,simprocAttr,hl,h1,h29,h30,h31,c1,c2,c3,hld,w1,hil,Option.isSome_none]
     exact ⟨0,(fun n h=>by cases h),aW rfl hce⟩
  ·have hie:i=s.length:=by omega
   subst hie
   have c1:decide (s.length < s.length)=false:=by simp
   have hHc:=ht.old [.cells w.cells 63 .rw,.cells (u8s s) 5 (.op 0 true)]
   rw [wh (by decide) hz hnb]
   by_cases he:(puE 4294967295 s 0).2=0
   ·have hpu:=fun k=>mR s 32 4294967295 (.inr (.inr (.inl ⟨rfl,rfl⟩))) (H++[.cells w.cells 63 .rw,.cells (u8s s) 5 (.op 0 true)]) k hz hw he
    rw [if_pos he]
    have hle:(puE 4294967295 s 0).1≤4294967295:=by
     by_cases hg:s.all isD=true∧nT 0 s≤4294967295
     ·rw [(fe s 0).1 hg]; exact hg.2
     ·have:=(fe s 0).2 hg (by omega); omega
    have w0:IntKind.u32.wrap ((puE 4294967295 s 0).1:Int)=((puE 4294967295 s 0).1:Int):=wrap_u32 (by omega)
    simp only [go_sem,simprocAttr,hl,h1,h29,h30,h31,c1,hlt,hpu]
    refine ay au (by kernel_rfl) ?_
    simp only [go_sem,simprocAttr,hl,h1,h29,h30,h31,c1,hlt,hpu,w0,Uh]
    exact ⟨_,(fun n h=>by cases h; rfl),aW rfl hce⟩
   ·have hbd:(puE 4294967295 s 0).2=1∨(puE 4294967295 s 0).2=2:=by
     by_cases hg:s.all isD=true∧nT 0 s≤4294967295
     ·exact absurd (by rw [(fe s 0).1 hg]) he
     ·exact (fe s 0).2 hg (by omega)
    obtain ⟨x,hpu⟩:=lE s 32 4294967295 (.inr (.inr (.inl ⟨rfl,rfl⟩))) (H++[.cells w.cells 63 .rw,.cells (u8s s) 5 (.op 0 true)]) hHc hz hw hbd
    rw [if_neg he]
    simp only [go_sem,simprocAttr,hl,h1,h29,h30,h31,c1,hlt,hpu,Option.isSome_none]
    refine ay au (by kernel_rfl) ?_
    simp only [go_sem,simprocAttr,hl,h1,h29,h30,h31,c1,hlt,hpu,Ui]
    exact ⟨_,(fun n h=>by cases h),aW rfl hce⟩
theorem Jp (s:List UInt8) (H k) (hu:U8 H) (hs:s.length≤1048576):ag Tryz.prog 44 [.str s] H k=k (.str (Lib.mapD gJ s),H,z0):=by
 refine ak (r:=(.str (Lib.mapD gJ s),H,z0)) ?_ k
 refine aa (n:=5) (rs:=[.tmp 2]) Tryz.func44 rfl rfl rfl ?_
 intro σ hl ha
 have h0:=ha 0 (by simp)
 clear ha
 simp only [Option.getD_some,List.getElem?_cons_zero] at h0
 have hm:=N4 (s:=s) (H:=H) hu (by omega)
 simp only [go_sem,simprocAttr,hl,h0,hm]
theorem lG (s t:List UInt8) (ht:∀ c ∈ t,c.toNat < 128):(Lib.mapD gJ s == t)=(bB s == t):=EX s t ht
theorem MU (L:List (List UInt8)):(ofS L).1.length≤255:=by
 unfold ofS
 split
 ·simp
 split
 ·simp
 ·rename_i h
  simp only [nameOf,List.length_append,List.length_cons,List.length_nil,pX]
  omega
theorem Gs (s o:List UInt8):(dI s o).1.length≤255:=by
 unfold dI
 split
 ·simp
 split
 ·simp
 split
 ·simp
 ·exact MU _
def kA (w:Wd) (o:List UInt8):List UInt8 × Bool:=if w.q=true then ([],false) else if w.t=[64] then (o,true) else (bB (dI w.t o).1,(dI w.t o).2 == 0)
theorem zi (H:Hp) (rb:Nat) (o ow:List UInt8) (tt:Nat) (tl fx:Bool) (vo vf vw:AV) (w:Wd) (k) (hb:H[rb]?=some (.cells (MsC o ow tt tl fx vo vf vw) 61 .rw)) (hw:w.t.length≤1048576) (ho:o.length≤1048576) :
  ag Tryz.prog 45 [.ptr rb 0,.agg w.cells] H k=k (.tuple [.str (kA w o).1,.bool (kA w o).2],H,z0):=by
 refine ak (r:=(.tuple [.str (kA w o).1,.bool (kA w o).2],H,z0)) ?_ k
 refine aa (n:=31) (rs:=[.tmp 4,.tmp 5]) Tryz.func45 rfl rfl rfl ?_
 intro σ hl ha
 have h0:=ha 0 (by simp)
 have h1:=ha 1 (by simp)
 clear ha
 simp only [Option.getD_some,List.getElem?_cons_zero,List.getElem?_cons_succ] at h0 h1
 have hlq:ldC 1 1 false (.cells w.cells 63 .rw)=some (.bool w.q):=rfl
 have hlt:ldC 0 1 false (.cells w.cells 63 .rw)=some (.str w.t):=rfl
 have hvc:bH (.agg w.cells)=w.cells:=rfl
 have hg:∀ x,(H++[x])[rb]?=some (.cells (MsC o ow tt tl fx vo vf vw) 61 .rw):=fun x=>ah hb
 unfold kA
 cases hq:w.q
 case true =>
  rw [hq] at hlq
  simp only [go_sem,simprocAttr,hl,h0,h1,hlq,hlt,hvc,bD,if_true]
 rw [hq] at hlq
 rw [if_neg Bool.false_ne_true]
 by_cases h64:w.t=[64]
 ·rw [if_pos h64]
  have e0:(w.t == [64])=true:=by simpa using h64
  simp only [go_sem,simprocAttr,hl,h0,h1,hlq,hlt,hvc,bD,e0,hg,MsC.l0]
 ·rw [if_neg h64]
  have e0:(w.t == [64])=false:=by simpa using h64
  have hp:=fun H' k=>sv w.t o H' k hw ho
  have hf:=fun H' k=>dW (dI w.t o).1 H' k (by have:=Gs w.t o; unfold cg; omega)
  simp only [go_sem,simprocAttr,hl,h0,h1,hlq,hlt,hvc,bD,e0,hg,MsC.l0]
  refine ay au (by kernel_rfl) ?_
  simp only [go_sem,simprocAttr,hl,h0,h1,hlq,hlt,hvc,bD,hg,MsC.l0,hp,hf]
  have e1:(((dI w.t o).2:Int) == 0)=((dI w.t o).2 == 0):=by cases h:(dI w.t o).2 <;> rfl
  rw [e1]
section
variable {P:Program} {f:FuncId} {args:List AV} {H:Hp}
theorem qo {α:Type} (p:α→Prop) (g:α→AV × Hp × Ef) (h:gF P f args H (fun _=>False) (fun q=>∃ b,p b∧q=g b)):∃ b,p b∧∀ kk kp,gF P f args H kk kp=kp (g b):=by
 unfold gF at h
 rcases h with h | ⟨n,q,hq,b,hb,rfl⟩
 ·obtain ⟨b,_⟩:=cI (fun _:Empty=>True) (fun b=>b.elim) (bG h (fun _ h=>h.elim))
  exact b.elim
 ·exact ⟨b,hb,fun kk kp=>Hf (by unfold gF; exact .inr ⟨n,_,hq,rfl⟩) kk kp⟩
theorem qp {α:Type} (p:α→Prop) (g:α→AV × Hp × Ef) (h:gF P f args H (fun q=>∃ b,p b∧q=g b) (fun _=>False)):∃ b,p b∧∀ k,ag P f args H k=k (g b):=by
 unfold gF at h
 rcases h with h | ⟨n,q,hq,h⟩
 ·exact cI p g h
 ·exact h.elim
end
def flt (w:Wd) (n:Nat):AV:=.iface 65 (.agg (w.cells++[.int .i64 (n:Nat)]))
def MS:List UInt8:=[36,111,114,105,103,105,110]
def LS:List UInt8:=[36,116,116,108]
def wZ (o:List UInt8) (tt:Nat) (fx:Bool) (w:Wd) (ws:List Wd):Option (List UInt8 × Nat × Bool) :=
 match ws with
 | [x]=>if bB w.t=MS then (if (kA x o).2=true then some ((kA x o).1,tt,fx) else none)
  else if bB w.t=LS then (match sq x with
   | some n=>if n≤2147483647 then some (o,n,true) else none
   | none=>none) else none
 | _=>none
theorem kN (w:Wd) (n:Nat):bq Tryz.prog 65 [(0,.agg w.cells),(1,.int .i64 (n:Nat))]=some (.agg (w.cells++[.int .i64 (n:Nat)])):=by
 simp only [bq,Bq,xC,rO,Option.bind_some,fM]
 rfl
theorem dH (v:AV):jI Tryz.prog 65 v=some (.iface 65 v):=by simp only [jI,Bq]

theorem PI (H:Hp) (rb:Nat) (o ow:List UInt8) (tt:Nat) (tl fx:Bool) (vo vf vw:AV) (w:Wd) (ws:List Wd) (hb:H[rb]?=some (.cells (MsC o ow tt tl fx vo vf vw) 61 .rw)) (hv:Wv H vw (w::ws)) (hgl:Gl H) (hr:gN≤rb)
  (hw:∀ x ∈ w::ws,x.t.length≤1048576) (ho:o.length≤1048576) :
  gF Tryz.prog 24 [.ptr rb 0] H
   (fun q=>∃ d,wZ o tt fx w ws=some d∧∃ v' H',q=(.tuple [],H',⟨some rb,some rb⟩)∧Fm rb H H'∧H'[rb]?=some (.cells (MsC d.1 ow d.2.1 tl d.2.2 vo vf v') 61 .rw))
   (fun q=>wZ o tt fx w ws=none∧∃ H' c,q=(flt w 94,H',⟨some rb,some rb⟩)∧Fm rb H H'∧H'[rb]?=some (.cells c 61 .rw)):=by
 have hlt:=ai hb
 obtain ⟨v1,H1,hf1,hb1,hv1,hnx⟩:=wk H rb o ow tt tl fx vo vf vw w ws hb hv
 have hu1:=(hgl.frm hr hf1).2.2.2
 have hlen:=hv1.len
 have hlow:=fun L k=>Jp w.t (H1++L) k (hgl.frm hr (hf1.app L)).2.2.2 (hw w (by simp))
 have hlo:low H.length (some rb)=some rb:=dP hlt
 refine lW (n:=63) (rs:=[]) Tryz.func24 rfl rfl rfl ?_
 intro σ hl ha
 have h0:=ha 0 (by simp)
 clear ha
 simp only [Option.getD_some,List.getElem?_cons_zero] at h0
 have hg1:∀ x,(H1++[x])[rb]?=some (.cells (MsC o ow tt tl fx vo vf v1) 61 .rw):=fun x=>ah hb1
 have hwt:ldC 0 1 false (.cells w.cells 63 .rw)=some (.str w.t):=rfl
 have hvw:bH (.agg w.cells)=w.cells:=rfl
 have hbf:bq Tryz.prog 65 [(0,.agg w.cells),(1,.int .i64 94)]=some (.agg (w.cells++[.int .i64 94])):=kN w 94
 have he1:(⟨some rb,some rb⟩:Ef).and ⟨none,some H1.length⟩=⟨some rb,some rb⟩:=Eb (n:=H.length) (by have:=hf1.1; simp [clean,low]; omega) hlt
 have hlv:∀ (x:AV) (H':Hp),leave H.length x H' ⟨some rb,some rb⟩=(x,H',⟨some rb,some rb⟩):=fun x H'=>jV hlt
 have fin:wZ o tt fx w ws=none→∀ L,wZ o tt fx w ws=none∧∃ H' c,((flt w 94,H1++L,⟨some rb,some rb⟩):AV × Hp × Ef)=(flt w 94,H',⟨some rb,some rb⟩)∧Fm rb H H'∧H'[rb]?=some (.cells c 61 .rw) :=
  fun h L=>⟨h,_,_,rfl,hf1.app L,ah hb1⟩
 match ws,hv1,hlen,hw,fin with
 | [],hv1,hlen,hw,fin =>
  have c0:((([]:List Wd).length:Int) == 1)=false:=rfl
  simp only [go_sem,simprocAttr,hl,h0,hnx,hg1,MsC.l7,hlen,hvw,bD,bR,bV,bU,bS,hbf,dH,he1,c0,hlv]
  exact fin rfl _
 | a::b::r,hv1,hlen,hw,fin =>
  have c0:(((r.length+2:Nat):Int) == 1)=false:=by rw [beq_eq_false_iff_ne]; omega
  simp only [go_sem,simprocAttr,hl,h0,hnx,hg1,MsC.l7,hlen,hvw,bD,bR,bV,bU,bS,hbf,dH,he1,c0,hlv]
  exact fin rfl _
 | [x],hv1,hlen,hw,fin =>
  have c0:((([x]:List Wd).length:Int) == 1)=true:=rfl
  simp only [wZ] at fin ⊢
  obtain ⟨b,q,row,e,kd,hi,hg,hl4⟩:=hv1.at (i:=0) rfl
  have hi:aN Tryz.prog 59 v1 (.int .i64 0)=some (.ptr b q):=hi
  have hg2:∀ x,(H1++[x])[b]?=some (.cells row e kd):=fun x=>ah hg
  have hnm:=fun L k=>zi (H1++L) rb o ow tt tl fx vo vf v1 x k (ah hb1) (hw x (by simp)) ho
  obtain ⟨nx,hnx1,hnum⟩:=uL x (H1++[.cells w.cells 63 .rw]) (hgl.frm hr (hf1.app _)).2.1 (hw x (by simp))
  have hs:∀ y L,(H1++L).set rb y=H1.set rb y++L:=fun y L=>List.set_append_left _ _ (ai hb1)
  by_cases h1:bB w.t=MS
  ·have q1:(Lib.mapD gJ w.t == [36,111,114,105,103,105,110])=true:=by rw [lG _ _ (by decide)]; simpa [MS] using h1
   rw [if_pos h1] at fin ⊢
   cases h2:(kA x o).2
   ·rw [h2] at fin hnm
    simp only [go_sem,simprocAttr,hl,h0,hnx,hg1,hg2,MsC.l7,hlen,hvw,bD,bR,bV,bU,bS,hbf,dH,he1,c0,hlv,hwt,hlow,q1,hi,hl4,hnm]
    exact (fin rfl _).2
   ·rw [h2] at hnm
    simp only [go_sem,simprocAttr,hl,h0,hnx,hg1,hg2,MsC.l7,hlen,hvw,bD,bR,bV,bU,bS,hbf,dH,he1,c0,hlv,hwt,hlow,q1,hi,hl4,hnm,MsC.len,MsC.s0,hs,qx]
    exact ⟨_,rfl,v1,_,rfl,(hf1.trans (Fm.set _ _)).app _,ah (List.getElem?_set_self (ai hb1))⟩
  ·have q1:(Lib.mapD gJ w.t == [36,111,114,105,103,105,110])=false:=by rw [lG _ _ (by decide)]; simpa [MS] using h1
   rw [if_neg h1] at fin ⊢
   by_cases h2:bB w.t=LS
   ·have q2:(Lib.mapD gJ w.t == [36,116,116,108])=true:=by rw [lG _ _ (by decide)]; simpa [LS] using h2
    rw [if_pos h2] at fin ⊢
    cases h3:sq x with
    | none =>
     rw [h3] at fin hnum
     simp only [Option.isSome_none] at hnum
     simp only [go_sem,simprocAttr,hl,h0,hnx,hg1,hg2,MsC.l7,hlen,hvw,bD,bR,bV,bU,bS,hbf,dH,he1,c0,hlv,hwt,hlow,q1,q2,hi,hl4,hnum]
     exact (fin rfl _).2
    | some n =>
     rw [h3] at fin hnum
     have hx:=hnx1 n h3
     subst hx
     simp only [Option.isSome_some] at hnum
     simp only [] at fin ⊢
     by_cases h4:n≤2147483647
     ·have q3:decide ((n:Int)≤2147483647)=true:=by simp; omega
      rw [if_pos h4]
      have hs2:∀ y z L,(H1.set rb y++L).set rb z=H1.set rb z++L:=fun y z L=>by rw [List.set_append_left _ _ (by simpa using ai hb1),List.set_set]
      have hg5:∀ y L,(H1.set rb y++L)[rb]?=some y:=fun y L=>ah (List.getElem?_set_self (ai hb1))
      simp only [go_sem,simprocAttr,hl,h0,hnx,hg1,hg2,MsC.l7,hlen,hvw,bD,bR,bV,bU,bS,hbf,dH,he1,c0,hlv,hwt,hlow,q1,q2,q3,hi,hl4,hnum,MsC.len,MsC.s2,MsC.s4,hs,qx,hs2,hg5]
      exact ⟨_,rfl,v1,_,rfl,(hf1.trans (Fm.set _ _)).app _,ah (List.getElem?_set_self (ai hb1))⟩
     ·have q3:decide ((n:Int)≤2147483647)=false:=by simp; omega
      rw [if_neg h4] at fin
      simp only [go_sem,simprocAttr,hl,h0,hnx,hg1,hg2,MsC.l7,hlen,hvw,bD,bR,bV,bU,bS,hbf,dH,he1,c0,hlv,hwt,hlow,q1,q2,q3,hi,hl4,hnum]
      exact ⟨if_neg h4,(fin rfl _).2⟩
   ·have q2:(Lib.mapD gJ w.t == [36,116,116,108])=false:=by rw [lG _ _ (by decide)]; simpa [LS] using h2
    rw [if_neg h2] at fin ⊢
    simp only [go_sem,simprocAttr,hl,h0,hnx,hg1,hg2,MsC.l7,hlen,hvw,bD,bR,bV,bU,bS,hbf,dH,he1,c0,hlv,hwt,hlow,q1,q2]
    exact (fin rfl _).2

def RcC (nm:List UInt8) (ty:Int) (cl:Int) (tt:Nat) (d:Dt):List AV:=[.str nm,.int .u16 ty,.int .u16 cl,.int .u32 tt]++d.cells
def dK:List Wd→Bool→Bool→Nat→Except (Wd × Nat) (List Wd × Bool × Nat)
 | [],tm,_,tt=>.ok ([],tm,tt)
 | w::r,tm,cs,tt =>
  if (sq w).isSome=true∧tm=false then (if 2147483647 < (sq w).getD 0 then .error (w,91) else dK r true cs ((sq w).getD 0))
  else if w.q=false∧cs=false∧bB w.t=[105,110] then dK r tm true tt
  else if w.q=false∧cs=false∧(bB w.t=[99,104]∨bB w.t=[99,115]∨bB w.t=[104,115]) then .error (w,92)
  else .ok (w::r,tm,tt)
theorem RcC.s3 {nm:List UInt8} {ty cl:Int} {tt:Nat} {d:Dt} {x:Nat}:splice (RcC nm ty cl tt d) 3 [.int .u32 x]=RcC nm ty cl x d:=rfl
theorem RcC.len {nm:List UInt8} {ty cl:Int} {tt:Nat} {d:Dt}:(RcC nm ty cl tt d).length=12:=rfl
def Fm2 (rb xb:Nat) (H H':Hp):Prop:=H.length≤H'.length∧∀ (i:Nat) x,i≠rb→i≠xb→H[i]?=some x→H'[i]?=some x

theorem Fm2.app {rb xb:Nat} {H H':Hp} (h:Fm2 rb xb H H') (L:Hp):Fm2 rb xb H (H'++L):=⟨by simp; have:=h.1; omega,fun i x hi hj hx=>ah (h.2 i x hi hj hx)⟩
theorem Fm2.RT {rb xb:Nat} {H H':Hp} (h:Fm2 rb xb H H') (y:bp):Fm2 rb xb H (H'.set rb y):=⟨by simp; exact h.1,fun i x hi hj hx=>by rw [List.getElem?_set_ne (Ne.symm hi)]; exact h.2 i x hi hj hx⟩
theorem Fm2.TM {rb xb:Nat} {H H':Hp} (h:Fm2 rb xb H H') (y:bp):Fm2 rb xb H (H'.set xb y):=⟨by simp; exact h.1,fun i x hi hj hx=>by rw [List.getElem?_set_ne (Ne.symm hj)]; exact h.2 i x hi hj hx⟩
theorem Gl.fm2 {H H':Hp} {rb xb:Nat} (h:Gl H) (hr:gN≤rb) (hx:rb < xb) (hf:Fm2 rb xb H H'):Gl H':=h.fr (fun i x hi hy=>hf.2 i x (by omega) (by omega) hy)
theorem wq {H H1 L:Hp} {e:Ef} {v:AV} {rb:Nat} (hfl:flat v=true) (hlt:rb < H.length) (hc:clean rb e) (hs:(H1=H∧e.es=none)∨Sto rb e):∃ H' e',leave H.length v (H1++L) e=(v,H',e')∧clean rb e'∧(H'=H1∨H'=H1++L):=by
 rcases hs with ⟨rfl,he⟩ | hs
 ·refine ⟨H1,⟨none,low H1.length e.ws⟩,?_,⟨rfl,kB hc.2⟩,.inl rfl⟩
  unfold V.leave
  rw [he,if_pos ⟨hfl,rfl⟩,List.take_left]; rfl
 ·exact ⟨_,_,hs.leave hlt,⟨kB hc.1,kB hc.2⟩,.inr rfl⟩

set_option maxHeartbeats 4000000 in
theorem M8 (H:Hp) (rb xb:Nat) (o ow:List UInt8) (tt:Nat) (tl fx:Bool) (vo vf vw:AV) (ws:List Wd) (nm:List UInt8) (ty cl:Int) (t0:Nat) (d:Dt) (hb:H[rb]?=some (.cells (MsC o ow tt tl fx vo vf vw) 61 .rw)) (hx:H[xb]?=some (.cells (RcC nm ty cl t0 d) 36 .rw))
  (hv:Wv H vw ws) (hgl:Gl H) (hr:gN≤rb) (hrx:rb < xb) (hw:∀ x ∈ ws,x.t.length≤1048576) :
  gF Tryz.prog 47 [.ptr rb 0,.ptr xb 0] H
   (fun q=>∃ y,dK ws false false t0=.ok y∧∃ v' H' e,q=(.bool y.2.1,H',e)∧clean rb e∧Fm2 rb xb H H'∧H'[rb]?=some (.cells (MsC o ow tt tl fx vo vf v') 61 .rw)∧H'[xb]?=some (.cells (RcC nm ty cl y.2.2 d) 36 .rw)∧Wv H' v' y.1)
   (fun q=>∃ y,dK ws false false t0=.error y∧∃ H' e c,q=(flt y.1 y.2,H',e)∧clean rb e∧Fm2 rb xb H H'∧H'[rb]?=some (.cells c 61 .rw)):=by
 have hlt:=ai hb
 have hltx:=ai hx
 refine lW (n:=91) (rs:=[.tmp 4]) Tryz.func47 rfl rfl rfl ?_
 intro σ hl ha
 have h0:=ha 0 (by simp)
 have h1:=ha 1 (by simp)
 clear ha
 simp only [Option.getD_some,List.getElem?_cons_zero,List.getElem?_cons_succ] at h0 h1
 simp only [go_sem,simprocAttr,hl,h0,h1]
 refine go_rounds (fun m st=>∃ σ v H1 e r tm cs ti,m=r.length∧dK ws false false t0=dK r tm cs ti∧(∀ x ∈ r,x.t.length≤1048576)∧st=⟨σ,H1,e⟩∧clean rb e∧Fm2 rb xb H H1∧H1[rb]?=some (.cells (MsC o ow tt tl fx vo vf v) 61 .rw)∧H1[xb]?=some (.cells (RcC nm ty cl ti d) 36 .rw)∧Wv H1 v r ∧
  ((H1=H∧e.es=none)∨Sto rb e)∧σ.length=91∧fr σ 0=.ptr rb 0∧fr σ 1=.ptr xb 0∧fr σ 5=.bool tm∧fr σ 6=.bool cs) ws.length
  ⟨_,vw,H,_,ws,false,false,t0,rfl,rfl,hw,rfl,⟨rfl,rfl⟩,⟨Nat.le_refl _,fun _ _ _ _ h=>h⟩,hb,hx,hv,.inl ⟨rfl,rfl⟩,by simp only [go_sem,simprocAttr,hl],by simp only [go_sem,simprocAttr,hl,h0],by simp only [go_sem,simprocAttr,hl,h1],by simp only [go_sem,simprocAttr,hl],by simp only [go_sem,simprocAttr,hl]⟩ ?_
 clear hl h0 h1
 rintro m _ ⟨σ,v,H1,e,r,tm,cs,ti,rfl,hhd,hwr,rfl,hce,hfm,hb1,hx1,hv1,hst,hl,h0,h1,h5,h6⟩
 have hlen:=hv1.len
 rw [hhd]
 cases r with
 | nil =>
  have c0:decide (((([]:List Wd).length:Nat):Int) > 0)=false:=rfl
  simp only [go_sem,simprocAttr,hl,h0,h1,h5,h6,hb1,MsC.l7,hlen,c0]
  obtain ⟨H',e',q1,q2,q3⟩:=wq (L:=[]) (v:=.bool tm) rfl hlt hce hst
  rw [List.append_nil] at q1
  rw [q1]
  have q3:H'=H1:=by rcases q3 with h | h <;> simpa using h
  subst q3
  exact ⟨_,rfl,v,_,_,rfl,q2,hfm,hb1,hx1,hv1⟩
 | cons w r =>
  have c0:decide (((r.length+1:Nat):Int) > 0)=true:=decide_eq_true (by omega)
  obtain ⟨b,q,row,ee,kd,hi,hg,hl4⟩:=hv1.at (i:=0) rfl
  have hi:aN Tryz.prog 59 v (.int .i64 0)=some (.ptr b q):=hi
  have hgl1:=hgl.fm2 hr hrx hfm
  have hwt:ldC 0 1 false (.cells w.cells 63 .rw)=some (.str w.t):=rfl
  have hwq:ldC 1 1 false (.cells w.cells 63 .rw)=some (.bool w.q):=rfl
  have hvw:bH (.agg w.cells)=w.cells:=rfl
  obtain ⟨nx,hnx1,hnum⟩:=uL w (H1++[.cells w.cells 63 .rw]) (hgl1.old _).2.1 (hwr w (by simp))
  have hlow:=fun k=>Jp w.t (H1++[.cells w.cells 63 .rw]) k (hgl1.old _).2.2.2 (hwr w (by simp))
  have hg1:∀ x,(H1++[x])[rb]?=some (.cells (MsC o ow tt tl fx vo vf v) 61 .rw):=fun x=>ah hb1
  have hg2:∀ x,(H1++[x])[xb]?=some (.cells (RcC nm ty cl ti d) 36 .rw):=fun x=>ah hx1
  have hle1:=hfm.1
  have hes:∀ j,(e.and ⟨none,some j⟩).es=e.es:=fun j=>by show eD e.es none=e.es; cases e.es <;> rfl
  have hce2:clean rb (e.and ⟨none,some H1.length⟩):=bn hce (by simp [clean,low]; omega)
  have hst2:(H1=H∧(e.and ⟨none,some H1.length⟩).es=none)∨Sto rb (e.and ⟨none,some H1.length⟩):=by
   rcases hst with ⟨h1,h2⟩ | h
   ·exact .inl ⟨h1,by rw [hes]; exact h2⟩
   ·exact .inr (h.l _)
  have finr:dK (w::r) tm cs ti=.ok (w::r,tm,ti)→∀ L,∃ y,dK (w::r) tm cs ti=.ok y∧∃ v' H' e',leave H.length (.bool tm) (H1++L) (e.and ⟨none,some H1.length⟩)=(.bool y.2.1,H',e')∧clean rb e'∧Fm2 rb xb H H'∧H'[rb]?=some (.cells (MsC o ow tt tl fx vo vf v') 61 .rw)∧H'[xb]?=some (.cells (RcC nm ty cl y.2.2 d) 36 .rw)∧Wv H' v' y.1:=by
   intro hS L
   obtain ⟨H',e',q1,q2,q3⟩:=wq (L:=L) (v:=.bool tm) rfl hlt hce2 hst2
   refine ⟨_,hS,v,H',e',q1,q2,?_⟩
   rcases q3 with rfl | rfl
   ·exact ⟨hfm,hb1,hx1,hv1⟩
   ·exact ⟨hfm.app L,ah hb1,ah hx1,hv1.old L⟩
  have finp:∀ n,dK (w::r) tm cs ti=.error (w,n)→∀ L,∃ y,dK (w::r) tm cs ti=.error y∧∃ H' e' c,leave H.length (flt w n) (H1++L) (e.and ⟨none,some H1.length⟩)=(flt y.1 y.2,H',e')∧clean rb e'∧Fm2 rb xb H H'∧H'[rb]?=some (.cells c 61 .rw):=by
   intro n hS L
   obtain ⟨H',e',q1,q2,q3⟩:=wq (L:=L) (v:=flt w n) rfl hlt hce2 hst2
   refine ⟨_,hS,H',e',MsC o ow tt tl fx vo vf v,q1,q2,?_⟩
   rcases q3 with rfl | rfl
   ·exact ⟨hfm,hb1⟩
   ·exact ⟨hfm.app L,ah hb1⟩
  have hbf1:bq Tryz.prog 65 [(0,.agg w.cells),(1,.int .i64 91)]=some (.agg (w.cells++[.int .i64 91])):=kN w 91
  have hbf2:bq Tryz.prog 65 [(0,.agg w.cells),(1,.int .i64 92)]=some (.agg (w.cells++[.int .i64 92])):=kN w 92
  have hvt:=(hv1.old [.cells w.cells 63 .rw]).tl
  obtain ⟨v',L2,hsl,hv',hL2,hfl⟩:=hvt
  obtain ⟨hsc,hvc⟩:=hv'.scl
  obtain ⟨Hc,hHc⟩:∃ Hc:Hp,Hc=H1++[.cells w.cells 63 .rw]++L2:=⟨_,rfl⟩
  have hsl':∀ kk,slK Tryz.prog 59 v (some (.int .i64 1)) none none (H1++[.cells w.cells 63 .rw]) kk=kk (v',Hc,z0):=by rw [hHc]; exact hsl
  rw [← hHc] at hv'
  have f0:Fm2 rb xb H Hc:=by rw [hHc]; exact (hfm.app _).app _
  have f1:Hc[rb]?=some (.cells (MsC o ow tt tl fx vo vf v) 61 .rw):=by rw [hHc]; exact ah (hg1 _)
  have f2:Hc[xb]?=some (.cells (RcC nm ty cl ti d) 36 .rw):=by rw [hHc]; exact ah (hg2 _)
  have f3:=f0.RT (.cells (MsC o ow tt tl fx vo vf v') 61 .rw)
  have f4:(Hc.set rb (.cells (MsC o ow tt tl fx vo vf v') 61 .rw))[rb]?=some (.cells (MsC o ow tt tl fx vo vf v') 61 .rw):=List.getElem?_set_self (ai f1)
  have f5:(Hc.set rb (.cells (MsC o ow tt tl fx vo vf v') 61 .rw))[xb]?=some (.cells (RcC nm ty cl ti d) 36 .rw):=by rw [List.getElem?_set_ne (by omega)]; exact f2
  have f6:Wv (Hc.set rb (.cells (MsC o ow tt tl fx vo vf v') 61 .rw)) v' r:=hv'.yP f1 uA
  have f7:clean rb ((e.and ⟨none,some H1.length⟩).and ⟨some rb,some rb⟩):=bn hce2 (by simp [clean,low])
  have hwr':∀ x ∈ r,x.t.length≤1048576:=fun x hx=>hwr x (by simp [hx])
  have hin:(Lib.mapD gJ w.t == [105,110])=(bB w.t == [105,110]):=lG _ _ (by decide)
  have hch:(Lib.mapD gJ w.t == [99,104])=(bB w.t == [99,104]):=lG _ _ (by decide)
  have hcs2:(Lib.mapD gJ w.t == [99,115])=(bB w.t == [99,115]):=lG _ _ (by decide)
  have hhs:(Lib.mapD gJ w.t == [104,115])=(bB w.t == [104,115]):=lG _ _ (by decide)
  cases h3:sq w with
  | none =>
   rw [h3] at hnum
   simp only [Option.isSome_none] at hnum
   cases hq:w.q
   case true =>
    rw [hq] at hwq
    simp only [go_sem,simprocAttr,hl,h0,h1,h5,h6,hb1,MsC.l7,hlen,c0,hi,hg,hl4,hvw,bD,bR,bV,bU,bS,hwt,hwq,hnum,hlow]
    exact finr (by simp only [dK]; rw [if_neg (by rw [h3]; simp),if_neg (by rw [hq]; simp),if_neg (by rw [hq]; simp)]) _
   rw [hq] at hwq
   cases hcs:cs
   case true =>
    rw [hcs] at h6
    simp only [go_sem,simprocAttr,hl,h0,h1,h5,h6,hb1,MsC.l7,hlen,c0,hi,hg,hl4,hvw,bD,bR,bV,bU,bS,hwt,hwq,hnum,hlow]
    exact hcs ▸ finr (by simp only [dK]; rw [if_neg (by rw [h3]; simp),if_neg (by rw [hcs]; simp),if_neg (by rw [hcs]; simp)]) _
   rw [hcs] at h6
   cases hbi:(bB w.t == [105,110])
   case true =>
    simp only [go_sem,simprocAttr,hl,h0,h1,h5,h6,hb1,MsC.l7,hlen,c0,hi,hg,hl4,hvw,bD,bR,bV,bU,bS,hwt,hwq,hnum,hlow,hin,hbi,hg1,hsl',f1,MsC.len,MsC.s7,hvc,hsc,hfl]
    exact ⟨r.length,by omega,_,v',_,_,r,tm,true,ti,rfl,by simp only [dK]; rw [if_neg (by rw [h3]; simp),if_pos ⟨hq,trivial,by simpa using hbi⟩],hwr',rfl,f7,f3,f4,f5,f6,.inr (Sto.this.r _),by simp only [go_sem,simprocAttr,hl],by simp only [go_sem,simprocAttr,hl,h0],by simp only [go_sem,simprocAttr,hl,h1],by simp only [go_sem,simprocAttr,hl,h5],by simp only [go_sem,simprocAttr,hl]⟩
   cases hbc:(bB w.t == [99,104])
   case true =>
    simp only [go_sem,simprocAttr,hl,h0,h1,h5,h6,hb1,MsC.l7,hlen,c0,hi,hg,hl4,hvw,bD,bR,bV,bU,bS,hwt,hwq,hnum,hlow,hin,hbi,hch,hbc,hbf2,dH]
    exact hcs ▸ finp 92 (by simp only [dK]; rw [if_neg (by rw [h3]; simp),if_neg (fun h=>by rw [h.2.2] at hbi; simp at hbi),if_pos ⟨hq,hcs,.inl (by simpa using hbc)⟩]) _
   cases hbs:(bB w.t == [99,115])
   case true =>
    simp only [go_sem,simprocAttr,hl,h0,h1,h5,h6,hb1,MsC.l7,hlen,c0,hi,hg,hl4,hvw,bD,bR,bV,bU,bS,hwt,hwq,hnum,hlow,hin,hbi,hch,hbc,hcs2,hbs,hbf2,dH]
    exact hcs ▸ finp 92 (by simp only [dK]; rw [if_neg (by rw [h3]; simp),if_neg (fun h=>by rw [h.2.2] at hbi; simp at hbi),if_pos ⟨hq,hcs,.inr (.inl (by simpa using hbs))⟩]) _
   cases hbh:(bB w.t == [104,115])
   case true =>
    simp only [go_sem,simprocAttr,hl,h0,h1,h5,h6,hb1,MsC.l7,hlen,c0,hi,hg,hl4,hvw,bD,bR,bV,bU,bS,hwt,hwq,hnum,hlow,hin,hbi,hch,hbc,hcs2,hbs,hhs,hbh,hbf2,dH]
    exact hcs ▸ finp 92 (by simp only [dK]; rw [if_neg (by rw [h3]; simp),if_neg (fun h=>by rw [h.2.2] at hbi; simp at hbi),if_pos ⟨hq,hcs,.inr (.inr (by simpa using hbh))⟩]) _
   simp only [go_sem,simprocAttr,hl,h0,h1,h5,h6,hb1,MsC.l7,hlen,c0,hi,hg,hl4,hvw,bD,bR,bV,bU,bS,hwt,hwq,hnum,hlow,hin,hbi,hch,hbc,hcs2,hbs,hhs,hbh]
   exact hcs ▸ finr (by
    simp only [dK]
    rw [if_neg (by rw [h3]; simp),if_neg (fun h=>by rw [h.2.2] at hbi; simp at hbi),if_neg]
    rintro ⟨_,_,h | h | h⟩
    ·rw [h] at hbc; simp at hbc
    ·rw [h] at hbs; simp at hbs
    ·rw [h] at hbh; simp at hbh) _
  | some n =>
   rw [h3] at hnum
   simp only [Option.isSome_some] at hnum
   have hx:=hnx1 n h3
   subst hx
   cases htm:tm
   case true =>
    subst htm
    cases hq:w.q
    case true =>
     rw [hq] at hwq
     simp only [go_sem,simprocAttr,hl,h0,h1,h5,h6,hb1,MsC.l7,hlen,c0,hi,hg,hl4,hvw,bD,bR,bV,bU,bS,hwt,hwq,hnum,hlow]
     exact finr (by simp only [dK]; rw [if_neg (by simp),if_neg (by rw [hq]; simp),if_neg (by rw [hq]; simp)]) _
    rw [hq] at hwq
    cases hcs:cs
    case true =>
     rw [hcs] at h6
     simp only [go_sem,simprocAttr,hl,h0,h1,h5,h6,hb1,MsC.l7,hlen,c0,hi,hg,hl4,hvw,bD,bR,bV,bU,bS,hwt,hwq,hnum,hlow]
     exact hcs ▸ finr (by simp only [dK]; rw [if_neg (by simp),if_neg (by rw [hcs]; simp),if_neg (by rw [hcs]; simp)]) _
    rw [hcs] at h6
    cases hbi:(bB w.t == [105,110])
    case true =>
     simp only [go_sem,simprocAttr,hl,h0,h1,h5,h6,hb1,MsC.l7,hlen,c0,hi,hg,hl4,hvw,bD,bR,bV,bU,bS,hwt,hwq,hnum,hlow,hin,hbi,hg1,hsl',f1,MsC.len,MsC.s7,hvc,hsc,hfl]
     exact ⟨r.length,by omega,_,v',_,_,r,true,true,ti,rfl,by simp only [dK]; rw [if_neg (by simp),if_pos ⟨hq,trivial,by simpa using hbi⟩],hwr',rfl,f7,f3,f4,f5,f6,.inr (Sto.this.r _),by simp only [go_sem,simprocAttr,hl],by simp only [go_sem,simprocAttr,hl,h0],by simp only [go_sem,simprocAttr,hl,h1],by simp only [go_sem,simprocAttr,hl,h5],by simp only [go_sem,simprocAttr,hl]⟩
    cases hbc:(bB w.t == [99,104])
    case true =>
     simp only [go_sem,simprocAttr,hl,h0,h1,h5,h6,hb1,MsC.l7,hlen,c0,hi,hg,hl4,hvw,bD,bR,bV,bU,bS,hwt,hwq,hnum,hlow,hin,hbi,hch,hbc,hbf2,dH]
     exact hcs ▸ finp 92 (by simp only [dK]; rw [if_neg (by simp),if_neg (fun h=>by rw [h.2.2] at hbi; simp at hbi),if_pos ⟨hq,hcs,.inl (by simpa using hbc)⟩]) _
    cases hbs:(bB w.t == [99,115])
    case true =>
     simp only [go_sem,simprocAttr,hl,h0,h1,h5,h6,hb1,MsC.l7,hlen,c0,hi,hg,hl4,hvw,bD,bR,bV,bU,bS,hwt,hwq,hnum,hlow,hin,hbi,hch,hbc,hcs2,hbs,hbf2,dH]
     exact hcs ▸ finp 92 (by simp only [dK]; rw [if_neg (by simp),if_neg (fun h=>by rw [h.2.2] at hbi; simp at hbi),if_pos ⟨hq,hcs,.inr (.inl (by simpa using hbs))⟩]) _
    cases hbh:(bB w.t == [104,115])
    case true =>
     simp only [go_sem,simprocAttr,hl,h0,h1,h5,h6,hb1,MsC.l7,hlen,c0,hi,hg,hl4,hvw,bD,bR,bV,bU,bS,hwt,hwq,hnum,hlow,hin,hbi,hch,hbc,hcs2,hbs,hhs,hbh,hbf2,dH]
     exact hcs ▸ finp 92 (by simp only [dK]; rw [if_neg (by simp),if_neg (fun h=>by rw [h.2.2] at hbi; simp at hbi),if_pos ⟨hq,hcs,.inr (.inr (by simpa using hbh))⟩]) _
    simp only [go_sem,simprocAttr,hl,h0,h1,h5,h6,hb1,MsC.l7,hlen,c0,hi,hg,hl4,hvw,bD,bR,bV,bU,bS,hwt,hwq,hnum,hlow,hin,hbi,hch,hbc,hcs2,hbs,hhs,hbh]
    exact hcs ▸ finr (by
     simp only [dK]
     rw [if_neg (by simp),if_neg (fun h=>by rw [h.2.2] at hbi; simp at hbi),if_neg]
     rintro ⟨_,_,h | h | h⟩
     ·rw [h] at hbc; simp at hbc
     ·rw [h] at hbs; simp at hbs
     ·rw [h] at hbh; simp at hbh) _
   subst htm
   by_cases hbig:2147483647 < n
   ·have q3:decide ((n:Int) > 2147483647)=true:=decide_eq_true (by omega)
    simp only [go_sem,simprocAttr,hl,h0,h1,h5,h6,hb1,MsC.l7,hlen,c0,hi,hg,hl4,hvw,bD,bR,bV,bU,bS,hwt,hwq,hnum,hlow,q3,hbf1,dH]
    exact finp 91 (by simp only [dK]; rw [if_pos ⟨by rw [h3]; rfl,trivial⟩,h3,Option.getD_some,if_pos hbig]) _
   ·have q3:decide ((n:Int) > 2147483647)=false:=decide_eq_false (by omega)
    obtain ⟨Hd,hHd⟩:∃ Hd:Hp,Hd=(H1++[bp.cells w.cells 63 .rw]:Hp).set xb (.cells (RcC nm ty cl n d) 36 .rw):=⟨_,rfl⟩
    have e0:Hd[rb]?=some (.cells (MsC o ow tt tl fx vo vf v) 61 .rw):=by rw [hHd,List.getElem?_set_ne (by omega)]; exact hg1 _
    have e1:Hd[xb]?=some (.cells (RcC nm ty cl n d) 36 .rw):=by rw [hHd]; exact List.getElem?_set_self (ai (hg2 _))
    have e2:Fm2 rb xb H Hd:=by rw [hHd]; exact (hfm.app _).TM _
    have hvd:Wv Hd v (w::r):=by rw [hHd]; exact (hv1.old [.cells w.cells 63 .rw]).yP (hg2 _) uA
    obtain ⟨u',L3,hsl3,hu',hL3,hfl3⟩:=hvd.tl
    obtain ⟨hsc3,hvc3⟩:=hu'.scl
    obtain ⟨He,hHe⟩:∃ He:Hp,He=Hd++L3:=⟨_,rfl⟩
    rw [← hHe] at hsl3 hu'
    have g1:He[rb]?=some (.cells (MsC o ow tt tl fx vo vf v) 61 .rw):=by rw [hHe]; exact ah e0
    have g2:He[xb]?=some (.cells (RcC nm ty cl n d) 36 .rw):=by rw [hHe]; exact ah e1
    have g3:Fm2 rb xb H He:=by rw [hHe]; exact e2.app _
    have g5:(He.set rb (.cells (MsC o ow tt tl fx vo vf u') 61 .rw))[xb]?=some (.cells (RcC nm ty cl n d) 36 .rw):=by rw [List.getElem?_set_ne (by omega)]; exact g2
    have g7:clean rb (((e.and ⟨none,some H1.length⟩).and ⟨none,some xb⟩).and ⟨some rb,some rb⟩):=bn (bn hce2 (by simp [clean,low]; omega)) (by simp [clean,low])
    simp only [go_sem,simprocAttr,hl,h0,h1,h5,h6,hb1,MsC.l7,hlen,c0,hi,hg,hl4,hvw,bD,bR,bV,bU,bS,hwt,hwq,hnum,hlow,q3,hg2,RcC.len,RcC.s3,← hHd,e0,hsl3,g1,MsC.len,MsC.s7,hvc3,hsc3,hfl3]
    exact ⟨r.length,by omega,_,u',_,_,r,true,cs,n,rfl,by simp only [dK]; rw [if_pos ⟨by rw [h3]; rfl,trivial⟩,h3,Option.getD_some,if_neg hbig],hwr',rfl,g7,g3.RT _,List.getElem?_set_self (ai g1),g5,hu'.yP g1 uA,.inr (Sto.this.r _),by simp only [go_sem,simprocAttr,hl],by simp only [go_sem,simprocAttr,hl,h0],by simp only [go_sem,simprocAttr,hl,h1],by simp only [go_sem,simprocAttr,hl],by simp only [go_sem,simprocAttr,hl,h6]⟩
theorem Qp (d:Dt) (H) (hk:Tk H) (hd:d.wf):ag Tryz.prog 29 [.int .u16 1,.agg d.cells] H (fun q=>q=(.agg (Dt.cells { d with host:=d.host,bW:=d.bW }),H,z0)):=by
 refine aa (n:=28) (rs:=[.cell 4 34]) Tryz.func29 rfl rfl rfl ?_
 intro σ hl ha
 have h0:=ha 0 (by simp)
 have h1:=ha 1 (by simp)
 clear ha
 simp only [Option.getD_some,List.getElem?_cons_zero,List.getElem?_cons_succ] at h0 h1
 have hf:=fun l k=>bM 1 (H++l) k (hk.old l)
 rw [show aU 1=[97] from rfl] at hf
 have i0:aJ [97] 0=(.tuple [.bool true,.int .i64 0,.int .i32 97],1):=by rw [aE (by decide)]; rfl
 have i1:aJ [97] 1=(.tuple [.bool false],1):=by rw [aE (by decide)]; rfl
 simp only [go_sem,simprocAttr,hl,h0,h1,Dt.cells,hf]
 rw [go_loop]
 simp only [go_sem,simprocAttr,hl,h0,h1,i0,i1,hf]
 rw [go_loop]
 simp only [go_sem,simprocAttr,hl,h0,h1,i0,i1,hf]
theorem Qo (d:Dt) (H) (hk:Tk H) (hd:d.wf):ag Tryz.prog 29 [.int .u16 2,.agg d.cells] H (fun q=>q=(.agg (Dt.cells { d with host:=bB d.host,bW:=d.bW }),H,z0)):=by
 refine aa (n:=28) (rs:=[.cell 4 34]) Tryz.func29 rfl rfl rfl ?_
 intro σ hl ha
 have h0:=ha 0 (by simp)
 have h1:=ha 1 (by simp)
 clear ha
 simp only [Option.getD_some,List.getElem?_cons_zero,List.getElem?_cons_succ] at h0 h1
 have hf:=fun l k=>bM 2 (H++l) k (hk.old l)
 rw [show aU 2=[104] from rfl] at hf
 have hh:=fun H k=>dW d.host H k (by have:=hd.host; show _≤9223372036854775807; omega)
 have i0:aJ [104] 0=(.tuple [.bool true,.int .i64 0,.int .i32 104],1):=by rw [aE (by decide)]; rfl
 have i1:aJ [104] 1=(.tuple [.bool false],1):=by rw [aE (by decide)]; rfl
 simp only [go_sem,simprocAttr,hl,h0,h1,Dt.cells,hf,hh]
 rw [go_loop]
 simp only [go_sem,simprocAttr,hl,h0,h1,i0,i1,hf,hh]
 rw [go_loop]
 simp only [go_sem,simprocAttr,hl,h0,h1,i0,i1,hf,hh]
theorem Qn (d:Dt) (H) (hk:Tk H) (hd:d.wf):ag Tryz.prog 29 [.int .u16 5,.agg d.cells] H (fun q=>q=(.agg (Dt.cells { d with host:=bB d.host,bW:=d.bW }),H,z0)):=by
 refine aa (n:=28) (rs:=[.cell 4 34]) Tryz.func29 rfl rfl rfl ?_
 intro σ hl ha
 have h0:=ha 0 (by simp)
 have h1:=ha 1 (by simp)
 clear ha
 simp only [Option.getD_some,List.getElem?_cons_zero,List.getElem?_cons_succ] at h0 h1
 have hf:=fun l k=>bM 5 (H++l) k (hk.old l)
 rw [show aU 5=[104] from rfl] at hf
 have hh:=fun H k=>dW d.host H k (by have:=hd.host; show _≤9223372036854775807; omega)
 have i0:aJ [104] 0=(.tuple [.bool true,.int .i64 0,.int .i32 104],1):=by rw [aE (by decide)]; rfl
 have i1:aJ [104] 1=(.tuple [.bool false],1):=by rw [aE (by decide)]; rfl
 simp only [go_sem,simprocAttr,hl,h0,h1,Dt.cells,hf,hh]
 rw [go_loop]
 simp only [go_sem,simprocAttr,hl,h0,h1,i0,i1,hf,hh]
 rw [go_loop]
 simp only [go_sem,simprocAttr,hl,h0,h1,i0,i1,hf,hh]
theorem Qm (d:Dt) (H) (hk:Tk H) (hd:d.wf):ag Tryz.prog 29 [.int .u16 6,.agg d.cells] H (fun q=>q=(.agg (Dt.cells { d with host:=bB d.host,bW:=bB d.bW }),H,z0)):=by
 refine aa (n:=28) (rs:=[.cell 4 34]) Tryz.func29 rfl rfl rfl ?_
 intro σ hl ha
 have h0:=ha 0 (by simp)
 have h1:=ha 1 (by simp)
 clear ha
 simp only [Option.getD_some,List.getElem?_cons_zero,List.getElem?_cons_succ] at h0 h1
 have hf:=fun l k=>bM 6 (H++l) k (hk.old l)
 rw [show aU 6=[104,109,108,108,108,108,108] from rfl] at hf
 have hh:=fun H k=>dW d.host H k (by have:=hd.host; show _≤9223372036854775807; omega)
 have hm:=fun H k=>dW d.bW H k (by have:=hd.bW; show _≤9223372036854775807; omega)
 have i0:aJ [104,109,108,108,108,108,108] 0=(.tuple [.bool true,.int .i64 0,.int .i32 104],1):=by rw [aE (by decide)]; rfl
 have i1:aJ [104,109,108,108,108,108,108] 1=(.tuple [.bool true,.int .i64 1,.int .i32 109],2):=by rw [aE (by decide)]; rfl
 have i2:aJ [104,109,108,108,108,108,108] 2=(.tuple [.bool true,.int .i64 2,.int .i32 108],3):=by rw [aE (by decide)]; rfl
 have i3:aJ [104,109,108,108,108,108,108] 3=(.tuple [.bool true,.int .i64 3,.int .i32 108],4):=by rw [aE (by decide)]; rfl
 have i4:aJ [104,109,108,108,108,108,108] 4=(.tuple [.bool true,.int .i64 4,.int .i32 108],5):=by rw [aE (by decide)]; rfl
 have i5:aJ [104,109,108,108,108,108,108] 5=(.tuple [.bool true,.int .i64 5,.int .i32 108],6):=by rw [aE (by decide)]; rfl
 have i6:aJ [104,109,108,108,108,108,108] 6=(.tuple [.bool true,.int .i64 6,.int .i32 108],7):=by rw [aE (by decide)]; rfl
 have i7:aJ [104,109,108,108,108,108,108] 7=(.tuple [.bool false],7):=by rw [aE (by decide)]; rfl
 simp only [go_sem,simprocAttr,hl,h0,h1,Dt.cells,hf,hh,hm]
 rw [go_loop]
 simp only [go_sem,simprocAttr,hl,h0,h1,i0,i1,i2,i3,i4,i5,i6,i7,hf,hh,hm]
 rw [go_loop]
 simp only [go_sem,simprocAttr,hl,h0,h1,i0,i1,i2,i3,i4,i5,i6,i7,hf,hh,hm]
 rw [go_loop]
 simp only [go_sem,simprocAttr,hl,h0,h1,i0,i1,i2,i3,i4,i5,i6,i7,hf,hh,hm]
 rw [go_loop]
 simp only [go_sem,simprocAttr,hl,h0,h1,i0,i1,i2,i3,i4,i5,i6,i7,hf,hh,hm]
 rw [go_loop]
 simp only [go_sem,simprocAttr,hl,h0,h1,i0,i1,i2,i3,i4,i5,i6,i7,hf,hh,hm]
 rw [go_loop]
 simp only [go_sem,simprocAttr,hl,h0,h1,i0,i1,i2,i3,i4,i5,i6,i7,hf,hh,hm]
 rw [go_loop]
 simp only [go_sem,simprocAttr,hl,h0,h1,i0,i1,i2,i3,i4,i5,i6,i7,hf,hh,hm]
 rw [go_loop]
 simp only [go_sem,simprocAttr,hl,h0,h1,i0,i1,i2,i3,i4,i5,i6,i7,hf,hh,hm]
theorem NY (d:Dt) (H) (hk:Tk H) (hd:d.wf):ag Tryz.prog 29 [.int .u16 12,.agg d.cells] H (fun q=>q=(.agg (Dt.cells { d with host:=bB d.host,bW:=d.bW }),H,z0)):=by
 refine aa (n:=28) (rs:=[.cell 4 34]) Tryz.func29 rfl rfl rfl ?_
 intro σ hl ha
 have h0:=ha 0 (by simp)
 have h1:=ha 1 (by simp)
 clear ha
 simp only [Option.getD_some,List.getElem?_cons_zero,List.getElem?_cons_succ] at h0 h1
 have hf:=fun l k=>bM 12 (H++l) k (hk.old l)
 rw [show aU 12=[104] from rfl] at hf
 have hh:=fun H k=>dW d.host H k (by have:=hd.host; show _≤9223372036854775807; omega)
 have i0:aJ [104] 0=(.tuple [.bool true,.int .i64 0,.int .i32 104],1):=by rw [aE (by decide)]; rfl
 have i1:aJ [104] 1=(.tuple [.bool false],1):=by rw [aE (by decide)]; rfl
 simp only [go_sem,simprocAttr,hl,h0,h1,Dt.cells,hf,hh]
 rw [go_loop]
 simp only [go_sem,simprocAttr,hl,h0,h1,i0,i1,hf,hh]
 rw [go_loop]
 simp only [go_sem,simprocAttr,hl,h0,h1,i0,i1,hf,hh]
theorem NX (d:Dt) (H) (hk:Tk H) (hd:d.wf):ag Tryz.prog 29 [.int .u16 15,.agg d.cells] H (fun q=>q=(.agg (Dt.cells { d with host:=bB d.host,bW:=d.bW }),H,z0)):=by
 refine aa (n:=28) (rs:=[.cell 4 34]) Tryz.func29 rfl rfl rfl ?_
 intro σ hl ha
 have h0:=ha 0 (by simp)
 have h1:=ha 1 (by simp)
 clear ha
 simp only [Option.getD_some,List.getElem?_cons_zero,List.getElem?_cons_succ] at h0 h1
 have hf:=fun l k=>bM 15 (H++l) k (hk.old l)
 rw [show aU 15=[115,104] from rfl] at hf
 have hh:=fun H k=>dW d.host H k (by have:=hd.host; show _≤9223372036854775807; omega)
 have i0:aJ [115,104] 0=(.tuple [.bool true,.int .i64 0,.int .i32 115],1):=by rw [aE (by decide)]; rfl
 have i1:aJ [115,104] 1=(.tuple [.bool true,.int .i64 1,.int .i32 104],2):=by rw [aE (by decide)]; rfl
 have i2:aJ [115,104] 2=(.tuple [.bool false],2):=by rw [aE (by decide)]; rfl
 simp only [go_sem,simprocAttr,hl,h0,h1,Dt.cells,hf,hh]
 rw [go_loop]
 simp only [go_sem,simprocAttr,hl,h0,h1,i0,i1,i2,hf,hh]
 rw [go_loop]
 simp only [go_sem,simprocAttr,hl,h0,h1,i0,i1,i2,hf,hh]
 rw [go_loop]
 simp only [go_sem,simprocAttr,hl,h0,h1,i0,i1,i2,hf,hh]
theorem NW (d:Dt) (H) (hk:Tk H) (hd:d.wf):ag Tryz.prog 29 [.int .u16 16,.agg d.cells] H (fun q=>q=(.agg (Dt.cells { d with host:=d.host,bW:=d.bW }),H,z0)):=by
 refine aa (n:=28) (rs:=[.cell 4 34]) Tryz.func29 rfl rfl rfl ?_
 intro σ hl ha
 have h0:=ha 0 (by simp)
 have h1:=ha 1 (by simp)
 clear ha
 simp only [Option.getD_some,List.getElem?_cons_zero,List.getElem?_cons_succ] at h0 h1
 have hf:=fun l k=>bM 16 (H++l) k (hk.old l)
 rw [show aU 16=[120] from rfl] at hf
 have i0:aJ [120] 0=(.tuple [.bool true,.int .i64 0,.int .i32 120],1):=by rw [aE (by decide)]; rfl
 have i1:aJ [120] 1=(.tuple [.bool false],1):=by rw [aE (by decide)]; rfl
 simp only [go_sem,simprocAttr,hl,h0,h1,Dt.cells,hf]
 rw [go_loop]
 simp only [go_sem,simprocAttr,hl,h0,h1,i0,i1,hf]
 rw [go_loop]
 simp only [go_sem,simprocAttr,hl,h0,h1,i0,i1,hf]
theorem NV (d:Dt) (H) (hk:Tk H) (hd:d.wf):ag Tryz.prog 29 [.int .u16 28,.agg d.cells] H (fun q=>q=(.agg (Dt.cells { d with host:=d.host,bW:=d.bW }),H,z0)):=by
 refine aa (n:=28) (rs:=[.cell 4 34]) Tryz.func29 rfl rfl rfl ?_
 intro σ hl ha
 have h0:=ha 0 (by simp)
 have h1:=ha 1 (by simp)
 clear ha
 simp only [Option.getD_some,List.getElem?_cons_zero,List.getElem?_cons_succ] at h0 h1
 have hf:=fun l k=>bM 28 (H++l) k (hk.old l)
 rw [show aU 28=[113] from rfl] at hf
 have i0:aJ [113] 0=(.tuple [.bool true,.int .i64 0,.int .i32 113],1):=by rw [aE (by decide)]; rfl
 have i1:aJ [113] 1=(.tuple [.bool false],1):=by rw [aE (by decide)]; rfl
 simp only [go_sem,simprocAttr,hl,h0,h1,Dt.cells,hf]
 rw [go_loop]
 simp only [go_sem,simprocAttr,hl,h0,h1,i0,i1,hf]
 rw [go_loop]
 simp only [go_sem,simprocAttr,hl,h0,h1,i0,i1,hf]
theorem NU (d:Dt) (H) (hk:Tk H) (hd:d.wf):ag Tryz.prog 29 [.int .u16 33,.agg d.cells] H (fun q=>q=(.agg (Dt.cells { d with host:=bB d.host,bW:=d.bW }),H,z0)):=by
 refine aa (n:=28) (rs:=[.cell 4 34]) Tryz.func29 rfl rfl rfl ?_
 intro σ hl ha
 have h0:=ha 0 (by simp)
 have h1:=ha 1 (by simp)
 clear ha
 simp only [Option.getD_some,List.getElem?_cons_zero,List.getElem?_cons_succ] at h0 h1
 have hf:=fun l k=>bM 33 (H++l) k (hk.old l)
 rw [show aU 33=[115,115,115,112] from rfl] at hf
 have hh:=fun H k=>dW d.host H k (by have:=hd.host; show _≤9223372036854775807; omega)
 have i0:aJ [115,115,115,112] 0=(.tuple [.bool true,.int .i64 0,.int .i32 115],1):=by rw [aE (by decide)]; rfl
 have i1:aJ [115,115,115,112] 1=(.tuple [.bool true,.int .i64 1,.int .i32 115],2):=by rw [aE (by decide)]; rfl
 have i2:aJ [115,115,115,112] 2=(.tuple [.bool true,.int .i64 2,.int .i32 115],3):=by rw [aE (by decide)]; rfl
 have i3:aJ [115,115,115,112] 3=(.tuple [.bool true,.int .i64 3,.int .i32 112],4):=by rw [aE (by decide)]; rfl
 have i4:aJ [115,115,115,112] 4=(.tuple [.bool false],4):=by rw [aE (by decide)]; rfl
 simp only [go_sem,simprocAttr,hl,h0,h1,Dt.cells,hf,hh]
 rw [go_loop]
 simp only [go_sem,simprocAttr,hl,h0,h1,i0,i1,i2,i3,i4,hf,hh]
 rw [go_loop]
 simp only [go_sem,simprocAttr,hl,h0,h1,i0,i1,i2,i3,i4,hf,hh]
 rw [go_loop]
 simp only [go_sem,simprocAttr,hl,h0,h1,i0,i1,i2,i3,i4,hf,hh]
 rw [go_loop]
 simp only [go_sem,simprocAttr,hl,h0,h1,i0,i1,i2,i3,i4,hf,hh]
 rw [go_loop]
 simp only [go_sem,simprocAttr,hl,h0,h1,i0,i1,i2,i3,i4,hf,hh]
theorem Ql (t:Int) (d:Dt) (H) (ht:t≠1∧t≠2∧t≠5∧t≠6∧t≠12∧t≠15∧t≠16∧t≠28∧t≠33) (hk:Tk H) (hd:d.wf):ag Tryz.prog 29 [.int .u16 t,.agg d.cells] H (fun q=>q=(.agg (Dt.cells { d with host:=d.host,bW:=d.bW }),H,z0)):=by
 refine aa (n:=28) (rs:=[.cell 4 34]) Tryz.func29 rfl rfl rfl ?_
 intro σ hl ha
 have h0:=ha 0 (by simp)
 have h1:=ha 1 (by simp)
 clear ha
 simp only [Option.getD_some,List.getElem?_cons_zero,List.getElem?_cons_succ] at h0 h1
 have hf:=fun l k=>bM t (H++l) k (hk.old l)
 have hfs:aU t=[114]:=iO ht
 rw [hfs] at hf
 have i0:aJ [114] 0=(.tuple [.bool true,.int .i64 0,.int .i32 114],1):=by rw [aE (by decide)]; rfl
 have i1:aJ [114] 1=(.tuple [.bool false],1):=by rw [aE (by decide)]; rfl
 simp only [go_sem,simprocAttr,hl,h0,h1,Dt.cells,hf]
 rw [go_loop]
 simp only [go_sem,simprocAttr,hl,h0,h1,i0,i1,hf]
 rw [go_loop]
 simp only [go_sem,simprocAttr,hl,h0,h1,i0,i1,hf]

theorem ug {d d':Dt} (h:d=d') {H:Hp}:(AV.agg d.cells,H,z0)=(AV.agg d'.cells,H,z0):=by rw [h]
theorem yZ (t:Int) (d:Dt) (H) (hk:Tk H) (hd:d.wf):ag Tryz.prog 29 [.int .u16 t,.agg d.cells] H (fun q=>q=(.agg (eE t d).cells,H,z0)):=by
 rcases cR t with rfl | rfl | rfl | rfl | rfl | rfl | rfl | rfl | rfl | ht
 case inr.inr.inr.inr.inr.inr.inr.inr.inr =>
  refine bG (Ql t d H ht hk hd) (fun r hr=>hr.trans (ug ?_))
  obtain ⟨h1,h2,h3,h4,h5,h6,h7,h8,h9⟩:=ht
  have e1:cG t=false:=by simp only [cG,decide_eq_false_iff_not]; omega
  have e2:cZ t=false:=by simp only [cZ,decide_eq_false_iff_not]; omega
  unfold eE
  rw [e1,e2]
  rfl
 ·exact bG (Qp d H hk hd) (fun r hr=>hr.trans (ug rfl))
 ·exact bG (Qo d H hk hd) (fun r hr=>hr.trans (ug rfl))
 ·exact bG (Qn d H hk hd) (fun r hr=>hr.trans (ug rfl))
 ·exact bG (Qm d H hk hd) (fun r hr=>hr.trans (ug rfl))
 ·exact bG (NY d H hk hd) (fun r hr=>hr.trans (ug rfl))
 ·exact bG (NX d H hk hd) (fun r hr=>hr.trans (ug rfl))
 ·exact bG (NW d H hk hd) (fun r hr=>hr.trans (ug rfl))
 ·exact bG (NV d H hk hd) (fun r hr=>hr.trans (ug rfl))
 ·exact bG (NU d H hk hd) (fun r hr=>hr.trans (ug rfl))
theorem si (t:Int) (d:Dt) (H k) (hk:Tk H) (hd:d.wf):ag Tryz.prog 29 [.int .u16 t,.agg d.cells] H k=k (.agg (eE t d).cells,H,z0):=ak (yZ t d H hk hd) k
structure Rcd where
 nm:List UInt8
 ty:Nat
 tt:Nat
 d:Dt
def Rcd.cells (x:Rcd):List AV:=RcC x.nm x.ty 1 x.tt x.d
def iz (rs:List Rcd):List AV:=rs.flatMap Rcd.cells
theorem nt (rs:List Rcd):(iz rs).length=rs.length*12:=by
 induction rs with
 | nil=>rfl
 | cons w ws ih =>
  have e:iz (w::ws)=w.cells++iz ws:=rfl
  rw [e,List.length_append,ih,List.length_cons]; simp [Rcd.cells,RcC.len]; omega
theorem y6 (rs:List Rcd) (x:Rcd):iz (rs++[x])=iz rs++x.cells:=by simp [iz]
def Ob (rb:Nat) (H:Hp) (v:AV) (rs:List Rcd):Prop:=(v=.aI∧rs=[])∨(0 < rs.length∧∃ i,rb < i∧v=.slice i 0 rs.length (.op 0)∧H[i]?=some (.cells (iz rs) 36 (.op 0 false)))
theorem Ob.len {rb:Nat} {H:Hp} {v:AV} {rs:List Rcd} (h:Ob rb H v rs) (H':Hp):bY Tryz.prog 26 v H'=some (.int .i64 rs.length):=by
 obtain ⟨rfl,rfl⟩ | ⟨_,i,_,rfl,_⟩:=h
 ·simp only [bY,nc]; rfl
 ·simp only [bY,nc]
theorem Ob.scl {rb:Nat} {H:Hp} {v:AV} {rs:List Rcd} (h:Ob rb H v rs):cK v=true∧bH v=[v]:=by
 obtain ⟨rfl,rfl⟩ | ⟨_,i,_,rfl,_⟩:=h <;> exact ⟨rfl,rfl⟩
theorem Ob.fr {rb:Nat} {H H':Hp} {v:AV} {rs:List Rcd} (h:Ob rb H v rs) (hf:∀ (i:Nat) x,rb < i→H[i]?=some (.cells x 36 (.op 0 false))→H'[i]?=some (.cells x 36 (.op 0 false))):Ob rb H' v rs:=by
 obtain h | ⟨hp,i,hi,e,hx⟩:=h
 ·exact .inl h
 ·exact .inr ⟨hp,i,hi,e,hf i _ hi hx⟩
theorem Ob.app {rb:Nat} {H:Hp} {v:AV} {rs:List Rcd} (h:Ob rb H v rs) (hlt:rb < H.length) (x:Rcd) (hf:fits (rs.length+1) 96=true) :
  ∃ H2 e2,(∀ kk,aF (c9 Tryz.prog (.slice 36 12 96) v (x.cells,1) H) kk=kk (.slice H.length 0 (rs.length+1) (.op 0),H2,e2))∧H2.length=H.length+1∧clean (rb+1) e2∧(∀ (i:Nat) y,H[i]?=some y→(∀ n,v≠.slice i 0 n (.op 0))→H2[i]?=some y)∧Ob rb H2 (.slice H.length 0 (rs.length+1) (.op 0)) (rs++[x]):=by
 obtain ⟨B,T,rfl,hB⟩:∃ B T:Hp,H=B++T∧B.length=rb+1:=⟨H.take (rb+1),H.drop (rb+1),(List.take_append_drop _ _).symm,by rw [List.length_take]; omega⟩
 have hG:bZ B.length T v 36 12 rs.length (iz rs):=by
  obtain ⟨rfl,rfl⟩ | ⟨hp,i,hi,rfl,hx⟩:=h
  ·exact .inl ⟨rfl,rfl,rfl⟩
  ·refine .inr ⟨hp,nt rs,i - B.length,by rw [show B.length+(i - B.length)=i by omega],?_⟩
   rw [List.getElem?_append_right (by omega)] at hx
   exact hx
 obtain ⟨T2,e2,h1,h2,h3,h4,h5,h6⟩:=hG.qw (P:=Tryz.prog) (b:=96) (by decide) HA x.cells 1 (by decide) rfl rfl hf
 refine ⟨B++T2,e2,fun kk=>by rw [h1,List.length_append],by simp [h2]; omega,by rw [← hB]; exact h3,fun i y hy hn=>?_,?_⟩
 ·by_cases hi:i < B.length
  ·rw [List.getElem?_append_left hi] at hy ⊢; exact hy
  ·rw [List.getElem?_append_right (by omega)] at hy ⊢
   exact h4 _ y hy (fun m n e hm=>hn n (by rw [e]; congr 1; omega))
 ·refine .inr ⟨by simp,B.length+T.length,by omega,by simp,?_⟩
  rw [List.getElem?_append_right (by omega),Nat.add_sub_cancel_left,h5,y6]

def Rx (o:List UInt8) (t:Nat) (r:List Wd) (y:Option Dt):Prop:=∀ H v,Gl H→Wv H v r→∃ dd ee,(∀ k,ag Tryz.prog 49 [.int .u16 (t:Nat),v,.str o] H k=k (.tuple [.agg (Dt.cells dd),.int .i64 ee],H,z0))∧(match y with | some d=>dd=d∧ee=0∧d.wf | none=>ee≠0)
def mL (rd:Nat→List Wd→Option Dt) (o ow:List UInt8) (tt:Nat) (tl fx:Bool) (many:Nat) (blank:Bool) (w0:Wd) (ws:List Wd):Except (Wd × Nat) (Rcd × List UInt8 × Nat) :=
 if many=4096 then .error (w0,2) else
 if blank=false∧(kA w0 o).2=false then .error (w0,90) else
 if blank=true∧tl=false then .error (w0,90) else
 let ow':=if blank=true then ow else (kA w0 o).1
 match dK (if blank=true then w0::ws else ws) false false 0 with
 | .error e=>.error e
 | .ok ([],_,_)=>.error (w0,93)
 | .ok (w::r,tm,n) =>
  match (if w.q=true then none else tyO (bB w.t)) with
  | none=>.error (w,93)
  | some t=>match rd t r with
   | none=>.error (w,41)
   | some d=>.ok (⟨ow',t,if tm=true then n else tt,eE t d⟩,ow',if tm=true∧fx=false then n else tt)
theorem Hl (x:Rcd) (H:Hp):aO Tryz.prog 26 1 [(0,.agg x.cells)] H=some (.slice H.length 0 1 (.ex 1),H++[.cells x.cells 36 .rw]):=by
 simp only [aO,nc,nW,Option.bind_some]
 rfl

structure Kp1 (rb:Nat) (H Hc:Hp) (e:Ef) (vo vf:AV) (rs:List Rcd) (w0:Wd) (ws:List Wd):Prop where
 fm:∀ (i:Nat) x,i < H.length→i≠rb→H[i]?=some x→Hc[i]?=some x
 len:H.length≤Hc.length
 cl:clean rb e
 gl:Gl Hc
 ob:Ob rb Hc vo rs
 fs:Wv Hc vf (w0::ws)

theorem Kp1.of {rb:Nat} {H Hc:Hp} {e:Ef} {vo vf:AV} {rs:List Rcd} {w0:Wd} {ws:List Wd} {c:List AV} (hf:Fm rb H Hc) (hc:clean rb e) (hr:gN≤rb) (hb:H[rb]?=some (.cells c 61 .rw)) (hg:Gl H) (ho:Ob rb H vo rs) (hv:Wv H vf (w0::ws)):Kp1 rb H Hc e vo vf rs w0 ws :=
 ⟨fun i x _ hi hx=>hf.2 i x hi hx,hf.1,hc,hg.frm hr hf,ho.fr (fun i x hi hx=>hf.2 i _ (by omega) hx),hv.fr hf hb⟩
theorem Wv.fm2 {H H':Hp} {v:AV} {ws:List Wd} {rb xb:Nat} {c c':List AV} {e e':TypeId} (h:Wv H v ws) (hf:Fm2 rb xb H H') (hb:H[rb]?=some (.cells c e .rw)) (hx:H[xb]?=some (.cells c' e' .rw)):Wv H' v ws:=by
 obtain h | ⟨b,k,pre,fz,st,h1,h2,h3⟩ | ⟨b,h1,h2,h3⟩:=h
 ·exact .inl h
 ·exact .inr (.inl ⟨b,k,pre,fz,st,h1,h2,hf.2 b _ (by rintro rfl; rw [hb] at h3; injection h3 with h3; injection h3 with _ _ h3; cases h3) (by rintro rfl; rw [hx] at h3; injection h3 with h3; injection h3 with _ _ h3; cases h3) h3⟩)
 ·exact .inr (.inr ⟨b,h1,hf.2 b _ (by rintro rfl; rw [hb] at h2; cases h2) (by rintro rfl; rw [hx] at h2; cases h2) h2,h3⟩)
theorem pZ:∀ (l:List Wd) (tm cs:Bool) (tt:Nat) (r:List Wd) (tm':Bool) (n:Nat),dK l tm cs tt=.ok (r,tm',n)→∀ x ∈ r,x ∈ l
 | [],tm,cs,tt,r,tm',n,h=>by simp only [dK] at h; cases h; exact fun x hx=>hx
 | w::l,tm,cs,tt,r,tm',n,h=>by
  simp only [dK] at h
  split at h
  ·split at h
   ·cases h
   ·exact fun x hx=>List.mem_cons_of_mem _ (pZ l _ _ _ r tm' n h x hx)
  split at h
  ·exact fun x hx=>List.mem_cons_of_mem _ (pZ l _ _ _ r tm' n h x hx)
  split at h
  ·cases h
  ·cases h; exact fun x hx=>hx
theorem RcC.s1 {nm:List UInt8} {ty cl:Int} {tt:Nat} {d:Dt} {x:Int}:splice (RcC nm ty cl tt d) 1 [.int .u16 x]=RcC nm x cl tt d:=rfl
theorem RcC.s4 {nm:List UInt8} {ty cl:Int} {tt:Nat} {d:Dt} {x:Dt}:splice (RcC nm ty cl tt d) 4 x.cells=RcC nm ty cl tt x:=rfl
theorem RcC.l3 {nm:List UInt8} {ty cl:Int} {tt:Nat} {d:Dt} {e:TypeId} {k:Kd}:ldC 3 1 false (.cells (RcC nm ty cl tt d) e k)=some (.int .u32 tt):=rfl
theorem RcC.ld {nm:List UInt8} {ty cl:Int} {tt:Nat} {d:Dt} {e:TypeId} {k:Kd}:ldC 0 12 true (.cells (RcC nm ty cl tt d) e k)=some (.agg (RcC nm ty cl tt d)):=rfl
theorem Dt.len8 (d:Dt):d.cells.length=8:=rfl
theorem Dt.sc8 (d:Dt):d.cells.all cK=true:=rfl
theorem Dt.fl8 (d:Dt):bK d.cells=true:=rfl
theorem Ri (n:List UInt8):bq Tryz.prog 36 [(0,.str n),(2,.int .u16 1)]=some (.agg (RcC n 0 1 0 Dt.zero)):=by
 simp only [bq,Br,nW,ng,Option.bind_some,fM]
 rfl
theorem KL {n:Nat} {e:Ef} (h:clean (n+1) e):clean n e:=by
 obtain ⟨h1,h2⟩:=h
 have key:∀ o:Option Nat,low (n+1) o=none→low n o=none:=by
  intro o h
  cases o with
  | none=>rfl
  | some x=>rw [oE] at h ⊢; omega
 exact ⟨key _ h1,key _ h2⟩
theorem GA {n:Nat} {v:AV} {Hc:Hp} {e:Ef}:∃ H' e',leave n v Hc e=(v,H',e')∧(H'=Hc∨H'=Hc.take n)∧∀ m,clean m e→clean m e':=by
 unfold V.leave
 refine ⟨_,_,rfl,?_,fun m h=>eH h⟩
 split
 ·exact .inr rfl
 ·exact .inl rfl
set_option maxHeartbeats 4000000 in
theorem Gt (rd:Nat→List Wd→Option Dt) (H:Hp) (rb:Nat) (o ow:List UInt8) (tt:Nat) (tl fx:Bool) (vo vf:AV) (rs:List Rcd) (blank:Bool) (w0:Wd) (ws:List Wd) (hb:H[rb]?=some (.cells (MsC o ow tt tl fx vo vf vf) 61 .rw)) (hv:Wv H vf (w0::ws)) (hgl:Gl H) (hr:gN≤rb)
  (ho:Ob rb H vo rs) (hrs:rs.length≤4096) (hw:∀ x ∈ w0::ws,x.t.length≤1048576) (hol:o.length≤1048576) (A:Prop) (hA:A∨∃ y,mL rd o ow tt tl fx rs.length blank w0 ws=.ok y) (hrd:∀ t r,(∀ x ∈ r,x ∈ w0::ws)→((rd t r).isSome=true∨A)→Rx o t r (rd t r)) :
  gF Tryz.prog 25 [.ptr rb 0,.bool blank] H
   (fun q=>∃ y,mL rd o ow tt tl fx rs.length blank w0 ws=.ok y∧∃ v' vo' H' e',q=(.tuple [],H',e')∧clean rb e'∧H.length≤H'.length∧(∀ (i:Nat) x,i≠rb→(∀ n,vo≠.slice i 0 n (.op 0))→H[i]?=some x→H'[i]?=some x)∧H'[rb]?=some (.cells (MsC o y.2.1 y.2.2 true fx vo' vf v') 61 .rw)∧Ob rb H' vo' (rs++[y.1]))
   (fun q=>∃ y,mL rd o ow tt tl fx rs.length blank w0 ws=.error y∧∃ H' e' c,q=(flt y.1 y.2,H',e')∧clean rb e'∧H.length≤H'.length∧(∀ (i:Nat) x,i≠rb→H[i]?=some x→H'[i]?=some x)∧H'[rb]?=some (.cells c 61 .rw)):=by
 have hlt:=ai hb
 refine lW (n:=152) (rs:=[]) Tryz.func25 rfl rfl rfl ?_
 intro σ hl ha
 have h0:=ha 0 (by simp)
 have h1:=ha 1 (by simp)
 clear ha
 simp only [Option.getD_some,List.getElem?_cons_zero,List.getElem?_cons_succ] at h0 h1
 have hlen:=ho.len
 have finp:∀ (w:Wd) (n:Nat) (Hc:Hp) (e:Ef),mL rd o ow tt tl fx rs.length blank w0 ws=.error (w,n)→clean rb e→H.length≤Hc.length→(∀ (i:Nat) x,i < H.length→i≠rb→H[i]?=some x→Hc[i]?=some x)→(∃ c,Hc[rb]?=some (.cells c 61 .rw)) →
   ∃ y,mL rd o ow tt tl fx rs.length blank w0 ws=.error y∧∃ H' e' c,leave H.length (flt w n) Hc e=(flt y.1 y.2,H',e')∧clean rb e'∧H.length≤H'.length∧(∀ (i:Nat) x,i≠rb→H[i]?=some x→H'[i]?=some x)∧H'[rb]?=some (.cells c 61 .rw):=by
  rintro w n Hc e hS hc hle hf ⟨c,hcb⟩
  obtain ⟨H',e',q1,q2,q3⟩:=GA (n:=H.length) (v:=flt w n) (Hc:=Hc) (e:=e)
  refine ⟨_,hS,H',e',c,q1,q3 _ hc,?_⟩
  rcases q2 with rfl | rfl
  ·exact ⟨hle,fun i x hi hx=>hf i x (ai hx) hi hx,hcb⟩
  ·refine ⟨by rw [List.length_take]; omega,fun i x hi hx=>?_,?_⟩
   ·rw [List.getElem?_take,if_pos (ai hx)]; exact hf i x (ai hx) hi hx
   ·rw [List.getElem?_take,if_pos hlt]; exact hcb
 by_cases hmany:rs.length=4096
 ·have c0:((rs.length:Int) == 4096)=true:=by rw [hmany]; rfl
  obtain ⟨b,q,row,ee,kd,hi,hg,hl4⟩:=hv.at (i:=0) rfl
  have hi:aN Tryz.prog 59 vf (.int .i64 0)=some (.ptr b q):=hi
  have hbf:bq Tryz.prog 65 [(0,.agg w0.cells),(1,.int .i64 2)]=some (.agg (w0.cells++[.int .i64 2])):=kN w0 2
  simp only [go_sem,simprocAttr,hl,h0,hb,MsC.l5,MsC.l7,hlen,c0,hi,hg,hl4,hbf,dH]
  exact finp w0 2 H _ (by unfold mL; rw [if_pos hmany]) ⟨rfl,rfl⟩ (Nat.le_refl _) (fun _ _ _ _ h=>h) ⟨_,hb⟩
 ·have c0:((rs.length:Int) == 4096)=false:=by rw [beq_eq_false_iff_ne]; omega
  simp only [go_sem,simprocAttr,hl,h0,h1,hb,MsC.l5,hlen,c0]
  refine qj (fun st=>∃ σ Hc e v,st=⟨σ,Hc,e⟩∧Kp1 rb H Hc e vo vf rs w0 ws∧Hc[rb]?=some (.cells (MsC o (if blank=true then ow else (kA w0 o).1) tt true fx vo vf v) 61 .rw)∧Wv Hc v (if blank=true then w0::ws else ws)∧(blank=false→(kA w0 o).2=true)∧(blank=true→tl=true)∧σ.length=152∧fr σ 0=.ptr rb 0) ?_ ?_ ?_
  ·intro hbl
   have hbl:blank=false:=by simpa using hbl
   subst hbl
   obtain ⟨v1,H1,hf1,hb1,hv1,hnx⟩:=wk H rb o ow tt tl fx vo vf vf w0 ws hb hv
   have hnm:=fun L k=>zi (H1++L) rb o ow tt tl fx vo vf v1 w0 k (ah hb1) (hw w0 (by simp)) hol
   have hvw:bH (.agg w0.cells)=w0.cells:=rfl
   have hbf:bq Tryz.prog 65 [(0,.agg w0.cells),(1,.int .i64 90)]=some (.agg (w0.cells++[.int .i64 90])):=kN w0 90
   have he1:(⟨some rb,some rb⟩:Ef).and ⟨none,some H1.length⟩=⟨some rb,some rb⟩:=Eb (n:=H.length) (by have:=hf1.1; simp [clean,low]; omega) hlt
   have hfm:∀ L (i:Nat) x,i < H.length→i≠rb→H[i]?=some x→(H1++L)[i]?=some x:=fun L i x _ hi hx=>ah (hf1.2 i x hi hx)
   cases h2:(kA w0 o).2
   ·rw [h2] at hnm
    simp only [go_sem,simprocAttr,hl,h0,hnx,hnm,hvw,bD,bR,bV,bU,bS,hbf,dH,he1]
    exact finp w0 90 _ _ (by unfold mL; rw [if_neg hmany,if_pos ⟨rfl,h2⟩]) (by simp [clean,low]) (by have:=hf1.1; simp; omega) (hfm _) ⟨_,ah hb1⟩
   ·rw [h2] at hnm
    have hs:∀ y L,(H1++L).set rb y=H1.set rb y++L:=fun y L=>List.set_append_left _ _ (ai hb1)
    have hs2:∀ y z L,(H1.set rb y++L).set rb z=H1.set rb z++L:=fun y z L=>by rw [List.set_append_left _ _ (by simpa using ai hb1),List.set_set]
    have hg5:∀ y L,(H1.set rb y++L)[rb]?=some y:=fun y L=>ah (List.getElem?_set_self (ai hb1))
    have hg1:∀ x,(H1++[x])[rb]?=some (.cells (MsC o ow tt tl fx vo vf v1) 61 .rw):=fun x=>ah hb1
    simp only [go_sem,simprocAttr,hl,h0,hnx,hnm,hvw,bD,bR,bV,bU,bS,he1,hg1,MsC.len,MsC.s1,MsC.s3,hs,hs2,hg5,qx]
    exact ⟨_,_,_,v1,rfl,Kp1.of ((hf1.trans (Fm.set _ _)).app _) (by simp [clean,low]) hr hb hgl ho hv,hg5 _ _,(hv1.yP hb1 uA).old _,fun _=>trivial,fun h=>h.elim,by simp only [go_sem,simprocAttr,hl],by simp only [go_sem,simprocAttr,hl,h0]⟩
  ·intro hbl
   have hbl:blank=true:=by simpa using hbl
   subst hbl
   obtain ⟨b,q,row,ee,kd,hi,hg,hl4⟩:=hv.at (i:=0) rfl
   have hi:aN Tryz.prog 59 vf (.int .i64 0)=some (.ptr b q):=hi
   have hbf:bq Tryz.prog 65 [(0,.agg w0.cells),(1,.int .i64 90)]=some (.agg (w0.cells++[.int .i64 90])):=kN w0 90
   cases htl:tl
   ·subst htl
    simp only [go_sem,simprocAttr,hl,h0,hb,MsC.l3,MsC.l7,hi,hg,hl4,hbf,dH]
    exact finp w0 90 _ _ (by unfold mL; rw [if_neg hmany,if_neg (by simp),if_pos ⟨rfl,rfl⟩]) ⟨rfl,rfl⟩ (Nat.le_refl _) (fun _ _ _ _ h=>h) ⟨_,hb⟩
   ·subst htl
    simp only [go_sem,simprocAttr,hl,h0,hb,MsC.l3]
    exact ⟨_,_,_,vf,rfl,Kp1.of (Fm.refl _ _) ⟨rfl,rfl⟩ hr hb hgl ho hv,hb,hv,fun h=>h.elim,fun _=>trivial,by simp only [go_sem,simprocAttr,hl],by simp only [go_sem,simprocAttr,hl,h0]⟩
  ·rintro _ ⟨σ,Hc,e,v,rfl,hk,hcb,hcv,hn1,hn2,hl,h0⟩
   obtain ⟨ow',how⟩:∃ ow',ow'=if blank=true then ow else (kA w0 o).1:=⟨_,rfl⟩
   obtain ⟨ws',hws'⟩:∃ ws',ws'=if blank=true then w0::ws else ws:=⟨_,rfl⟩
   rw [← how] at hcb
   rw [← hws'] at hcv
   have hwm:∀ x ∈ ws',x ∈ w0::ws:=by rw [hws']; intro x hx; split at hx; exact hx; exact List.mem_cons_of_mem _ hx
   have hS:mL rd o ow tt tl fx rs.length blank w0 ws=(match dK ws' false false 0 with
     | .error e=>.error e
     | .ok ([],_,_)=>.error (w0,93)
     | .ok (w::r,tm,n) =>
      match (if w.q=true then none else tyO (bB w.t)) with
      | none=>.error (w,93)
      | some t=>match rd t r with
       | none=>.error (w,41)
       | some d=>.ok (⟨ow',t,if tm=true then n else tt,eE t d⟩,ow',if tm=true∧fx=false then n else tt)):=by
    unfold mL
    rw [if_neg hmany,if_neg (by rintro ⟨h1,h2⟩; rw [hn1 h1] at h2; cases h2),if_neg (by rintro ⟨h1,h2⟩; rw [hn2 h1] at h2; cases h2),hws',how]
   clear how hws' hn1 hn2
   have hltc:=ai hcb
   have hbd:=Ri ow'
   have hvx:bH (.agg (RcC ow' 0 1 0 Dt.zero))=RcC ow' 0 1 0 Dt.zero:=rfl
   have hspx:splice [.str [],.int .u16 0,.int .u16 0,.int .u32 0,.str [],.str [],.str [],.int .u32 0,.int .u32 0,.int .u32 0,.int .u32 0,.int .u32 0] 0 (RcC ow' 0 1 0 Dt.zero)=RcC ow' 0 1 0 Dt.zero:=rfl
   have hflx:bK (RcC ow' 0 1 0 Dt.zero)=true:=rfl
   have hscx:(RcC ow' 0 1 0 Dt.zero).all cK=true:=rfl
   obtain ⟨X,hX⟩:∃ X:Hp,X=Hc++[.cells (RcC ow' 0 1 0 Dt.zero) 36 .rw]:=⟨_,rfl⟩
   have hxb:X[Hc.length]?=some (.cells (RcC ow' 0 1 0 Dt.zero) 36 .rw):=by rw [hX,dg]; rfl
   have hxr:X[rb]?=some (.cells (MsC o ow' tt true fx vo vf v) 61 .rw):=by rw [hX]; exact ah hcb
   have hXl:X.length=Hc.length+1:=by rw [hX]; simp
   have hfX:∀ (i:Nat) x,i < H.length→i≠rb→H[i]?=some x→X[i]?=some x:=fun i x h1 h2 h3=>by rw [hX]; exact ah (hk.fm i x h1 h2 h3)
   have hgX:Gl X:=by rw [hX]; exact hk.gl.old _
   have hsX:Wv X vf (w0::ws):=by rw [hX]; exact hk.fs.old _
   have hoX:Ob rb X vo rs:=hk.ob.fr (fun i x _ h=>by rw [hX]; exact ah h)
   have hvX:Wv X v ws':=by rw [hX]; exact hcv.old _
   have hhead:=M8 X rb Hc.length o ow' tt true fx vo vf v ws' ow' 0 1 0 Dt.zero hxr hxb hvX hgX hr hltc (fun x hx=>hw x (hwm x hx))
   have hkl:=hk.len
   have hcl1:clean rb (e.and ⟨none,some Hc.length⟩):=bn hk.cl (by simp [clean,low]; omega)
   cases hh:dK ws' false false 0 with
   | error y =>
    rw [hh] at hhead hS
    obtain ⟨b,⟨q1,q2,c,q3⟩,q4⟩:=qo (fun b:Hp × Ef=>clean rb b.2∧Fm2 rb Hc.length X b.1∧∃ c,b.1[rb]?=some (.cells c 61 .rw)) (fun b=>(flt y.1 y.2,b.1,b.2)) (hJ hhead (by rintro r ⟨y',hy,_⟩; cases hy) (by
     rintro r ⟨y',hy,H',e',c,rfl,h1,h2,h3⟩
     cases hy
     exact ⟨(H',e'),⟨h1,h2,c,h3⟩,rfl⟩))
    simp only [go_sem,simprocAttr,hl,h0,hcb,MsC.l1,hbd,hvx,hspx,hflx,hscx,← hX,RcC.len,q4]
    exact finp y.1 y.2 _ _ hS (bn hcl1 q1) (by have:=q2.1; omega) (fun i x h1 h2 h3=>q2.2 i x h2 (by omega) (hfX i x h1 h2 h3)) ⟨c,q3⟩
   | ok y =>
    obtain ⟨r2,tm,n⟩:=y
    rw [hh] at hhead hS
    obtain ⟨⟨v2,H2,e2⟩,⟨q1,q2,q3,q4,q5⟩,q6⟩:=qp (fun b:AV × Hp × Ef=>clean rb b.2.2∧Fm2 rb Hc.length X b.2.1∧b.2.1[rb]?=some (.cells (MsC o ow' tt true fx vo vf b.1) 61 .rw)∧b.2.1[Hc.length]?=some (.cells (RcC ow' 0 1 n Dt.zero) 36 .rw)∧Wv b.2.1 b.1 r2) (fun b=>(.bool tm,b.2.1,b.2.2)) (hJ hhead (by
     rintro r ⟨y',hy,v',H',e',rfl,h1,h2,h3,h4,h5⟩
     cases hy
     exact ⟨(v',H',e'),⟨h1,h2,h3,h4,h5⟩,rfl⟩) (by rintro r ⟨y',hy,_⟩; cases hy))
    simp only [] at q1 q2 q3 q4 q5 q6
    have hr2:∀ x ∈ r2,x ∈ ws':=pZ ws' false false 0 r2 tm n hh
    have hlen2:=q5.len
    have hf2:∀ (i:Nat) x,i < H.length→i≠rb→H[i]?=some x→H2[i]?=some x:=fun i x h1 h2 h3=>q2.2 i x h2 (by omega) (hfX i x h1 h2 h3)
    have hl2:=q2.1
    have hcl2:clean rb ((e.and ⟨none,some Hc.length⟩).and e2):=bn hcl1 q1
    cases r2 with
    | nil =>
     have c1:((([]:List Wd).length:Int) == 0)=true:=rfl
     obtain ⟨bb,qq,row,ee,kd,hi,hg,hl4⟩:=(hsX.fm2 q2 hxr hxb).at (i:=0) rfl
     have hi:aN Tryz.prog 59 vf (.int .i64 0)=some (.ptr bb qq):=hi
     have hbf:bq Tryz.prog 65 [(0,.agg w0.cells),(1,.int .i64 93)]=some (.agg (w0.cells++[.int .i64 93])):=kN w0 93
     simp only [go_sem,simprocAttr,hl,h0,hcb,MsC.l1,hbd,hvx,hspx,hflx,hscx,← hX,q6,RcC.len,q3,MsC.l7,hlen2,c1,MsC.l6,hi,hg,hl4,hbf,dH]
     exact finp w0 93 _ _ hS hcl2 (by omega) hf2 ⟨_,q3⟩
    | cons w r =>
     have c1:(((r.length+1:Nat):Int) == 0)=false:=by rw [beq_eq_false_iff_ne]; omega
     obtain ⟨v3,H3,p1,p2,p3,p4⟩:=wk H2 rb o ow' tt true fx vo vf v2 w r q3 q5
     obtain ⟨Y,hY⟩:∃ Y:Hp,Y=H3++[.cells w.cells 63 .rw]:=⟨_,rfl⟩
     have hp1:=p1.1
     have fY:Fm rb H2 Y:=by rw [hY]; exact p1.app _
     have yr:Y[rb]?=some (.cells (MsC o ow' tt true fx vo vf v3) 61 .rw):=by rw [hY]; exact ah p2
     have yx:Y[Hc.length]?=some (.cells (RcC ow' 0 1 n Dt.zero) 36 .rw):=fY.2 _ _ (by omega) q4
     have yw:Y[H3.length]?=some (.cells w.cells 63 .rw):=by rw [hY,dg]; rfl
     have yv:Wv Y v3 r:=by rw [hY]; exact p3.old _
     have ygl:Gl Y:=(hgX.fm2 hr hltc q2).frm hr fY
     have hfY:∀ (i:Nat) x,i < H.length→i≠rb→H[i]?=some x→Y[i]?=some x:=fun i x h1 h2 h3=>fY.2 i x h2 (hf2 i x h1 h2 h3)
     have hlY:Y.length=H3.length+1:=by rw [hY]; simp
     have yo:Ob rb Y vo rs:=hoX.fr (fun i x h1 h2=>fY.2 i _ (by omega) (q2.2 i _ (by omega) (by rintro rfl; rw [hxb] at h2; injection h2 with h2; injection h2 with _ _ h2; cases h2) h2))
     have hwt:ldC 0 1 false (.cells w.cells 63 .rw)=some (.str w.t):=rfl
     have hwq:ldC 1 1 false (.cells w.cells 63 .rw)=some (.bool w.q):=rfl
     have hvw:bH (.agg w.cells)=w.cells:=rfl
     have hty:=fun k=>vY w.t Y k ygl.1 ygl.2.1 (hw w (hwm w (hr2 w (by simp))))
     have hbf:bq Tryz.prog 65 [(0,.agg w.cells),(1,.int .i64 93)]=some (.agg (w.cells++[.int .i64 93])):=kN w 93
     have hbf2:bq Tryz.prog 65 [(0,.agg w.cells),(1,.int .i64 41)]=some (.agg (w.cells++[.int .i64 41])):=kN w 41
     have he3:∀ e':Ef,clean rb e'→clean rb ((e'.and ⟨some rb,some rb⟩).and ⟨none,some H3.length⟩):=fun e' h=>bn (bn h (by simp [clean,low])) (by simp [clean,low]; omega)
     have fY93:mL rd o ow tt tl fx rs.length blank w0 ws=.error (w,93)→_:=fun h=>finp w 93 Y _ h (he3 _ hcl2) (by omega) hfY ⟨_,yr⟩
     simp only [] at hS
     cases hq:w.q
     case true =>
      rw [hq] at hwq hS
      rw [if_pos rfl] at hS
      simp only [go_sem,simprocAttr,hl,h0,hcb,MsC.l1,hbd,hvx,hspx,hflx,hscx,← hX,q6,RcC.len,q3,MsC.l7,hlen2,c1,p4,hvw,bD,bR,bV,bS,bU,← hY,yw,hwt,hty,hwq,hbf,dH]
      exact fY93 hS
     rw [hq] at hwq hS
     rw [if_neg Bool.false_ne_true] at hS
     cases ht:tyO (bB w.t) with
     | none =>
      rw [ht] at hty hS
      simp only [Option.isSome_none] at hty
      simp only [go_sem,simprocAttr,hl,h0,hcb,MsC.l1,hbd,hvx,hspx,hflx,hscx,← hX,q6,RcC.len,q3,MsC.l7,hlen2,c1,p4,hvw,bD,bR,bV,bS,bU,← hY,yw,hwt,hty,hwq,hbf,dH]
      exact fY93 hS
     | some t =>
      rw [ht] at hty hS
      simp only [Option.getD_some,Option.isSome_some] at hty
      have hA2:(rd t r).isSome=true∨A:=by
       rcases hA with h | ⟨y,hy⟩
       ·exact .inr h
       ·left
        cases hn:rd t r with
        | none=>rw [hy] at hS; simp only [hn] at hS; cases hS
        | some d=>rfl
      obtain ⟨dd,ee,hread,hcase⟩:=hrd t r (fun x hx=>hwm x (hr2 x (by simp [hx]))) hA2 (Y++[.cells [.str [],.str [],.str [],.int .u32 0,.int .u32 0,.int .u32 0,.int .u32 0,.int .u32 0] 34 .rw]) v3 (ygl.old _) (yv.old _)
      have yr1:∀ x,(Y++[x])[rb]?=some (.cells (MsC o ow' tt true fx vo vf v3) 61 .rw):=fun x=>ah yr
      simp only [] at hS
      simp only [go_sem,simprocAttr,hl,h0,hcb,MsC.l1,hbd,hvx,hspx,hflx,hscx,← hX,q6,RcC.len,q3,MsC.l7,hlen2,c1,p4,hvw,bD,bR,bV,bS,bU,← hY,yw,hwt,hty,hwq,hbf2,dH]
      have hvd:bH (.agg dd.cells)=dd.cells:=rfl
      have hsd:dd.cells.all cK=true:=rfl
      have hfd:bK dd.cells=true:=rfl
      have hld:dd.cells.length=8:=rfl
      have hpd:splice [.str [],.str [],.str [],.int .u32 0,.int .u32 0,.int .u32 0,.int .u32 0,.int .u32 0] 0 dd.cells=dd.cells:=rfl
      refine AD au (by kernel_rfl) ?_
      simp only [go_sem,simprocAttr,hl,h0,hcb,MsC.l1,hbd,hvx,hspx,hflx,hscx,← hX,q6,RcC.len,q3,MsC.l7,hlen2,c1,p4,hvw,bD,bR,bV,bS,bU,← hY,yw,hwt,hty,hwq,hbf2,dH,yr1,MsC.l0,hread,hvd,hsd,hfd,hld,hpd]
      refine ⟨(by kernel_rfl:bN _ _ _=true),?_⟩
      have yw1:∀ x,(Y++[x])[H3.length]?=some (.cells w.cells 63 .rw):=fun x=>ah yw
      have he4:clean rb (((((e.and ⟨none,some Hc.length⟩).and e2).and ⟨some rb,some rb⟩).and ⟨none,some H3.length⟩).and ⟨none,some Y.length⟩):=bn (he3 _ hcl2) (by simp [clean,low]; omega)
      cases hrt:rd t r with
      | none =>
       rw [hrt] at hcase hS
       have c3:(ee != 0)=true:=by simpa using hcase
       simp only [go_sem,simprocAttr,hl,h0,hvw,bD,bR,bV,bS,bU,c3,yw1,hbf2,dH]
       exact finp w 41 (Y++[_]) _ hS he4 (by simp; omega) (fun i x h1 h2 h3=>ah (hfY i x h1 h2 h3)) ⟨_,yr1 _⟩
      | some d =>
       rw [hrt] at hcase hS
       obtain ⟨rfl,rfl,hwf⟩:=hcase
       have c3:((0:Int) != 0)=false:=rfl
       obtain ⟨Z,hZ⟩:∃ Z:Hp,Z=Y++[.cells dd.cells 34 .rw]:=⟨_,rfl⟩
       have zr:Z[rb]?=some (.cells (MsC o ow' tt true fx vo vf v3) 61 .rw):=by rw [hZ]; exact yr1 _
       have zx:Z[Hc.length]?=some (.cells (RcC ow' 0 1 n Dt.zero) 36 .rw):=by rw [hZ]; exact ah yx
       have zd:Z[Y.length]?=some (.cells dd.cells 34 .rw):=by rw [hZ,dg]; rfl
       have zl:Z.length=Y.length+1:=by rw [hZ]; simp
       have hfo:=fun k=>si t dd Z k (by rw [hZ]; exact (ygl.old _).1) hwf
       have hldd:ldC 0 8 true (.cells dd.cells 34 .rw)=some (.agg dd.cells):=rfl
       simp only [go_sem,simprocAttr,hl,h0,hvw,bD,bR,bV,bS,bU,c3,← hZ]
       generalize hσ:List.set _ 115 _=σ1
       have s0:fr σ1 0=.ptr rb 0:=by rw [← hσ]; simp only [go_sem,simprocAttr,hl,h0]
       have s7:fr σ1 7=.ptr Hc.length 0:=by rw [← hσ]; simp only [go_sem,simprocAttr,hl]
       have s8:fr σ1 8=.bool tm:=by rw [← hσ]; simp only [go_sem,simprocAttr,hl]
       have s10:fr σ1 10=.int .u16 t:=by rw [← hσ]; simp only [go_sem,simprocAttr,hl]
       have s12:fr σ1 12=.ptr Y.length 0:=by rw [← hσ]; simp only [go_sem,simprocAttr,hl]
       have sl:σ1.length=152:=by rw [← hσ]; simp only [go_sem,simprocAttr,hl]
       clear hσ hl h0
       generalize heF:Ef.and _ ⟨none,some Y.length⟩=eF at he4 ⊢
       have zs1:∀ y,(Z.set Hc.length y)[Hc.length]?=some y:=fun y=>List.getElem?_set_self (ai zx)
       have zs2:∀ y,(Z.set Hc.length y)[rb]?=some (.cells (MsC o ow' tt true fx vo vf v3) 61 .rw):=fun y=>by rw [List.getElem?_set_ne (by omega)]; exact zr
       simp only [go_sem,simprocAttr,sl,s0,s7,s8,s10,s12,zd,hldd,hfo,zx,zs1,zs2,RcC.len,RcC.s1,RcC.s4,Dt.len8,Dt.sc8,Dt.fl8,List.set_set]
       obtain ⟨xc,hxc⟩:∃ xc,xc=RcC ow' t 1 n (eE t dd):=⟨_,rfl⟩
       rw [← hxc]
       have kf:∀ (i:Nat) x,i < H.length→i≠rb→H[i]?=some x→Z[i]?=some x:=fun i x h1 h2 h3=>by rw [hZ]; exact ah (hfY i x h1 h2 h3)
       have hoZ:Ob rb Z vo rs:=yo.fr (fun i x _ h=>by rw [hZ]; exact ah h)
       refine qj (fun st=>∃ σ W eW,st=⟨σ,W,eW⟩∧clean rb eW∧W.length=Z.length∧(∀ (i:Nat) x,i≠rb→i≠Hc.length→Z[i]?=some x→W[i]?=some x)∧W[Hc.length]?=some (.cells (RcC ow' t 1 (if tm=true then n else tt) (eE t dd)) 36 .rw) ∧
        W[rb]?=some (.cells (MsC o ow' (if tm=true∧fx=false then n else tt) true fx vo vf v3) 61 .rw)∧σ.length=152∧fr σ 0=.ptr rb 0∧fr σ 7=.ptr Hc.length 0) ?_ ?_ ?_
       ·intro htm
        have htm:tm=false:=by simpa using htm
        subst htm
        have l3:ldC 3 1 false (.cells xc 36 .rw)=some (.int .u32 n):=by rw [hxc]; rfl
        have s3:splice xc 3 [.int .u32 tt]=RcC ow' t 1 tt (eE t dd):=by rw [hxc]; rfl
        have ln:xc.length=12:=by rw [hxc]; rfl
        simp only [go_sem,simprocAttr,sl,s0,s7,zx,zs1,zs2,MsC.l2,l3,s3,ln,List.set_set]
        exact ⟨_,_,_,rfl,bn (bn (bn he4 (by simp [clean,low]; omega)) (by simp [clean,low]; omega)) (by simp [clean,low]; omega),by simp,fun i x h1 h2 h3=>by rw [List.getElem?_set_ne (Ne.symm h2)]; exact h3,zs1 _,by simpa using zs2 _,by simp only [go_sem,simprocAttr,sl],by simp only [go_sem,simprocAttr,sl,s0],by simp only [go_sem,simprocAttr,sl,s7]⟩
       ·intro htm
        have htm:tm=true:=by simpa using htm
        subst htm
        have l3:ldC 3 1 false (.cells xc 36 .rw)=some (.int .u32 n):=by rw [hxc]; rfl
        cases hfx:fx
        ·subst hfx
         have zs4:∀ y,(Z.set Hc.length y)[rb]?=some (.cells (MsC o ow' tt true false vo vf v3) 61 .rw):=zs2
         simp only [go_sem,simprocAttr,sl,s0,s7,zx,zs1,zs4,MsC.l4,MsC.len,MsC.s2,l3]
         refine ⟨_,_,_,rfl,bn (bn (bn he4 (by simp [clean,low]; omega)) (by simp [clean,low]; omega)) (by simp [clean,low]),by simp,fun i x h1 h2 h3=>by rw [List.getElem?_set_ne (Ne.symm h1),List.getElem?_set_ne (Ne.symm h2)]; exact h3,?_,?_,by simp only [go_sem,simprocAttr,sl],by simp only [go_sem,simprocAttr,sl,s0],by simp only [go_sem,simprocAttr,sl,s7]⟩
         ·rw [List.getElem?_set_ne (by omega),zs1,hxc]
         ·rw [List.getElem?_set_self (by simpa using ai zr)]
        ·subst hfx
         have zs4:∀ y,(Z.set Hc.length y)[rb]?=some (.cells (MsC o ow' tt true true vo vf v3) 61 .rw):=zs2
         simp only [go_sem,simprocAttr,sl,s0,s7,zx,zs1,zs4,MsC.l4,l3]
         exact ⟨_,_,_,rfl,bn (bn he4 (by simp [clean,low]; omega)) (by simp [clean,low]; omega),by simp,fun i x h1 h2 h3=>by rw [List.getElem?_set_ne (Ne.symm h2)]; exact h3,by rw [zs1,hxc],by simpa using zs4 _,by simp only [go_sem,simprocAttr,sl],by simp only [go_sem,simprocAttr,sl,s0],by simp only [go_sem,simprocAttr,sl,s7]⟩
       ·rintro _ ⟨σ,W,eW,rfl,w1,w2,w3,w4,w5,sl,s0,s7⟩
        obtain ⟨R,hR⟩:∃ R:Rcd,R=⟨ow',t,if tm=true then n else tt,eE t dd⟩:=⟨_,rfl⟩
        have hRc:RcC ow' t 1 (if tm=true then n else tt) (eE t dd)=R.cells:=by rw [hR]; rfl
        rw [hRc] at w4
        obtain ⟨tr,htr⟩:∃ tr,tr=if tm=true∧fx=false then n else tt:=⟨_,rfl⟩
        simp only [] at hS
        rw [← hR,← htr] at hS
        rw [← htr] at w5
        have oW:Ob rb W vo rs:=hoZ.fr (fun i x h1 h2=>w3 i _ (by omega) (by rintro rfl; rw [zx] at h2; injection h2 with h2; injection h2 with _ _ h2; cases h2) h2)
        have wlt:=ai w5
        have oW1:Ob rb (W++[.cells R.cells 36 .rw]) vo rs:=oW.fr (fun i x _ h=>ah h)
        obtain ⟨W2,e3,a1,a2,a3,a4,a5⟩:=oW1.app (by simp; omega) R (by simp only [fits,decide_eq_true_eq]; omega)
        have hbs:=Hl R
        have wr1:∀ x,(W++[x])[rb]?=some (.cells (MsC o ow' tr true fx vo vf v3) 61 .rw):=fun x=>ah w5
        have wn:∀ x,(W++[x])[W.length]?=some x:=fun x=>by rw [dg]; rfl
        have hldR:ldC 0 12 true (.cells R.cells 36 .rw)=some (.agg R.cells):=rfl
        have w2r:W2[rb]?=some (.cells (MsC o ow' tr true fx vo vf v3) 61 .rw):=a4 rb _ (wr1 _) (by
         rintro m rfl
         obtain ⟨h,_⟩ | ⟨_,i,hi,h,_⟩:=oW
         ·cases h
         ·injection h with h; omega)
        obtain ⟨hosc,hovc⟩:=oW.scl
        obtain ⟨vn,hvn⟩:∃ vn:AV,vn=.slice (W++[bp.cells R.cells 36 .rw]:Hp).length 0 (rs.length+1) (.op 0):=⟨_,rfl⟩
        rw [← hvn] at a1 a5
        obtain ⟨hnsc,hnvc⟩:=a5.scl
        have hrd2:rdC 0 12 (.cells R.cells 36 .rw)=some R.cells:=rfl
        have hnfl:flat vn=false:=by rw [hvn]; rfl
        have hqt:quiet (vn,W2,e3) (W++[bp.cells R.cells 36 .rw])=false:=by simp only [List.length_append,List.length_cons,List.length_nil] at a2; simp [quiet]; omega
        refine ay au (by kernel_rfl) ?_
        simp only [go_sem,simprocAttr,sl,s0,s7,w4,w5,wr1,wn,MsC.l5,hldR,hbs,hovc,hosc,hrd2,a1,w2r,MsC.len,MsC.s5,hnsc,hnvc,hnfl,hqt]
        refine ⟨by rcases uw 7 e3 with h | h <;> rw [h] <;> kernel_rfl,?_⟩
        refine ⟨(R,ow',tr),hS,v3,vn,_,_,(Sto.this.r _).leave hlt,eH (bn (bn w1 (KL a3)) (by simp [clean,low])),?_,fun i x h1 h2 h3=>?_,List.getElem?_set_self (ai w2r),a5.fr (fun i x h1 h2=>by rw [List.getElem?_set_ne (by omega)]; exact h2)⟩
        ·simp only [List.length_set,List.length_append,List.length_cons,List.length_nil] at a2 ⊢; omega
        ·have hil:=ai h3
         rw [List.getElem?_set_ne (Ne.symm h1)]
         exact a4 i x (ah (w3 i x h1 (by omega) (kf i x hil h1 h3))) h2
end Go.Proofs.YtdppgaphcmhffaaGreatDoor.V
namespace Go.Proofs.YtdppgaphcmhffaaGreatDoor.V
open Go
attribute [local irreducible] go bt goD opK ag bx aF aH bC fO

theorem EH:∀ (k:Nat) (r:List UInt8) (ln cl:Nat) (op:List (Nat × Nat)) (cur:Option En) (out:List En) (l c n:Nat),rdT k r ln cl op cur out=.bad l c n→n=80∨n=81
 | k,[],ln,cl,op,cur,out,l,c,n,h=>by
  cases op with
  | nil=>cases k <;> (unfold rdT at h; cases h)
  | cons p op=>obtain ⟨a,b⟩:=p; cases k <;> (unfold rdT at h; cases h; exact .inr rfl)
 | 0,_::_,ln,cl,op,cur,out,l,c,n,h=>by unfold rdT at h; cases h
 | k+1,x::r,ln,cl,op,cur,out,l,c,n,h=>by
  unfold rdT at h
  simp only [] at h
  repeat' split at h
  all_goals first
   | (cases h; exact .inr rfl)
   | (cases h; exact .inl rfl)
   | exact EH k _ _ _ _ _ _ _ _ _ h

theorem xM (t:List UInt8) (H:Hp) (ht:t.length≤262144):ag Tryz.prog 20 [.str t] H (fun r =>
  match ni t with
  | .bad l c n=>r=(.tuple [.aI,.agg [.int .i64 (l:Nat),.int .i64 (c:Nat)],.int .i64 (n:Nat)],H,z0)
  | .ok l=>∃ ve T es,r=(.tuple [ve,.agg [.int .i64 0,.int .i64 0],.int .i64 0],H++T,z0)∧Eo H T ve es∧es.map (·.1)=l):=by
 refine aa (n:=25) (rs:=[.tmp 2,.cell 3 38,.tmp 4]) Tryz.func20 rfl rfl rfl ?_
 intro σ hl ha
 have h0:=ha 0 (by simp)
 clear ha
 simp only [Option.getD_some,List.getElem?_cons_zero,List.getElem?_cons_succ] at h0
 have hgt:decide ((t.length:Int) > 262144)=false:=by simp; omega
 have hbd:bq Tryz.prog 93 [(0,.str t),(2,.int .i64 1)]=some (.agg (TkC t 0 1 0 .aI false 0 .aI .aI false)):=by
  simp only [bq,Ii,xB,rM,Option.bind_some,fM]
  rfl
 simp only [go_sem,simprocAttr,hl,h0,hgt,hbd]
 refine ⟨rfl,⟨Nat.le_refl _,rfl⟩,?_⟩
 have hsp0:splice [.str [],.int .i64 0,.int .i64 0,.int .i64 0,.aI,.bool false,.int .i64 0,.aI,.aI,.bool false] 0 (TkC t 0 1 0 .aI false 0 .aI .aI false)=TkC t 0 1 0 .aI false 0 .aI .aI false:=rfl
 rw [hsp0]
 refine bG (Ip H [.cells [.int .i64 0,.int .i64 0] 38 .rw,.cells (TkC t 0 1 0 .aI false 0 .aI .aI false) 93 .rw] 1 t ht rfl) ?_
 rintro _ ⟨v,T,e,⟨hce,hTl,hfr,hm⟩,rfl⟩
 have hs0:T[0]?=some (.cells [.int .i64 0,.int .i64 0] 38 .rw):=hfr 0 _ _ (by decide) rfl
 have hs1:∀ (x y:bp),(T++[x])[0]?=some (.cells [.int .i64 0,.int .i64 0] 38 .rw):=fun x y=>ah hs0
 cases hr:ni t with
 | bad l c n =>
  rw [hr] at hm
  subst hm
  have hn:n=80∨n=81:=EH _ _ _ _ _ _ _ _ _ _ hr
  have hnz:((n:Int) != 0)=true:=by rcases hn with rfl | rfl <;> rfl
  simp only [go_sem,simprocAttr,hl,h0,hs0,hnz]
  have n1:∀ x,(T++[x])[T.length]?=some x:=fun x=>by simp
  have n0:∀ x,(T++[x])[0]?=some (.cells [.int .i64 0,.int .i64 0] 38 .rw):=fun x=>ah hs0
  have hss:∀ x y,((T++[x]).set 0 y)[0]?=some y:=fun x y=>List.getElem?_set_self (ai (n0 x))
  refine ay au (by kernel_rfl) ?_
  simp only [go_sem,simprocAttr,hl,h0,hs0,n0,n1,hss]
  refine ⟨(by kernel_rfl:bN _ _ _=true),mz rfl ?_ (fun i x hx=>ah hx)⟩
  have hf:bK (TkC t 0 1 0 .aI false 0 .aI .aI false)=true:=rfl
  rw [if_pos hf]
  simp only [aV,b7,hce,true_and,and_true]
  omega
 | ok l =>
  rw [hr] at hm
  obtain ⟨rfl,i,ln,bg,vo,bl,el,vw,ve,ins,es,hb,hE,hl2⟩:=hm
  obtain ⟨hsc,hvc⟩:cK ve=true∧bH ve=[ve]:=⟨hE.1.scl,hE.1.vc⟩
  have hbz:bq Tryz.prog 38 []=some (.agg [.int .i64 0,.int .i64 0]):=by kernel_rfl
  have hz:((0:Int) != 0)=false:=rfl
  have g1:∀ x,(T++[x])[1]?=some (.cells (TkC t i ln bg vo bl el vw ve ins) 93 .rw):=fun x=>ah hb
  have g0:∀ x,(T++[x])[0]?=some (.cells [.int .i64 0,.int .i64 0] 38 .rw):=fun x=>ah hs0
  have gs:∀ x y,((T++[x]).set 0 y)[0]?=some y:=fun x y=>List.getElem?_set_self (ai (g0 x))
  simp only [go_sem,simprocAttr,hl,h0,hs0,hz,g1,g0,gs,TkC.l8,hsc,hvc,hbz]
  have hf:bK (TkC t 0 1 0 .aI false 0 .aI .aI false)=true:=rfl
  rw [if_pos hf,eT (g0 _)]
  have hcl:clean H.length ((((⟨none,some (H.length+1)⟩:Ef).and e).and ⟨none,some (H.length+T.length)⟩).and ⟨none,some H.length⟩):=by
   simp only [aV,b7,hce,true_and,and_true]; omega
  rcases hE.1 with ⟨rfl,h1,h2⟩ | ⟨hp,hcs,m,rfl,hm⟩
  ·have hes:es=[]:=List.eq_nil_of_length_eq_zero h2
   subst hes
   refine ⟨.aI,[],[],?_,⟨.inl ⟨rfl,rfl,rfl⟩,fun x hx=>by cases hx⟩,hl2⟩
   rw [List.append_nil]
   exact aW rfl hcl
  ·refine ⟨_,T++[.cells [.int .i64 0,.int .i64 0] 38 .rw],es,gb (by simp [flat,bK]) hcl,hE.fr (fun m y _ hy=>ah hy),hl2⟩
end Go.Proofs.YtdppgaphcmhffaaGreatDoor.V
namespace Go.Proofs.YtdppgaphcmhffaaGreatDoor.V
open Go
attribute [local irreducible] go bt goD opK ag bx aF aH bC

def wg (rd:List UInt8→Nat→List Wd→Option Dt):List En→List UInt8→List UInt8→Nat→Bool→Bool→List Rcd→Except (Wd × Nat) (List Rcd)
 | [],_,_,_,_,_,rs=>.ok rs
 | x::es,o,ow,tt,tl,fx,rs=>match x.ws with
  | []=>.ok rs
  | w::ws =>
   if x.bl=false∧w.q=false∧w.t.head?=some 36 then
    match wZ o tt fx w ws with
    | none=>.error (w,94)
    | some d=>wg rd es d.1 ow d.2.1 tl d.2.2 rs
   else match mL (rd o) o ow tt tl fx rs.length x.bl w ws with
    | .error e=>.error e
    | .ok y=>wg rd es o y.2.1 y.2.2 true fx (rs++[y.1])

theorem OD:fU Tryz.prog 65 .de=some (.tuple [.agg [.str [],.bool false,.int .i64 0,.int .i64 0,.int .i64 0],.bool false]):=by
 rw [Lj (by kernel_rfl)]
 kernel_rfl
theorem OE (v:AV):fU Tryz.prog 65 (.iface 65 v)=some (.tuple [v,.bool true]):=Ll (by kernel_rfl)
def Ol (a:Nat):Dc:=(.func (.func 22) [] [.ptr a 0,.ptr (a+1) 0,.ptr (a+2) 0],[])
theorem BN {a:Nat} {H:Hp} {K:Hp × Ef→Prop} (h:K (H++[.cells [.str [],.bool false,.int .i64 0,.int .i64 0,.int .i64 0] 65 .rw],⟨none,some H.length⟩)):qi Tryz.prog (Ol a) none H K:=by
 refine nM (n:=20) Tryz.func22 rfl rfl rfl rfl rfl rfl ?_
 intro σ hl ha
 have h0:=ha 0 (by simp)
 have h1:=ha 1 (by simp)
 have h2:=ha 2 (by simp)
 clear ha
 simp only [List.nil_append,Option.getD_some,List.getElem?_cons_zero,List.getElem?_cons_succ] at h0 h1 h2
 simp only [go_sem,simprocAttr,hl,h0,h1,h2,Option.getD_none,OD]
 exact h
theorem Gj (w:Wd) (n:Nat) {a:Nat} {H:Hp} {K:Hp × Ef→Prop} {v x y z:AV} (c0:H[a]?=some (.cells [v] 26 .rw)) (c1:H[a+1]?=some (.cells [x,y] 38 .rw)) (c2:H[a+2]?=some (.cells [z] 39 .rw))
  (h:∀ H' e,clean a e→H'[a]?=some (.cells [.aI] 26 .rw)→H'[a+1]?=some (.cells [.int .i64 w.ln,.int .i64 w.cl] 38 .rw)→H'[a+2]?=some (.cells [.int .i64 (n:Nat)] 39 .rw)→(∀ (i:Nat) q,i < a→H[i]?=some q→H'[i]?=some q)→H.length≤H'.length→K (H',e)) :
  qi Tryz.prog (Ol a) (some (flt w n)) H K:=by
 have l2:=ai c2
 refine nM (n:=20) Tryz.func22 rfl rfl rfl rfl rfl rfl ?_
 intro σ hl ha
 have h0:=ha 0 (by simp)
 have h1:=ha 1 (by simp)
 have h2:=ha 2 (by simp)
 clear ha
 simp only [List.nil_append,Option.getD_some,List.getElem?_cons_zero,List.getElem?_cons_succ] at h0 h1 h2
 have hfc:flt w n=.iface 65 (.agg [.str w.t,.bool w.q,.int .i64 w.ln,.int .i64 w.cl,.int .i64 (n:Nat)]):=rfl
 simp only [go_sem,simprocAttr,hl,h0,h1,h2,Option.getD_some,hfc,OE]
 obtain ⟨Hn,hHn⟩:∃ Hn:Hp,Hn=H++[.cells [.str w.t,.bool w.q,.int .i64 w.ln,.int .i64 w.cl,.int .i64 (n:Nat)] 65 .rw]:=⟨_,rfl⟩
 have n0:Hn[a]?=some (.cells [v] 26 .rw):=by rw [hHn]; exact ah c0
 have n1:Hn[a+1]?=some (.cells [x,y] 38 .rw):=by rw [hHn]; exact ah c1
 have n2:Hn[a+2]?=some (.cells [z] 39 .rw):=by rw [hHn]; exact ah c2
 have n3:Hn[H.length]?=some (.cells [.str w.t,.bool w.q,.int .i64 w.ln,.int .i64 w.cl,.int .i64 (n:Nat)] 65 .rw):=by rw [hHn,dg]; rfl
 have hbs:bq Tryz.prog 38 [(0,.int .i64 w.ln),(1,.int .i64 w.cl)]=some (.agg [.int .i64 w.ln,.int .i64 w.cl]):=by
  simp only [bq,rL,jM,jd,Option.bind_some,fM]
  rfl
 have m1:∀ q,(Hn.set a q)[a+1]?=some (.cells [x,y] 38 .rw):=fun q=>by rw [List.getElem?_set_ne (by omega)]; exact n1
 have m2:∀ q r,((Hn.set a q).set (a+1) r)[a+2]?=some (.cells [z] 39 .rw):=fun q r=>by rw [List.getElem?_set_ne (by omega),List.getElem?_set_ne (by omega)]; exact n2
 rw [← hHn]
 refine uX [((9,2),(0,12)),((9,5),(0,15)),((9,8),(0,18)),((10,8),(1,18))] au (by kernel_rfl) ?_
 simp only [go_sem,simprocAttr,hl,h0,h1,h2,n0,n3,hbs,m1,m2]
 refine ⟨(by kernel_rfl:KD _ _ _=true),fun x hx=>?_,?_⟩
 ·simp only [List.mem_cons,List.not_mem_nil,or_false] at hx
  rcases hx with rfl | rfl | rfl | rfl
  ·exact ⟨a,0,H.length,2,by simp only [go_sem,simprocAttr,hl,h0],by simp only [go_sem,simprocAttr,hl],by omega⟩
  ·exact ⟨a,0,H.length,3,by simp only [go_sem,simprocAttr,hl,h0],by simp only [go_sem,simprocAttr,hl],by omega⟩
  ·exact ⟨a,0,H.length,4,by simp only [go_sem,simprocAttr,hl,h0],by simp only [go_sem,simprocAttr,hl],by omega⟩
  ·exact ⟨a+1,0,H.length,4,by simp only [go_sem,simprocAttr,hl,h1],by simp only [go_sem,simprocAttr,hl],by omega⟩
 refine h _ _ (by simp only [aV,b7]; omega) ?_ ?_ ?_ (fun i q hi hq=>?_) (by simp [hHn])
 ·rw [List.getElem?_set_ne (by omega),List.getElem?_set_ne (by omega),List.getElem?_set_self (ai n0)]
 ·rw [List.getElem?_set_ne (by omega),List.getElem?_set_self (by simpa using ai n1)]
 ·rw [List.getElem?_set_self (by simpa using ai n2)]
 ·rw [List.getElem?_set_ne (by omega),List.getElem?_set_ne (by omega),List.getElem?_set_ne (by omega),hHn]
  exact ah hq
theorem RB {n:Nat} {T Hc:Hp} {v:AV} {ws:List Wd} (h:bZ n T v 63 4 ws.length (cA ws)) (hf:∀ (m:Nat) y,T[m]?=some y→Hc[n+m]?=some y):Wv Hc v ws:=by
 obtain ⟨rfl,_,h⟩ | ⟨_,_,m,rfl,hm⟩:=h
 ·exact .inl ⟨rfl,List.eq_nil_of_length_eq_zero h⟩
 ·exact .inr (.inl ⟨n+m,0,[],0,false,by simp,rfl,hf m _ hm⟩)
theorem KC:∀ (es:List (En × AV)) (i:Nat) (x:En × AV),es[i]?=some x→((enC es).drop (i*3)).take 3=[.bool x.1.bl,.int .i64 (x.1.ln:Nat),x.2]∧i*3+3≤(enC es).length
 | [],i,x,h=>by simp at h
 | y::es,0,x,h=>by
  simp only [List.getElem?_cons_zero,Option.some.injEq] at h
  subst h
  exact ⟨rfl,by rw [Ff,List.length_cons]; omega⟩
 | y::es,i+1,x,h=>by
  obtain ⟨h1,h2⟩:=KC es i x (by simpa using h)
  have e:enC (y::es)=[.bool y.1.bl,.int .i64 (y.1.ln:Nat),y.2]++enC es:=rfl
  have e2:(i+1)*3=([.bool y.1.bl,.int .i64 (y.1.ln:Nat),y.2]:List AV).length+i*3:=by simp; omega
  refine ⟨?_,by rw [Ff] at h2 ⊢; simp; omega⟩
  rw [e,e2,← List.drop_drop,List.drop_left]; exact h1
theorem Eo.at {H T Hc:Hp} {v:AV} {es:List (En × AV)} (h:Eo H T v es) (hf:∀ (m:Nat) y,T[m]?=some y→Hc[H.length+m]?=some y) {i:Nat} {x:En × AV} (hi:es[i]?=some x) :
  ∃ b q row,aN Tryz.prog 54 v (.int .i64 (i:Nat))=some (.ptr b q)∧Hc[b]?=some (.cells row 68 (.op 0 false))∧ldC q 3 true (.cells row 68 (.op 0 false))=some (.agg [.bool x.1.bl,.int .i64 (x.1.ln:Nat),x.2]):=by
 have hlt:=(List.getElem?_eq_some_iff.1 hi).1
 obtain ⟨_,_,h0⟩ | ⟨_,_,m,rfl,hm⟩:=h.1
 ·omega
 ·obtain ⟨h4,h5⟩:=KC es i x hi
  refine ⟨H.length+m,0+i*3,_,?_,hf m _ hm,?_⟩
  ·simp only [aN,rK]
   rw [if_pos ⟨by omega,by omega⟩]
   simp
  ·unfold ldC
   simp only [if_true,Nat.zero_add]
   rw [if_pos h5,h4]
theorem Eo.T6 {H T:Hp} {v:AV} {es:List (En × AV)} (h:Eo H T v es) (H':Hp):bY Tryz.prog 54 v H'=some (.int .i64 es.length):=by
 obtain ⟨rfl,_,h0⟩ | ⟨_,_,m,rfl,_⟩:=h.1
 ·have:es=[]:=List.eq_nil_of_length_eq_zero h0
  subst this
  simp only [bY,rK]; rfl
 ·simp only [bY,rK]
theorem yR (s p:List UInt8) (H k) (hs:s.length≤cg) (hp:p.length≤cg):ag Tryz.prog 23 [.str s,.str p] H k=k (.bool (jk s p).2,H,z0):=by
 refine ak (r:=(.bool (jk s p).2,H,z0)) ?_ k
 refine aa (n:=8) (rs:=[.tmp 4]) Tryz.func23 rfl rfl rfl ?_
 intro σ hl ha
 have h0:=ha 0 (by simp)
 have h1:=ha 1 (by simp)
 clear ha
 simp only [Option.getD_some,List.getElem?_cons_zero,List.getElem?_cons_succ] at h0 h1
 have hq:=fun k=>sS s p H k hs hp
 simp only [go_sem,simprocAttr,hl,h0,h1,hq]
theorem O6 (s:List UInt8):(jk s [36]).2=true↔s.head?=some 36:=by
 unfold jk
 cases s with
 | nil=>simp
 | cons a t=>simp only [List.length_cons,List.length_nil,List.take_succ_cons,List.take_zero,List.cons.injEq,and_true,List.head?_cons,Option.some.injEq]; split <;> simp_all
theorem A9 {n m:Nat} {e:Ef} (h:clean m e) (hnm:n≤m):clean n e:=by
 obtain ⟨h1,h2⟩:=h
 have key:∀ o:Option Nat,low m o=none→low n o=none:=by
  intro o h
  cases o with
  | none=>rfl
  | some x=>rw [oE] at h ⊢; omega
 exact ⟨key _ h1,key _ h2⟩
theorem Ob.dn {a b:Nat} {H:Hp} {v:AV} {rs:List Rcd} (h:Ob b H v rs) (hab:a≤b):Ob a H v rs:=by
 obtain h | ⟨hp,i,hi,h⟩:=h
 ·exact .inl h
 ·exact .inr ⟨hp,i,by omega,h⟩
def OM (H:Hp) (y:Except (Wd × Nat) (List Rcd)) (r:AV × Hp × Ef):Prop :=
 match y with
 | .error y=>r=(.tuple [.aI,.agg [.int .i64 y.1.ln,.int .i64 y.1.cl],.int .i64 (y.2:Nat)],H,z0)
 | .ok rs=>∃ vo H',r=(.tuple [vo,.agg [.int .i64 0,.int .i64 0],.int .i64 0],H',z0)∧H.length≤H'.length∧(∀ (i:Nat) x,H[i]?=some x→H'[i]?=some x)∧Ob H.length H' vo rs
theorem Tm (o:List UInt8) (n:Nat):bq Tryz.prog 61 [(0,.str o),(2,.int .u32 n)]=some (.agg (MsC o [] n false false .aI .aI .aI)):=by
 simp only [bq,Il,xD,rQ,Option.bind_some,fM]
 rfl
set_option maxHeartbeats 4000000 in
theorem Jr (rd:List UInt8→Nat→List Wd→Option Dt) (A:Prop) (Op:List UInt8→Prop) (yF:Except (Wd × Nat) (List Rcd)) (H:Hp) (t og:List UInt8) (tt:Nat) (l:List En) (hgl:Gl H) (hn:gN≤H.length) (ht:t.length≤262144) (htt:tt≤2147483647) (hog:(nm og).isSome=true) (hogl:og.length≤1048576)
  (htok:ni t=.ok l) (hA:A∨∃ rs,yF=.ok rs) (hok:wg rd l (bB og) [] tt false false []=yF) (hop0:Op (bB og)) (hop:∀ w o,Op o→(kA w o).2=true→Op (kA w o).1) (hopl:∀ o,Op o→o.length≤1048576)
  (hll:l.length≤1048576) (hne:∀ x ∈ l,x.ws≠[]) (hwl:∀ x ∈ l,∀ w ∈ x.ws,w.t.length≤1048576) (hrd:∀ o t r,Op o→(∀ w ∈ r,∃ x ∈ l,w ∈ x.ws)→((rd o t r).isSome=true∨A)→Rx o t r (rd o t r)) :
  ag Tryz.prog 10 [.str t,.str og,.int .u32 tt] H (OM H yF):=by
 have hck:=fun H' k=>cU og H' k (by unfold cg; omega)
 simp only [hog,if_true] at hck
 have hfo:=fun H' k=>dW og H' k (by unfold cg; omega)
 have htg:decide ((tt:Int) > 2147483647)=false:=by simp; omega
 obtain ⟨H3,hH3⟩:∃ H3:Hp,H3=H++[.cells [.aI] 26 .rw,.cells [.int .i64 0,.int .i64 0] 38 .rw,.cells [.int .i64 0] 39 .rw]:=⟨_,rfl⟩
 have hten:=xM t H3 ht
 rw [htok] at hten
 obtain ⟨⟨ve,T,es⟩,⟨hE,hmap⟩,hent⟩:=cI (fun b:AV × Hp × List (En × AV)=>Eo H3 b.2.1 b.1 b.2.2∧b.2.2.map (·.1)=l) (fun b=>(.tuple [b.1,.agg [.int .i64 0,.int .i64 0],.int .i64 0],H3++b.2.1,z0)) (bG hten (by
  rintro r ⟨ve,T,es,rfl,h1,h2⟩
  exact ⟨(ve,T,es),⟨h1,h2⟩,rfl⟩))
 simp only [] at hE hmap hent
 refine kL (n:=82) (rs:=[.cell 6 26,.cell 7 38,.cell 8 39]) Tryz.func10 rfl rfl rfl ?_
 intro σ hl ha
 have h0:=ha 0 (by simp)
 have h1:=ha 1 (by simp)
 have h2:=ha 2 (by simp)
 clear ha
 simp only [Option.getD_some,List.getElem?_cons_zero,List.getElem?_cons_succ] at h0 h1 h2
 refine ic (by kernel_rfl) (by kernel_rfl) ?_
 simp only [go_sem,simprocAttr,hl]
 rw [← hH3]
 refine ic (by kernel_rfl) (by kernel_rfl) ?_
 simp only [go_sem,simprocAttr,hl,h0,h1,h2,hck]
 refine ic (by kernel_rfl) (by kernel_rfl) ?_
 simp only [go_sem,simprocAttr,hl,h0,h1,h2,htg]
 refine ic (by kernel_rfl) (by kernel_rfl) ?_
 have hl3:H3.length=H.length+3:=by rw [hH3]; simp
 obtain ⟨X,hX⟩:∃ X:Hp,X=H3++T:=⟨_,rfl⟩
 have x0:X[H.length]?=some (.cells [.aI] 26 .rw):=by rw [hX,hH3]; exact ah (by rw [dg]; rfl)
 have x1:X[H.length+1]?=some (.cells [.int .i64 0,.int .i64 0] 38 .rw):=by rw [hX,hH3]; exact ah (by rw [bX]; rfl)
 have x2:X[H.length+2]?=some (.cells [.int .i64 0] 39 .rw):=by rw [hX,hH3]; exact ah (by rw [bX]; rfl)
 have sp0:splice [.int .i64 0,.int .i64 0] 0 [.int .i64 0,.int .i64 0]=[AV.int .i64 0,.int .i64 0]:=rfl
 have st1:X.set (H.length+1) (.cells [.int .i64 0,.int .i64 0] 38 .rw)=X:=eT x1
 have st2:X.set (H.length+2) (.cells [.int .i64 0] 39 .rw)=X:=eT x2
 simp only [go_sem,simprocAttr,hl,h0,h1,h2,hent,← hX,x1,x2,sp0,st1,st2]
 refine ic (by kernel_rfl) (by kernel_rfl) ?_
 have hz:((0:Int) != 0)=false:=rfl
 simp only [go_sem,simprocAttr,hl,x2,hz]
 refine ic (by kernel_rfl) (by kernel_rfl) ?_
 have hbd:=Tm (bB og) tt
 have hvc:bH (.agg (MsC (bB og) [] tt false false .aI .aI .aI))=MsC (bB og) [] tt false false .aI .aI .aI:=rfl
 have hscm:(MsC (bB og) [] tt false false .aI .aI .aI).all cK=true:=rfl
 simp only [go_sem,simprocAttr,hl,h1,h2,hfo,hbd,hvc,hscm]
 refine J5 ?_
 simp only [go_sem,simprocAttr,hl]
 generalize hσ:List.set _ 36 _=σ1
 have s6:fr σ1 6=.ptr H.length 0:=by rw [← hσ]; simp only [go_sem,simprocAttr,hl]
 have s7:fr σ1 7=.ptr (H.length+1) 0:=by rw [← hσ]; simp only [go_sem,simprocAttr,hl]
 have s8:fr σ1 8=.ptr (H.length+2) 0:=by rw [← hσ]; simp only [go_sem,simprocAttr,hl]
 have s10:fr σ1 10=.ptr X.length 0:=by rw [← hσ]; simp only [go_sem,simprocAttr,hl]
 have sl:σ1.length=82:=by rw [← hσ]; simp only [go_sem,simprocAttr,hl]
 clear hσ hl h0 h1 h2
 have hel:=hE.T6
 have hXl:X.length=H.length+3+T.length:=by rw [hX,List.length_append,hl3]
 simp only [go_sem,simprocAttr,sl,hel]
 refine go_rounds (fun m st=>∃ σ i Hc e o ow tm tl fx vo vf vw rs,m+i=es.length∧wg rd ((es.drop i).map (·.1)) o ow tm tl fx rs=yF∧st=⟨σ,Hc,e⟩∧Hc[X.length]?=some (.cells (MsC o ow tm tl fx vo vf vw) 61 .rw)∧(∀ (j:Nat) x,j < X.length→X[j]?=some x→Hc[j]?=some x)∧Ob X.length Hc vo rs∧clean H.length e∧Op o∧rs.length≤4096 ∧
   σ.length=82∧fr σ 6=.ptr H.length 0∧fr σ 7=.ptr (H.length+1) 0∧fr σ 8=.ptr (H.length+2) 0∧fr σ 10=.ptr X.length 0∧fr σ 37=ve∧fr σ 38=.int .i64 es.length∧fr σ 39=.int .i64 (i:Nat)) es.length
  ⟨_,0,_,_,bB og,[],tt,false,false,.aI,.aI,.aI,[],rfl,by rw [List.drop_zero,hmap]; exact hok,rfl,by rw [dg]; rfl,fun j x _ hx=>ah hx,.inl ⟨rfl,rfl⟩,by simp only [aV,b7,rA,and_true]; omega,hop0,by decide,by simp only [go_sem,simprocAttr,sl],by simp only [go_sem,simprocAttr,sl,s6],by simp only [go_sem,simprocAttr,sl,s7],by simp only [go_sem,simprocAttr,sl,s8],by simp only [go_sem,simprocAttr,sl,s10],by simp only [go_sem,simprocAttr,sl],by simp only [go_sem,simprocAttr,sl],by simp only [go_sem,simprocAttr,sl]⟩ ?_
 clear sl s6 s7 s8 s10
 rintro m _ ⟨σ,i,Hc,e,o,ow,tm,tl,fx,vo,vf,vw,rs,hmi,hpar,rfl,hb,hfm,hob,hce,hopo,hrs,sl,s6,s7,s8,s10,s37,s38,s39⟩
 have hltc:=ai hb
 by_cases hi:i < es.length
 ·obtain ⟨x,hx⟩:∃ x,es[i]?=some x:=⟨_,List.getElem?_eq_getElem hi⟩
  have c1:decide (i < es.length)=true:=decide_eq_true hi
  have hesl:es.length=l.length:=by rw [← hmap]; simp
  have w1:=aS (show i < 9223372036854775807 by omega)
  have hfT:∀ (m:Nat) y,T[m]?=some y→Hc[H3.length+m]?=some y:=fun m y hy=>hfm _ _ (by have:=ai hy; omega) (by rw [hX,bX]; exact hy)
  obtain ⟨b,q,row,e1,e2,e3⟩:=hE.at hfT hx
  obtain ⟨en,wv⟩:=x
  have hEx:=hE.2 _ (List.mem_of_getElem? hx)
  simp only [] at hEx e3
  have hwv:Wv Hc wv en.ws:=RB hEx.2 hfT
  obtain ⟨hwsc,hwvc⟩:=hwv.scl
  have hze:[AV.bool false,.int .i64 0,.aI]=[AV.bool false,.int .i64 0,.aI]:=rfl
  simp only [go_sem,simprocAttr,sl,s6,s7,s8,s10,s37,s38,s39,c1,e1,e2,e3,hwsc,hwvc]
  obtain ⟨Y,hY⟩:∃ Y:Hp,Y=Hc++[.cells [.bool en.bl,.int .i64 (en.ln:Nat),wv] 68 .rw]:=⟨_,rfl⟩
  have yE:Y[Hc.length]?=some (.cells [.bool en.bl,.int .i64 (en.ln:Nat),wv] 68 .rw):=by rw [hY,dg]; rfl
  have yb:Y[X.length]?=some (.cells (MsC o ow tm tl fx vo vf vw) 61 .rw):=by rw [hY]; exact ah hb
  have ysb:∀ z,(Y.set X.length z)[X.length]?=some z:=fun z=>List.getElem?_set_self (ai yb)
  rw [← hY]
  have ysE:∀ z,(Y.set X.length z)[Hc.length]?=some (.cells [.bool en.bl,.int .i64 (en.ln:Nat),wv] 68 .rw):=fun z=>by rw [List.getElem?_set_ne (by omega)]; exact yE
  have henl:en ∈ l:=by rw [← hmap]; exact List.mem_map_of_mem (f:=(·.1)) (List.mem_of_getElem? hx)
  obtain ⟨w,ws,hws⟩:∃ w ws,en.ws=w::ws:=by
   cases h:en.ws with
   | nil=>exact absurd h (hne en henl)
   | cons w ws=>exact ⟨w,ws,rfl⟩
  rw [hws] at hwv
  have hnf:flat wv=false:=by
   obtain ⟨_,h⟩ | ⟨b,k,pre,fz,st,rfl,h2,h3⟩ | ⟨b,_,_,h⟩:=hwv
   ·cases h
   ·rfl
   ·cases h
  obtain ⟨W0,hW0⟩:∃ W0:Hp,W0=Y.set X.length (.cells (MsC o ow tm tl fx vo wv wv) 61 .rw):=⟨_,rfl⟩
  refine go_cut (fun st=>∃ σ e,st=⟨σ,W0,e⟩∧clean H.length e∧σ.length=82∧fr σ 6=.ptr H.length 0∧fr σ 7=.ptr (H.length+1) 0∧fr σ 8=.ptr (H.length+2) 0∧fr σ 10=.ptr X.length 0∧fr σ 12=.ptr Hc.length 0∧fr σ 37=ve∧fr σ 38=.int .i64 es.length∧fr σ 39=.int .i64 (i:Nat)) ?_ ?_
  ·refine uX [((8,5),(50,47))] au (by kernel_rfl) ?_
   simp only [go_sem,simprocAttr,sl,s6,s7,s8,s10,s37,s38,s39,yE,yb,ysb,ysE,hwsc,hwvc,MsC.len,MsC.s6,MsC.s7,List.set_set]
   refine ⟨(by kernel_rfl:KD _ _ _=true),fun x hx=>?_,?_⟩
   ·simp only [List.mem_cons,List.not_mem_nil,or_false] at hx
    subst hx
    exact ⟨X.length,6,Hc.length,2,by simp only [go_sem,simprocAttr,sl,s10],by simp only [go_sem,simprocAttr,sl],by omega⟩
   rw [← hW0]
   exact ⟨_,_,rfl,by simp only [gZ,j6,lU,iY (show H.length≤Hc.length by omega),iY (show H.length≤X.length by omega),hce,and_true,true_and] <;> omega,by simp only [go_sem,simprocAttr,sl],by simp only [go_sem,simprocAttr,sl,s6],by simp only [go_sem,simprocAttr,sl,s7],by simp only [go_sem,simprocAttr,sl,s8],by simp only [go_sem,simprocAttr,sl,s10],by simp only [go_sem,simprocAttr,sl],by simp only [go_sem,simprocAttr,sl,s37],by simp only [go_sem,simprocAttr,sl,s38],by simp only [go_sem,simprocAttr,sl,s39]⟩
  clear sl s6 s7 s8 s10 s37 s38 s39
  rintro _ ⟨σ,eY,rfl,heY,sl,s6,s7,s8,s10,s12,s37,s38,s39⟩
  have w00:W0[X.length]?=some (.cells (MsC o ow tm tl fx vo wv wv) 61 .rw):=by rw [hW0,ysb]
  have w0E:W0[Hc.length]?=some (.cells [.bool en.bl,.int .i64 (en.ln:Nat),wv] 68 .rw):=by rw [hW0,ysE]
  have hW0l:W0.length=Hc.length+1:=by rw [hW0,hY]; simp
  have w0f:∀ (j:Nat) x,j≠X.length→Hc[j]?=some x→W0[j]?=some x:=fun j x h1 h2=>by rw [hW0,List.getElem?_set_ne (Ne.symm h1),hY]; exact ah h2
  have w0v:Wv W0 wv (w::ws):=by
   rw [hW0]
   refine Wv.set ?_ yb
   rw [hY]; exact hwv.old _
  obtain ⟨b0,q0,row0,ee0,kd0,hi0,hg0,hl40⟩:=w0v.at (i:=0) rfl
  have hi0:aN Tryz.prog 59 wv (.int .i64 0)=some (.ptr b0 q0):=hi0
  obtain ⟨W,hW⟩:∃ W:Hp,W=W0++[.cells w.cells 63 .rw]:=⟨_,rfl⟩
  have hvw:bH (.agg w.cells)=w.cells:=rfl
  rw [nD]
  refine go_cut (fun st=>∃ σ e,st=⟨σ,W,e⟩∧clean H.length e∧σ.length=82∧fr σ 6=.ptr H.length 0∧fr σ 7=.ptr (H.length+1) 0∧fr σ 8=.ptr (H.length+2) 0∧fr σ 10=.ptr X.length 0∧fr σ 12=.ptr Hc.length 0∧fr σ 13=.ptr W0.length 0∧fr σ 37=ve∧fr σ 38=.int .i64 es.length∧fr σ 39=.int .i64 (i:Nat)) ?_ ?_
  ·simp only [go_sem,simprocAttr,sl,s12,w0E,hi0,hg0,hl40,hvw,bD,bR,bV,bS,bU,hwsc,hwvc,← hW]
   exact ⟨_,_,rfl,by simp only [aV,b7,heY,true_and]; omega,by simp only [go_sem,simprocAttr,sl],by simp only [go_sem,simprocAttr,sl,s6],by simp only [go_sem,simprocAttr,sl,s7],by simp only [go_sem,simprocAttr,sl,s8],by simp only [go_sem,simprocAttr,sl,s10],by simp only [go_sem,simprocAttr,sl,s12],by simp only [go_sem,simprocAttr,sl],by simp only [go_sem,simprocAttr,sl,s37],by simp only [go_sem,simprocAttr,sl,s38],by simp only [go_sem,simprocAttr,sl,s39]⟩
  clear sl s6 s7 s8 s10 s12 s37 s38 s39
  rintro _ ⟨σ,eV,rfl,heV,sl,s6,s7,s8,s10,s12,s13,s37,s38,s39⟩
  have hWl:W.length=Hc.length+2:=by rw [hW]; simp [hW0l]
  have wb:W[X.length]?=some (.cells (MsC o ow tm tl fx vo wv wv) 61 .rw):=by rw [hW]; exact ah w00
  have wE:W[Hc.length]?=some (.cells [.bool en.bl,.int .i64 (en.ln:Nat),wv] 68 .rw):=by rw [hW]; exact ah w0E
  have wW:W[W0.length]?=some (.cells w.cells 63 .rw):=by rw [hW,dg]; rfl
  have wf:∀ (j:Nat) x,j≠X.length→Hc[j]?=some x→W[j]?=some x:=fun j x h1 h2=>by rw [hW]; exact ah (w0f j x h1 h2)
  have wvv:Wv W wv (w::ws):=by rw [hW]; exact w0v.old _
  have hwt:ldC 0 1 false (.cells w.cells 63 .rw)=some (.str w.t):=rfl
  have hwq:ldC 1 1 false (.cells w.cells 63 .rw)=some (.bool w.q):=rfl
  have hwl1:∀ x ∈ w::ws,x.t.length≤1048576:=by rw [← hws]; exact hwl en henl
  have hwtl:=hwl1 w (by simp)
  have hpre:=fun k=>yR w.t [36] W k (by unfold cg; omega) (by decide)
  rw [nD]
  refine go_cut (fun st=>∃ σ e,st=⟨σ,W,e⟩∧clean H.length e∧σ.length=82∧fr σ 6=.ptr H.length 0∧fr σ 7=.ptr (H.length+1) 0∧fr σ 8=.ptr (H.length+2) 0∧fr σ 10=.ptr X.length 0∧fr σ 12=.ptr Hc.length 0∧fr σ 37=ve∧fr σ 38=.int .i64 es.length∧fr σ 39=.int .i64 (i:Nat)∧fr σ 69=.bool (!en.bl && (!w.q && (jk w.t [36]).2))) ?_ ?_
  ·have hlW:=ai wW
   cases hbl:en.bl
   ·cases hq:w.q
    ·rw [hq] at hwq; rw [hbl] at wE
     simp only [go_sem,simprocAttr,sl,s12,s13,wE,wW,hwt,hwq,hpre,Bool.not_false,Bool.not_true]
     exact ⟨_,_,rfl,by simp only [aV,b7,heV,true_and],by simp only [go_sem,simprocAttr,sl],by simp only [go_sem,simprocAttr,sl,s6],by simp only [go_sem,simprocAttr,sl,s7],by simp only [go_sem,simprocAttr,sl,s8],by simp only [go_sem,simprocAttr,sl,s10],by simp only [go_sem,simprocAttr,sl,s12],by simp only [go_sem,simprocAttr,sl,s37],by simp only [go_sem,simprocAttr,sl,s38],by simp only [go_sem,simprocAttr,sl,s39],by simp only [go_sem,simprocAttr,sl,Bool.not_false,Bool.true_and]⟩
    ·rw [hq] at hwq; rw [hbl] at wE
     simp only [go_sem,simprocAttr,sl,s12,s13,wE,wW,hwt,hwq,hpre,Bool.not_false,Bool.not_true]
     exact ⟨_,_,rfl,by simp only [aV,b7,heV,true_and],by simp only [go_sem,simprocAttr,sl],by simp only [go_sem,simprocAttr,sl,s6],by simp only [go_sem,simprocAttr,sl,s7],by simp only [go_sem,simprocAttr,sl,s8],by simp only [go_sem,simprocAttr,sl,s10],by simp only [go_sem,simprocAttr,sl,s12],by simp only [go_sem,simprocAttr,sl,s37],by simp only [go_sem,simprocAttr,sl,s38],by simp only [go_sem,simprocAttr,sl,s39],by simp only [go_sem,simprocAttr,sl,Bool.not_false,Bool.not_true,Bool.true_and,Bool.false_and]⟩
   ·rw [hbl] at wE
    simp only [go_sem,simprocAttr,sl,s12,s13,wE,wW,hwt,hwq,hpre,Bool.not_false,Bool.not_true]
    exact ⟨_,_,rfl,by simp only [aV,b7,heV,true_and],by simp only [go_sem,simprocAttr,sl],by simp only [go_sem,simprocAttr,sl,s6],by simp only [go_sem,simprocAttr,sl,s7],by simp only [go_sem,simprocAttr,sl,s8],by simp only [go_sem,simprocAttr,sl,s10],by simp only [go_sem,simprocAttr,sl,s12],by simp only [go_sem,simprocAttr,sl,s37],by simp only [go_sem,simprocAttr,sl,s38],by simp only [go_sem,simprocAttr,sl,s39],by simp only [go_sem,simprocAttr,sl,Bool.not_true,Bool.false_and]⟩
  clear sl s6 s7 s8 s10 s12 s13 s37 s38 s39
  rintro _ ⟨σ,eW,rfl,heW,sl,s6,s7,s8,s10,s12,s37,s38,s39,s69⟩
  have hpar2:wg rd (en::(es.drop (i+1)).map (·.1)) o ow tm tl fx rs=yF:=by rw [← hpar,List.drop_eq_getElem_cons hi,List.map_cons]; congr 2; rw [List.getElem?_eq_getElem hi] at hx; injection hx with hx; rw [hx]
  clear hpar
  have hglW:Gl W:=hgl.fr (fun j x h1 h2=>wf j x (by omega) (hfm j x (by omega) (by rw [hX,hH3,List.append_assoc]; exact ah h2)))
  have hXg:gN≤X.length:=by omega
  have xW:∀ (j:Nat) x,j < X.length→X[j]?=some x→W[j]?=some x:=fun j x h1 h2=>wf j x (by omega) (hfm j x h1 h2)
  have obW:Ob X.length W vo rs:=hob.fr (fun j x h1 h2=>wf j _ (by omega) h2)
  have finE:∀ (y:Wd × Nat) (H2:Hp) (σ':List AV) (e2:Ef),yF=.error y→W.length≤H2.length→(∀ (j:Nat) x,j≠X.length→W[j]?=some x→H2[j]?=some x)→clean H.length e2→fr σ' 6=.ptr H.length 0→fr σ' 7=.ptr (H.length+1) 0→fr σ' 8=.ptr (H.length+2) 0→qi Tryz.prog (Ol H.length) (some (flt y.1 y.2)) H2 (dfK Tryz.prog [.cell 6 26,.cell 7 38,.cell 8 39] H.length (OM H yF) (Ol H.length) σ' e2):=by
   rintro ⟨w,n⟩ H2 σ' e2 hyF hl2 hf2 hc2 s6' s7' s8'
   have gH:∀ (j:Nat) x,j < X.length→X[j]?=some x→H2[j]?=some x:=fun j x h1 h2=>hf2 j x (by omega) (xW j x h1 h2)
   refine Gj w n (gH _ _ (by omega) x0) (gH _ _ (by omega) x1) (gH _ _ (by omega) x2) ?_
   intro H' e' hc' g0 g1 g2 gf gl
   have hcc:=bn hc2 hc'
   have hHH:∀ (j:Nat) x,H[j]?=some x→H'[j]?=some x:=fun j x h=>gf j x (ai h) (gH j x (by have:=ai h; omega) (by rw [hX,hH3,List.append_assoc]; exact ah h))
   rw [DP]
   simp only [go_sem,simprocAttr,s6',s7',s8',g0,g1,g2]
   rw [mz rfl hcc hHH]
   rw [hyF]
   rfl
  have heX:∀ e':Ef,clean X.length e'→clean H.length (eW.and e'):=fun e' h=>bn heW (A9 h (by omega))
  cases hdd:(!en.bl && (!w.q && (jk w.t [36]).2))
  ·rw [hdd] at s69
   have hps:(match mL (rd o) o ow tm tl fx rs.length en.bl w ws with | .error e=>.error e | .ok y=>wg rd ((es.drop (i+1)).map (·.1)) o y.2.1 y.2.2 true fx (rs++[y.1]))=yF:=by
    rw [← hpar2]
    simp only [wg,hws]
    rw [if_neg (by
     rintro ⟨h1,h2,h3⟩
     rw [h1,h2,(O6 _).2 h3] at hdd
     cases hdd)]
   have hrec:=Gt (rd o) W X.length o ow tm tl fx vo wv rs en.bl w ws wb wvv hglW hXg obW hrs hwl1 (hopl o hopo) A (by
    rcases hA with h | ⟨z,hz⟩
    ·exact .inl h
    ·right
     rw [hz] at hps
     cases hr:mL (rd o) o ow tm tl fx rs.length en.bl w ws with
     | error e=>rw [hr] at hps; cases hps
     | ok y=>exact ⟨y,rfl⟩) (fun t r hr h=>hrd o t r hopo (fun q hq=>⟨en,henl,by rw [hws]; exact hr q hq⟩) h)
   cases hre:mL (rd o) o ow tm tl fx rs.length en.bl w ws with
   | error y =>
    rw [hre] at hrec hps
    obtain ⟨⟨H2,e2⟩,⟨q1,q2,q3⟩,q4⟩:=qo (fun b:Hp × Ef=>clean X.length b.2∧W.length≤b.1.length∧(∀ (i:Nat) x,i≠X.length→W[i]?=some x→b.1[i]?=some x)) (fun b=>(flt y.1 y.2,b.1,b.2)) (hJ hrec (by rintro r ⟨y',hy,_⟩; cases hy) (by
     rintro r ⟨y',hy,H',e',c,rfl,h1,h2,h3,h4⟩
     cases hy
     exact ⟨(H',e'),⟨h1,h2,h3⟩,rfl⟩))
    simp only [] at q1 q2 q3 q4
    simp only [go_sem,simprocAttr,sl,s69,s10,s12,wE,q4]
    exact finE y H2 _ _ hps.symm q2 q3 (bn (by simp only [gZ,iu,heW,and_true]) (A9 q1 (by omega))) (by simp only [go_sem,simprocAttr,sl,s6]) (by simp only [go_sem,simprocAttr,sl,s7]) (by simp only [go_sem,simprocAttr,sl,s8])
   | ok y =>
    rw [hre] at hrec hps
    obtain ⟨⟨v2,vo2,H2,e2⟩,⟨q1,q2,q3,q4,q5⟩,q6⟩:=qp (fun b:AV × AV × Hp × Ef=>clean X.length b.2.2.2∧W.length≤b.2.2.1.length∧(∀ (i:Nat) x,i≠X.length→(∀ n,vo≠.slice i 0 n (.op 0))→W[i]?=some x→b.2.2.1[i]?=some x)∧b.2.2.1[X.length]?=some (.cells (MsC o y.2.1 y.2.2 true fx b.2.1 wv b.1) 61 .rw)∧Ob X.length b.2.2.1 b.2.1 (rs++[y.1])) (fun b=>(.tuple [],b.2.2.1,b.2.2.2)) (hJ hrec (by
     rintro r ⟨y',hy,v',vo',H',e',rfl,h1,h2,h3,h4,h5⟩
     cases hy
     exact ⟨(v',vo',H',e'),⟨h1,h2,h3,h4,h5⟩,rfl⟩) (by rintro r ⟨y',hy,_⟩; cases hy))
    simp only [] at q1 q2 q3 q4 q5 q6
    simp only [] at hps
    have hrn:rs.length≠4096:=by
     intro h
     unfold mL at hre
     rw [if_pos h] at hre
     cases hre
    simp only [go_sem,simprocAttr,sl,s69,s10,s12,s39,wE,q6,w1]
    refine ⟨m - 1,by omega,_,i+1,H2,_,o,y.2.1,y.2.2,true,fx,vo2,wv,v2,rs++[y.1],by omega,hps,rfl,q4,fun j x h1 h2=>q3 j x (by omega) (fun n hn=>?_) (xW j x h1 h2),q5,heX _ q1,hopo,by simp; omega,?_⟩
    ·obtain ⟨h,_⟩ | ⟨_,i',hi',h,_⟩:=obW
     ·rw [h] at hn; cases hn
     ·rw [h] at hn; injection hn with hn; omega
    exact ⟨by simp only [go_sem,simprocAttr,sl],by simp only [go_sem,simprocAttr,sl,s6],by simp only [go_sem,simprocAttr,sl,s7],by simp only [go_sem,simprocAttr,sl,s8],by simp only [go_sem,simprocAttr,sl,s10],by simp only [go_sem,simprocAttr,sl,s37],by simp only [go_sem,simprocAttr,sl,s38],by simp only [go_sem,simprocAttr,sl]⟩
  ·rw [hdd] at s69
   have hdir:=PI W X.length o ow tm tl fx vo wv wv w ws wb wvv hglW hXg hwl1 (hopl o hopo)
   have hps:(match wZ o tm fx w ws with | none=>.error (w,94) | some d=>wg rd ((es.drop (i+1)).map (·.1)) d.1 ow d.2.1 tl d.2.2 rs)=yF:=by
    rw [← hpar2]
    simp only [Bool.and_eq_true,Bool.not_eq_true'] at hdd
    simp only [wg,hws]
    rw [if_pos ⟨hdd.1,hdd.2.1,(O6 _).1 hdd.2.2⟩]
   cases hd:wZ o tm fx w ws with
   | none =>
    rw [hd] at hdir hps
    obtain ⟨⟨H2,c2⟩,⟨q1,q2⟩,q3⟩:=qo (fun b:Hp × List AV=>Fm X.length W b.1∧b.1[X.length]?=some (.cells b.2 61 .rw)) (fun b=>(flt w 94,b.1,⟨some X.length,some X.length⟩)) (hJ hdir (by rintro r ⟨d,h,_⟩; cases h) (by
     rintro r ⟨_,H',c,rfl,h1,h2⟩
     exact ⟨(H',c),⟨h1,h2⟩,rfl⟩))
    simp only [] at q1 q2 q3
    simp only [go_sem,simprocAttr,sl,s69,s10,q3]
    exact finE (w,94) H2 _ _ hps.symm q1.1 q1.2 (bn (by simp only [gZ,iu,heW,and_true]) (o7 (by omega) (by omega))) (by simp only [go_sem,simprocAttr,sl,s6]) (by simp only [go_sem,simprocAttr,sl,s7]) (by simp only [go_sem,simprocAttr,sl,s8])
   | some d =>
    rw [hd] at hdir hps
    obtain ⟨⟨v2,H2⟩,⟨q1,q2⟩,q3⟩:=qp (fun b:AV × Hp=>Fm X.length W b.2∧b.2[X.length]?=some (.cells (MsC d.1 ow d.2.1 tl d.2.2 vo wv b.1) 61 .rw)) (fun b=>(.tuple [],b.2,⟨some X.length,some X.length⟩)) (hJ hdir (by
     rintro r ⟨d',h,v',H',rfl,h1,h2⟩
     cases h
     exact ⟨(v',H'),⟨h1,h2⟩,rfl⟩) (by rintro r ⟨h,_⟩; cases h))
    simp only [] at q1 q2 q3
    simp only [] at hps
    have hopd:Op d.1:=by
     unfold wZ at hd
     split at hd
     ·split at hd
      ·split at hd
       ·rename_i h; cases hd; exact hop _ _ hopo h
       ·cases hd
      split at hd
      ·split at hd
       ·split at hd
        ·cases hd; exact hopo
        ·cases hd
       ·cases hd
      ·cases hd
     ·cases hd
    simp only [go_sem,simprocAttr,sl,s69,s10,q3,s39,w1]
    exact ⟨m - 1,by omega,_,i+1,H2,_,d.1,ow,d.2.1,tl,d.2.2,vo,wv,v2,rs,by omega,hps,rfl,q2,fun j x h1 h2=>q1.2 j x (by omega) (xW j x h1 h2),obW.fr (fun j x h1 h2=>q1.2 j _ (by omega) h2),heX _ (o7 (Nat.le_refl _) (Nat.le_refl _)),hopd,hrs,by simp only [go_sem,simprocAttr,sl],by simp only [go_sem,simprocAttr,sl,s6],by simp only [go_sem,simprocAttr,sl,s7],by simp only [go_sem,simprocAttr,sl,s8],by simp only [go_sem,simprocAttr,sl,s10],by simp only [go_sem,simprocAttr,sl,s37],by simp only [go_sem,simprocAttr,sl,s38],by simp only [go_sem,simprocAttr,sl]⟩
 ·have hie:i=es.length:=by omega
  have c1:decide (i < es.length)=false:=decide_eq_false hi
  have hpar3:yF=.ok rs:=by rw [← hpar,List.drop_of_length_le (by omega)]; rfl
  obtain ⟨hosc,hovc⟩:=hob.scl
  have d0:=hfm _ _ (by omega) x0
  have d1:=hfm _ _ (by omega) x1
  have d2:=hfm _ _ (by omega) x2
  have k1:∀ (x:bp),((Hc.set H.length x)[H.length+1]?:Option bp)=some (.cells [.int .i64 0,.int .i64 0] 38 .rw):=fun x=>by rw [List.getElem?_set_ne (by omega)]; exact d1
  have k2:∀ (x y:bp),(((Hc.set H.length x).set (H.length+1) y)[H.length+2]?:Option bp)=some (.cells [.int .i64 0] 39 .rw):=fun x y=>by rw [List.getElem?_set_ne (by omega),List.getElem?_set_ne (by omega)]; exact d2
  simp only [go_sem,simprocAttr,sl,s6,s7,s8,s10,s37,s38,s39,c1,hb,MsC.l5,d0,d1,d2,hosc,hovc]
  have hbs:bq Tryz.prog 38 []=some (.agg [.int .i64 0,.int .i64 0]):=by
   simp only [bq,rL,jM,jd,Option.bind_some,fM]
   rfl
  have sp1:splice [.int .i64 0,.int .i64 0] 0 [.int .i64 0,.int .i64 0]=[AV.int .i64 0,.int .i64 0]:=rfl
  have hvs:bH (.agg [.int .i64 0,.int .i64 0])=[.int .i64 0,.int .i64 0]:=rfl
  have hva:[AV.int .i64 0,.int .i64 0].all cK=true:=rfl
  have spv:splice [AV.aI] 0 [vo]=[vo]:=rfl
  have sp2:splice [AV.int .i64 0] 0 [AV.int .i64 0]=[AV.int .i64 0]:=rfl
  simp only [go_sem,simprocAttr,sl,s6,s7,s8,hbs,d0,k1,k2,sp1,sp2,spv,hovc,hosc,hvs,hva]
  generalize heZ:Ef.and _ ⟨_,some (H.length+2)⟩=eZ
  have heZc:clean H.length eZ:=by
   rw [← heZ]
   simp only [gZ,iu,iY (Nat.le_refl H.length),iY (Nat.le_add_right H.length _),lU,j6,hce,true_and,and_true] <;> omega
  generalize hZ:List.set _ (H.length+2) _=Z
  have z0':Z[H.length]?=some (.cells [vo] 26 .rw):=by rw [← hZ,List.getElem?_set_ne (by omega),List.getElem?_set_ne (by omega),List.getElem?_set_self (ai d0)]
  have z1':Z[H.length+1]?=some (.cells [.int .i64 0,.int .i64 0] 38 .rw):=by rw [← hZ,List.getElem?_set_ne (by omega),List.getElem?_set_self (by simpa using ai d1)]
  have z2':Z[H.length+2]?=some (.cells [.int .i64 0] 39 .rw):=by rw [← hZ,List.getElem?_set_self (by simpa using ai d2)]
  have zh:∀ (j:Nat) x,H[j]?=some x→Z[j]?=some x:=fun j x h=>by
   have:=ai h
   rw [← hZ,List.getElem?_set_ne (by omega),List.getElem?_set_ne (by omega),List.getElem?_set_ne (by omega)]
   exact hfm j x (by omega) (by rw [hX,hH3,List.append_assoc]; exact ah h)
  have zo:Ob H.length Z vo rs:=Ob.dn (hob.fr (fun j x h1 h2=>by rw [← hZ,List.getElem?_set_ne (by omega),List.getElem?_set_ne (by omega),List.getElem?_set_ne (by omega)]; exact h2)) (by omega)
  have zl:H.length≤Z.length:=by have:=ai z2'; omega
  refine BN (a:=H.length) ?_
  have za:∀ (j:Nat) x (y:bp),Z[j]?=some x→(Z++[y])[j]?=some x:=fun j x y h=>ah h
  rw [DP]
  simp only [go_sem,simprocAttr,sl,s6,s7,s8,za _ _ _ z0',za _ _ _ z1',za _ _ _ z2']
  have hcf:clean H.length (eZ.and ⟨none,some Z.length⟩):=bn heZc (xk zl)
  rw [hpar3]
  refine ⟨vo,?_⟩
  obtain ⟨rfl,rfl⟩ | ⟨hp,i',hi',rfl,hx'⟩:=zo
  ·rw [mz rfl hcf (fun j x h=>za _ _ _ (zh j x h))]
   exact ⟨H,rfl,Nat.le_refl _,fun _ _ h=>h,.inl ⟨rfl,rfl⟩⟩
  ·rw [gb rfl hcf]
   exact ⟨_,rfl,by simp; omega,fun j x h=>za _ _ _ (zh j x h),.inr ⟨hp,i',hi',rfl,za _ _ _ hx'⟩⟩
end Go.Proofs.YtdppgaphcmhffaaGreatDoor.V
namespace Go.Proofs.YtdppgaphcmhffaaGreatDoor.V
open Go

structure Ln where
 how:Nat
 own:Nat
 ttl:Nat
 tm:Bool
 cs:Bool
 bh:Bool
def Ln.c (x:Ln):UInt8:=UInt8.ofNat (97+x.own % 5)
def Ln.rest (x:Ln):List UInt8:=(if x.cs=true∧x.bh=false then [32,73,110] else [])++(if x.tm=true then 32::bF x.ttl else [])++(if x.cs=true∧x.bh=true then [9,73,78] else [])++[32,110,115,32,40,10,32,110,32,41,10]
structure HS where
 text:List UInt8
 o:List UInt8
 ow:List UInt8
 h:Nat
 fx:Bool
 want:List Rcd
def Ln.pre (x:Ln):List UInt8:=if x.how % 6=2 then [64] else if x.how % 6=3 then [x.c,46,113,46] else if x.how % 6=4 then [x.c] else []
def Ln.ow (x:Ln) (o ow:List UInt8):List UInt8:=if x.how % 6=2 then o else if x.how % 6=3 then [1,x.c,1,113,0] else if x.how % 6=4 then 1::x.c::o else ow
def mU (S:HS) (x:Ln):HS :=
 if x.how % 6=0 then { S with text:=S.text++([36,79,114,105,103,105,110,32]++[x.c]++[46,10]),o:=[1,x.c,0] }
 else if x.how % 6=1 then { S with text:=S.text++([36,84,84,76,32]++bF x.ttl++[32,59,32,120,10]),h:=x.ttl,fx:=true }
 else if x.ow S.o S.ow=[] then S
 else { S with text:=S.text++(x.pre++x.rest),ow:=x.ow S.o S.ow,h:=if x.tm=true∧S.fx=false then x.ttl else S.h,want:=S.want++[⟨x.ow S.o S.ow,2,if x.tm=true then x.ttl else S.h,{ Dt.zero with host:=1::110::S.o }⟩] }
def hS0 (n:Nat):HS:=⟨[],[1,122,0],[],n,false,[]⟩
def keys (ws:List Wd):List (List UInt8 × Bool):=ws.map fun w=>(w.t,w.q)
def lt (x:Ln):List UInt8 :=
 if x.how % 6=0 then [36,79,114,105,103,105,110,32]++[x.c]++[46,10]
 else if x.how % 6=1 then [36,84,84,76,32]++bF x.ttl++[32,59,32,120,10]
 else x.pre++x.rest
theorem Ox (x:Ln):x.c=97∨x.c=98∨x.c=99∨x.c=100∨x.c=101:=by
 unfold Ln.c
 have:x.own % 5=0∨x.own % 5=1∨x.own % 5=2∨x.own % 5=3∨x.own % 5=4:=by omega
 rcases this with h | h | h | h | h <;> rw [h] <;> decide
def rdH (o:List UInt8) (t:Nat) (r:List Wd):Option Dt :=
 match r with
 | [w]=>if w.q=true then none
  else if t=2∧w.t=[110]∧(dI [110] o).2=0 then some { Dt.zero with host:=(dI [110] o).1 }
  else if t=2∧w.t=[87]∧(dI [87] o).2=0 then some { Dt.zero with host:=(dI [87] o).1 }
  else if t=1∧w.t=[49,46,49,46,49,46,49] then some { Dt.zero with raw:=[1,1,1,1] }
  else none
 | _=>none
def oOk (o:List UInt8):Prop:=∃ d:UInt8,o=[1,d,0]∧(d=122∨d=97∨d=98∨d=99∨d=100∨d=101)
theorem TU {o:List UInt8} (h:oOk o):(nm o).isSome=true∧o.length=3:=by
 obtain ⟨d,rfl,hd⟩:=h
 rcases hd with rfl | rfl | rfl | rfl | rfl | rfl <;> exact ⟨by kernel_rfl,rfl⟩
structure HI (S:HS):Prop where
 o:oOk S.o
 h:S.h≤65535
theorem Ul (n:Nat) (h:n≤65535):(bF n).length≤20:=Nat.le_trans (tq n (by omega)) (by decide)
theorem PM (x:Ln) (hx:x.ttl≤65535):(lt x).length≤64:=by
 have hd:=Ul x.ttl hx
 have hp:x.pre.length≤4:=by
  unfold Ln.pre
  split
  ·decide
  split
  ·simp
  split
  ·simp
  ·decide
 have hr:x.rest.length≤45:=by
  unfold Ln.rest
  cases x.cs <;> cases x.bh <;> cases x.tm <;> simp <;> omega
 unfold lt
 split
 ·simp
 split
 ·simp; omega
 ·simp; omega
def on (S:HS) (x:Ln):Prop:=x.how % 6=0∨x.how % 6=1∨x.ow S.o S.ow≠[]
theorem Mr {S:HS} {x:Ln} (h:on S x):(mU S x).text=S.text++lt x:=by
 unfold mU lt
 split
 ·rfl
 split
 ·rfl
 ·rw [if_neg (by rcases h with h | h | h; contradiction; contradiction; exact h)]
theorem Iw {S:HS} {x:Ln} (h:¬ on S x):mU S x=S:=by
 unfold on at h
 unfold mU
 rw [if_neg (fun h'=>h (.inl h')),if_neg (fun h'=>h (.inr (.inl h'))),if_pos (Decidable.byContradiction fun h'=>h (.inr (.inr h')))]
theorem Ms {S:HS} {x:Ln} (hS:HI S) (hx:x.ttl≤65535):HI (mU S x):=by
 unfold mU
 split
 ·refine ⟨⟨x.c,rfl,?_⟩,hS.h⟩
  rcases Ox x with h | h | h | h | h <;> simp [h]
 split
 ·exact ⟨hS.o,hx⟩
 split
 ·exact hS
 ·refine ⟨hS.o,?_⟩
  simp only []
  split
  ·exact hx
  ·exact hS.h
theorem FQ {S:HS} {x:Ln}:(mU S x).want.length≤S.want.length+1:=by
 unfold mU
 split
 ·simp
 split
 ·simp
 split
 ·simp
 ·simp
instance (S:HS) (x:Ln):Decidable (on S x):=by unfold on; infer_instance
end Go.Proofs.YtdppgaphcmhffaaGreatDoor.V
namespace Go.Proofs.YtdppgaphcmhffaaGreatDoor.V
open Go
attribute [local irreducible] go bt goD opK ag bx aF aH bC

set_option maxHeartbeats 8000000 in
theorem yX (H k) (v:AV) (w:Wd) (o n:List UInt8) (hk:Tk H) (hte:Te H) (hml:Ml H) (hv:Wv H v [w]) (hwq:w.q=false) (hwl:w.t.length≤1048576) (hn:dI w.t o=(n,0)) (h64:w.t≠[64]) (h92:w.t≠[92,35]) (ho:(nm o).isSome=true) (hol:o.length≤1048576) :
  ag Tryz.prog 49 [.int .u16 2,v,.str o] H k=k (.tuple [.agg ({ Dt.zero with host:=n }:Dt).cells,.int .i64 0],H,z0):=by
 obtain ⟨d,hd⟩:∃ d:Dt,d={ Dt.zero with host:=n }:=⟨_,rfl⟩
 rw [← hd]
 refine ak (r:=(.tuple [.agg d.cells,.int .i64 0],H,z0)) ?_ k
 have hfm:=fun l k=>bM 2 (H++l) k (hk.old l)
 have hchk:=fun H' k=>cU o H' k (by show _≤9223372036854775807; omega)
 simp only [ho,if_true] at hchk
 refine kL (n:=93) (rs:=[.cell 6 34,.cell 7 39]) Tryz.func49 rfl rfl rfl ?_
 intro σ hl ha
 have h0:=ha 0 (by simp)
 have h1:=ha 1 (by simp)
 have h2:=ha 2 (by simp)
 clear ha
 simp only [Option.getD_some,List.getElem?_cons_zero,List.getElem?_cons_succ] at h0 h1 h2
 refine ic (by kernel_rfl) (by kernel_rfl) ?_
 simp only [go_sem,simprocAttr,hl]
 refine ic (by kernel_rfl) (by kernel_rfl) ?_
 simp only [go_sem,simprocAttr,hl,h0,h1,h2,hchk]
 refine Fa (fv:=.func (.func 78) [] []) (az:=[.ptr H.length 0,.ptr (H.length+1) 0]) (by simp only [go_sem]) (by simp only [go_sem,simprocAttr,hl]) ?_
 have hbd:bq Tryz.prog 144 [(0,v),(1,.str o)]=some (.agg (WdC v o Dt.zero 0)):=by
  have hvc:=hv.scl.2
  simp only [bq,vG,pz,lz,Option.bind_some,fM,hvc,List.getElem?_cons_zero,List.getElem?_cons_succ]
  rfl
 have hvcR:∀ v d j,bH (.agg (WdC v o d j))=WdC v o d j:=fun _ _ _=>rfl
 have hlen:=hv.len
 generalize hσ:put _ none bw=σ1
 have s0:fr σ1 0=.int .u16 2:=by rw [← hσ]; simp only [go_sem,simprocAttr,hl,h0]
 have s1:fr σ1 1=v:=by rw [← hσ]; simp only [go_sem,simprocAttr,hl,h1]
 have s2:fr σ1 2=.str o:=by rw [← hσ]; simp only [go_sem,simprocAttr,hl,h2]
 have s6:fr σ1 6=.ptr H.length 0:=by rw [← hσ]; simp only [go_sem,simprocAttr,hl]
 have s7:fr σ1 7=.ptr (H.length+1) 0:=by rw [← hσ]; simp only [go_sem,simprocAttr,hl]
 have sl:σ1.length=93:=by rw [← hσ]; simp only [go_sem,simprocAttr,hl]
 clear hσ hl h0 h1 h2
 have hzc:[AV.str [],AV.str [],AV.str [],AV.int .u32 0,AV.int .u32 0,AV.int .u32 0,AV.int .u32 0,AV.int .u32 0]=Dt.zero.cells:=rfl
 rw [hzc]
 have hspz:splice Dt.zero.cells 0 d.cells=d.cells:=rfl
 have hlz:Dt.zero.cells.length=8:=rfl
 have q3:d.cells.all cK=true:=rfl
 have hsc:=hv.scl.1
 obtain ⟨A,hA⟩:∃ A:bp,A=.cells Dt.zero.cells 34 .rw:=⟨_,rfl⟩
 obtain ⟨B,hB⟩:∃ A:bp,A=.cells [.int .i64 0] 39 .rw:=⟨_,rfl⟩
 obtain ⟨b,q,row,e,kd,hi,hgw,hl1,hl2⟩:=hv.hd
 have hgw:=fun l=>ah (l:=l) hgw
 have d1:decide (((([]:List Wd).length+1:Nat):Int) > 0)=true:=rfl
 have d1':decide ((([w].length:Nat):Int) > 0)=true:=rfl
 have ht0:(w.t == [92,35])=false:=by rw [beq_eq_false_iff_ne]; exact h92
 have hsh:oD Tryz.prog 146=some (.int .i32,1):=by simp only [oD,vF,Bu]
 have hms:∀ (x y:bp) (z:bp) (es:List (AV × AV)) (c:Int) (g:FuncId),eu (.int .i32) (.int .i32 c) es 0=some none→fS Tryz.prog 146 (.map (H.length+3)) (.int .i32 c) (.func (.func g) [.ptr (H.length+2) 0] []) (H++[x,y,z,.map es])=some (H++[x,y,z,.map (es++[(.int .i32 c,.func (.func g) [.ptr (H.length+2) 0] [])])],⟨some (H.length+3),some (H.length+3)⟩):=by
  intro x y z es c g hf
  have hg:(H++[x,y,z,.map es])[H.length+3]?=some (.map es):=by rw [List.getElem?_append_right (by omega)]; simp
  simp only [fS,hsh,Option.bind_some,hg,hf,Option.map_some]
  rw [List.set_append_right _ _ (by omega)]
  simp [flat,bK]
 have f1:eu (.int .i32) (.int .i32 104) [] 0=some none:=rfl
 have f2:∀ x,eu (.int .i32) (.int .i32 112) [(.int .i32 104,x)] 0=some none:=fun _=>rfl
 have f3:∀ x y,eu (.int .i32) (.int .i32 109) [(.int .i32 104,x),(.int .i32 112,y)] 0=some none:=fun _ _=>rfl
 have f4:∀ x y z,eu (.int .i32) (.int .i32 115) [(.int .i32 104,x),(.int .i32 112,y),(.int .i32 109,z)] 0=some none:=fun _ _ _=>rfl
 have f5:∀ x y z w,eu (.int .i32) (.int .i32 108) [(.int .i32 104,x),(.int .i32 112,y),(.int .i32 109,z),(.int .i32 115,w)] 0=some none:=fun _ _ _ _=>rfl
 have f6:∀ x y z w u,eu (.int .i32) (.int .i32 97) [(.int .i32 104,x),(.int .i32 112,y),(.int .i32 109,z),(.int .i32 115,w),(.int .i32 108,u)] 0=some none:=fun _ _ _ _ _=>rfl
 have f7:∀ x y z w u p,eu (.int .i32) (.int .i32 113) [(.int .i32 104,x),(.int .i32 112,y),(.int .i32 109,z),(.int .i32 115,w),(.int .i32 108,u),(.int .i32 97,p)] 0=some none:=fun _ _ _ _ _ _=>rfl
 have f8:∀ x y z w u p r,eu (.int .i32) (.int .i32 120) [(.int .i32 104,x),(.int .i32 112,y),(.int .i32 109,z),(.int .i32 115,w),(.int .i32 108,u),(.int .i32 97,p),(.int .i32 113,r)] 0=some none:=fun _ _ _ _ _ _ _=>rfl
 rw [hwq] at hl2
 obtain ⟨F,hF⟩:∃ F:List UInt8,F=[104]:=⟨_,rfl⟩
 have hF2:aU 2=F:=by rw [hF]; rfl
 have hfa:F.all (fun c=>decide (c.toNat < 128))=true:=by rw [hF]; rfl
 have hFl:F.length=1:=by rw [hF]; rfl
 rw [hF2] at hfm
 simp only [go_sem,simprocAttr,sl,s0,s1,s2,s6,s7,hbd,hvcR,hlen,hi,hgw,hl1,hl2,d1,d1',ht0,hms,f1,f2,f3,f4,f5,f6,f7,f8,hfm]
 refine go_rounds (fun m st=>∃ σ i x v' T e,m+i=1∧((i=0∧x=Dt.zero∧v'=v∧Wv (H++(.cells Dt.zero.cells 34 .rw::.cells [.int .i64 0] 39 .rw::.cells (WdC v' o x 0) 144 .rw::.map (doW (H.length+2))::.iter F i::T)) v' [w])∨(i=1∧x=d∧∀ H',bY Tryz.prog 59 v' H'=some (.int .i64 0)))∧st=⟨σ,H++(.cells Dt.zero.cells 34 .rw::.cells [.int .i64 0] 39 .rw::.cells (WdC v' o x 0) 144 .rw::.map (doW (H.length+2))::.iter F i::T),e⟩∧clean H.length e∧σ.length=93∧fr σ 0=.int .u16 2∧fr σ 6=.ptr H.length 0∧fr σ 7=.ptr (H.length+1) 0∧fr σ 8=.ptr (H.length+2) 0∧fr σ 9=.map (H.length+3)∧fr σ 67=.ptr (H.length+4) 0) 1
  ⟨_,0,Dt.zero,v,[],_,rfl,.inl ⟨rfl,rfl,rfl,?_⟩,rfl,by simp [aV,A8,Jt],by simp only [go_sem,simprocAttr,sl],by simp only [go_sem,simprocAttr,sl,s0],by simp only [go_sem,simprocAttr,sl,s6],by simp only [go_sem,simprocAttr,sl,s7],by simp only [go_sem,simprocAttr,sl],by simp only [go_sem,simprocAttr,sl],by simp only [go_sem,simprocAttr,sl]⟩ ?_
 ·exact hv.old _
 clear s0 s1 s2 s6 s7 sl
 rintro m _ ⟨σ,i,x,v',T,e,hmi,hcase,rfl,hce,hl,h0,h6,h7,h8,h9,h67⟩
 have hit:aJ F 0=(.tuple [.bool true,.int .i64 (0:Nat),.int .i32 (104:UInt8).toNat],0+1):=by rw [aE hfa,lI (c:=104) (by rw [hF]; rfl)]
 have hie:aJ F 1=(.tuple [.bool false],1):=by rw [aE hfa]; unfold itN; rw [List.getElem?_eq_none (by omega)]
 rcases hcase with ⟨rfl,rfl,rfl,hvx⟩ | ⟨rfl,rfl,hl0⟩
 ·obtain ⟨Hx,hHx⟩:∃ Hx,Hx=H++(.cells Dt.zero.cells 34 .rw::.cells [.int .i64 0] 39 .rw::.cells (WdC v' o Dt.zero 0) 144 .rw::.map (doW (H.length+2))::.iter F (0+1)::T):=⟨_,rfl⟩
  have hbx:Hx[H.length+2]?=some (.cells (WdC v' o Dt.zero 0) 144 .rw):=by rw [hHx,bX]; rfl
  have hmx:Hx[H.length+3]?=some (.map (doW (H.length+2))):=by rw [hHx,bX]; rfl
  have hset:∀ y,Hx.set (H.length+2) y=H++(.cells Dt.zero.cells 34 .rw::.cells [.int .i64 0] 39 .rw::y::.map (doW (H.length+2))::.iter F (0+1)::T):=fun y=>by rw [hHx,gz]; rfl
  have hvX:Wv Hx v' [w]:=by
   have h:=hvx.yP (rb:=H.length+4) (x:=.iter F (0+1)) (y:=.iter F 0) (by rw [bX]; rfl) ⟨fun _ _ _ _ h=>(by cases h),fun h=>(by cases h)⟩
   rw [gz] at h
   rw [hHx]; exact h
  have hcl2:clean H.length ⟨some (H.length+2),some (H.length+2)⟩:=o7 (by omega) (by omega)
  have hf:ir Tryz.prog 146 (.map (H.length+3)) (.int .i32 104) true Hx=some (.tuple [.func (.func 80) [.ptr (H.length+2) 0] [],.bool true]):=by
   have hr:eu (.int .i32) (.int .i32 104) (doW (H.length+2)) 0=some (some (0,.func (.func 80) [.ptr (H.length+2) 0] [])):=rfl
   simp only [ir,hsh,hmx,Option.bind_some,hr,if_true]
  obtain ⟨v2,T2,hv2,hh⟩:=LJ Hx (H.length+2) v' o Dt.zero 0 w [] hwq hbx hvX hwl n hol hn h64
  rw [← hd] at hh
  simp only [go_sem,simprocAttr,hl,h0,h6,h7,h8,h9,h67,hit,hHx.symm,hf,hh]
  rw [hset,List.append_assoc]
  exact ⟨0,by omega,_,1,d,v2,T++T2,_,rfl,.inr ⟨rfl,rfl,fun H'=>hv2.len H'⟩,rfl,by simp only [go_sem,simprocAttr,hce,hcl2],by simp only [go_sem,simprocAttr,hl],by simp only [go_sem,simprocAttr,hl,h0],by simp only [go_sem,simprocAttr,hl,h6],by simp only [go_sem,simprocAttr,hl,h7],by simp only [go_sem,simprocAttr,hl,h8],by simp only [go_sem,simprocAttr,hl,h9],by simp only [go_sem,simprocAttr,hl,h67]⟩
 ·have hspz:splice Dt.zero.cells 0 x.cells=x.cells:=rfl
  have q3:x.cells.all cK=true:=rfl
  simp only [go_sem,simprocAttr,hl,h0,h6,h7,h8,h9,h67,hie,WdC.l0,WdC.ld,hl0,hspz,hlz,q3,Dt.vc,Dt.len,Dt.flat]
  refine Fk ?_
  simp only [go_sem,simprocAttr,hl,h6,h7,Dt.l8]
  exact aW (by simp only [flat,bK,Dt.flat,Bool.and_self]) (by simp only [aV,b7,rA,go_sem,true_and,and_true,hce])
set_option maxHeartbeats 8000000 in
theorem yY (H k) (v:AV) (w:Wd) (o raw:List UInt8) (hk:Tk H) (hte:Te H) (hml:Ml H) (hv:Wv H v [w]) (hwq:w.q=false) (hwl:w.t.length≤1048576) (hr4:raw.length=4) (hwt:w.t=dQ [46] (cP raw)) (h92:w.t≠[92,35]) (ho:(nm o).isSome=true) (hol:o.length≤1048576) :
  ag Tryz.prog 49 [.int .u16 1,v,.str o] H k=k (.tuple [.agg ({ Dt.zero with raw:=raw }:Dt).cells,.int .i64 0],H,z0):=by
 obtain ⟨d,hd⟩:∃ d:Dt,d={ Dt.zero with raw:=raw }:=⟨_,rfl⟩
 rw [← hd]
 refine ak (r:=(.tuple [.agg d.cells,.int .i64 0],H,z0)) ?_ k
 have hfm:=fun l k=>bM 1 (H++l) k (hk.old l)
 have hchk:=fun H' k=>cU o H' k (by show _≤9223372036854775807; omega)
 simp only [ho,if_true] at hchk
 refine kL (n:=93) (rs:=[.cell 6 34,.cell 7 39]) Tryz.func49 rfl rfl rfl ?_
 intro σ hl ha
 have h0:=ha 0 (by simp)
 have h1:=ha 1 (by simp)
 have h2:=ha 2 (by simp)
 clear ha
 simp only [Option.getD_some,List.getElem?_cons_zero,List.getElem?_cons_succ] at h0 h1 h2
 refine ic (by kernel_rfl) (by kernel_rfl) ?_
 simp only [go_sem,simprocAttr,hl]
 refine ic (by kernel_rfl) (by kernel_rfl) ?_
 simp only [go_sem,simprocAttr,hl,h0,h1,h2,hchk]
 refine Fa (fv:=.func (.func 78) [] []) (az:=[.ptr H.length 0,.ptr (H.length+1) 0]) (by simp only [go_sem]) (by simp only [go_sem,simprocAttr,hl]) ?_
 have hbd:bq Tryz.prog 144 [(0,v),(1,.str o)]=some (.agg (WdC v o Dt.zero 0)):=by
  have hvc:=hv.scl.2
  simp only [bq,vG,pz,lz,Option.bind_some,fM,hvc,List.getElem?_cons_zero,List.getElem?_cons_succ]
  rfl
 have hvcR:∀ v d j,bH (.agg (WdC v o d j))=WdC v o d j:=fun _ _ _=>rfl
 have hlen:=hv.len
 generalize hσ:put _ none bw=σ1
 have s0:fr σ1 0=.int .u16 1:=by rw [← hσ]; simp only [go_sem,simprocAttr,hl,h0]
 have s1:fr σ1 1=v:=by rw [← hσ]; simp only [go_sem,simprocAttr,hl,h1]
 have s2:fr σ1 2=.str o:=by rw [← hσ]; simp only [go_sem,simprocAttr,hl,h2]
 have s6:fr σ1 6=.ptr H.length 0:=by rw [← hσ]; simp only [go_sem,simprocAttr,hl]
 have s7:fr σ1 7=.ptr (H.length+1) 0:=by rw [← hσ]; simp only [go_sem,simprocAttr,hl]
 have sl:σ1.length=93:=by rw [← hσ]; simp only [go_sem,simprocAttr,hl]
 clear hσ hl h0 h1 h2
 have hzc:[AV.str [],AV.str [],AV.str [],AV.int .u32 0,AV.int .u32 0,AV.int .u32 0,AV.int .u32 0,AV.int .u32 0]=Dt.zero.cells:=rfl
 rw [hzc]
 have hspz:splice Dt.zero.cells 0 d.cells=d.cells:=rfl
 have hlz:Dt.zero.cells.length=8:=rfl
 have q3:d.cells.all cK=true:=rfl
 have hsc:=hv.scl.1
 obtain ⟨A,hA⟩:∃ A:bp,A=.cells Dt.zero.cells 34 .rw:=⟨_,rfl⟩
 obtain ⟨B,hB⟩:∃ A:bp,A=.cells [.int .i64 0] 39 .rw:=⟨_,rfl⟩
 obtain ⟨b,q,row,e,kd,hi,hgw,hl1,hl2⟩:=hv.hd
 have hgw:=fun l=>ah (l:=l) hgw
 have d1:decide (((([]:List Wd).length+1:Nat):Int) > 0)=true:=rfl
 have d1':decide ((([w].length:Nat):Int) > 0)=true:=rfl
 have ht0:(w.t == [92,35])=false:=by rw [beq_eq_false_iff_ne]; exact h92
 have hsh:oD Tryz.prog 146=some (.int .i32,1):=by simp only [oD,vF,Bu]
 have hms:∀ (x y:bp) (z:bp) (es:List (AV × AV)) (c:Int) (g:FuncId),eu (.int .i32) (.int .i32 c) es 0=some none→fS Tryz.prog 146 (.map (H.length+3)) (.int .i32 c) (.func (.func g) [.ptr (H.length+2) 0] []) (H++[x,y,z,.map es])=some (H++[x,y,z,.map (es++[(.int .i32 c,.func (.func g) [.ptr (H.length+2) 0] [])])],⟨some (H.length+3),some (H.length+3)⟩):=by
  intro x y z es c g hf
  have hg:(H++[x,y,z,.map es])[H.length+3]?=some (.map es):=by rw [List.getElem?_append_right (by omega)]; simp
  simp only [fS,hsh,Option.bind_some,hg,hf,Option.map_some]
  rw [List.set_append_right _ _ (by omega)]
  simp [flat,bK]
 have f1:eu (.int .i32) (.int .i32 104) [] 0=some none:=rfl
 have f2:∀ x,eu (.int .i32) (.int .i32 112) [(.int .i32 104,x)] 0=some none:=fun _=>rfl
 have f3:∀ x y,eu (.int .i32) (.int .i32 109) [(.int .i32 104,x),(.int .i32 112,y)] 0=some none:=fun _ _=>rfl
 have f4:∀ x y z,eu (.int .i32) (.int .i32 115) [(.int .i32 104,x),(.int .i32 112,y),(.int .i32 109,z)] 0=some none:=fun _ _ _=>rfl
 have f5:∀ x y z w,eu (.int .i32) (.int .i32 108) [(.int .i32 104,x),(.int .i32 112,y),(.int .i32 109,z),(.int .i32 115,w)] 0=some none:=fun _ _ _ _=>rfl
 have f6:∀ x y z w u,eu (.int .i32) (.int .i32 97) [(.int .i32 104,x),(.int .i32 112,y),(.int .i32 109,z),(.int .i32 115,w),(.int .i32 108,u)] 0=some none:=fun _ _ _ _ _=>rfl
 have f7:∀ x y z w u p,eu (.int .i32) (.int .i32 113) [(.int .i32 104,x),(.int .i32 112,y),(.int .i32 109,z),(.int .i32 115,w),(.int .i32 108,u),(.int .i32 97,p)] 0=some none:=fun _ _ _ _ _ _=>rfl
 have f8:∀ x y z w u p r,eu (.int .i32) (.int .i32 120) [(.int .i32 104,x),(.int .i32 112,y),(.int .i32 109,z),(.int .i32 115,w),(.int .i32 108,u),(.int .i32 97,p),(.int .i32 113,r)] 0=some none:=fun _ _ _ _ _ _ _=>rfl
 rw [hwq] at hl2
 obtain ⟨F,hF⟩:∃ F:List UInt8,F=[97]:=⟨_,rfl⟩
 have hF2:aU 1=F:=by rw [hF]; rfl
 have hfa:F.all (fun c=>decide (c.toNat < 128))=true:=by rw [hF]; rfl
 have hFl:F.length=1:=by rw [hF]; rfl
 rw [hF2] at hfm
 simp only [go_sem,simprocAttr,sl,s0,s1,s2,s6,s7,hbd,hvcR,hlen,hi,hgw,hl1,hl2,d1,d1',ht0,hms,f1,f2,f3,f4,f5,f6,f7,f8,hfm]
 refine go_rounds (fun m st=>∃ σ i x v' T e,m+i=1∧((i=0∧x=Dt.zero∧v'=v∧Wv (H++(.cells Dt.zero.cells 34 .rw::.cells [.int .i64 0] 39 .rw::.cells (WdC v' o x 0) 144 .rw::.map (doW (H.length+2))::.iter F i::T)) v' [w])∨(i=1∧x=d∧∀ H',bY Tryz.prog 59 v' H'=some (.int .i64 0)))∧st=⟨σ,H++(.cells Dt.zero.cells 34 .rw::.cells [.int .i64 0] 39 .rw::.cells (WdC v' o x 0) 144 .rw::.map (doW (H.length+2))::.iter F i::T),e⟩∧clean H.length e∧σ.length=93∧fr σ 0=.int .u16 1∧fr σ 6=.ptr H.length 0∧fr σ 7=.ptr (H.length+1) 0∧fr σ 8=.ptr (H.length+2) 0∧fr σ 9=.map (H.length+3)∧fr σ 67=.ptr (H.length+4) 0) 1
  ⟨_,0,Dt.zero,v,[],_,rfl,.inl ⟨rfl,rfl,rfl,?_⟩,rfl,by simp [aV,A8,Jt],by simp only [go_sem,simprocAttr,sl],by simp only [go_sem,simprocAttr,sl,s0],by simp only [go_sem,simprocAttr,sl,s6],by simp only [go_sem,simprocAttr,sl,s7],by simp only [go_sem,simprocAttr,sl],by simp only [go_sem,simprocAttr,sl],by simp only [go_sem,simprocAttr,sl]⟩ ?_
 ·exact hv.old _
 clear s0 s1 s2 s6 s7 sl
 rintro m _ ⟨σ,i,x,v',T,e,hmi,hcase,rfl,hce,hl,h0,h6,h7,h8,h9,h67⟩
 have hit:aJ F 0=(.tuple [.bool true,.int .i64 (0:Nat),.int .i32 (97:UInt8).toNat],0+1):=by rw [aE hfa,lI (c:=97) (by rw [hF]; rfl)]
 have hie:aJ F 1=(.tuple [.bool false],1):=by rw [aE hfa]; unfold itN; rw [List.getElem?_eq_none (by omega)]
 rcases hcase with ⟨rfl,rfl,rfl,hvx⟩ | ⟨rfl,rfl,hl0⟩
 ·obtain ⟨Hx,hHx⟩:∃ Hx,Hx=H++(.cells Dt.zero.cells 34 .rw::.cells [.int .i64 0] 39 .rw::.cells (WdC v' o Dt.zero 0) 144 .rw::.map (doW (H.length+2))::.iter F (0+1)::T):=⟨_,rfl⟩
  have hbx:Hx[H.length+2]?=some (.cells (WdC v' o Dt.zero 0) 144 .rw):=by rw [hHx,bX]; rfl
  have hmx:Hx[H.length+3]?=some (.map (doW (H.length+2))):=by rw [hHx,bX]; rfl
  have hset:∀ y,Hx.set (H.length+2) y=H++(.cells Dt.zero.cells 34 .rw::.cells [.int .i64 0] 39 .rw::y::.map (doW (H.length+2))::.iter F (0+1)::T):=fun y=>by rw [hHx,gz]; rfl
  have hvX:Wv Hx v' [w]:=by
   have h:=hvx.yP (rb:=H.length+4) (x:=.iter F (0+1)) (y:=.iter F 0) (by rw [bX]; rfl) ⟨fun _ _ _ _ h=>(by cases h),fun h=>(by cases h)⟩
   rw [gz] at h
   rw [hHx]; exact h
  have hcl2:clean H.length ⟨some (H.length+2),some (H.length+2)⟩:=o7 (by omega) (by omega)
  have hf:ir Tryz.prog 146 (.map (H.length+3)) (.int .i32 97) true Hx=some (.tuple [.func (.func 84) [.ptr (H.length+2) 0] [],.bool true]):=by
   have hr:eu (.int .i32) (.int .i32 97) (doW (H.length+2)) 0=some (some (5,.func (.func 84) [.ptr (H.length+2) 0] [])):=rfl
   simp only [ir,hsh,hmx,Option.bind_some,hr,if_true]
  obtain ⟨⟨v2,T2⟩,hv2,hh⟩:=LK Hx (H.length+2) v' o Dt.zero 0 w [] hwq hbx hvX hwl raw hr4 hwt (by rw [hHx]; exact hte.old _) (by decide)
  have hz0:({ Dt.zero with raw:=Dt.zero.raw++raw }:Dt)=d:=by rw [hd]; rfl
  rw [hz0] at hh
  simp only [] at hv2 hh
  simp only [go_sem,simprocAttr,hl,h0,h6,h7,h8,h9,h67,hit,hHx.symm,hf,hh]
  rw [hset,List.append_assoc]
  exact ⟨0,by omega,_,1,d,v2,T++T2,_,rfl,.inr ⟨rfl,rfl,fun H'=>hv2.len H'⟩,rfl,by simp only [go_sem,simprocAttr,hce,hcl2],by simp only [go_sem,simprocAttr,hl],by simp only [go_sem,simprocAttr,hl,h0],by simp only [go_sem,simprocAttr,hl,h6],by simp only [go_sem,simprocAttr,hl,h7],by simp only [go_sem,simprocAttr,hl,h8],by simp only [go_sem,simprocAttr,hl,h9],by simp only [go_sem,simprocAttr,hl,h67]⟩
 ·have hspz:splice Dt.zero.cells 0 x.cells=x.cells:=rfl
  have q3:x.cells.all cK=true:=rfl
  simp only [go_sem,simprocAttr,hl,h0,h6,h7,h8,h9,h67,hie,WdC.l0,WdC.ld,hl0,hspz,hlz,q3,Dt.vc,Dt.len,Dt.flat]
  refine Fk ?_
  simp only [go_sem,simprocAttr,hl,h6,h7,Dt.l8]
  exact aW (by simp only [flat,bK,Dt.flat,Bool.and_self]) (by simp only [aV,b7,rA,go_sem,true_and,and_true,hce])
end Go.Proofs.YtdppgaphcmhffaaGreatDoor.V
namespace Go.Proofs.YtdppgaphcmhffaaGreatDoor.V
open Go

theorem Nc {c:UInt8} (h:c.toNat≤63):kZ c=c:=by
 unfold kZ; rw [if_neg (by omega)]
theorem Nd {c:UInt8} (h:63 < c.toNat):63 < (kZ c).toNat:=by
 unfold kZ
 split
 ·rw [UInt8.toNat_add]
  have:(32:UInt8).toNat=32:=rfl
  omega
 ·exact h
theorem E0:∀ (n:Nat) (s:List UInt8),s.length≤n→lab (bB s)=(lab s).map fun L=>L.map bB
 | n,[],_=>rfl
 | 0,c::s,h=>by simp at h
 | n+1,c::s,h=>by
  simp only [List.length_cons] at h
  have e:bB (c::s)=kZ c::bB s:=rfl
  have hl:(bB s).length=s.length:=by simp [bB]
  rw [e,fR,fR,hl]
  by_cases hc:c.toNat≤63
  ·rw [Nc hc]
   by_cases h0:c.toNat=0
   ·rw [if_pos h0,if_pos h0]
    split <;> rfl
   ·rw [if_neg h0,if_neg h0]
    by_cases h1:63 < c.toNat∨s.length < c.toNat
    ·rw [if_pos h1,if_pos h1]; rfl
    ·rw [if_neg h1,if_neg h1]
     have hd:(bB s).drop c.toNat=bB (s.drop c.toNat):=by simp [bB,List.map_drop]
     have ht:(bB s).take c.toNat=bB (s.take c.toNat):=by simp [bB,List.map_take]
     rw [hd,ht,E0 n _ (by rw [List.length_drop]; omega),Option.map_map,Option.map_map]
     rfl
  ·have hg:=Nd (c:=c) (by omega)
   rw [if_neg (by omega),if_pos (.inl hg),if_neg (by omega),if_pos (.inl (by omega))]
   rfl
theorem PE (s:List UInt8):nm (bB s)=(nm s).map fun L=>L.map bB:=by
 unfold nm
 have hl:(bB s).length=s.length:=by simp [bB]
 rw [hl]
 split
 ·rfl
 ·exact E0 _ s (Nat.le_refl _)
theorem wj (s:List UInt8):(nm (bB s)).isSome=(nm s).isSome:=by rw [PE]; cases nm s <;> rfl
theorem JD:∀ (L:List (List UInt8)),L.any mN=false→lab (nameOf L)=some L
 | [],_=>rfl
 | l::L,h=>by
  simp only [List.any_cons,Bool.or_eq_false_iff] at h
  obtain ⟨h1,h2⟩:=h
  unfold mN at h1
  simp only [Bool.or_eq_false_iff,beq_eq_false_iff_ne,decide_eq_false_iff_not] at h1
  have e:nameOf (l::L)=UInt8.ofNat l.length::(l++nameOf L):=by simp [nameOf,lF]
  have hn:(UInt8.ofNat l.length).toNat=l.length:=by rw [UInt8.toNat_ofNat']; omega
  rw [e,fR,hn,if_neg (by omega),if_neg (by rw [List.length_append]; omega),List.drop_left,List.take_left,JD L h2]
  rfl
theorem Sk {L:List (List UInt8)} (h:L.any mN=false) (ht:tot L+1≤255):nm (nameOf L)=some L:=by
 unfold nm
 rw [if_neg (by simp only [nameOf,List.length_append,List.length_cons,List.length_nil,pX]; omega)]
 exact JD L h
theorem uI:∀ (n:Nat) (b:Bool) (s:List UInt8),mS n b s≠.error 0
 | 0,b,s,h=>by simp only [mS] at h; cases h
 | n+1,b,s,h=>by
  simp only [mS] at h
  split at h
  ·split at h
   ·cases hp:mS n false (s.drop (scan 46 s+1)) with
    | error e=>rw [hp] at h; simp only [Except.map] at h; injection h with h; rw [h] at hp; exact uI n _ _ hp
    | ok y=>rw [hp] at h; cases h
   ·rename_i h1
    injection h with h
    exact h1 h
  ·split at h
   ·split at h
    ·cases h
    ·rename_i h1
     injection h with h
     exact h1 h
   ·cases h
theorem zg {s o:List UInt8} (h:(dI s o).2=0):(nm (dI s o).1).isSome=true:=by
 have key:∀ L,(ofS L).2=0→(nm (ofS L).1).isSome=true:=by
  intro L h
  unfold ofS at h ⊢
  split at h
  ·cases h
  split at h
  ·cases h
  ·rename_i h1 h2
   rw [if_neg h1,if_neg h2,Sk (by simpa using h1) (by omega)]; rfl
 unfold dI at h ⊢
 split at h
 ·cases h
 ·rename_i K hK
  split at h
  ·rename_i h1
   rw [if_pos h1]; rfl
  ·rename_i h1
   rw [if_neg h1]
   split at h
   ·rename_i e he
    simp only [he] at h
    subst h
    exact absurd he (uI _ _ _)
   ·rename_i L b he
    exact key _ h
end Go.Proofs.YtdppgaphcmhffaaGreatDoor.V
namespace Go.Proofs.YtdppgaphcmhffaaGreatDoor.V
open Go
attribute [local irreducible] go bt goD opK ag bx aF aH bC

theorem BQ {s:List UInt8} (h:(nm s).isSome=true):s.length≤255:=by
 unfold nm at h
 split at h
 ·cases h
 ·omega
theorem M7 (w:Wd) (o:List UInt8) (h:(nm o).isSome=true) (h2:(kA w o).2=true):(nm (kA w o).1).isSome=true:=by
 unfold kA at h2 ⊢
 split at h2
 ·cases h2
 rename_i hq
 rw [if_neg hq]
 split at h2
 ·rename_i h64
  rw [if_pos h64]; exact h
 ·rename_i h64
  rw [if_neg h64]
  show (nm (bB (dI w.t o).1)).isSome=true
  rw [wj]
  exact zg (by simpa using h2)
theorem z32:iB 0:=by unfold iB; decide
theorem Rz {n:List UInt8} (h:n.length≤255):({ Dt.zero with host:=n }:Dt).wf :=
 ⟨Nat.zero_le _,by show n.length≤_; omega,Nat.zero_le _,z32,z32,z32,z32,z32⟩
theorem Pv (o:List UInt8) (t:Nat) (r:List Wd) (ho:(nm o).isSome=true) (h:(rdH o t r).isSome=true):Rx o t r (rdH o t r):=by
 have hol:=BQ ho
 intro H v hgl hv
 unfold rdH at h ⊢
 split at h
 ·rename_i w
  split at h
  ·cases h
  rename_i hqn
  have hq:w.q=false:=by simpa using hqn
  rw [if_neg hqn]
  have name:∀ (x:List UInt8) (d:Option Dt),w.t=x→x.length≤20→(dI x o).2=0→x≠[64]→x≠[92,35]→∃ dd ee,(∀ k,ag Tryz.prog 49 [.int .u16 ((2:Nat):Int),v,.str o] H k=k (.tuple [.agg (Dt.cells dd),.int .i64 ee],H,z0))∧(match some ({ Dt.zero with host:=(dI x o).1 }:Dt) with | some d=>dd=d∧ee=0∧d.wf | none=>ee≠0):=by
   intro x _ hx hl h0 h1 h2
   subst hx
   have hr:=fun k=>yX H k v w o (dI w.t o).1 hgl.1 hgl.2.1 hgl.2.2.1 hv hq (by omega) (by rw [← h0]) h1 h2 ho (by omega)
   exact ⟨_,0,hr,rfl,rfl,Rz (BQ (zg h0))⟩
  split at h
  ·rename_i hc
   obtain ⟨rfl,hw,h0⟩:=hc
   rw [if_pos ⟨rfl,hw,h0⟩]
   exact name [110] none hw (by decide) h0 (by decide) (by decide)
  rename_i hn1
  split at h
  ·rename_i hc
   obtain ⟨rfl,hw,h0⟩:=hc
   rw [if_neg hn1,if_pos ⟨rfl,hw,h0⟩]
   exact name [87] none hw (by decide) h0 (by decide) (by decide)
  rename_i hn2
  split at h
  ·rename_i hc
   obtain ⟨rfl,hw⟩:=hc
   rw [if_neg hn1,if_neg hn2,if_pos ⟨rfl,hw⟩]
   have hwf:({ Dt.zero with raw:=[1,1,1,1] }:Dt).wf:=⟨by decide,Nat.zero_le _,Nat.zero_le _,by unfold iB; decide,by unfold iB; decide,by unfold iB; decide,by unfold iB; decide,by unfold iB; decide⟩
   have hwt:w.t=dQ [46] (cP [1,1,1,1]):=by rw [hw]; kernel_rfl
   have hr:=fun k=>yY H k v w o [1,1,1,1] hgl.1 hgl.2.1 hgl.2.2.1 hv hq (by rw [hw]; decide) rfl hwt (by rw [hw]; decide) ho (by omega)
   exact ⟨_,0,hr,rfl,rfl,hwf⟩
  ·cases h
 ·cases h
def MH:List UInt8:=[64,32,54,48,32,73,78,32,65,32,49,46,49,46,49,46,49,10,32,73,78,32,53,32,78,83,32,87,10]
def MI:List Rcd:=[⟨[1,101,0],1,60,{ Dt.zero with raw:=[1,1,1,1] }⟩,⟨[1,101,0],2,5,{ Dt.zero with host:=[1,119,1,101,0] }⟩]
def Pu:List En:=match ni MH with | .ok l=>l | _=>[]
theorem PG (H:Hp) (hgl:Gl H) (hg:gN≤H.length):ag Tryz.prog 10 [.str MH,.str [1,69,0],.int .u32 9] H (OM H (.ok MI)) :=
 Jr rdH False (fun o=>(nm o).isSome=true) (.ok MI) H MH [1,69,0] 9 Pu hgl hg (by decide) (by decide) (by kernel_rfl) (by decide) (by kernel_rfl) (.inr ⟨_,rfl⟩) (by kernel_rfl) (by show (nm (bB [1,69,0])).isSome=true; kernel_rfl) (fun w o h h'=>M7 w o h h') (fun o h=>by have:=BQ h; omega)
  (of_decide_eq_true (by kernel_rfl)) (fun x hx hn=>by
   have:(Pu.all fun x=>!x.ws.isEmpty)=true:=by kernel_rfl
   have:=List.all_eq_true.1 this x hx
   rw [hn] at this; cases this) (fun x hx w hw=>by
   have:(Pu.all fun x=>x.ws.all fun w=>decide (w.t.length≤1048576))=true:=by kernel_rfl
   have:=List.all_eq_true.1 (List.all_eq_true.1 this x hx) w hw
   simpa using this) (fun o t r ho _ h=>Pv o t r ho (by rcases h with h | h; exact h; exact h.elim))
end Go.Proofs.YtdppgaphcmhffaaGreatDoor.V
