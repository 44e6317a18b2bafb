/- Joined by mkclaim.py: WTextN WJoin WRefEsc WNum WNumB WNumC WRefNum WHex WData WCheck WCheckB WCheckC WCheckD WShow WCut. No conditions. -/
import Derived.Test.YtdppgaphcmhffaaGreatDoorJ2
set_option linter.unusedSimpArgs false
set_option linter.unusedVariables false
set_option maxRecDepth 100000
namespace Go.Proofs.YtdppgaphcmhffaaGreatDoor.V
open Go
attribute [local irreducible] go bt goD opK ag bx aF aH bC

def gL (s:List UInt8):List (List UInt8):=(nm s).getD []
theorem B1:∀ (L:List (List UInt8)) (s:List UInt8) (a:Nat),lab (s.drop a)=some L→∀ (i:Nat) (l:List UInt8),L[i]?=some l →
  ∃ p c,(zc a L)[i]?=some p∧s[p]?=some c∧c.toNat=l.length∧(s.drop (p+1)).take l.length=l∧p+(1+l.length)≤s.length∧0 < l.length∧l.length≤63
 | [],s,a,h,i,l,hi=>by simp at hi
 | m::L,s,a,h,i,l,hi=>by
  cases hd:s.drop a with
  | nil=>rw [hd,wA] at h; cases h
  | cons c t =>
   rw [hd,fR] at h
   have ha:a < s.length:=by
    have:=congrArg List.length hd
    simp at this; omega
   have hc:s[a]?=some c:=by
    have:=congrArg (·[0]?) hd
    simpa using this
   have ht:t=s.drop (a+1):=by
    rw [fK hc] at hd
    injection hd with _ h2
    exact h2.symm
   split at h
   ·split at h <;> cases h
   ·split at h
    ·cases h
    ·rename_i h0 h1
     cases hL:lab (t.drop c.toNat) with
     | none=>rw [hL] at h; cases h
     | some L' =>
      rw [hL] at h
      simp only [Option.map_some,Option.some.injEq,List.cons.injEq] at h
      obtain ⟨rfl,rfl⟩:=h
      have hml:(t.take c.toNat).length=c.toNat:=by rw [List.length_take]; omega
      have htl:t.length=s.length - (a+1):=by rw [ht,List.length_drop]
      cases i with
      | zero =>
       simp only [List.getElem?_cons_zero,Option.some.injEq] at hi
       subst hi
       refine ⟨a,c,rfl,hc,hml.symm,by rw [hml,ht],by rw [hml]; omega,by rw [hml]; omega,by rw [hml]; omega⟩
      | succ i =>
       simp only [List.getElem?_cons_succ] at hi
       have hr:lab (s.drop (a+(1+(t.take c.toNat).length)))=some L':=by
        rw [hml,show a+(1+c.toNat)=(a+1)+c.toNat by omega,← List.drop_drop,← ht]; exact hL
       obtain ⟨p,c',h1,h2⟩:=B1 L' s _ hr i l hi
       exact ⟨p,c',h1,h2⟩
theorem MN {L:List (List UInt8)} {i p:Nat} (h:(zc 0 L)[i]?=some p) (e:TypeId) (k:Kd):ldC i 1 false (.cells (ou L) e k)=some (.int .i64 (p:Nat)):=by
 rw [sE]; simp [ou,h]
theorem sr {s:List UInt8} {L:List (List UInt8)} (h:nm s=some L):lab s=some L∧s.length≤255:=by
 unfold nm at h
 split at h
 ·cases h
 ·exact ⟨h,by omega⟩
theorem vI:∀ (L:List (List UInt8)) (s:List UInt8),lab s=some L→s.length=tot L+1
 | [],s,h=>by
  cases s with
  | nil=>cases h
  | cons c t =>
   rw [fR] at h
   split at h
   ·split at h
    ·rename_i h'; rw [List.length_cons,h']; rfl
    ·cases h
   ·split at h
    ·cases h
    ·rw [Option.map_eq_some_iff] at h
     obtain ⟨_,_,h⟩:=h
     cases h
 | l::L,s,h=>by
  cases s with
  | nil=>cases h
  | cons c t =>
   rw [fR] at h
   split at h
   ·split at h <;> cases h
   ·split at h
    ·cases h
    ·rename_i h0 h1
     rw [Option.map_eq_some_iff] at h
     obtain ⟨L',h2,h3⟩:=h
     injection h3 with h4 h5
     subst h4 h5
     have:=vI L' _ h2
     rw [List.length_drop] at this
     have e:tot (t.take c.toNat::L')=(1+(t.take c.toNat).length)+tot L':=by simp [tot]
     rw [e,List.length_take,List.length_cons]; omega
theorem oG:∀ (L:List (List UInt8)),L.length≤tot L
 | []=>Nat.zero_le _
 | l::L=>by
  have:=oG L
  have e:tot (l::L)=(1+l.length)+tot L:=by simp [tot]
  rw [e,List.length_cons]; omega

theorem qL (s:List UInt8) (H) (hs:s.length≤cg):∃ b:AV × Hp,bZ H.length b.2 b.1 9 1 (gL s).length (strs (gL s)) ∧
  ∀ k,ag Tryz.prog 51 [.str s] H k=k (b.1,H++b.2,z0):=by
 obtain ⟨⟨bv,bT⟩,hb,hst⟩:=qK s H hs
 refine cI (fun b:AV × Hp=>bZ H.length b.2 b.1 9 1 (gL s).length (strs (gL s))) (fun b=>(b.1,H++b.2,z0)) ?_
 refine aa (n:=37) (rs:=[.tmp 2]) Tryz.func51 rfl rfl rfl ?_
 intro σ hl ha
 have h0:=ha 0 (by simp)
 clear ha
 simp only [Option.getD_some,List.getElem?_cons_zero,List.getElem?_cons_succ] at h0
 cases hn:nm s with
 | none =>
  have hlb:gL s=[]:=by rw [gL,hn]; rfl
  rw [hn] at hst
  simp only [Option.isSome_none] at hst
  simp only [go_sem,simprocAttr,hl,h0,hst]
  exact ⟨(.aI,[]),by rw [hlb]; exact .inl ⟨rfl,rfl,rfl⟩,by simp⟩
 | some L =>
  have hlb:gL s=L:=by rw [gL,hn]; rfl
  have hB:=hb L hn
  obtain ⟨hL,h255⟩:=sr hn
  have hLl:L.length≤255:=by have:=vI L s hL; have:=oG L; omega
  rw [hn] at hst
  simp only [Option.isSome_some] at hst
  rw [hlb]
  have hlen:∀ H',bY Tryz.prog 88 bv H'=some (.int .i64 L.length):=by
   intro H'
   obtain ⟨rfl,h2,h3⟩ | ⟨h1,h2,m,rfl,h3⟩:=hB
   ·simp only [bY,vz,h3]; rfl
   ·simp only [bY,vz]
  simp only [go_sem,simprocAttr,hl,h0,hst,hlen]
  refine go_rounds (fun n st=>∃ σ i v T e,n+i=L.length∧st=⟨σ,H++T,e⟩∧bZ H.length T v 9 1 i (strs (L.take i))∧bZ H.length T bv 3 1 L.length (ou L)∧clean H.length e∧σ.length=37∧fr σ 0=.str s∧fr σ 5=v∧fr σ 15=bv∧fr σ 16=.int .i64 L.length∧fr σ 17=.int .i64 (i:Nat)) L.length
   ⟨_,0,.aI,bT,_,rfl,rfl,.inl ⟨rfl,rfl,rfl⟩,hB,⟨rfl,rfl⟩,by simp only [go_sem,simprocAttr,hl],by simp only [go_sem,simprocAttr,hl,h0],by simp only [go_sem,simprocAttr,hl],by simp only [go_sem,simprocAttr,hl],by simp only [go_sem,simprocAttr,hl],by simp only [go_sem,simprocAttr,hl]⟩ ?_
  rintro n _ ⟨σ,i,v,T,e,hi,rfl,hv,hB,he,hl,h0,h5,h15,h16,h17⟩
  by_cases hlt:i < L.length
  ·obtain ⟨l,hli⟩:∃ l,L[i]?=some l:=⟨_,List.getElem?_eq_getElem hlt⟩
   obtain ⟨p,c,hp,hc,hcl,htk,hle,hpos,h63⟩:=B1 L s 0 (by simpa using hL) i l hli
   obtain ⟨rfl,h2,h3⟩ | ⟨h1,h2,m,rfl,h3⟩:=hB
   ·omega
   have hg:(H++T)[H.length+m]?=some (.cells (ou L) 3 (.op 0 false)):=by rw [bX,h3]
   have hld:=MN hp
   have hw:=aS (show i < 9223372036854775807 by omega)
   have w0:IntKind.i64.wrap (c.toNat:Int)=(c.toNat:Int):=by rw [wrap_i64 (by omega)]
   have w1:IntKind.i64.wrap ((p:Int)+1)=((p+1:Nat):Int):=by rw [wrap_i64 (by omega)]; omega
   have w2:IntKind.i64.wrap (((p+1:Nat):Int)+(c.toNat:Int))=((p+(1+c.toNat):Nat):Int):=by rw [wrap_i64 (by omega)]; omega
   have hsl:(s.take (p+(1+c.toNat))).drop (p+1)=l:=by
    rw [List.drop_take,hcl,show p+(1+l.length) - (p+1)=l.length by omega]; exact htk
   have hsl2:(s.drop (p+1)).take c.toNat=l:=by rw [hcl]; exact htk
   have hplt:p < s.length:=by omega
   have hbs:=fun H=>cO l H
   obtain ⟨v',T2,e2,happ,_,hcl2,hk2,hv3,_,hvc,hq⟩:=(hv.more [.cells [.str l] 9 .rw]).D9 (P:=Tryz.prog) (b:=16) (by decide) eU [.str l] 1 (by decide) rfl rfl (by simp only [fits,decide_eq_true_eq]; omega)
   have d1:decide (p+1≤p+(1+c.toNat))=true:=by simp
   have d2:decide (p+(1+c.toNat)≤s.length)=true:=by simp; omega
   have d3:p+(1+c.toNat) - (p+1)=c.toNat:=by omega
   have hbm:T2[m]?=some (.cells (ou L) 3 (.op 0 false)):=hk2 m _ (ah h3) (by intro c fz st hx; injection hx with _ h _; exact absurd h (by decide))
   simp only [go_sem,simprocAttr,hl,h0,h5,h15,h16,h17,hlt,hg,h3,hld,hc,hplt,w0,w1,w2,hsl,hsl2,d1,d2,d3,hbs,happ,hw]
   rw [show strs (L.take i)++[.str l]=strs (L.take (i+1)) from FN hli] at hv3
   refine ⟨by omega,by omega,n - 1,by omega,_,i+1,v',T2,_,by omega,rfl,hv3,.inr ⟨h1,h2,m,rfl,hbm⟩,by simp only [go_sem,simprocAttr,he,hcl2],by simp only [go_sem,simprocAttr,hl],by simp only [go_sem,simprocAttr,hl,h0],by simp only [go_sem,simprocAttr,hl],by simp only [go_sem,simprocAttr,hl,h15],by simp only [go_sem,simprocAttr,hl,h16],by simp only [go_sem,simprocAttr,hl]⟩
  ·have hi:i=L.length:=by omega
   subst hi
   rw [List.take_length] at hv
   simp only [go_sem,simprocAttr,hl,h0,h5,h15,h16,h17,hlt]
   obtain ⟨rfl,h2,h3⟩ | ⟨h1,h2,m,rfl,h3⟩:=hv
   ·exact ⟨(.aI,[]),.inl ⟨rfl,h2,h3⟩,by rw [aW rfl he,List.append_nil]⟩
   ·exact ⟨(.slice (H.length+m) 0 L.length (.op 0),T),.inr ⟨h1,h2,m,rfl,h3⟩,by rw [gb (by simp [flat,bK]) he]⟩

def kU (L:List (List UInt8)):List UInt8:=L.flatMap fun l=>fJ false l++[46]
def eo (s:List UInt8):List UInt8:=if s=[0] then [46] else kU (gL s)
theorem uo {L:List (List UInt8)} {i:Nat} {l:List UInt8} (h:L[i]?=some l):kU (L.take (i+1))=kU (L.take i)++(fJ false l++[46]):=by
 rw [cu h]; simp [kU]
theorem jN:∀ (L:List (List UInt8)),(kU L).length≤4*tot L
 | []=>by simp [kU]
 | l::L=>by
  have:=jN L
  have h:=fV false l
  have e:kU (l::L)=(fJ false l++[46])++kU L:=rfl
  have e2:tot (l::L)=(1+l.length)+tot L:=by simp [tot]
  rw [e,e2,List.length_append,List.length_append,List.length_cons,List.length_nil]; omega
theorem xK (L:List (List UInt8)) (i:Nat):tot (L.take i)≤tot L:=by
 have:tot L=tot (L.take i)+tot (L.drop i):=by
  conv=>lhs; rw [← List.take_append_drop i L]
  simp only [tot,List.map_append,List.sum_append]
 omega
theorem Kv {q:Bool} {l:List UInt8} (h:0 < l.length):0 < (fJ q l).length:=by
 cases l with
 | nil=>cases h
 | cons c l =>
  have e:fJ q (c::l)=gM q c++fJ q l:=rfl
  rw [e,List.length_append]
  have:0 < (gM q c).length:=by
   unfold gM; split
   ·simp
   split
   ·split <;> simp
   split <;> simp
  omega
theorem sF {s:List UInt8}:tot (gL s)≤255:=by
 cases h:nm s with
 | none=>rw [gL,h]; simp [tot]
 | some L =>
  obtain ⟨hL,h255⟩:=sr h
  have:=vI L s hL
  rw [gL,h]; simp only [Option.getD_some]; omega
theorem sG {s l:List UInt8} {i:Nat} (h:(gL s)[i]?=some l):0 < l.length∧l.length≤63:=by
 cases hn:nm s with
 | none=>rw [gL,hn] at h; simp at h
 | some L =>
  rw [gL,hn] at h
  obtain ⟨hL,h255⟩:=sr hn
  obtain ⟨p,c,_,_,_,_,_,h1,h2⟩:=B1 L s 0 (by simpa using hL) i l h
  exact ⟨h1,h2⟩

theorem jT (s:List UInt8) (H k) (hs:s.length≤cg):ag Tryz.prog 27 [.str s] H k=k (.str (eo s),H,z0):=by
 refine ak (r:=(.str (eo s),H,z0)) ?_ k
 refine aa (n:=21) (rs:=[.tmp 2]) Tryz.func27 rfl rfl rfl ?_
 intro σ hl ha
 have h0:=ha 0 (by simp)
 clear ha
 simp only [Option.getD_some,List.getElem?_cons_zero,List.getElem?_cons_succ] at h0
 by_cases hr:s=[0]
 ·have hx:eo s=[46]:=if_pos hr
  rw [hx]
  subst hr
  simp only [go_sem,simprocAttr,hl,h0]
 have hx:eo s=kU (gL s):=if_neg hr
 rw [hx]
 obtain ⟨⟨bv,bT⟩,hB,hst⟩:=qL s (H++[.cells [.fF,.aI] 73 .rw]) hs
 have hB:bZ H.length ([.cells [.fF,.aI] 73 .rw]++bT) bv 9 1 (gL s).length (strs (gL s)):=by
  obtain h | ⟨h1,h2,m,h3,h4⟩:=hB
  ·exact .inl h
  ·exact .inr ⟨h1,h2,m+1,by simp only at h3; rw [h3]; simp; omega,by simpa using h4⟩
 have hlen:∀ H',bY Tryz.prog 85 bv H'=some (.int .i64 (gL s).length):=by
  intro H'
  obtain ⟨rfl,h2,h3⟩ | ⟨h1,h2,m,rfl,h3⟩:=hB
  ·simp only [bY,jc,h3]; rfl
  ·simp only [bY,jc]
 have hne:(s == [0])=false:=by simpa using hr
 have hb0:Bld H.length ([.cells [.fF,.aI] 73 .rw]++bT) 0 (kU ((gL s).take 0)):=⟨_,_,rfl,.inl rfl,.inl ⟨rfl,rfl⟩⟩
 have hst:∀ k,ag Tryz.prog 51 [.str s] (H++[.cells [.fF,.aI] 73 .rw]) k=k (bv,H++([.cells [.fF,.aI] 73 .rw]++bT),z0):=by
  intro k; rw [hst]; simp
 generalize hT0:[bp.cells [.fF,.aI] 73 .rw]++bT=T0 at *
 simp only [go_sem,simprocAttr,hl,h0,hne,hst,hlen]
 generalize hL:gL s=L at *
 have hLt:tot L≤255:=by rw [← hL]; exact sF
 have hLl:=oG L
 refine go_rounds (fun n st=>∃ σ i T e,n+i=L.length∧st=⟨σ,H++T,e⟩∧Bld H.length T 0 (kU (L.take i))∧bZ H.length T bv 9 1 L.length (strs L)∧clean H.length e∧σ.length=21∧fr σ 3=.ptr H.length 0∧fr σ 9=bv∧fr σ 10=.int .i64 L.length∧fr σ 11=.int .i64 (i:Nat)) L.length
  ⟨_,0,_,_,rfl,rfl,hb0,hB,⟨rfl,rfl⟩,by simp only [go_sem,simprocAttr,hl],by simp only [go_sem,simprocAttr,hl],by simp only [go_sem,simprocAttr,hl],by simp only [go_sem,simprocAttr,hl],by simp only [go_sem,simprocAttr,hl]⟩ ?_
 rintro n _ ⟨σ,i,T,e,hi,rfl,hb,hB,he,hl,h3,h9,h10,h11⟩
 by_cases hlt:i < L.length
 ·obtain ⟨l,hli⟩:∃ l,L[i]?=some l:=⟨_,List.getElem?_eq_getElem hlt⟩
  obtain ⟨p1,p2⟩:=sG (s:=s) (by rw [hL]; exact hli)
  have hsn:=uo hli
  have hbl:(kU (L.take i)).length≤1020:=by have:=jN (L.take i); have:=xK L i; omega
  have hw:=aS (show i < 9223372036854775807 by omega)
  obtain ⟨rfl,_,h3'⟩ | ⟨g1,g2,m,rfl,g3⟩:=hB
  ·omega
  have hm0:m≠0:=by
   rintro rfl
   obtain ⟨_,_,hj,_⟩:=hb
   rw [hj] at g3; injection g3 with g; injection g with _ g; exact absurd g (by decide)
  have hg:(H++T)[H.length+m]?=some (.cells (strs L) 9 (.op 0 false)):=by rw [bX,g3]
  have hld:=iK hli
  have hE:=fun H' k=>qM l false H' k (by omega)
  have hEl:=fV false l
  obtain ⟨T1,e1,b1,k1,c1,r1⟩:=qu H T 0 _ (fJ false l) hb (Kv p1) (by simp only [fits,decide_eq_true_eq]; omega)
  obtain ⟨T2,e2,b2,k2,c2,r2⟩:=dA H T1 0 _ 46 46 rfl b1 (by simp only [fits,decide_eq_true_eq,List.length_append]; omega)
  have c1:=c1.cln
  have c2:=c2.cln
  simp only [Nat.add_zero] at r1 r2
  simp only [go_sem,simprocAttr,hl,h3,h9,h10,h11,hlt,hg,g3,hld,hE,r1,r2,hw]
  refine ⟨n - 1,by omega,_,i+1,T2,_,by omega,rfl,by rw [hsn,← List.append_assoc]; exact b2,?_,by simp only [go_sem,simprocAttr,he,c1,c2],by simp only [go_sem,simprocAttr,hl],by simp only [go_sem,simprocAttr,hl,h3],by simp only [go_sem,simprocAttr,hl,h9],by simp only [go_sem,simprocAttr,hl,h10],by simp only [go_sem,simprocAttr,hl]⟩
  have hf:∀ c k,Kh (.cells c 9 k)=true:=by intro c k; cases k <;> rfl
  exact .inr ⟨g1,g2,m,rfl,k2.2 m _ hm0 (k1.2 m _ hm0 g3 (hf _ _)) (hf _ _)⟩
 ·have hi:i=L.length:=by omega
  subst hi
  rw [List.take_length] at hb
  have htl:=jN L
  obtain ⟨T1,e1,c1,r1⟩:=o9 H T 0 _ hb (by omega)
  simp only [Nat.add_zero] at r1
  simp only [go_sem,simprocAttr,hl,h3,h9,h10,h11,hlt,r1]
  exact aW rfl (bn he c1)
def Ry (n:Nat) (T:Hp) (j:Nat):Prop:=∃ m,T[j]?=some (.cells [.ptr (n+j) 0,.slice (n+m) 0 0 (.op 0)] 73 .rw)∧T[m]?=some (.cells [] 5 (.op 0 false))
theorem Li (H T:Hp) (j n:Nat) (hj:T[j]?=some (.cells [.ptr (H.length+j) 0,.aI] 73 .rw)) (hn:0 < n) (hn2:n≤1099511627776) :
  ∃ T' e,Ry H.length T' j∧lp T j T'∧Cl H.length j e∧∀ k,ag Tryz.prog 124 [.ptr (H.length+j) 0,.int .i64 (n:Nat)] (H++T) k=k (.tuple [],H++T',e):=by
 have hlt:=ai hj
 have hcl0:Cl H.length j (Ef.and ⟨none,some (H.length+T.length)⟩ ⟨some (H.length+j),some (H.length+j)⟩):=.Ea (by simp [clean,low]) ⟨_,rfl,by omega,by omega,by simp [low]⟩
 obtain ⟨e',hE,hleave⟩:=hcl0.leave (m:=H.length+T.length) (by omega)
 refine ⟨T.set j (.cells [.ptr (H.length+j) 0,.slice (H.length+T.length) 0 0 (.op 0)] 73 .rw)++[.cells [] 5 (.op 0 false)],e',⟨T.length,?_,by simp⟩,⟨by simp,fun i x hi hx hf=>ah (by rw [List.getElem?_set_ne (Ne.symm hi)]; exact hx)⟩,hE,fun k=>?_⟩
 ·exact ah (by rw [List.getElem?_set_self hlt])
 refine ak ?_ k
 refine aa (n:=30) (rs:=[]) Tryz.func124 rfl rfl rfl ?_
 intro σ hl ha
 have h0:=ha 0 (by simp)
 have h1:=ha 1 (by simp)
 clear ha
 simp only [Option.getD_some,List.getElem?_cons_zero,List.getElem?_cons_succ] at h0 h1
 have hd:decide (j < T.length)=true:=by simpa using hlt
 have hj1:(T++[.cells [] 5 (.op 0 false)])[j]?=some (.cells [.ptr (H.length+j) 0,.aI] 73 .rw):=ah hj
 have w0:IntKind.i64.wrap (0+(n:Int))=(n:Int):=by rw [Int.zero_add,wrap_i64 (by omega)]
 have hcap:qT Tryz.prog 71 .aI=some (.int .i64 0):=by simp only [qT,dh]
 have hlen0:∀ H',bY Tryz.prog 71 .aI H'=some (.int .i64 0):=by intro H'; simp only [bY,dh]
 have hcp:lR Tryz.prog 71 (.slice (H.length+T.length) 0 0 (.op 0)) .aI (H++(T++[.cells [] 5 (.op 0 false)]))=some (.int .i64 0,H++(T++[.cells [] 5 (.op 0 false)]),⟨none,some (H.length+T.length)⟩):=by
  have hg:(H++(T++[.cells [] 5 (.op 0 false)]))[H.length+T.length]?=some (.cells [] 5 (.op 0 false)):=by rw [bX]; simp
  have hs:=eT hg
  simp only [lR,dh,appended,Option.bind_some]
  simp only [wr,hg]
  simp [splice,gE,hs,bK]
 simp only [go_sem,simprocAttr,hl,h0,h1]
 refine ay au (by kernel_rfl) ?_
 simp only [go_sem,simprocAttr,hl,h0,h1,hj,hj1,hd,w0,hcap,hlen0,hcp]
 refine ⟨by omega,(by kernel_rfl:bN _ _ _=true),?_⟩
 exact hleave _ _

theorem Rl (H T:Hp) (j n:Nat) (hj:T[j]?=some (.cells [.fF,.aI] 73 .rw)) (hn:0 < n) (hn2:n≤1099511627776) :
  ∃ T' e,Ry H.length T' j∧lp T j T'∧Cl H.length j e∧∀ k,ag Tryz.prog 91 [.ptr (H.length+j) 0,.int .i64 (n:Nat)] (H++T) k=k (.tuple [],H++T',e):=by
 have hlt:=ai hj
 obtain ⟨e1,he1,hck⟩:=pg H T j _ _ hj (.inl rfl) rfl
 have hj1:(T.set j (.cells [.ptr (H.length+j) 0,.aI] 73 .rw))[j]?=some (.cells [.ptr (H.length+j) 0,.aI] 73 .rw):=by rw [List.getElem?_set_self hlt]
 obtain ⟨T',e2,hb,hk,hc,hg⟩:=Li H _ j n hj1 hn hn2
 have hc0:clean H.length e1:=by
  obtain rfl | h:=he1
  ·exact ⟨rfl,rfl⟩
  ·exact h.cln
 obtain ⟨e',hE,hleave⟩:=(Cl.Ea hc0 hc).leave (m:=H.length+T.length) (by omega)
 refine ⟨T',e',hb,⟨by have:=hk.1; simpa using this,fun i x hi hx hf=>hk.2 i x hi (by rw [List.getElem?_set_ne (Ne.symm hi)]; exact hx) hf⟩,hE,fun k=>?_⟩
 refine ak ?_ k
 refine aa (n:=25) (rs:=[]) Tryz.func91 rfl rfl rfl ?_
 intro σ hl ha
 have h0:=ha 0 (by simp)
 have h1:=ha 1 (by simp)
 clear ha
 simp only [Option.getD_some,List.getElem?_cons_zero,List.getElem?_cons_succ] at h0 h1
 have hd:decide (j < T.length)=true:=by simpa using hlt
 have hcap:qT Tryz.prog 71 .aI=some (.int .i64 0):=by simp only [qT,dh]
 have hlen0:∀ H',bY Tryz.prog 71 .aI H'=some (.int .i64 0):=by intro H'; simp only [bY,dh]
 have g0:decide ((n:Int) < 0)=false:=by simp
 have g1:decide ((0:Int) < (n:Int))=true:=by simp; omega
 simp only [go_sem,simprocAttr,hl,h0,h1,hck,g0]
 refine ay au (by kernel_rfl) ?_
 simp only [go_sem,simprocAttr,hl,h0,h1,hj1,hd,hcap,hlen0,g1,hg]
 exact hleave _ _

theorem Oz (H T:Hp) (j:Nat) (s:List UInt8) (hb:Ry H.length T j) (hs:0 < s.length) (hf:fits s.length 1=true) :
  ∃ T' e,Bld H.length T' j s∧lp T j T'∧Cl H.length j e∧∀ k,ag Tryz.prog 26 [.ptr (H.length+j) 0,.str s] (H++T) k=k (.tuple [.int .i64 s.length,.de],H++T',e):=by
 obtain ⟨m,hj,hm⟩:=hb
 have hlt:=ai hj
 have hltm:=ai hm
 have hjm:j≠m:=by
  rintro rfl
  rw [hj] at hm
  injection hm with h; injection h with h _ _; cases h
 obtain ⟨e1,he1,hck⟩:=pg H T j _ _ hj (.inr rfl) rfl
 rw [eT hj] at hck
 have hg:(H++T)[H.length+m]?=some (.cells [] 5 (.op 0 false)):=by rw [bX,hm]
 have happ:∀ kk,aF (c9 Tryz.prog (.slice 5 1 1) (.slice (H.length+m) 0 0 (.op 0)) (u8s s,s.length) (H++T)) kk=kk (.slice (H.length+T.length) 0 s.length (.op 0),H++(T.set m .dead++[.cells (u8s s) 5 (.op 0 false)]),⟨none,some (H.length+m)⟩):=by
  intro kk
  rw [eC (by decide) jC,hg]
  simp only [aD,hU]
  have hd:decide (0+(0+s.length)*1≤([]:List AV).length)=false:=by
   apply decide_eq_false; intro h; simp only [List.length_nil] at h; omega
  have hf':fits (0+s.length) 1=true:=by simpa using hf
  rw [hd,cn]
  simp only [hf,hf',ja,gz,List.length_append,List.append_assoc,Nat.sub_self,Nat.zero_le,true_and,and_true,Nat.mul_one,Nat.zero_add,Nat.le_refl,List.drop_nil,List.take_nil,List.nil_append]
 simp only [u8s] at happ
 have hj2:(T.set m .dead++[.cells (u8s s) 5 (.op 0 false)])[j]?=some (.cells [.ptr (H.length+j) 0,.slice (H.length+m) 0 0 (.op 0)] 73 .rw):=ah (by rw [List.getElem?_set_ne (Ne.symm hjm)]; exact hj)
 have hlt2:=ai hj2
 have hc0:clean H.length e1:=by
  obtain rfl | h:=he1
  ·exact ⟨rfl,rfl⟩
  ·exact h.cln
 have hcl3:Cl H.length j ((e1.and ⟨none,some (H.length+m)⟩).and ⟨some (H.length+j),some (H.length+j)⟩):=.Ea (bn hc0 (by simp [clean,low])) ⟨_,rfl,by omega,by omega,by simp [low]⟩
 obtain ⟨e',hE,hleave⟩:=hcl3.leave (m:=H.length+T.length) (by omega)
 refine ⟨(T.set m .dead++[bp.cells (u8s s) 5 (.op 0 false)]).set j (.cells [.ptr (H.length+j) 0,.slice (H.length+T.length) 0 s.length (.op 0)] 73 .rw),e',⟨_,_,by rw [List.getElem?_set_self hlt2],.inr rfl,.inr ⟨hs,T.length,rfl,?_⟩⟩,⟨by simp,fun i x hi hx hf=>?_⟩,hE,fun k=>?_⟩
 ·rw [List.getElem?_set_ne (by omega)]
  rw [List.getElem?_append_right (by simp)]; simp
 ·rw [List.getElem?_set_ne (Ne.symm hi)]
  have hne:m≠i:=by
   rintro rfl
   rw [hm] at hx; cases hx; cases hf
  exact ah (by rw [List.getElem?_set_ne hne]; exact hx)
 refine ak ?_ k
 refine aa (n:=19) (rs:=[.tmp 4,.tmp 5]) Tryz.func26 rfl rfl rfl ?_
 intro σ hl ha
 have h0:=ha 0 (by simp)
 have h1:=ha 1 (by simp)
 clear ha
 simp only [Option.getD_some,List.getElem?_cons_zero,List.getElem?_cons_succ] at h0 h1
 have d1:decide (j < T.length)=true:=by simpa using hlt
 have d2:decide (j < (T.set m .dead++[bp.cells (u8s s) 5 (.op 0 false)]).length)=true:=by simpa using hlt2
 generalize hT2:(T.set m .dead++[bp.cells (u8s s) 5 (.op 0 false)])=T2 at *
 have hT2':(T.set m .dead++[bp.cells (s.map fun b=>AV.int .u8 (b.toNat:Int)) 5 (.op 0 false)])=T2:=hT2
 rw [hT2'] at happ
 generalize hv:AV.slice (H.length+m) 0 0 (.op 0)=v at *
 have hvs:cK v=true:=by rw [← hv]; rfl
 simp only [go_sem,simprocAttr,hl,h0,h1,hck,d1,d2,hj,hj2,happ,hvs]
 exact hleave _ _
def Sv (H:Hp) (v:AV) (L:List (List UInt8)):Prop:=∃ b c e k,v=.slice b 0 L.length c∧H[b]?=some (.cells (strs L) e k)∧(c=.ex L.length∨(c=.op 0∧e=9∧∃ fz st,k=.op fz st))∧0 < L.length
def dQ (sep:List UInt8):List (List UInt8)→List UInt8
 | []=>[]
 | x::r=>x++r.flatMap (sep++·)
def b9 (L:List (List UInt8)):Nat:=(L.map List.length).sum
theorem mj {L:List (List UInt8)} {i:Nat} {x:List UInt8} (h:L[i]?=some x):b9 (L.take (i+1))=b9 (L.take i)+x.length:=by
 rw [cu h]; simp [b9]
theorem eN (L:List (List UInt8)) (i:Nat):b9 (L.take i)≤b9 L:=by
 have:b9 L=b9 (L.take i)+b9 (L.drop i):=by
  conv=>lhs; rw [← List.take_append_drop i L]
  simp only [b9,List.map_append,List.sum_append]
 omega
theorem uT (sep x:List UInt8) (r:List (List UInt8)):(x++r.flatMap (sep++·)).length=x.length+(r.length*sep.length+b9 r):=by
 induction r with
 | nil=>simp [b9]
 | cons y r ih =>
  have e1:(y::r).flatMap (sep++·)=(sep++y)++r.flatMap (sep++·):=rfl
  have e2:b9 (y::r)=y.length+b9 r:=by simp [b9]
  rw [List.length_append] at ih ⊢
  rw [e1,e2,List.length_append,List.length_append,List.length_cons,Nat.succ_mul]; omega

set_option maxHeartbeats 1000000 in
theorem BA (sep:List UInt8) (L:List (List UInt8)) (v:AV) (H k) (hv:Sv H v L) (hsep:0 < sep.length) (hse2:sep.length≤1000) (hL:L.length≤16777216) (hx:∀ x ∈ L,0 < x.length) (ht:b9 L≤4294967296) :
  ag Tryz.prog 57 [v,.str sep] H k=k (.str (dQ sep L),H,z0):=by
 obtain ⟨b,c,et,kd,rfl,hb,hc,hpos⟩:=hv
 refine ak (r:=(.str (dQ sep L),H,z0)) ?_ k
 refine aa (n:=75) (rs:=[.tmp 4]) Tryz.func57 rfl rfl rfl ?_
 intro σ hl ha
 have h0:=ha 0 (by simp)
 have h1:=ha 1 (by simp)
 clear ha
 simp only [Option.getD_some,List.getElem?_cons_zero,List.getElem?_cons_succ] at h0 h1
 obtain ⟨x0,R,hLR⟩:∃ x r,L=x::r:=by cases L with | nil=>cases hpos | cons x r=>exact ⟨x,r,rfl⟩
 have hx0:=hx x0 (by rw [hLR]; simp)
 have hl0:L[0]?=some x0:=by rw [hLR]; rfl
 have hld0:=iK hl0
 obtain ⟨n,hn⟩:∃ n,L.length=n:=⟨_,rfl⟩
 have hRn:R.length=n - 1:=by rw [← hn,hLR]; simp
 have g0:((n:Int) == 0)=false:=by simp; omega
 have d0:decide (0 < n)=true:=by simp; omega
 rw [hn] at h0 hc hL
 by_cases h1n:n=1
 ·have hR0:R=[]:=by cases R with | nil=>rfl | cons _ _=>simp at hRn; omega
  have hj:dQ sep L=x0:=by rw [hLR,hR0]; simp [dQ]
  subst h1n
  simp only [go_sem,simprocAttr,hl,h0,h1,hb,hld0,hj]
 have g1:((n:Int) == 1)=false:=by simp; omega
 have g2:decide ((sep.length:Int) > 0)=true:=by simp; omega
 have w1:IntKind.i64.wrap ((n:Int) - 1)=((n - 1:Nat):Int):=by rw [wrap_i64 (by omega)]; omega
 have hdv:9223372036854775807 / 16777216≤9223372036854775807 / (n - 1):=Nat.div_le_div_left (by omega) (by omega)
 have hdv2:9223372036854775807 / (n - 1)≤9223372036854775807:=Nat.div_le_self _ _
 have w2:IntKind.i64.wrap ((9223372036854775807:Int).tdiv ((n - 1:Nat):Int))=((9223372036854775807 / (n - 1):Nat):Int):=by
  have e:(9223372036854775807:Int).tdiv ((n - 1:Nat):Int)=((9223372036854775807 / (n - 1):Nat):Int):=rfl
  rw [e,wrap_i64 (by omega)]
 have z1:(((n - 1:Nat):Int) == 0)=false:=by simp; omega
 have g3:(9223372036854775807 / (n - 1)≤sep.length)=False:=by
  apply eq_false; intro h
  have:9223372036854775807 / 16777216=549755813887:=by decide
  omega
 have hmul:sep.length*(n - 1)≤1000*16777216:=Nat.mul_le_mul hse2 (by omega)
 have w3:IntKind.i64.wrap ((sep.length:Int)*((n - 1:Nat):Int))=((sep.length*(n - 1):Nat):Int):=by
  rw [show (sep.length:Int)*((n - 1:Nat):Int)=((sep.length*(n - 1):Nat):Int) by push_cast; rfl,wrap_i64 (by omega)]
 have w4:IntKind.i64.wrap (0+((sep.length*(n - 1):Nat):Int))=((sep.length*(n - 1):Nat):Int):=by rw [Int.zero_add,wrap_i64 (by omega)]
 generalize hM:sep.length*(n - 1)=M at *
 simp only [go_sem,simprocAttr,hl,h0,h1,g0,g1,g2,w1,w2,z1,g3,w3,w4,hn]
 refine go_rounds (fun m st=>∃ σ i,m+i=n∧st=⟨σ,H,z0⟩∧σ.length=75∧fr σ 0=.slice b 0 n c∧fr σ 1=.str sep∧fr σ 5=.int .i64 ((M+b9 (L.take i):Nat))∧fr σ 39=.slice b 0 n c∧fr σ 40=.int .i64 (n:Nat)∧fr σ 41=.int .i64 (i:Nat)) n
  ⟨_,0,rfl,rfl,by simp only [go_sem,simprocAttr,hl],by simp only [go_sem,simprocAttr,hl,h0],by simp only [go_sem,simprocAttr,hl,h1],by simp only [go_sem,simprocAttr,hl]; rfl,by simp only [go_sem,simprocAttr,hl],by simp only [go_sem,simprocAttr,hl],by simp only [go_sem,simprocAttr,hl]⟩ ?_
 rintro m _ ⟨σ,i,hi,rfl,hl,h0,h1,h5,h39,h40,h41⟩
 have htk:=eN L i
 by_cases hlt:i < n
 ·obtain ⟨x,hxi⟩:∃ x,L[i]?=some x:=⟨_,List.getElem?_eq_getElem (by omega)⟩
  have hld:=iK hxi
  have hsn:=mj hxi
  have hxl:x.length≤4294967296:=by
   have h:=eN L (i+1)
   rw [hsn] at h; omega
  generalize hS:M+b9 (L.take i)=S at *
  have hS2:S≤9223372036854775807 - 4294967296:=by omega
  have ws:IntKind.i64.wrap (9223372036854775807 - (S:Int))=((9223372036854775807 - S:Nat):Int):=by rw [wrap_i64 (by omega)]; omega
  have gs:(9223372036854775807 - S < x.length)=False:=by apply eq_false; omega
  have wa:IntKind.i64.wrap ((S:Int)+(x.length:Int))=((S+x.length:Nat):Int):=by rw [wrap_i64 (by omega)]; omega
  have hw:=aS (show i < 9223372036854775807 by omega)
  simp only [go_sem,simprocAttr,hl,h0,h1,h5,h39,h40,h41,hlt,hb,hld,ws,gs,wa,hw]
  refine ⟨m - 1,by omega,_,i+1,by omega,rfl,by simp only [go_sem,simprocAttr,hl],by simp only [go_sem,simprocAttr,hl,h0],by simp only [go_sem,simprocAttr,hl,h1],?_,by simp only [go_sem,simprocAttr,hl,h39],by simp only [go_sem,simprocAttr,hl,h40],by simp only [go_sem,simprocAttr,hl]⟩
  simp only [go_sem,simprocAttr,hl]
  rw [hsn,← hS]; congr 2; omega
 have hin:i=n:=by omega
 subst hin
 rw [show L.take i=L by rw [← hn,List.take_length]] at h5
 obtain ⟨T1,e1,b1,k1,c1,r1⟩:=Rl H [.cells [.fF,.aI] 73 .rw] 0 (M+b9 L) rfl (by have:0 < sep.length*(i - 1):=Nat.mul_pos hsep (by omega); omega) (by omega)
 obtain ⟨T2,e2,b2,k2,c2,r2⟩:=Oz H T1 0 x0 b1 hx0 (by
  have:=eN L 1
  rw [hLR] at this
  simp [b9] at this
  have h2:b9 L=x0.length+b9 R:=by rw [hLR]; simp [b9]
  simp only [fits,decide_eq_true_eq]; omega)
 have c1:=c1.cln
 have c2:=c2.cln
 simp only [Nat.add_zero] at r1 r2
 obtain ⟨c',hsl,hc'⟩:∃ c',(∀ (H':Hp) (kk:AV × Hp × Ef→Prop),slK Tryz.prog 85 (.slice b 0 i c) (some (.int .i64 1)) none none (H++H') kk=kk (.slice b 1 (i - 1) c',H++H',z0))∧True:=by
  obtain rfl | ⟨rfl,rfl,fz,st,rfl⟩:=hc
  ·refine ⟨.ex (i - 1),fun H' kk=>?_,trivial⟩
   simp only [go_sem,simprocAttr]
   rw [if_neg h1n]
   exact propext ⟨fun h=>h.2,fun h=>⟨by omega,h⟩⟩
  ·refine ⟨.op 1,fun H' kk=>?_,trivial⟩
   have hb':(H++H')[b]?=some (.cells (strs L) 9 (.op fz st)):=iC hb
   rw [rX (by rw [jc]; rfl),jc,aD,hb',aD,zD,if_pos ⟨rfl,by decide,rfl⟩,aD,D5]
   have e1:decide (((1:Int).toNat=0∨(1:Int).toNat < ((strs L).length - 0) / 1))=true:=by rw [od,hn]; simp; omega
   simp only [e1,cV]
   exact propext ⟨fun h=>h.2,fun h=>⟨⟨by omega,by omega⟩,h⟩⟩
 have hbo:∀ T:Hp,(H++T)[b]?=some (.cells (strs L) et kd):=fun T=>iC hb
 simp only [go_sem,simprocAttr,hl,h0,h1,h5,h39,h40,h41,hlt,hb,hbo,hld0,r1,r2,d0,hsl]
 refine ⟨by omega,?_⟩
 refine go_rounds (fun m st=>∃ σ j T e,m+j=i - 1∧st=⟨σ,H++T,e⟩∧Bld H.length T 0 (x0++(R.take j).flatMap (sep++·))∧clean H.length e∧σ.length=75∧fr σ 1=.str sep∧fr σ 8=.ptr H.length 0∧fr σ 63=.slice b 1 (i - 1) c'∧fr σ 64=.int .i64 ((i - 1:Nat))∧fr σ 65=.int .i64 (j:Nat)) (i - 1)
  ⟨_,0,_,_,rfl,rfl,by simpa using b2,by simp only [go_sem,simprocAttr,c1,c2],by simp only [go_sem,simprocAttr,hl],by simp only [go_sem,simprocAttr,hl,h1],by simp only [go_sem,simprocAttr,hl],by simp only [go_sem,simprocAttr,hl],by simp only [go_sem,simprocAttr,hl],by simp only [go_sem,simprocAttr,hl]⟩ ?_
 rintro m _ ⟨σ,j,T,e,hj,rfl,hbl,he,hl,h1,h8,h63,h64,h65⟩
 have hlen:∀ j,(x0++(R.take j).flatMap (sep++·)).length≤30000000000:=by
  intro j
  rw [uT]
  have h2:b9 L=x0.length+b9 R:=by rw [hLR]; simp [b9]
  have h3:=eN R j
  have h4:(R.take j).length*sep.length≤16777216*1000:=Nat.mul_le_mul (by rw [List.length_take]; omega) hse2
  omega
 by_cases hlt2:j < i - 1
 ·obtain ⟨x,hxi⟩:∃ x,R[j]?=some x:=⟨_,List.getElem?_eq_getElem (by omega)⟩
  have hxm:=hx x (by rw [hLR]; exact List.mem_cons_of_mem _ (List.mem_of_getElem? hxi))
  have hl1:L[1+j]?=some x:=by rw [hLR,Nat.add_comm,List.getElem?_cons_succ]; exact hxi
  have hld:=iK hl1
  have hw:=aS (show j < 9223372036854775807 by omega)
  have hsn:(R.take (j+1)).flatMap (sep++·)=(R.take j).flatMap (sep++·)++(sep++x):=by rw [cu hxi]; simp
  have hl2:=hlen j
  have hxl:x.length≤30000000000:=by
   have h:=hlen (j+1)
   rw [hsn] at h
   simp only [List.length_append] at h; omega
  obtain ⟨T3,e3,b3,k3,c3,r3⟩:=qu H T 0 _ sep hbl hsep (by simp only [fits,decide_eq_true_eq]; omega)
  obtain ⟨T4,e4,b4,k4,c4,r4⟩:=qu H T3 0 _ x b3 hxm (by simp only [fits,decide_eq_true_eq]; rw [List.length_append]; omega)
  have c3:=c3.cln
  have c4:=c4.cln
  simp only [Nat.add_zero] at r3 r4
  simp only [go_sem,simprocAttr,hl,h1,h8,h63,h64,h65,hlt2,hbo,hld,r3,r4,hw]
  refine ⟨m - 1,by omega,_,j+1,T4,_,by omega,rfl,?_,by simp only [go_sem,simprocAttr,he,c3,c4],by simp only [go_sem,simprocAttr,hl],by simp only [go_sem,simprocAttr,hl,h1],by simp only [go_sem,simprocAttr,hl,h8],by simp only [go_sem,simprocAttr,hl,h63],by simp only [go_sem,simprocAttr,hl,h64],by simp only [go_sem,simprocAttr,hl]⟩
  rw [hsn]; simpa [List.append_assoc] using b4
 ·have hji:j=i - 1:=by omega
  have hfin:x0++(R.take j).flatMap (sep++·)=dQ sep L:=by rw [hji,← hRn,List.take_length,hLR]; rfl
  have hl2:=hlen j
  rw [hfin] at hbl hl2
  obtain ⟨T3,e3,c3,r3⟩:=o9 H T 0 _ hbl (by omega)
  simp only [Nat.add_zero] at r3
  simp only [go_sem,simprocAttr,hl,h1,h8,h63,h64,h65,hlt2,r3]
  exact aW rfl (bn he c3)
def ff (c:UInt8) (q:Bool):Bool:=decide (c.toNat=34∨c.toNat=92) || (!q && decide (c.toNat=46∨c.toNat=59∨c.toNat=40∨c.toNat=41∨c.toNat=64∨c.toNat=36))
theorem GX (q:Bool) (c:UInt8):gM q c=if ff c q=true then [92,c] else if (32 < c.toNat∧c.toNat < 127)∨(c.toNat=32∧q=true) then [c] else [92,UInt8.ofNat (48+c.toNat / 100),UInt8.ofNat (48+c.toNat / 10 % 10),UInt8.ofNat (48+c.toNat % 10)]:=by
 unfold gM ff
 by_cases h:c.toNat=34∨c.toNat=92
 ·rw [if_pos h,decide_eq_true h,Bool.true_or,if_pos rfl]
 ·rw [if_neg h,decide_eq_false h,Bool.false_or]
  by_cases h2:c.toNat=46∨c.toNat=59∨c.toNat=40∨c.toNat=41∨c.toNat=64∨c.toNat=36
  ·rw [if_pos h2,decide_eq_true h2]
   cases q
   ·rfl
   ·rw [if_pos rfl,if_neg (by simp),if_pos (.inl (by omega))]
  ·rw [if_neg h2,decide_eq_false h2,Bool.and_false]
   exact (if_neg (by simp)).symm
theorem BI (c:UInt8) (q:Bool) (H k):ag Tryz.prog 94 [.int .u8 c.toNat,.bool q] H k=k (.bool (ff c q),H,z0):=by
 refine ak (r:=(.bool (ff c q),H,z0)) ?_ k
 refine aa (n:=37) (rs:=[.tmp 4]) Tryz.func94 rfl rfl rfl ?_
 intro σ hl ha
 have h0:=ha 0 (by simp)
 have h1:=ha 1 (by simp)
 clear ha
 have hcl:=c.toNat_lt
 simp only [Option.getD_some,List.getElem?_cons_zero,List.getElem?_cons_succ] at h0 h1
 by_cases q34:c.toNat=34
 ·have g34:((c.toNat:Int) == 34)=true:=by simp; omega
  have g92:((c.toNat:Int) == 92)=false:=by simp; omega
  have g46:((c.toNat:Int) == 46)=false:=by simp; omega
  have g59:((c.toNat:Int) == 59)=false:=by simp; omega
  have g40:((c.toNat:Int) == 40)=false:=by simp; omega
  have g41:((c.toNat:Int) == 41)=false:=by simp; omega
  have g64:((c.toNat:Int) == 64)=false:=by simp; omega
  have g36:((c.toNat:Int) == 36)=false:=by simp; omega
  have hm:ff c q=true:=by unfold ff; rw [decide_eq_true (by omega),Bool.true_or]
  simp only [go_sem,simprocAttr,hl,h0,h1,g34,g92,g46,g59,g40,g41,g64,g36,hm]
 by_cases q92:c.toNat=92
 ·have g34:((c.toNat:Int) == 34)=false:=by simp; omega
  have g92:((c.toNat:Int) == 92)=true:=by simp; omega
  have g46:((c.toNat:Int) == 46)=false:=by simp; omega
  have g59:((c.toNat:Int) == 59)=false:=by simp; omega
  have g40:((c.toNat:Int) == 40)=false:=by simp; omega
  have g41:((c.toNat:Int) == 41)=false:=by simp; omega
  have g64:((c.toNat:Int) == 64)=false:=by simp; omega
  have g36:((c.toNat:Int) == 36)=false:=by simp; omega
  have hm:ff c q=true:=by unfold ff; rw [decide_eq_true (by omega),Bool.true_or]
  simp only [go_sem,simprocAttr,hl,h0,h1,g34,g92,g46,g59,g40,g41,g64,g36,hm]
 by_cases q46:c.toNat=46
 ·have g34:((c.toNat:Int) == 34)=false:=by simp; omega
  have g92:((c.toNat:Int) == 92)=false:=by simp; omega
  have g46:((c.toNat:Int) == 46)=true:=by simp; omega
  have g59:((c.toNat:Int) == 59)=false:=by simp; omega
  have g40:((c.toNat:Int) == 40)=false:=by simp; omega
  have g41:((c.toNat:Int) == 41)=false:=by simp; omega
  have g64:((c.toNat:Int) == 64)=false:=by simp; omega
  have g36:((c.toNat:Int) == 36)=false:=by simp; omega
  have hm:ff c q=!q:=by unfold ff; rw [decide_eq_false (by omega),decide_eq_true (by omega)]; simp
  cases q <;> simp only [go_sem,simprocAttr,hl,h0,h1,g34,g92,g46,g59,g40,g41,g64,g36,hm] <;> rfl
 by_cases q59:c.toNat=59
 ·have g34:((c.toNat:Int) == 34)=false:=by simp; omega
  have g92:((c.toNat:Int) == 92)=false:=by simp; omega
  have g46:((c.toNat:Int) == 46)=false:=by simp; omega
  have g59:((c.toNat:Int) == 59)=true:=by simp; omega
  have g40:((c.toNat:Int) == 40)=false:=by simp; omega
  have g41:((c.toNat:Int) == 41)=false:=by simp; omega
  have g64:((c.toNat:Int) == 64)=false:=by simp; omega
  have g36:((c.toNat:Int) == 36)=false:=by simp; omega
  have hm:ff c q=!q:=by unfold ff; rw [decide_eq_false (by omega),decide_eq_true (by omega)]; simp
  cases q <;> simp only [go_sem,simprocAttr,hl,h0,h1,g34,g92,g46,g59,g40,g41,g64,g36,hm] <;> rfl
 by_cases q40:c.toNat=40
 ·have g34:((c.toNat:Int) == 34)=false:=by simp; omega
  have g92:((c.toNat:Int) == 92)=false:=by simp; omega
  have g46:((c.toNat:Int) == 46)=false:=by simp; omega
  have g59:((c.toNat:Int) == 59)=false:=by simp; omega
  have g40:((c.toNat:Int) == 40)=true:=by simp; omega
  have g41:((c.toNat:Int) == 41)=false:=by simp; omega
  have g64:((c.toNat:Int) == 64)=false:=by simp; omega
  have g36:((c.toNat:Int) == 36)=false:=by simp; omega
  have hm:ff c q=!q:=by unfold ff; rw [decide_eq_false (by omega),decide_eq_true (by omega)]; simp
  cases q <;> simp only [go_sem,simprocAttr,hl,h0,h1,g34,g92,g46,g59,g40,g41,g64,g36,hm] <;> rfl
 by_cases q41:c.toNat=41
 ·have g34:((c.toNat:Int) == 34)=false:=by simp; omega
  have g92:((c.toNat:Int) == 92)=false:=by simp; omega
  have g46:((c.toNat:Int) == 46)=false:=by simp; omega
  have g59:((c.toNat:Int) == 59)=false:=by simp; omega
  have g40:((c.toNat:Int) == 40)=false:=by simp; omega
  have g41:((c.toNat:Int) == 41)=true:=by simp; omega
  have g64:((c.toNat:Int) == 64)=false:=by simp; omega
  have g36:((c.toNat:Int) == 36)=false:=by simp; omega
  have hm:ff c q=!q:=by unfold ff; rw [decide_eq_false (by omega),decide_eq_true (by omega)]; simp
  cases q <;> simp only [go_sem,simprocAttr,hl,h0,h1,g34,g92,g46,g59,g40,g41,g64,g36,hm] <;> rfl
 by_cases q64:c.toNat=64
 ·have g34:((c.toNat:Int) == 34)=false:=by simp; omega
  have g92:((c.toNat:Int) == 92)=false:=by simp; omega
  have g46:((c.toNat:Int) == 46)=false:=by simp; omega
  have g59:((c.toNat:Int) == 59)=false:=by simp; omega
  have g40:((c.toNat:Int) == 40)=false:=by simp; omega
  have g41:((c.toNat:Int) == 41)=false:=by simp; omega
  have g64:((c.toNat:Int) == 64)=true:=by simp; omega
  have g36:((c.toNat:Int) == 36)=false:=by simp; omega
  have hm:ff c q=!q:=by unfold ff; rw [decide_eq_false (by omega),decide_eq_true (by omega)]; simp
  cases q <;> simp only [go_sem,simprocAttr,hl,h0,h1,g34,g92,g46,g59,g40,g41,g64,g36,hm] <;> rfl
 by_cases q36:c.toNat=36
 ·have g34:((c.toNat:Int) == 34)=false:=by simp; omega
  have g92:((c.toNat:Int) == 92)=false:=by simp; omega
  have g46:((c.toNat:Int) == 46)=false:=by simp; omega
  have g59:((c.toNat:Int) == 59)=false:=by simp; omega
  have g40:((c.toNat:Int) == 40)=false:=by simp; omega
  have g41:((c.toNat:Int) == 41)=false:=by simp; omega
  have g64:((c.toNat:Int) == 64)=false:=by simp; omega
  have g36:((c.toNat:Int) == 36)=true:=by simp; omega
  have hm:ff c q=!q:=by unfold ff; rw [decide_eq_false (by omega),decide_eq_true (by omega)]; simp
  cases q <;> simp only [go_sem,simprocAttr,hl,h0,h1,g34,g92,g46,g59,g40,g41,g64,g36,hm] <;> rfl
 have g34:((c.toNat:Int) == 34)=false:=by simp; omega
 have g92:((c.toNat:Int) == 92)=false:=by simp; omega
 have g46:((c.toNat:Int) == 46)=false:=by simp; omega
 have g59:((c.toNat:Int) == 59)=false:=by simp; omega
 have g40:((c.toNat:Int) == 40)=false:=by simp; omega
 have g41:((c.toNat:Int) == 41)=false:=by simp; omega
 have g64:((c.toNat:Int) == 64)=false:=by simp; omega
 have g36:((c.toNat:Int) == 36)=false:=by simp; omega
 have hm:ff c q=false:=by unfold ff; rw [decide_eq_false (by omega),decide_eq_false (by omega)]; simp
 cases q <;> simp only [go_sem,simprocAttr,hl,h0,h1,g34,g92,g46,g59,g40,g41,g64,g36,hm]
theorem mJ (a b:Int) (H:Hp):aO Tryz.prog 71 2 [(0,.int .u8 a),(1,.int .u8 b)] H=some (.slice H.length 0 2 (.ex 2),H++[.cells [.int .u8 a,.int .u8 b] 5 .rw]):=by
 simp only [aO,dh,jq,Option.bind_some]
 rfl
theorem jA (a:Int) (H:Hp):aO Tryz.prog 71 1 [(0,.int .u8 a)] H=some (.slice H.length 0 1 (.ex 1),H++[.cells [.int .u8 a] 5 .rw]):=by
 simp only [aO,dh,jq,Option.bind_some]
 rfl
theorem Buf.more {n:Nat} {T:Hp} {v:AV} {bs:List UInt8} (h:Buf n T v bs) (l:Hp):Buf n (T++l) v bs:=by
 obtain h | ⟨q,m,rfl,hm⟩:=h
 ·exact .inl h
 ·exact .inr ⟨q,m,rfl,ah hm⟩
theorem Buf.rd {H T:Hp} {v:AV} {bs:List UInt8} (h:Buf H.length T v bs):Rd (H++T) v bs:=by
 obtain h | ⟨q,m,rfl,hm⟩:=h
 ·exact .inl h
 ·exact .inr ⟨_,_,_,[],[],5,.op 0 false,rfl,rfl,by rw [bX,hm]; simp,.inr ⟨rfl,rfl,0,false,rfl⟩⟩

set_option maxHeartbeats 2000000 in
theorem se (s:List UInt8) (q:Bool) (H k) (hs:s.length≤1000000):ag Tryz.prog 60 [.str s,.bool q] H k=k (.str (fJ q s),H,z0):=by
 refine ak (r:=(.str (fJ q s),H,z0)) ?_ k
 refine aa (n:=58) (rs:=[.tmp 4]) Tryz.func60 rfl rfl rfl ?_
 intro σ hl ha
 have h0:=ha 0 (by simp)
 have h1:=ha 1 (by simp)
 clear ha
 simp only [Option.getD_some,List.getElem?_cons_zero,List.getElem?_cons_succ] at h0 h1
 have hb0:Buf H.length [] .aI (fJ q (s.take 0)):=.inl ⟨rfl,rfl⟩
 simp only [go_sem,simprocAttr,hl,h0,h1]
 refine go_rounds (fun n st=>∃ σ i v T e,n+i=s.length∧st=⟨σ,H++T,e⟩∧Buf H.length T v (fJ q (s.take i))∧clean H.length e∧σ.length=58∧fr σ 0=.str s∧fr σ 1=.bool q∧fr σ 5=v∧fr σ 6=.int .i64 (i:Nat)) s.length
  ⟨_,0,_,[],_,rfl,by rw [List.append_nil],hb0,⟨rfl,rfl⟩,by simp only [go_sem,simprocAttr,hl],by simp only [go_sem,simprocAttr,hl,h0],by simp only [go_sem,simprocAttr,hl,h1],by simp only [go_sem,simprocAttr,hl],by simp only [go_sem,simprocAttr,hl]⟩ ?_
 rintro n _ ⟨σ,i,v,T,e,hn,rfl,hb,he,hl,h0,h1,h5,h6⟩
 by_cases hlt:i < s.length
 ·obtain ⟨c,hc⟩:∃ c,s[i]?=some c:=⟨_,List.getElem?_eq_getElem hlt⟩
  have hcl:=c.toNat_lt
  have hw:=aS (show i < 9223372036854775807 by omega)
  have hsn:=u7 (q:=q) hc
  have hE:=GX q c
  have hmk:=fun H k=>BI c q H k
  have hbl:(fJ q (s.take i)).length≤4000000:=by
   have:=fV q (s.take i)
   rw [List.length_take] at this; omega
  generalize hB:fJ q (s.take i)=B at *
  have hsc:=hb.scl
  cases hm:ff c q with
  | true =>
   rw [hm,if_pos rfl] at hE
   simp only [hm] at hmk
   obtain ⟨v',T2,e2,happ,_,c2,_,b2⟩:=(hb.more [.cells (u8s [92,c]) 5 .rw]).app [92,c] (by simp only [fits,decide_eq_true_eq,List.length_cons,List.length_nil]; omega)
   have happ:∀ kk,aF (c9 Tryz.prog (.slice 5 1 1) v ([.int .u8 92,.int .u8 c.toNat],2) (H++(T++[.cells [.int .u8 92,.int .u8 c.toNat] 5 .rw]))) kk=kk (v',H++T2,e2):=by
    simp only [u8s,List.map_cons,List.map_nil,List.length_cons,List.length_nil,← xd hcl,← w9 hcl,← w7 hcl] at happ
    exact happ
   simp only [go_sem,simprocAttr,hl,h0,h1,h5,h6,hc,hlt,hmk,cE,mJ,jA,happ,hw]
   refine ⟨n - 1,by omega,_,i+1,v',T2,_,by omega,rfl,by rw [hsn,hE]; exact b2,by simp only [go_sem,simprocAttr,he,c2],by simp only [go_sem,simprocAttr,hl],by simp only [go_sem,simprocAttr,hl,h0],by simp only [go_sem,simprocAttr,hl,h1],by simp only [go_sem,simprocAttr,hl],by simp only [go_sem,simprocAttr,hl]⟩
  | false =>
   rw [hm,if_neg (by simp)] at hE
   simp only [hm] at hmk
   by_cases hp:32 < c.toNat∧c.toNat < 127
   ·rw [if_pos (.inl hp)] at hE
    have p0:decide ((c.toNat:Int) > 32)=true:=by simp; omega
    have p1:decide ((c.toNat:Int) < 127)=true:=by simp; omega
    have p2:((c.toNat:Int) == 32)=false:=by simp; omega
    obtain ⟨v',T2,e2,happ,_,c2,_,b2⟩:=(hb.more [.cells (u8s [c]) 5 .rw]).app [c] (by simp only [fits,decide_eq_true_eq,List.length_cons,List.length_nil]; omega)
    have happ:∀ kk,aF (c9 Tryz.prog (.slice 5 1 1) v ([.int .u8 c.toNat],1) (H++(T++[.cells [.int .u8 c.toNat] 5 .rw]))) kk=kk (v',H++T2,e2):=by
     simp only [u8s,List.map_cons,List.map_nil,List.length_cons,List.length_nil,← xd hcl,← w9 hcl,← w7 hcl] at happ
     exact happ
    simp only [go_sem,simprocAttr,hl,h0,h1,h5,h6,hc,hlt,hmk,p0,p1,p2,cE,mJ,jA,happ,hw]
    refine ⟨n - 1,by omega,_,i+1,v',T2,_,by omega,rfl,by rw [hsn,hE]; exact b2,by simp only [go_sem,simprocAttr,he,c2],by simp only [go_sem,simprocAttr,hl],by simp only [go_sem,simprocAttr,hl,h0],by simp only [go_sem,simprocAttr,hl,h1],by simp only [go_sem,simprocAttr,hl],by simp only [go_sem,simprocAttr,hl]⟩
   by_cases hz:c.toNat=32
   ·have p0:decide ((c.toNat:Int) > 32)=false:=by simp; omega
    have p1:decide ((c.toNat:Int) < 127)=true:=by simp; omega
    have p2:((c.toNat:Int) == 32)=true:=by simp; omega
    cases q
    ·rw [if_neg (by simp; omega)] at hE
     obtain ⟨v',T2,e2,happ,_,c2,_,b2⟩:=(hb.more [.cells (u8s [92,UInt8.ofNat (48+c.toNat / 100),UInt8.ofNat (48+c.toNat / 10 % 10),UInt8.ofNat (48+c.toNat % 10)]) 5 .rw]).app [92,UInt8.ofNat (48+c.toNat / 100),UInt8.ofNat (48+c.toNat / 10 % 10),UInt8.ofNat (48+c.toNat % 10)] (by simp only [fits,decide_eq_true_eq,List.length_cons,List.length_nil]; omega)
     have happ:∀ kk,aF (c9 Tryz.prog (.slice 5 1 1) v ([.int .u8 92,.int .u8 (IntKind.u8.wrap (48+IntKind.u8.wrap ((c.toNat:Int).tdiv 100))),.int .u8 (IntKind.u8.wrap (48+(IntKind.u8.wrap ((c.toNat:Int).tdiv 10)).tmod 10)),.int .u8 (IntKind.u8.wrap (48+(c.toNat:Int).tmod 10))],4) (H++(T++[.cells [.int .u8 92,.int .u8 (IntKind.u8.wrap (48+IntKind.u8.wrap ((c.toNat:Int).tdiv 100))),.int .u8 (IntKind.u8.wrap (48+(IntKind.u8.wrap ((c.toNat:Int).tdiv 10)).tmod 10)),.int .u8 (IntKind.u8.wrap (48+(c.toNat:Int).tmod 10))] 5 .rw]))) kk=kk (v',H++T2,e2):=by
      simp only [u8s,List.map_cons,List.map_nil,List.length_cons,List.length_nil,← xd hcl,← w9 hcl,← w7 hcl] at happ
      exact happ
     simp only [go_sem,simprocAttr,hl,h0,h1,h5,h6,hc,hlt,hmk,p0,p1,p2,cE,mJ,jA,happ,hw]
     refine ⟨n - 1,by omega,_,i+1,v',T2,_,by omega,rfl,by rw [hsn,hE]; exact b2,by simp only [go_sem,simprocAttr,he,c2],by simp only [go_sem,simprocAttr,hl],by simp only [go_sem,simprocAttr,hl,h0],by simp only [go_sem,simprocAttr,hl,h1],by simp only [go_sem,simprocAttr,hl],by simp only [go_sem,simprocAttr,hl]⟩
    ·rw [if_pos (.inr ⟨hz,rfl⟩)] at hE
     obtain ⟨v',T2,e2,happ,_,c2,_,b2⟩:=(hb.more [.cells (u8s [c]) 5 .rw]).app [c] (by simp only [fits,decide_eq_true_eq,List.length_cons,List.length_nil]; omega)
     have happ:∀ kk,aF (c9 Tryz.prog (.slice 5 1 1) v ([.int .u8 c.toNat],1) (H++(T++[.cells [.int .u8 c.toNat] 5 .rw]))) kk=kk (v',H++T2,e2):=by
      simp only [u8s,List.map_cons,List.map_nil,List.length_cons,List.length_nil,← xd hcl,← w9 hcl,← w7 hcl] at happ
      exact happ
     simp only [go_sem,simprocAttr,hl,h0,h1,h5,h6,hc,hlt,hmk,p0,p1,p2,cE,mJ,jA,happ,hw]
     refine ⟨n - 1,by omega,_,i+1,v',T2,_,by omega,rfl,by rw [hsn,hE]; exact b2,by simp only [go_sem,simprocAttr,he,c2],by simp only [go_sem,simprocAttr,hl],by simp only [go_sem,simprocAttr,hl,h0],by simp only [go_sem,simprocAttr,hl,h1],by simp only [go_sem,simprocAttr,hl],by simp only [go_sem,simprocAttr,hl]⟩
   rw [if_neg (by omega)] at hE
   by_cases hlo:c.toNat < 32
   ·have p0:decide ((c.toNat:Int) > 32)=false:=by simp; omega
    have p1:decide ((c.toNat:Int) < 127)=true:=by simp; omega
    have p2:((c.toNat:Int) == 32)=false:=by simp; omega
    obtain ⟨v',T2,e2,happ,_,c2,_,b2⟩:=(hb.more [.cells (u8s [92,UInt8.ofNat (48+c.toNat / 100),UInt8.ofNat (48+c.toNat / 10 % 10),UInt8.ofNat (48+c.toNat % 10)]) 5 .rw]).app [92,UInt8.ofNat (48+c.toNat / 100),UInt8.ofNat (48+c.toNat / 10 % 10),UInt8.ofNat (48+c.toNat % 10)] (by simp only [fits,decide_eq_true_eq,List.length_cons,List.length_nil]; omega)
    have happ:∀ kk,aF (c9 Tryz.prog (.slice 5 1 1) v ([.int .u8 92,.int .u8 (IntKind.u8.wrap (48+IntKind.u8.wrap ((c.toNat:Int).tdiv 100))),.int .u8 (IntKind.u8.wrap (48+(IntKind.u8.wrap ((c.toNat:Int).tdiv 10)).tmod 10)),.int .u8 (IntKind.u8.wrap (48+(c.toNat:Int).tmod 10))],4) (H++(T++[.cells [.int .u8 92,.int .u8 (IntKind.u8.wrap (48+IntKind.u8.wrap ((c.toNat:Int).tdiv 100))),.int .u8 (IntKind.u8.wrap (48+(IntKind.u8.wrap ((c.toNat:Int).tdiv 10)).tmod 10)),.int .u8 (IntKind.u8.wrap (48+(c.toNat:Int).tmod 10))] 5 .rw]))) kk=kk (v',H++T2,e2):=by
     simp only [u8s,List.map_cons,List.map_nil,List.length_cons,List.length_nil,← xd hcl,← w9 hcl,← w7 hcl] at happ
     exact happ
    simp only [go_sem,simprocAttr,hl,h0,h1,h5,h6,hc,hlt,hmk,p0,p1,p2,cE,mJ,jA,happ,hw]
    refine ⟨n - 1,by omega,_,i+1,v',T2,_,by omega,rfl,by rw [hsn,hE]; exact b2,by simp only [go_sem,simprocAttr,he,c2],by simp only [go_sem,simprocAttr,hl],by simp only [go_sem,simprocAttr,hl,h0],by simp only [go_sem,simprocAttr,hl,h1],by simp only [go_sem,simprocAttr,hl],by simp only [go_sem,simprocAttr,hl]⟩
   ·have p0:decide ((c.toNat:Int) > 32)=true:=by simp; omega
    have p1:decide ((c.toNat:Int) < 127)=false:=by simp; omega
    have p2:((c.toNat:Int) == 32)=false:=by simp; omega
    obtain ⟨v',T2,e2,happ,_,c2,_,b2⟩:=(hb.more [.cells (u8s [92,UInt8.ofNat (48+c.toNat / 100),UInt8.ofNat (48+c.toNat / 10 % 10),UInt8.ofNat (48+c.toNat % 10)]) 5 .rw]).app [92,UInt8.ofNat (48+c.toNat / 100),UInt8.ofNat (48+c.toNat / 10 % 10),UInt8.ofNat (48+c.toNat % 10)] (by simp only [fits,decide_eq_true_eq,List.length_cons,List.length_nil]; omega)
    have happ:∀ kk,aF (c9 Tryz.prog (.slice 5 1 1) v ([.int .u8 92,.int .u8 (IntKind.u8.wrap (48+IntKind.u8.wrap ((c.toNat:Int).tdiv 100))),.int .u8 (IntKind.u8.wrap (48+(IntKind.u8.wrap ((c.toNat:Int).tdiv 10)).tmod 10)),.int .u8 (IntKind.u8.wrap (48+(c.toNat:Int).tmod 10))],4) (H++(T++[.cells [.int .u8 92,.int .u8 (IntKind.u8.wrap (48+IntKind.u8.wrap ((c.toNat:Int).tdiv 100))),.int .u8 (IntKind.u8.wrap (48+(IntKind.u8.wrap ((c.toNat:Int).tdiv 10)).tmod 10)),.int .u8 (IntKind.u8.wrap (48+(c.toNat:Int).tmod 10))] 5 .rw]))) kk=kk (v',H++T2,e2):=by
     simp only [u8s,List.map_cons,List.map_nil,List.length_cons,List.length_nil,← xd hcl,← w9 hcl,← w7 hcl] at happ
     exact happ
    simp only [go_sem,simprocAttr,hl,h0,h1,h5,h6,hc,hlt,hmk,p0,p1,p2,cE,mJ,jA,happ,hw]
    refine ⟨n - 1,by omega,_,i+1,v',T2,_,by omega,rfl,by rw [hsn,hE]; exact b2,by simp only [go_sem,simprocAttr,he,c2],by simp only [go_sem,simprocAttr,hl],by simp only [go_sem,simprocAttr,hl,h0],by simp only [go_sem,simprocAttr,hl,h1],by simp only [go_sem,simprocAttr,hl],by simp only [go_sem,simprocAttr,hl]⟩
 ·have hi:i=s.length:=by omega
  subst hi
  rw [List.take_length] at hb
  have hstr:=hb.rd.v.str
  simp only [go_sem,simprocAttr,hl,h0,h1,h5,h6,hlt,hstr]
  exact aW rfl he

theorem gy (s:List UInt8) (H k) (L:List (List UInt8)) (hn:nm s=some L) (hs:s.length≤cg):ag Tryz.prog 34 [.str s] H k=k (.str (eo s),H,z0):=by
 refine ak (r:=(.str (eo s),H,z0)) ?_ k
 refine aa (n:=32) (rs:=[.tmp 2]) Tryz.func34 rfl rfl rfl ?_
 intro σ hl ha
 have h0:=ha 0 (by simp)
 clear ha
 simp only [Option.getD_some,List.getElem?_cons_zero,List.getElem?_cons_succ] at h0
 obtain ⟨⟨bv,bT⟩,hb,hst⟩:=uC s H hs
 have hB:=hb L hn
 rw [hn] at hst
 simp only [Option.isSome_some] at hst
 obtain ⟨hL,h255⟩:=sr hn
 have hLs:gL s=L:=by rw [gL,hn]; rfl
 have htl:=vI L s hL
 have hll:=oG L
 obtain ⟨rfl,_,h3⟩ | ⟨h1,h2,m,rfl,h3⟩:=hB
 ·have hL0:L=[]:=List.length_eq_zero_iff.1 h3
  subst hL0
  have hs0:s=[0]:=by
   cases s with
   | nil=>cases hL
   | cons c t =>
    rw [fR] at hL
    split at hL
    ·rename_i hc
     split at hL
     ·rename_i ht
      have:c=0:=UInt8.toNat.inj (by simpa using hc)
      rw [this,List.length_eq_zero_iff.1 ht]
     ·cases hL
    ·split at hL
     ·cases hL
     ·rw [Option.map_eq_some_iff] at hL
      obtain ⟨_,_,h⟩:=hL
      cases h
  have hx:eo s=[46]:=if_pos hs0
  simp only [go_sem,simprocAttr,hl,h0,hst,hx]
 have hx:eo s=kU L:=by
  rw [eo,hLs,if_neg]
  rintro rfl
  have:L=[]:=by
   have:lab [0]=some []:=rfl
   rw [this] at hL; exact (Option.some.inj hL).symm
  rw [this] at h1; cases h1
 have hne:((L.length:Int) == 0)=false:=by simp; intro h; rw [h] at h1; cases h1
 have htx:=jN L
 have hg:(H++bT)[H.length+m]?=some (.cells (strs L) 9 (.op 0 false)):=by rw [bX,h3]
 simp only at hg h3
 rw [hx]
 simp only [go_sem,simprocAttr,hl,h0,hst,hne]
 refine go_rounds (fun n st=>∃ σ i,n+i=L.length∧st=⟨σ,H++bT,z0⟩∧σ.length=32∧fr σ 3=.slice (H.length+m) 0 L.length (.op 0)∧fr σ 5=.str (kU (L.take i))∧fr σ 6=.int .i64 (i:Nat)) L.length
  ⟨_,0,rfl,rfl,by simp only [go_sem,simprocAttr,hl],by simp only [go_sem,simprocAttr,hl],by simp only [go_sem,simprocAttr,hl]; rfl,by simp only [go_sem,simprocAttr,hl]⟩ ?_
 rintro n _ ⟨σ,i,hi,rfl,hl,h3',h5,h6⟩
 by_cases hlt:i < L.length
 ·obtain ⟨l,hli⟩:∃ l,L[i]?=some l:=⟨_,List.getElem?_eq_getElem hlt⟩
  obtain ⟨p1,p2⟩:=sG (s:=s) (by rw [hLs]; exact hli)
  have hsn:=uo hli
  have hbl:(kU (L.take i)).length≤1020:=by have:=jN (L.take i); have:=xK L i; omega
  have hw:=aS (show i < 9223372036854775807 by omega)
  have hld:=iK hli
  have hE:=fun H' k=>se l false H' k (by omega)
  have hEl:=fV false l
  have a1:=iF (a:=kU (L.take i)) (b:=fJ false l) (m:=1020) (n:=252) hbl (by omega) (by omega)
  have a2:=iF (a:=kU (L.take i)++fJ false l) (b:=[46]) (m:=1272) (n:=1) (by rw [List.length_append]; omega) (by simp) (by omega)
  simp only [go_sem,simprocAttr,hl,h3',h5,h6,hlt,hg,h3,hld,hE,a1,a2,hw]
  refine ⟨n - 1,by omega,_,i+1,by omega,rfl,by simp only [go_sem,simprocAttr,hl],by simp only [go_sem,simprocAttr,hl,h3'],?_,by simp only [go_sem,simprocAttr,hl]⟩
  simp only [go_sem,simprocAttr,hl,hsn]
 ·have hi:i=L.length:=by omega
  subst hi
  rw [List.take_length] at h5
  simp only [go_sem,simprocAttr,hl,h3',h5,h6,hlt]
def len8:List UInt8:=[0,1,2,2,3,3,3,3,4,4,4,4,4,4,4,4,5,5,5,5,5,5,5,5,5,5,5,5,5,5,5,5,6,6,6,6,6,6,6,6,6,6,6,6,6,6,6,6,6,6,6,6,6,6,6,6,6,6,6,6,6,6,6,6,7,7,7,7,7,7,7,7,7,7,7,7,7,7,7,7,7,7,7,7,7,7,7,7,7,7,7,7,7,7,7,7,7,7,7,7,7,7,7,7,7,7,7,7,7,7,7,7,7,7,7,7,7,7,7,7,7,7,7,7,7,7,7,7]++List.replicate 128 8
def bl8 (c:Nat):Nat:=((len8[c]?).getD 0).toNat
theorem tH {c:Nat} (h:c < 256):len8[c]?=some (UInt8.ofNat (bl8 c))∧bl8 c≤8:=by
 have:∀ c:Fin 256,len8[c.val]?=some (UInt8.ofNat (bl8 c.val))∧bl8 c.val≤8:=by decide +kernel
 exact this ⟨c,h⟩

theorem kM {L:List UInt8} {n:Nat} {f:UInt8→Prop} (hL:L=len8) (h:n < 256):aq (L[n]?) f=f (UInt8.ofNat (bl8 n)):=by
 subst hL
 rw [(tH h).1,aD]
theorem MV (b:Nat) (H k) (hb:b≤64):ag Tryz.prog 145 [.int .i64 (b:Nat)] H k=k (.int .i64 (b*78913 / 262144:Nat),H,z0):=by
 refine ak (r:=(.int .i64 (b*78913 / 262144:Nat),H,z0)) ?_ k
 refine aa (n:=6) (rs:=[.tmp 2]) Tryz.func145 rfl rfl rfl ?_
 intro σ hl ha
 have h0:=ha 0 (by simp)
 clear ha
 simp only [Option.getD_some,List.getElem?_cons_zero,List.getElem?_cons_succ] at h0
 have w1:IntKind.i64.wrap ((b:Int)*78913)=((b*78913:Nat):Int):=by rw [wrap_i64 (by omega)]; omega
 have w2:((b*78913:Nat):Int).fdiv (2 ^ min 18 64)=((b*78913 / 262144:Nat):Int):=by
  have:(2:Int) ^ min 18 64=262144:=by decide
  rw [this,Int.fdiv_eq_ediv_of_nonneg _ (by omega)]; omega
 simp only [go_sem,simprocAttr,hl,h0,w1,w2]
theorem Jl (b:Bool) (H k):ag Tryz.prog 147 [.bool b] H k=k (.int .i64 (if b=true then 1 else 0),H,z0):=by
 refine ak (r:=(.int .i64 (if b=true then 1 else 0),H,z0)) ?_ k
 refine aa (n:=4) (rs:=[.tmp 2]) Tryz.func147 rfl rfl rfl ?_
 intro σ hl ha
 have h0:=ha 0 (by simp)
 clear ha
 simp only [Option.getD_some,List.getElem?_cons_zero,List.getElem?_cons_succ] at h0
 cases b
 ·simp only [go_sem,simprocAttr,hl,h0]
 ·simp only [go_sem,simprocAttr,hl,h0]

theorem vk:∀ {c:Nat},c < 256→c < 2 ^ bl8 c∧(c≠0→2 ^ bl8 c≤2*c):=by
 intro c h
 have:∀ c:Fin 256,c.val < 2 ^ bl8 c.val∧(c.val≠0→2 ^ bl8 c.val≤2*c.val):=by decide +kernel
 exact this ⟨c,h⟩
def we:List AV:=[.int .u64 1,.int .u64 10,.int .u64 100,.int .u64 1000,.int .u64 10000,.int .u64 100000,.int .u64 1000000,.int .u64 10000000,.int .u64 100000000,.int .u64 1000000000,.int .u64 10000000000,.int .u64 100000000000,.int .u64 1000000000000,.int .u64 10000000000000,.int .u64 100000000000000,.int .u64 1000000000000000,.int .u64 10000000000000000,.int .u64 100000000000000000,.int .u64 1000000000000000000,.int .u64 10000000000000000000]
def Tb (H:Hp):Prop:=∃ e k,H[1]?=some (.cells we e k)
theorem Tb.old {H:Hp} (h:Tb H) (l:Hp):Tb (H++l):=by
 obtain ⟨e,k,h⟩:=h
 exact ⟨e,k,iC h⟩
theorem T8 {i:Nat} (h:i < 20):aN Tryz.prog 201 (.ptr 1 0) (.int .i64 (i:Nat))=some (.ptr 1 i):=by
 simp only [aN,Ey]
 rw [if_pos ⟨by omega,by omega⟩]
 simp
def jE:List UInt8:=(List.range 100).flatMap fun q=>[aC (q / 10),aC (q % 10)]
theorem uy {q:Nat} (h:q < 100):jE[2*q]?=some (aC (q / 10))∧jE[2*q+1]?=some (aC (q % 10)):=by
 have:∀ q:Fin 100,jE[2*q.val]?=some (aC (q.val / 10))∧jE[2*q.val+1]?=some (aC (q.val % 10)):=by decide +kernel
 exact this ⟨q,h⟩
theorem aQ {L:List UInt8} {q:Nat} {f:UInt8→Prop} (hL:L=jE) (h:q < 100):aq (L[2*q]?) f=f (aC (q / 10)):=by
 subst hL
 rw [(uy h).1,aD]
theorem aP {L:List UInt8} {q:Nat} {f:UInt8→Prop} (hL:L=jE) (h:q < 100):aq (L[2*q+1]?) f=f (aC (q % 10)):=by
 subst hL
 rw [(uy h).2,aD]
theorem P7 {q:Nat} (h:q < 10):(aC q).toNat=48+q:=by
 have:∀ q:Fin 10,(aC q.val).toNat=48+q.val:=by decide
 exact this ⟨q,h⟩
theorem lM {q:Nat} (h:q < 10):IntKind.u8.wrap (IntKind.u32.wrap (48+(q:Int)))=((aC q).toNat:Int):=by
 rw [P7 h,wrap_u32 (by omega),wrap_u8 (by omega)]; omega
theorem KF {n:Nat} (h:n < 10):((([48,49,50,51,52,53,54,55,56,57,97,98,99,100,101,102,103,104,105,106,107,108,109,110,111,112,113,114,115,116,117,118,119,120,121,122]:List UInt8).drop n).take 1)=[aC n]:=by
 have:∀ n:Fin 10,((([48,49,50,51,52,53,54,55,56,57,97,98,99,100,101,102,103,104,105,106,107,108,109,110,111,112,113,114,115,116,117,118,119,120,121,122]:List UInt8).drop n.val).take 1)=[aC n.val]:=by decide
 exact this ⟨n,h⟩
theorem FR {L:List UInt8} {n:Nat} (hL:L=jE) (h:n < 100):(L.drop (2*n)).take 2=[aC (n / 10),aC (n % 10)]:=by
 subst hL
 have:∀ n:Fin 100,(jE.drop (2*n.val)).take 2=[aC (n.val / 10),aC (n.val % 10)]:=by decide +kernel
 exact this ⟨n,h⟩
theorem ux {L:List UInt8} {n:Nat} (hL:L=jE) (h:n < 100):2*n+2≤L.length:=by
 subst hL
 have:jE.length=200:=by decide +kernel
 omega
theorem cW {n:Nat} (h:n < 10):bF n=[aC n]:=by unfold bF; rw [if_pos h]
theorem gC {n:Nat} (h:¬ n < 10):bF n=bF (n / 10)++[aC (n % 10)]:=by rw [bF]; rw [if_neg h]
theorem pJ (n:Nat) (H k) (hn:n < 100):ag Tryz.prog 120 [.int .i64 (n:Nat)] H k=k (.str (bF n),H,z0):=by
 refine ak (r:=(.str (bF n),H,z0)) ?_ k
 refine aa (n:=15) (rs:=[.tmp 2]) Tryz.func120 rfl rfl rfl ?_
 intro σ hl ha
 have h0:=ha 0 (by simp)
 clear ha
 simp only [Option.getD_some,List.getElem?_cons_zero,List.getElem?_cons_succ] at h0
 by_cases h10:n < 10
 ·have g:decide ((n:Int) < 10)=true:=by simp; omega
  have q3:IntKind.i64.wrap ((n:Int)+1)=((n+1:Nat):Int):=by rw [wrap_i64 (by omega)]; omega
  have s1:=KF (n:=n) (by omega)
  have d1:n+1 - n=1:=by omega
  simp only [go_sem,simprocAttr,hl,h0,g,q3,s1,d1]
  exact ⟨by omega,by rw [cW h10]⟩
 ·have g:decide ((n:Int) < 10)=false:=by simp; omega
  have q1:IntKind.i64.wrap ((n:Int)*2)=((2*n:Nat):Int):=by rw [wrap_i64 (by omega)]; omega
  have q3:IntKind.i64.wrap (((2*n:Nat):Int)+2)=((2*n+2:Nat):Int):=by rw [wrap_i64 (by omega)]; omega
  have d1:2*n+2 - 2*n=2:=by omega
  simp only [go_sem,simprocAttr,hl,h0,g,q1,q3,d1]
  refine ⟨?_,Pn ?_⟩
  ·first | exact ux (by kernel_rfl) hn | exact Int.ofNat_le.2 (ux (by kernel_rfl) hn)
  ·rw [FR (by kernel_rfl) hn,gC h10,cW (by omega)]
   rfl

theorem oT {n:Nat} (h:10≤n) (h':n < 100):bF n=[aC (n / 10),aC (n % 10)]:=by rw [gC (by omega),cW (by omega)]; rfl
theorem cr {n:Nat} (h:100≤n):bF n=bF (n / 100)++[aC (n % 100 / 10),aC (n % 10)]:=by
 rw [gC (show ¬ n < 10 by omega),gC (show ¬ n / 10 < 10 by omega),List.append_assoc,Nat.div_div_eq_div_mul]
 have:n / 10 % 10=n % 100 / 10:=by omega
 rw [this]; rfl
theorem br {a b:UInt8} {s t:List UInt8} (h:a=b) (h':s=t):a::s=b::t:=by rw [h,h']
theorem dL {x c:Nat} (hc:0 < c):(x:Int).tmod (c:Int)=((x % c:Nat):Int):=by rw [Int.tmod_eq_emod_of_nonneg (by omega)]; omega
theorem ej {x c:Nat} (hx:x < 4294967296) (hc:0 < c):IntKind.u32.wrap ((x:Int).tdiv (c:Int))=((x / c:Nat):Int):=by
 have:x / c≤x:=Nat.div_le_self x c
 have e:(x:Int) / (c:Int)=((x / c:Nat):Int):=(Int.natCast_ediv x c).symm
 rw [Int.tdiv_eq_ediv_of_nonneg (by omega),e]
 generalize x / c=y at *
 rw [wrap_u32 (by omega)]
theorem FM {x c:Nat} (hx:x < 18446744073709551616) (hc:0 < c):IntKind.u64.wrap ((x:Int).tdiv (c:Int))=((x / c:Nat):Int):=by
 have:x / c≤x:=Nat.div_le_self x c
 have e:(x:Int) / (c:Int)=((x / c:Nat):Int):=(Int.natCast_ediv x c).symm
 rw [Int.tdiv_eq_ediv_of_nonneg (by omega),e]
 generalize x / c=y at *
 rw [wrap_u64 (by omega)]
theorem w2x {x:Nat} (hx:x < 100):IntKind.u32.wrap ((x:Int)*2)=((2*x:Nat):Int):=by rw [wrap_u32 (by omega)]; omega
theorem w2y {x:Nat} (hx:x < 100):IntKind.u32.wrap (((2*x:Nat):Int)+1)=((2*x+1:Nat):Int):=by rw [wrap_u32 (by omega)]; omega

theorem QY {n:Nat} (h1:100≤n) (h:n < 1000):bF n=[aC (n / 100),aC ((n % 100) / 10),aC ((n % 100) % 10)]:=by
 rw [cr (by omega),cW (by omega)]
 simp only [List.cons_append,List.nil_append]
 exact br (congrArg aC (by omega)) (br (congrArg aC (by omega)) (br (congrArg aC (by omega)) (rfl)))
theorem S4 (n:Nat) (H k) (h1:100≤n) (hn:n < 1000):ag Tryz.prog 122 [.slice H.length 0 3 (.ex 24),.int .u64 (n:Nat)] (H++[.cells [.int .u8 0,.int .u8 0,.int .u8 0,.int .u8 0,.int .u8 0,.int .u8 0,.int .u8 0,.int .u8 0,.int .u8 0,.int .u8 0,.int .u8 0,.int .u8 0,.int .u8 0,.int .u8 0,.int .u8 0,.int .u8 0,.int .u8 0,.int .u8 0,.int .u8 0,.int .u8 0,.int .u8 0,.int .u8 0,.int .u8 0,.int .u8 0] 177 .rw]) k =
  k (.tuple [],H++[.cells (.int .u8 (aC (n / 100)).toNat::.int .u8 (aC ((n % 100) / 10)).toNat::.int .u8 (aC ((n % 100) % 10)).toNat::[.int .u8 0,.int .u8 0,.int .u8 0,.int .u8 0,.int .u8 0,.int .u8 0,.int .u8 0,.int .u8 0,.int .u8 0,.int .u8 0,.int .u8 0,.int .u8 0,.int .u8 0,.int .u8 0,.int .u8 0,.int .u8 0,.int .u8 0,.int .u8 0,.int .u8 0,.int .u8 0,.int .u8 0]) 177 .rw],⟨none,some H.length⟩):=by
 refine ak ?_ k
 refine aa (n:=167) (rs:=[]) Tryz.func122 rfl rfl rfl ?_
 intro σ hl ha
 have h0:=ha 0 (by simp)
 have h1':=ha 1 (by simp)
 clear ha
 simp only [Option.getD_some,List.getElem?_cons_zero,List.getElem?_cons_succ] at h0 h1'
 have v0:IntKind.u32.wrap (n:Int)=(n:Int):=wrap_u32 (by omega)
 have f1:(n:Int).tmod 100=((n % 100:Nat):Int):=dL (by decide)
 have f2:IntKind.u32.wrap ((n:Int).tdiv 100)=((n / 100:Nat):Int):=ej (by omega) (by decide)
 have f3:IntKind.u32.wrap (((n % 100:Nat):Int)*2)=((2*(n % 100):Nat):Int):=w2x (by omega)
 have f4:IntKind.u32.wrap (((2*(n % 100):Nat):Int)+1)=((2*(n % 100)+1:Nat):Int):=w2y (by omega)
 have g1:IntKind.u8.wrap (IntKind.u32.wrap (48+((n / 100:Nat):Int)))=((aC (n / 100)).toNat:Int):=lM (by omega)
 simp only [go_sem,simprocAttr,hl,h0,h1',v0,f1,f2,f3,f4,g1]
 rw [go_loop]
 simp only [go_sem,simprocAttr,hl,h0,h1',v0,f1,f2,f3,f4,g1]
 refine ay au (by kernel_rfl) ?_
 simp only [go_sem,simprocAttr,hl,h0,h1',v0,f1,f2,f3,f4,g1]
 rw [aP (by kernel_rfl) (show n % 100 < 100 by omega)]
 simp only [go_sem,simprocAttr,hl,h0,h1',v0,f1,f2,f3,f4,g1]
 rw [aQ (by kernel_rfl) (show n % 100 < 100 by omega)]
 simp only [go_sem,simprocAttr,hl,h0,h1',v0,f1,f2,f3,f4,g1]
 refine ⟨(by kernel_rfl:bN _ _ _=true),?_⟩
 try simp only [go_sem,simprocAttr,hl,h0,h1',v0,f1,f2,f3,f4,g1]
 rw [cp rfl (by simp),dP (by omega)]

theorem QX {n:Nat} (h1:1000≤n) (h:n < 10000):bF n=[aC ((n % 10000 / 100) / 10),aC ((n % 10000 / 100) % 10),aC ((n % 10000 % 100) / 10),aC ((n % 10000 % 100) % 10)]:=by
 rw [cr (by omega),oT (by omega) (by omega)]
 simp only [List.cons_append,List.nil_append]
 exact br (congrArg aC (by omega)) (br (congrArg aC (by omega)) (br (congrArg aC (by omega)) (br (congrArg aC (by omega)) (rfl))))
theorem S3 (n:Nat) (H k) (h1:1000≤n) (hn:n < 10000):ag Tryz.prog 122 [.slice H.length 0 4 (.ex 24),.int .u64 (n:Nat)] (H++[.cells [.int .u8 0,.int .u8 0,.int .u8 0,.int .u8 0,.int .u8 0,.int .u8 0,.int .u8 0,.int .u8 0,.int .u8 0,.int .u8 0,.int .u8 0,.int .u8 0,.int .u8 0,.int .u8 0,.int .u8 0,.int .u8 0,.int .u8 0,.int .u8 0,.int .u8 0,.int .u8 0,.int .u8 0,.int .u8 0,.int .u8 0,.int .u8 0] 177 .rw]) k =
  k (.tuple [],H++[.cells (.int .u8 (aC ((n % 10000 / 100) / 10)).toNat::.int .u8 (aC ((n % 10000 / 100) % 10)).toNat::.int .u8 (aC ((n % 10000 % 100) / 10)).toNat::.int .u8 (aC ((n % 10000 % 100) % 10)).toNat::[.int .u8 0,.int .u8 0,.int .u8 0,.int .u8 0,.int .u8 0,.int .u8 0,.int .u8 0,.int .u8 0,.int .u8 0,.int .u8 0,.int .u8 0,.int .u8 0,.int .u8 0,.int .u8 0,.int .u8 0,.int .u8 0,.int .u8 0,.int .u8 0,.int .u8 0,.int .u8 0]) 177 .rw],⟨none,some H.length⟩):=by
 refine ak ?_ k
 refine aa (n:=167) (rs:=[]) Tryz.func122 rfl rfl rfl ?_
 intro σ hl ha
 have h0:=ha 0 (by simp)
 have h1':=ha 1 (by simp)
 clear ha
 simp only [Option.getD_some,List.getElem?_cons_zero,List.getElem?_cons_succ] at h0 h1'
 have v0:IntKind.u32.wrap (n:Int)=(n:Int):=wrap_u32 (by omega)
 have d1:(n:Int).tmod 10000=((n % 10000:Nat):Int):=dL (by decide)
 have d2:IntKind.u32.wrap ((n:Int).tdiv 10000)=((n / 10000:Nat):Int):=ej (by omega) (by decide)
 have e1:IntKind.u32.wrap (((n % 10000:Nat):Int).tdiv 100)=((n % 10000 / 100:Nat):Int):=ej (by omega) (by decide)
 have e2:((n % 10000:Nat):Int).tmod 100=((n % 10000 % 100:Nat):Int):=dL (by decide)
 have e3:IntKind.u32.wrap (((n % 10000 / 100:Nat):Int)*2)=((2*(n % 10000 / 100):Nat):Int):=w2x (by omega)
 have e4:IntKind.u32.wrap (((n % 10000 % 100:Nat):Int)*2)=((2*(n % 10000 % 100):Nat):Int):=w2x (by omega)
 have e5:IntKind.u32.wrap (((2*(n % 10000 / 100):Nat):Int)+1)=((2*(n % 10000 / 100)+1:Nat):Int):=w2y (by omega)
 have e6:IntKind.u32.wrap (((2*(n % 10000 % 100):Nat):Int)+1)=((2*(n % 10000 % 100)+1:Nat):Int):=w2y (by omega)
 simp only [go_sem,simprocAttr,hl,h0,h1',v0,d1,d2,e1,e2,e3,e4,e5,e6]
 rw [go_loop]
 simp only [go_sem,simprocAttr,hl,h0,h1',v0,d1,d2,e1,e2,e3,e4,e5,e6]
 refine ay au (by kernel_rfl) ?_
 simp only [go_sem,simprocAttr,hl,h0,h1',v0,d1,d2,e1,e2,e3,e4,e5,e6]
 rw [aP (by kernel_rfl) (show n % 10000 % 100 < 100 by omega)]
 simp only [go_sem,simprocAttr,hl,h0,h1',v0,d1,d2,e1,e2,e3,e4,e5,e6]
 rw [aQ (by kernel_rfl) (show n % 10000 % 100 < 100 by omega)]
 simp only [go_sem,simprocAttr,hl,h0,h1',v0,d1,d2,e1,e2,e3,e4,e5,e6]
 refine ⟨(by kernel_rfl:bN _ _ _=true),?_⟩
 try simp only [go_sem,simprocAttr,hl,h0,h1',v0,d1,d2,e1,e2,e3,e4,e5,e6]
 refine ay au (by kernel_rfl) ?_
 simp only [go_sem,simprocAttr,hl,h0,h1',v0,d1,d2,e1,e2,e3,e4,e5,e6]
 rw [aP (by kernel_rfl) (show n % 10000 / 100 < 100 by omega)]
 simp only [go_sem,simprocAttr,hl,h0,h1',v0,d1,d2,e1,e2,e3,e4,e5,e6]
 rw [aQ (by kernel_rfl) (show n % 10000 / 100 < 100 by omega)]
 simp only [go_sem,simprocAttr,hl,h0,h1',v0,d1,d2,e1,e2,e3,e4,e5,e6]
 refine ⟨(by kernel_rfl:bN _ _ _=true),?_⟩
 try simp only [go_sem,simprocAttr,hl,h0,h1',v0,d1,d2,e1,e2,e3,e4,e5,e6]
 rw [cp rfl (by simp),dP (by omega)]

theorem QW {n:Nat} (h1:10000≤n) (h:n < 100000):bF n=[aC (n / 10000),aC ((n % 10000 / 100) / 10),aC ((n % 10000 / 100) % 10),aC ((n % 10000 % 100) / 10),aC ((n % 10000 % 100) % 10)]:=by
 rw [cr (by omega),cr (by omega),cW (by omega)]
 simp only [List.cons_append,List.nil_append]
 exact br (congrArg aC (by omega)) (br (congrArg aC (by omega)) (br (congrArg aC (by omega)) (br (congrArg aC (by omega)) (br (congrArg aC (by omega)) (rfl)))))
theorem S2 (n:Nat) (H k) (h1:10000≤n) (hn:n < 100000):ag Tryz.prog 122 [.slice H.length 0 5 (.ex 24),.int .u64 (n:Nat)] (H++[.cells [.int .u8 0,.int .u8 0,.int .u8 0,.int .u8 0,.int .u8 0,.int .u8 0,.int .u8 0,.int .u8 0,.int .u8 0,.int .u8 0,.int .u8 0,.int .u8 0,.int .u8 0,.int .u8 0,.int .u8 0,.int .u8 0,.int .u8 0,.int .u8 0,.int .u8 0,.int .u8 0,.int .u8 0,.int .u8 0,.int .u8 0,.int .u8 0] 177 .rw]) k =
  k (.tuple [],H++[.cells (.int .u8 (aC (n / 10000)).toNat::.int .u8 (aC ((n % 10000 / 100) / 10)).toNat::.int .u8 (aC ((n % 10000 / 100) % 10)).toNat::.int .u8 (aC ((n % 10000 % 100) / 10)).toNat::.int .u8 (aC ((n % 10000 % 100) % 10)).toNat::[.int .u8 0,.int .u8 0,.int .u8 0,.int .u8 0,.int .u8 0,.int .u8 0,.int .u8 0,.int .u8 0,.int .u8 0,.int .u8 0,.int .u8 0,.int .u8 0,.int .u8 0,.int .u8 0,.int .u8 0,.int .u8 0,.int .u8 0,.int .u8 0,.int .u8 0]) 177 .rw],⟨none,some H.length⟩):=by
 refine ak ?_ k
 refine aa (n:=167) (rs:=[]) Tryz.func122 rfl rfl rfl ?_
 intro σ hl ha
 have h0:=ha 0 (by simp)
 have h1':=ha 1 (by simp)
 clear ha
 simp only [Option.getD_some,List.getElem?_cons_zero,List.getElem?_cons_succ] at h0 h1'
 have v0:IntKind.u32.wrap (n:Int)=(n:Int):=wrap_u32 (by omega)
 have d1:(n:Int).tmod 10000=((n % 10000:Nat):Int):=dL (by decide)
 have d2:IntKind.u32.wrap ((n:Int).tdiv 10000)=((n / 10000:Nat):Int):=ej (by omega) (by decide)
 have e1:IntKind.u32.wrap (((n % 10000:Nat):Int).tdiv 100)=((n % 10000 / 100:Nat):Int):=ej (by omega) (by decide)
 have e2:((n % 10000:Nat):Int).tmod 100=((n % 10000 % 100:Nat):Int):=dL (by decide)
 have e3:IntKind.u32.wrap (((n % 10000 / 100:Nat):Int)*2)=((2*(n % 10000 / 100):Nat):Int):=w2x (by omega)
 have e4:IntKind.u32.wrap (((n % 10000 % 100:Nat):Int)*2)=((2*(n % 10000 % 100):Nat):Int):=w2x (by omega)
 have e5:IntKind.u32.wrap (((2*(n % 10000 / 100):Nat):Int)+1)=((2*(n % 10000 / 100)+1:Nat):Int):=w2y (by omega)
 have e6:IntKind.u32.wrap (((2*(n % 10000 % 100):Nat):Int)+1)=((2*(n % 10000 % 100)+1:Nat):Int):=w2y (by omega)
 have g1:IntKind.u8.wrap (IntKind.u32.wrap (48+((n / 10000:Nat):Int)))=((aC (n / 10000)).toNat:Int):=lM (by omega)
 simp only [go_sem,simprocAttr,hl,h0,h1',v0,d1,d2,e1,e2,e3,e4,e5,e6,g1]
 rw [go_loop]
 simp only [go_sem,simprocAttr,hl,h0,h1',v0,d1,d2,e1,e2,e3,e4,e5,e6,g1]
 refine ay au (by kernel_rfl) ?_
 simp only [go_sem,simprocAttr,hl,h0,h1',v0,d1,d2,e1,e2,e3,e4,e5,e6,g1]
 rw [aP (by kernel_rfl) (show n % 10000 % 100 < 100 by omega)]
 simp only [go_sem,simprocAttr,hl,h0,h1',v0,d1,d2,e1,e2,e3,e4,e5,e6,g1]
 rw [aQ (by kernel_rfl) (show n % 10000 % 100 < 100 by omega)]
 simp only [go_sem,simprocAttr,hl,h0,h1',v0,d1,d2,e1,e2,e3,e4,e5,e6,g1]
 refine ⟨(by kernel_rfl:bN _ _ _=true),?_⟩
 try simp only [go_sem,simprocAttr,hl,h0,h1',v0,d1,d2,e1,e2,e3,e4,e5,e6,g1]
 refine ay au (by kernel_rfl) ?_
 simp only [go_sem,simprocAttr,hl,h0,h1',v0,d1,d2,e1,e2,e3,e4,e5,e6,g1]
 rw [aP (by kernel_rfl) (show n % 10000 / 100 < 100 by omega)]
 simp only [go_sem,simprocAttr,hl,h0,h1',v0,d1,d2,e1,e2,e3,e4,e5,e6,g1]
 rw [aQ (by kernel_rfl) (show n % 10000 / 100 < 100 by omega)]
 simp only [go_sem,simprocAttr,hl,h0,h1',v0,d1,d2,e1,e2,e3,e4,e5,e6,g1]
 refine ⟨(by kernel_rfl:bN _ _ _=true),?_⟩
 try simp only [go_sem,simprocAttr,hl,h0,h1',v0,d1,d2,e1,e2,e3,e4,e5,e6,g1]
 rw [cp rfl (by simp),dP (by omega)]

theorem Tl {n:Nat} (h1:100000≤n) (h:n < 1000000):bF n=[aC ((n / 10000 % 100) / 10),aC ((n / 10000 % 100) % 10),aC ((n % 10000 / 100) / 10),aC ((n % 10000 / 100) % 10),aC ((n % 10000 % 100) / 10),aC ((n % 10000 % 100) % 10)]:=by
 rw [cr (by omega),cr (by omega),oT (by omega) (by omega)]
 simp only [List.cons_append,List.nil_append]
 exact br (congrArg aC (by omega)) (br (congrArg aC (by omega)) (br (congrArg aC (by omega)) (br (congrArg aC (by omega)) (br (congrArg aC (by omega)) (br (congrArg aC (by omega)) (rfl))))))
theorem S1 (n:Nat) (H k) (h1:100000≤n) (hn:n < 1000000):ag Tryz.prog 122 [.slice H.length 0 6 (.ex 24),.int .u64 (n:Nat)] (H++[.cells [.int .u8 0,.int .u8 0,.int .u8 0,.int .u8 0,.int .u8 0,.int .u8 0,.int .u8 0,.int .u8 0,.int .u8 0,.int .u8 0,.int .u8 0,.int .u8 0,.int .u8 0,.int .u8 0,.int .u8 0,.int .u8 0,.int .u8 0,.int .u8 0,.int .u8 0,.int .u8 0,.int .u8 0,.int .u8 0,.int .u8 0,.int .u8 0] 177 .rw]) k =
  k (.tuple [],H++[.cells (.int .u8 (aC ((n / 10000 % 100) / 10)).toNat::.int .u8 (aC ((n / 10000 % 100) % 10)).toNat::.int .u8 (aC ((n % 10000 / 100) / 10)).toNat::.int .u8 (aC ((n % 10000 / 100) % 10)).toNat::.int .u8 (aC ((n % 10000 % 100) / 10)).toNat::.int .u8 (aC ((n % 10000 % 100) % 10)).toNat::[.int .u8 0,.int .u8 0,.int .u8 0,.int .u8 0,.int .u8 0,.int .u8 0,.int .u8 0,.int .u8 0,.int .u8 0,.int .u8 0,.int .u8 0,.int .u8 0,.int .u8 0,.int .u8 0,.int .u8 0,.int .u8 0,.int .u8 0,.int .u8 0]) 177 .rw],⟨none,some H.length⟩):=by
 refine ak ?_ k
 refine aa (n:=167) (rs:=[]) Tryz.func122 rfl rfl rfl ?_
 intro σ hl ha
 have h0:=ha 0 (by simp)
 have h1':=ha 1 (by simp)
 clear ha
 simp only [Option.getD_some,List.getElem?_cons_zero,List.getElem?_cons_succ] at h0 h1'
 have v0:IntKind.u32.wrap (n:Int)=(n:Int):=wrap_u32 (by omega)
 have d1:(n:Int).tmod 10000=((n % 10000:Nat):Int):=dL (by decide)
 have d2:IntKind.u32.wrap ((n:Int).tdiv 10000)=((n / 10000:Nat):Int):=ej (by omega) (by decide)
 have e1:IntKind.u32.wrap (((n % 10000:Nat):Int).tdiv 100)=((n % 10000 / 100:Nat):Int):=ej (by omega) (by decide)
 have e2:((n % 10000:Nat):Int).tmod 100=((n % 10000 % 100:Nat):Int):=dL (by decide)
 have e3:IntKind.u32.wrap (((n % 10000 / 100:Nat):Int)*2)=((2*(n % 10000 / 100):Nat):Int):=w2x (by omega)
 have e4:IntKind.u32.wrap (((n % 10000 % 100:Nat):Int)*2)=((2*(n % 10000 % 100):Nat):Int):=w2x (by omega)
 have e5:IntKind.u32.wrap (((2*(n % 10000 / 100):Nat):Int)+1)=((2*(n % 10000 / 100)+1:Nat):Int):=w2y (by omega)
 have e6:IntKind.u32.wrap (((2*(n % 10000 % 100):Nat):Int)+1)=((2*(n % 10000 % 100)+1:Nat):Int):=w2y (by omega)
 have f1:((n / 10000:Nat):Int).tmod 100=((n / 10000 % 100:Nat):Int):=dL (by decide)
 have f2:IntKind.u32.wrap (((n / 10000:Nat):Int).tdiv 100)=((n / 10000 / 100:Nat):Int):=ej (by omega) (by decide)
 have f3:IntKind.u32.wrap (((n / 10000 % 100:Nat):Int)*2)=((2*(n / 10000 % 100):Nat):Int):=w2x (by omega)
 have f4:IntKind.u32.wrap (((2*(n / 10000 % 100):Nat):Int)+1)=((2*(n / 10000 % 100)+1:Nat):Int):=w2y (by omega)
 simp only [go_sem,simprocAttr,hl,h0,h1',v0,d1,d2,e1,e2,e3,e4,e5,e6,f1,f2,f3,f4]
 rw [go_loop]
 simp only [go_sem,simprocAttr,hl,h0,h1',v0,d1,d2,e1,e2,e3,e4,e5,e6,f1,f2,f3,f4]
 refine ay au (by kernel_rfl) ?_
 simp only [go_sem,simprocAttr,hl,h0,h1',v0,d1,d2,e1,e2,e3,e4,e5,e6,f1,f2,f3,f4]
 rw [aP (by kernel_rfl) (show n % 10000 % 100 < 100 by omega)]
 simp only [go_sem,simprocAttr,hl,h0,h1',v0,d1,d2,e1,e2,e3,e4,e5,e6,f1,f2,f3,f4]
 rw [aQ (by kernel_rfl) (show n % 10000 % 100 < 100 by omega)]
 simp only [go_sem,simprocAttr,hl,h0,h1',v0,d1,d2,e1,e2,e3,e4,e5,e6,f1,f2,f3,f4]
 refine ⟨(by kernel_rfl:bN _ _ _=true),?_⟩
 try simp only [go_sem,simprocAttr,hl,h0,h1',v0,d1,d2,e1,e2,e3,e4,e5,e6,f1,f2,f3,f4]
 refine ay au (by kernel_rfl) ?_
 simp only [go_sem,simprocAttr,hl,h0,h1',v0,d1,d2,e1,e2,e3,e4,e5,e6,f1,f2,f3,f4]
 rw [aP (by kernel_rfl) (show n % 10000 / 100 < 100 by omega)]
 simp only [go_sem,simprocAttr,hl,h0,h1',v0,d1,d2,e1,e2,e3,e4,e5,e6,f1,f2,f3,f4]
 rw [aQ (by kernel_rfl) (show n % 10000 / 100 < 100 by omega)]
 simp only [go_sem,simprocAttr,hl,h0,h1',v0,d1,d2,e1,e2,e3,e4,e5,e6,f1,f2,f3,f4]
 refine ⟨(by kernel_rfl:bN _ _ _=true),?_⟩
 try simp only [go_sem,simprocAttr,hl,h0,h1',v0,d1,d2,e1,e2,e3,e4,e5,e6,f1,f2,f3,f4]
 refine ay au (by kernel_rfl) ?_
 simp only [go_sem,simprocAttr,hl,h0,h1',v0,d1,d2,e1,e2,e3,e4,e5,e6,f1,f2,f3,f4]
 rw [aP (by kernel_rfl) (show n / 10000 % 100 < 100 by omega)]
 simp only [go_sem,simprocAttr,hl,h0,h1',v0,d1,d2,e1,e2,e3,e4,e5,e6,f1,f2,f3,f4]
 rw [aQ (by kernel_rfl) (show n / 10000 % 100 < 100 by omega)]
 simp only [go_sem,simprocAttr,hl,h0,h1',v0,d1,d2,e1,e2,e3,e4,e5,e6,f1,f2,f3,f4]
 refine ⟨(by kernel_rfl:bN _ _ _=true),?_⟩
 try simp only [go_sem,simprocAttr,hl,h0,h1',v0,d1,d2,e1,e2,e3,e4,e5,e6,f1,f2,f3,f4]
 rw [cp rfl (by simp),dP (by omega)]

theorem Tj {n:Nat} (h1:1000000≤n) (h:n < 10000000):bF n=[aC (n / 10000 / 100),aC ((n / 10000 % 100) / 10),aC ((n / 10000 % 100) % 10),aC ((n % 10000 / 100) / 10),aC ((n % 10000 / 100) % 10),aC ((n % 10000 % 100) / 10),aC ((n % 10000 % 100) % 10)]:=by
 rw [cr (by omega),cr (by omega),cr (by omega),cW (by omega)]
 simp only [List.cons_append,List.nil_append]
 exact br (congrArg aC (by omega)) (br (congrArg aC (by omega)) (br (congrArg aC (by omega)) (br (congrArg aC (by omega)) (br (congrArg aC (by omega)) (br (congrArg aC (by omega)) (br (congrArg aC (by omega)) (rfl)))))))
theorem S0 (n:Nat) (H k) (h1:1000000≤n) (hn:n < 10000000):ag Tryz.prog 122 [.slice H.length 0 7 (.ex 24),.int .u64 (n:Nat)] (H++[.cells [.int .u8 0,.int .u8 0,.int .u8 0,.int .u8 0,.int .u8 0,.int .u8 0,.int .u8 0,.int .u8 0,.int .u8 0,.int .u8 0,.int .u8 0,.int .u8 0,.int .u8 0,.int .u8 0,.int .u8 0,.int .u8 0,.int .u8 0,.int .u8 0,.int .u8 0,.int .u8 0,.int .u8 0,.int .u8 0,.int .u8 0,.int .u8 0] 177 .rw]) k =
  k (.tuple [],H++[.cells (.int .u8 (aC (n / 10000 / 100)).toNat::.int .u8 (aC ((n / 10000 % 100) / 10)).toNat::.int .u8 (aC ((n / 10000 % 100) % 10)).toNat::.int .u8 (aC ((n % 10000 / 100) / 10)).toNat::.int .u8 (aC ((n % 10000 / 100) % 10)).toNat::.int .u8 (aC ((n % 10000 % 100) / 10)).toNat::.int .u8 (aC ((n % 10000 % 100) % 10)).toNat::[.int .u8 0,.int .u8 0,.int .u8 0,.int .u8 0,.int .u8 0,.int .u8 0,.int .u8 0,.int .u8 0,.int .u8 0,.int .u8 0,.int .u8 0,.int .u8 0,.int .u8 0,.int .u8 0,.int .u8 0,.int .u8 0,.int .u8 0]) 177 .rw],⟨none,some H.length⟩):=by
 refine ak ?_ k
 refine aa (n:=167) (rs:=[]) Tryz.func122 rfl rfl rfl ?_
 intro σ hl ha
 have h0:=ha 0 (by simp)
 have h1':=ha 1 (by simp)
 clear ha
 simp only [Option.getD_some,List.getElem?_cons_zero,List.getElem?_cons_succ] at h0 h1'
 have v0:IntKind.u32.wrap (n:Int)=(n:Int):=wrap_u32 (by omega)
 have d1:(n:Int).tmod 10000=((n % 10000:Nat):Int):=dL (by decide)
 have d2:IntKind.u32.wrap ((n:Int).tdiv 10000)=((n / 10000:Nat):Int):=ej (by omega) (by decide)
 have e1:IntKind.u32.wrap (((n % 10000:Nat):Int).tdiv 100)=((n % 10000 / 100:Nat):Int):=ej (by omega) (by decide)
 have e2:((n % 10000:Nat):Int).tmod 100=((n % 10000 % 100:Nat):Int):=dL (by decide)
 have e3:IntKind.u32.wrap (((n % 10000 / 100:Nat):Int)*2)=((2*(n % 10000 / 100):Nat):Int):=w2x (by omega)
 have e4:IntKind.u32.wrap (((n % 10000 % 100:Nat):Int)*2)=((2*(n % 10000 % 100):Nat):Int):=w2x (by omega)
 have e5:IntKind.u32.wrap (((2*(n % 10000 / 100):Nat):Int)+1)=((2*(n % 10000 / 100)+1:Nat):Int):=w2y (by omega)
 have e6:IntKind.u32.wrap (((2*(n % 10000 % 100):Nat):Int)+1)=((2*(n % 10000 % 100)+1:Nat):Int):=w2y (by omega)
 have f1:((n / 10000:Nat):Int).tmod 100=((n / 10000 % 100:Nat):Int):=dL (by decide)
 have f2:IntKind.u32.wrap (((n / 10000:Nat):Int).tdiv 100)=((n / 10000 / 100:Nat):Int):=ej (by omega) (by decide)
 have f3:IntKind.u32.wrap (((n / 10000 % 100:Nat):Int)*2)=((2*(n / 10000 % 100):Nat):Int):=w2x (by omega)
 have f4:IntKind.u32.wrap (((2*(n / 10000 % 100):Nat):Int)+1)=((2*(n / 10000 % 100)+1:Nat):Int):=w2y (by omega)
 have g1:IntKind.u8.wrap (IntKind.u32.wrap (48+((n / 10000 / 100:Nat):Int)))=((aC (n / 10000 / 100)).toNat:Int):=lM (by omega)
 simp only [go_sem,simprocAttr,hl,h0,h1',v0,d1,d2,e1,e2,e3,e4,e5,e6,f1,f2,f3,f4,g1]
 rw [go_loop]
 simp only [go_sem,simprocAttr,hl,h0,h1',v0,d1,d2,e1,e2,e3,e4,e5,e6,f1,f2,f3,f4,g1]
 refine ay au (by kernel_rfl) ?_
 simp only [go_sem,simprocAttr,hl,h0,h1',v0,d1,d2,e1,e2,e3,e4,e5,e6,f1,f2,f3,f4,g1]
 rw [aP (by kernel_rfl) (show n % 10000 % 100 < 100 by omega)]
 simp only [go_sem,simprocAttr,hl,h0,h1',v0,d1,d2,e1,e2,e3,e4,e5,e6,f1,f2,f3,f4,g1]
 rw [aQ (by kernel_rfl) (show n % 10000 % 100 < 100 by omega)]
 simp only [go_sem,simprocAttr,hl,h0,h1',v0,d1,d2,e1,e2,e3,e4,e5,e6,f1,f2,f3,f4,g1]
 refine ⟨(by kernel_rfl:bN _ _ _=true),?_⟩
 try simp only [go_sem,simprocAttr,hl,h0,h1',v0,d1,d2,e1,e2,e3,e4,e5,e6,f1,f2,f3,f4,g1]
 refine ay au (by kernel_rfl) ?_
 simp only [go_sem,simprocAttr,hl,h0,h1',v0,d1,d2,e1,e2,e3,e4,e5,e6,f1,f2,f3,f4,g1]
 rw [aP (by kernel_rfl) (show n % 10000 / 100 < 100 by omega)]
 simp only [go_sem,simprocAttr,hl,h0,h1',v0,d1,d2,e1,e2,e3,e4,e5,e6,f1,f2,f3,f4,g1]
 rw [aQ (by kernel_rfl) (show n % 10000 / 100 < 100 by omega)]
 simp only [go_sem,simprocAttr,hl,h0,h1',v0,d1,d2,e1,e2,e3,e4,e5,e6,f1,f2,f3,f4,g1]
 refine ⟨(by kernel_rfl:bN _ _ _=true),?_⟩
 try simp only [go_sem,simprocAttr,hl,h0,h1',v0,d1,d2,e1,e2,e3,e4,e5,e6,f1,f2,f3,f4,g1]
 refine ay au (by kernel_rfl) ?_
 simp only [go_sem,simprocAttr,hl,h0,h1',v0,d1,d2,e1,e2,e3,e4,e5,e6,f1,f2,f3,f4,g1]
 rw [aP (by kernel_rfl) (show n / 10000 % 100 < 100 by omega)]
 simp only [go_sem,simprocAttr,hl,h0,h1',v0,d1,d2,e1,e2,e3,e4,e5,e6,f1,f2,f3,f4,g1]
 rw [aQ (by kernel_rfl) (show n / 10000 % 100 < 100 by omega)]
 simp only [go_sem,simprocAttr,hl,h0,h1',v0,d1,d2,e1,e2,e3,e4,e5,e6,f1,f2,f3,f4,g1]
 refine ⟨(by kernel_rfl:bN _ _ _=true),?_⟩
 try simp only [go_sem,simprocAttr,hl,h0,h1',v0,d1,d2,e1,e2,e3,e4,e5,e6,f1,f2,f3,f4,g1]
 rw [cp rfl (by simp),dP (by omega)]

theorem Ti {n:Nat} (h1:10000000≤n) (h:n < 100000000):bF n=[aC ((n % 100000000 / 10000 / 100) / 10),aC ((n % 100000000 / 10000 / 100) % 10),aC ((n % 100000000 / 10000 % 100) / 10),aC ((n % 100000000 / 10000 % 100) % 10),aC ((n % 100000000 % 10000 / 100) / 10),aC ((n % 100000000 % 10000 / 100) % 10),aC ((n % 100000000 % 10000 % 100) / 10),aC ((n % 100000000 % 10000 % 100) % 10)]:=by
 rw [cr (by omega),cr (by omega),cr (by omega),oT (by omega) (by omega)]
 simp only [List.cons_append,List.nil_append]
 exact br (congrArg aC (by omega)) (br (congrArg aC (by omega)) (br (congrArg aC (by omega)) (br (congrArg aC (by omega)) (br (congrArg aC (by omega)) (br (congrArg aC (by omega)) (br (congrArg aC (by omega)) (br (congrArg aC (by omega)) (rfl))))))))
theorem SZ (n:Nat) (H k) (h1:10000000≤n) (hn:n < 100000000):ag Tryz.prog 122 [.slice H.length 0 8 (.ex 24),.int .u64 (n:Nat)] (H++[.cells [.int .u8 0,.int .u8 0,.int .u8 0,.int .u8 0,.int .u8 0,.int .u8 0,.int .u8 0,.int .u8 0,.int .u8 0,.int .u8 0,.int .u8 0,.int .u8 0,.int .u8 0,.int .u8 0,.int .u8 0,.int .u8 0,.int .u8 0,.int .u8 0,.int .u8 0,.int .u8 0,.int .u8 0,.int .u8 0,.int .u8 0,.int .u8 0] 177 .rw]) k =
  k (.tuple [],H++[.cells (.int .u8 (aC ((n % 100000000 / 10000 / 100) / 10)).toNat::.int .u8 (aC ((n % 100000000 / 10000 / 100) % 10)).toNat::.int .u8 (aC ((n % 100000000 / 10000 % 100) / 10)).toNat::.int .u8 (aC ((n % 100000000 / 10000 % 100) % 10)).toNat::.int .u8 (aC ((n % 100000000 % 10000 / 100) / 10)).toNat::.int .u8 (aC ((n % 100000000 % 10000 / 100) % 10)).toNat::.int .u8 (aC ((n % 100000000 % 10000 % 100) / 10)).toNat::.int .u8 (aC ((n % 100000000 % 10000 % 100) % 10)).toNat::[.int .u8 0,.int .u8 0,.int .u8 0,.int .u8 0,.int .u8 0,.int .u8 0,.int .u8 0,.int .u8 0,.int .u8 0,.int .u8 0,.int .u8 0,.int .u8 0,.int .u8 0,.int .u8 0,.int .u8 0,.int .u8 0]) 177 .rw],⟨none,some H.length⟩):=by
 refine ak ?_ k
 refine aa (n:=167) (rs:=[]) Tryz.func122 rfl rfl rfl ?_
 intro σ hl ha
 have h0:=ha 0 (by simp)
 have h1':=ha 1 (by simp)
 clear ha
 simp only [Option.getD_some,List.getElem?_cons_zero,List.getElem?_cons_succ] at h0 h1'
 have a1:(n:Int).tmod 100000000=((n % 100000000:Nat):Int):=dL (by decide)
 have a2:IntKind.u32.wrap ((n % 100000000:Nat):Int)=((n % 100000000:Nat):Int):=wrap_u32 (by omega)
 have a3:IntKind.u64.wrap ((n:Int).tdiv 100000000)=((n / 100000000:Nat):Int):=FM (by omega) (by decide)
 have a4:IntKind.u32.wrap (((n % 100000000:Nat):Int).tdiv 10000)=((n % 100000000 / 10000:Nat):Int):=ej (by omega) (by decide)
 have a5:((n % 100000000:Nat):Int).tmod 10000=((n % 100000000 % 10000:Nat):Int):=dL (by decide)
 have b1:IntKind.u32.wrap (((n % 100000000 % 10000:Nat):Int).tdiv 100)=((n % 100000000 % 10000 / 100:Nat):Int):=ej (by omega) (by decide)
 have b2:((n % 100000000 % 10000:Nat):Int).tmod 100=((n % 100000000 % 10000 % 100:Nat):Int):=dL (by decide)
 have b3:IntKind.u32.wrap (((n % 100000000 % 10000 / 100:Nat):Int)*2)=((2*(n % 100000000 % 10000 / 100):Nat):Int):=w2x (by omega)
 have b4:IntKind.u32.wrap (((n % 100000000 % 10000 % 100:Nat):Int)*2)=((2*(n % 100000000 % 10000 % 100):Nat):Int):=w2x (by omega)
 have b5:IntKind.u32.wrap (((2*(n % 100000000 % 10000 / 100):Nat):Int)+1)=((2*(n % 100000000 % 10000 / 100)+1:Nat):Int):=w2y (by omega)
 have b6:IntKind.u32.wrap (((2*(n % 100000000 % 10000 % 100):Nat):Int)+1)=((2*(n % 100000000 % 10000 % 100)+1:Nat):Int):=w2y (by omega)
 have c1:IntKind.u32.wrap (((n % 100000000 / 10000:Nat):Int).tdiv 100)=((n % 100000000 / 10000 / 100:Nat):Int):=ej (by omega) (by decide)
 have c2:((n % 100000000 / 10000:Nat):Int).tmod 100=((n % 100000000 / 10000 % 100:Nat):Int):=dL (by decide)
 have c3:IntKind.u32.wrap (((n % 100000000 / 10000 / 100:Nat):Int)*2)=((2*(n % 100000000 / 10000 / 100):Nat):Int):=w2x (by omega)
 have c4:IntKind.u32.wrap (((n % 100000000 / 10000 % 100:Nat):Int)*2)=((2*(n % 100000000 / 10000 % 100):Nat):Int):=w2x (by omega)
 have c5:IntKind.u32.wrap (((2*(n % 100000000 / 10000 / 100):Nat):Int)+1)=((2*(n % 100000000 / 10000 / 100)+1:Nat):Int):=w2y (by omega)
 have c6:IntKind.u32.wrap (((2*(n % 100000000 / 10000 % 100):Nat):Int)+1)=((2*(n % 100000000 / 10000 % 100)+1:Nat):Int):=w2y (by omega)
 have v0:IntKind.u32.wrap ((n / 100000000:Nat):Int)=((n / 100000000:Nat):Int):=wrap_u32 (by omega)
 simp only [go_sem,simprocAttr,hl,h0,h1',a1,a2,a3,a4,a5,b1,b2,b3,b4,b5,b6,c1,c2,c3,c4,c5,c6,v0]
 rw [go_loop]
 simp only [go_sem,simprocAttr,hl,h0,h1',a1,a2,a3,a4,a5,b1,b2,b3,b4,b5,b6,c1,c2,c3,c4,c5,c6,v0]
 refine ay au (by kernel_rfl) ?_
 simp only [go_sem,simprocAttr,hl,h0,h1',a1,a2,a3,a4,a5,b1,b2,b3,b4,b5,b6,c1,c2,c3,c4,c5,c6,v0]
 rw [aP (by kernel_rfl) (show n % 100000000 % 10000 % 100 < 100 by omega)]
 simp only [go_sem,simprocAttr,hl,h0,h1',a1,a2,a3,a4,a5,b1,b2,b3,b4,b5,b6,c1,c2,c3,c4,c5,c6,v0]
 rw [aQ (by kernel_rfl) (show n % 100000000 % 10000 % 100 < 100 by omega)]
 simp only [go_sem,simprocAttr,hl,h0,h1',a1,a2,a3,a4,a5,b1,b2,b3,b4,b5,b6,c1,c2,c3,c4,c5,c6,v0]
 refine ⟨(by kernel_rfl:bN _ _ _=true),?_⟩
 try simp only [go_sem,simprocAttr,hl,h0,h1',a1,a2,a3,a4,a5,b1,b2,b3,b4,b5,b6,c1,c2,c3,c4,c5,c6,v0]
 refine ay au (by kernel_rfl) ?_
 simp only [go_sem,simprocAttr,hl,h0,h1',a1,a2,a3,a4,a5,b1,b2,b3,b4,b5,b6,c1,c2,c3,c4,c5,c6,v0]
 rw [aP (by kernel_rfl) (show n % 100000000 % 10000 / 100 < 100 by omega)]
 simp only [go_sem,simprocAttr,hl,h0,h1',a1,a2,a3,a4,a5,b1,b2,b3,b4,b5,b6,c1,c2,c3,c4,c5,c6,v0]
 rw [aQ (by kernel_rfl) (show n % 100000000 % 10000 / 100 < 100 by omega)]
 simp only [go_sem,simprocAttr,hl,h0,h1',a1,a2,a3,a4,a5,b1,b2,b3,b4,b5,b6,c1,c2,c3,c4,c5,c6,v0]
 refine ⟨(by kernel_rfl:bN _ _ _=true),?_⟩
 try simp only [go_sem,simprocAttr,hl,h0,h1',a1,a2,a3,a4,a5,b1,b2,b3,b4,b5,b6,c1,c2,c3,c4,c5,c6,v0]
 refine ay au (by kernel_rfl) ?_
 simp only [go_sem,simprocAttr,hl,h0,h1',a1,a2,a3,a4,a5,b1,b2,b3,b4,b5,b6,c1,c2,c3,c4,c5,c6,v0]
 rw [aP (by kernel_rfl) (show n % 100000000 / 10000 % 100 < 100 by omega)]
 simp only [go_sem,simprocAttr,hl,h0,h1',a1,a2,a3,a4,a5,b1,b2,b3,b4,b5,b6,c1,c2,c3,c4,c5,c6,v0]
 rw [aQ (by kernel_rfl) (show n % 100000000 / 10000 % 100 < 100 by omega)]
 simp only [go_sem,simprocAttr,hl,h0,h1',a1,a2,a3,a4,a5,b1,b2,b3,b4,b5,b6,c1,c2,c3,c4,c5,c6,v0]
 refine ⟨(by kernel_rfl:bN _ _ _=true),?_⟩
 try simp only [go_sem,simprocAttr,hl,h0,h1',a1,a2,a3,a4,a5,b1,b2,b3,b4,b5,b6,c1,c2,c3,c4,c5,c6,v0]
 refine ay au (by kernel_rfl) ?_
 simp only [go_sem,simprocAttr,hl,h0,h1',a1,a2,a3,a4,a5,b1,b2,b3,b4,b5,b6,c1,c2,c3,c4,c5,c6,v0]
 rw [aP (by kernel_rfl) (show n % 100000000 / 10000 / 100 < 100 by omega)]
 simp only [go_sem,simprocAttr,hl,h0,h1',a1,a2,a3,a4,a5,b1,b2,b3,b4,b5,b6,c1,c2,c3,c4,c5,c6,v0]
 rw [aQ (by kernel_rfl) (show n % 100000000 / 10000 / 100 < 100 by omega)]
 simp only [go_sem,simprocAttr,hl,h0,h1',a1,a2,a3,a4,a5,b1,b2,b3,b4,b5,b6,c1,c2,c3,c4,c5,c6,v0]
 refine ⟨(by kernel_rfl:bN _ _ _=true),?_⟩
 try simp only [go_sem,simprocAttr,hl,h0,h1',a1,a2,a3,a4,a5,b1,b2,b3,b4,b5,b6,c1,c2,c3,c4,c5,c6,v0]
 rw [go_loop]
 try simp only [go_sem,simprocAttr,hl,h0,h1',a1,a2,a3,a4,a5,b1,b2,b3,b4,b5,b6,c1,c2,c3,c4,c5,c6,v0]
 rw [cp rfl (by simp),dP (by omega)]

theorem Th {n:Nat} (h1:100000000≤n) (h:n < 1000000000):bF n=[aC (n / 100000000),aC ((n % 100000000 / 10000 / 100) / 10),aC ((n % 100000000 / 10000 / 100) % 10),aC ((n % 100000000 / 10000 % 100) / 10),aC ((n % 100000000 / 10000 % 100) % 10),aC ((n % 100000000 % 10000 / 100) / 10),aC ((n % 100000000 % 10000 / 100) % 10),aC ((n % 100000000 % 10000 % 100) / 10),aC ((n % 100000000 % 10000 % 100) % 10)]:=by
 rw [cr (by omega),cr (by omega),cr (by omega),cr (by omega),cW (by omega)]
 simp only [List.cons_append,List.nil_append]
 exact br (congrArg aC (by omega)) (br (congrArg aC (by omega)) (br (congrArg aC (by omega)) (br (congrArg aC (by omega)) (br (congrArg aC (by omega)) (br (congrArg aC (by omega)) (br (congrArg aC (by omega)) (br (congrArg aC (by omega)) (br (congrArg aC (by omega)) (rfl)))))))))
theorem SY (n:Nat) (H k) (h1:100000000≤n) (hn:n < 1000000000):ag Tryz.prog 122 [.slice H.length 0 9 (.ex 24),.int .u64 (n:Nat)] (H++[.cells [.int .u8 0,.int .u8 0,.int .u8 0,.int .u8 0,.int .u8 0,.int .u8 0,.int .u8 0,.int .u8 0,.int .u8 0,.int .u8 0,.int .u8 0,.int .u8 0,.int .u8 0,.int .u8 0,.int .u8 0,.int .u8 0,.int .u8 0,.int .u8 0,.int .u8 0,.int .u8 0,.int .u8 0,.int .u8 0,.int .u8 0,.int .u8 0] 177 .rw]) k =
  k (.tuple [],H++[.cells (.int .u8 (aC (n / 100000000)).toNat::.int .u8 (aC ((n % 100000000 / 10000 / 100) / 10)).toNat::.int .u8 (aC ((n % 100000000 / 10000 / 100) % 10)).toNat::.int .u8 (aC ((n % 100000000 / 10000 % 100) / 10)).toNat::.int .u8 (aC ((n % 100000000 / 10000 % 100) % 10)).toNat::.int .u8 (aC ((n % 100000000 % 10000 / 100) / 10)).toNat::.int .u8 (aC ((n % 100000000 % 10000 / 100) % 10)).toNat::.int .u8 (aC ((n % 100000000 % 10000 % 100) / 10)).toNat::.int .u8 (aC ((n % 100000000 % 10000 % 100) % 10)).toNat::[.int .u8 0,.int .u8 0,.int .u8 0,.int .u8 0,.int .u8 0,.int .u8 0,.int .u8 0,.int .u8 0,.int .u8 0,.int .u8 0,.int .u8 0,.int .u8 0,.int .u8 0,.int .u8 0,.int .u8 0]) 177 .rw],⟨none,some H.length⟩):=by
 refine ak ?_ k
 refine aa (n:=167) (rs:=[]) Tryz.func122 rfl rfl rfl ?_
 intro σ hl ha
 have h0:=ha 0 (by simp)
 have h1':=ha 1 (by simp)
 clear ha
 simp only [Option.getD_some,List.getElem?_cons_zero,List.getElem?_cons_succ] at h0 h1'
 have a1:(n:Int).tmod 100000000=((n % 100000000:Nat):Int):=dL (by decide)
 have a2:IntKind.u32.wrap ((n % 100000000:Nat):Int)=((n % 100000000:Nat):Int):=wrap_u32 (by omega)
 have a3:IntKind.u64.wrap ((n:Int).tdiv 100000000)=((n / 100000000:Nat):Int):=FM (by omega) (by decide)
 have a4:IntKind.u32.wrap (((n % 100000000:Nat):Int).tdiv 10000)=((n % 100000000 / 10000:Nat):Int):=ej (by omega) (by decide)
 have a5:((n % 100000000:Nat):Int).tmod 10000=((n % 100000000 % 10000:Nat):Int):=dL (by decide)
 have b1:IntKind.u32.wrap (((n % 100000000 % 10000:Nat):Int).tdiv 100)=((n % 100000000 % 10000 / 100:Nat):Int):=ej (by omega) (by decide)
 have b2:((n % 100000000 % 10000:Nat):Int).tmod 100=((n % 100000000 % 10000 % 100:Nat):Int):=dL (by decide)
 have b3:IntKind.u32.wrap (((n % 100000000 % 10000 / 100:Nat):Int)*2)=((2*(n % 100000000 % 10000 / 100):Nat):Int):=w2x (by omega)
 have b4:IntKind.u32.wrap (((n % 100000000 % 10000 % 100:Nat):Int)*2)=((2*(n % 100000000 % 10000 % 100):Nat):Int):=w2x (by omega)
 have b5:IntKind.u32.wrap (((2*(n % 100000000 % 10000 / 100):Nat):Int)+1)=((2*(n % 100000000 % 10000 / 100)+1:Nat):Int):=w2y (by omega)
 have b6:IntKind.u32.wrap (((2*(n % 100000000 % 10000 % 100):Nat):Int)+1)=((2*(n % 100000000 % 10000 % 100)+1:Nat):Int):=w2y (by omega)
 have c1:IntKind.u32.wrap (((n % 100000000 / 10000:Nat):Int).tdiv 100)=((n % 100000000 / 10000 / 100:Nat):Int):=ej (by omega) (by decide)
 have c2:((n % 100000000 / 10000:Nat):Int).tmod 100=((n % 100000000 / 10000 % 100:Nat):Int):=dL (by decide)
 have c3:IntKind.u32.wrap (((n % 100000000 / 10000 / 100:Nat):Int)*2)=((2*(n % 100000000 / 10000 / 100):Nat):Int):=w2x (by omega)
 have c4:IntKind.u32.wrap (((n % 100000000 / 10000 % 100:Nat):Int)*2)=((2*(n % 100000000 / 10000 % 100):Nat):Int):=w2x (by omega)
 have c5:IntKind.u32.wrap (((2*(n % 100000000 / 10000 / 100):Nat):Int)+1)=((2*(n % 100000000 / 10000 / 100)+1:Nat):Int):=w2y (by omega)
 have c6:IntKind.u32.wrap (((2*(n % 100000000 / 10000 % 100):Nat):Int)+1)=((2*(n % 100000000 / 10000 % 100)+1:Nat):Int):=w2y (by omega)
 have v0:IntKind.u32.wrap ((n / 100000000:Nat):Int)=((n / 100000000:Nat):Int):=wrap_u32 (by omega)
 have g1:IntKind.u8.wrap (IntKind.u32.wrap (48+((n / 100000000:Nat):Int)))=((aC (n / 100000000)).toNat:Int):=lM (by omega)
 simp only [go_sem,simprocAttr,hl,h0,h1',a1,a2,a3,a4,a5,b1,b2,b3,b4,b5,b6,c1,c2,c3,c4,c5,c6,v0,g1]
 rw [go_loop]
 simp only [go_sem,simprocAttr,hl,h0,h1',a1,a2,a3,a4,a5,b1,b2,b3,b4,b5,b6,c1,c2,c3,c4,c5,c6,v0,g1]
 refine ay au (by kernel_rfl) ?_
 simp only [go_sem,simprocAttr,hl,h0,h1',a1,a2,a3,a4,a5,b1,b2,b3,b4,b5,b6,c1,c2,c3,c4,c5,c6,v0,g1]
 rw [aP (by kernel_rfl) (show n % 100000000 % 10000 % 100 < 100 by omega)]
 simp only [go_sem,simprocAttr,hl,h0,h1',a1,a2,a3,a4,a5,b1,b2,b3,b4,b5,b6,c1,c2,c3,c4,c5,c6,v0,g1]
 rw [aQ (by kernel_rfl) (show n % 100000000 % 10000 % 100 < 100 by omega)]
 simp only [go_sem,simprocAttr,hl,h0,h1',a1,a2,a3,a4,a5,b1,b2,b3,b4,b5,b6,c1,c2,c3,c4,c5,c6,v0,g1]
 refine ⟨(by kernel_rfl:bN _ _ _=true),?_⟩
 try simp only [go_sem,simprocAttr,hl,h0,h1',a1,a2,a3,a4,a5,b1,b2,b3,b4,b5,b6,c1,c2,c3,c4,c5,c6,v0,g1]
 refine ay au (by kernel_rfl) ?_
 simp only [go_sem,simprocAttr,hl,h0,h1',a1,a2,a3,a4,a5,b1,b2,b3,b4,b5,b6,c1,c2,c3,c4,c5,c6,v0,g1]
 rw [aP (by kernel_rfl) (show n % 100000000 % 10000 / 100 < 100 by omega)]
 simp only [go_sem,simprocAttr,hl,h0,h1',a1,a2,a3,a4,a5,b1,b2,b3,b4,b5,b6,c1,c2,c3,c4,c5,c6,v0,g1]
 rw [aQ (by kernel_rfl) (show n % 100000000 % 10000 / 100 < 100 by omega)]
 simp only [go_sem,simprocAttr,hl,h0,h1',a1,a2,a3,a4,a5,b1,b2,b3,b4,b5,b6,c1,c2,c3,c4,c5,c6,v0,g1]
 refine ⟨(by kernel_rfl:bN _ _ _=true),?_⟩
 try simp only [go_sem,simprocAttr,hl,h0,h1',a1,a2,a3,a4,a5,b1,b2,b3,b4,b5,b6,c1,c2,c3,c4,c5,c6,v0,g1]
 refine ay au (by kernel_rfl) ?_
 simp only [go_sem,simprocAttr,hl,h0,h1',a1,a2,a3,a4,a5,b1,b2,b3,b4,b5,b6,c1,c2,c3,c4,c5,c6,v0,g1]
 rw [aP (by kernel_rfl) (show n % 100000000 / 10000 % 100 < 100 by omega)]
 simp only [go_sem,simprocAttr,hl,h0,h1',a1,a2,a3,a4,a5,b1,b2,b3,b4,b5,b6,c1,c2,c3,c4,c5,c6,v0,g1]
 rw [aQ (by kernel_rfl) (show n % 100000000 / 10000 % 100 < 100 by omega)]
 simp only [go_sem,simprocAttr,hl,h0,h1',a1,a2,a3,a4,a5,b1,b2,b3,b4,b5,b6,c1,c2,c3,c4,c5,c6,v0,g1]
 refine ⟨(by kernel_rfl:bN _ _ _=true),?_⟩
 try simp only [go_sem,simprocAttr,hl,h0,h1',a1,a2,a3,a4,a5,b1,b2,b3,b4,b5,b6,c1,c2,c3,c4,c5,c6,v0,g1]
 refine ay au (by kernel_rfl) ?_
 simp only [go_sem,simprocAttr,hl,h0,h1',a1,a2,a3,a4,a5,b1,b2,b3,b4,b5,b6,c1,c2,c3,c4,c5,c6,v0,g1]
 rw [aP (by kernel_rfl) (show n % 100000000 / 10000 / 100 < 100 by omega)]
 simp only [go_sem,simprocAttr,hl,h0,h1',a1,a2,a3,a4,a5,b1,b2,b3,b4,b5,b6,c1,c2,c3,c4,c5,c6,v0,g1]
 rw [aQ (by kernel_rfl) (show n % 100000000 / 10000 / 100 < 100 by omega)]
 simp only [go_sem,simprocAttr,hl,h0,h1',a1,a2,a3,a4,a5,b1,b2,b3,b4,b5,b6,c1,c2,c3,c4,c5,c6,v0,g1]
 refine ⟨(by kernel_rfl:bN _ _ _=true),?_⟩
 try simp only [go_sem,simprocAttr,hl,h0,h1',a1,a2,a3,a4,a5,b1,b2,b3,b4,b5,b6,c1,c2,c3,c4,c5,c6,v0,g1]
 rw [go_loop]
 try simp only [go_sem,simprocAttr,hl,h0,h1',a1,a2,a3,a4,a5,b1,b2,b3,b4,b5,b6,c1,c2,c3,c4,c5,c6,v0,g1]
 rw [cp rfl (by simp),dP (by omega)]

theorem O4 {n:Nat} (h1:1000000000≤n) (h:n < 4294967296):bF n=[aC ((n / 100000000 % 100) / 10),aC ((n / 100000000 % 100) % 10),aC ((n % 100000000 / 10000 / 100) / 10),aC ((n % 100000000 / 10000 / 100) % 10),aC ((n % 100000000 / 10000 % 100) / 10),aC ((n % 100000000 / 10000 % 100) % 10),aC ((n % 100000000 % 10000 / 100) / 10),aC ((n % 100000000 % 10000 / 100) % 10),aC ((n % 100000000 % 10000 % 100) / 10),aC ((n % 100000000 % 10000 % 100) % 10)]:=by
 rw [cr (by omega),cr (by omega),cr (by omega),cr (by omega),oT (by omega) (by omega)]
 simp only [List.cons_append,List.nil_append]
 exact br (congrArg aC (by omega)) (br (congrArg aC (by omega)) (br (congrArg aC (by omega)) (br (congrArg aC (by omega)) (br (congrArg aC (by omega)) (br (congrArg aC (by omega)) (br (congrArg aC (by omega)) (br (congrArg aC (by omega)) (br (congrArg aC (by omega)) (br (congrArg aC (by omega)) (rfl))))))))))
theorem Qr (n:Nat) (H k) (h1:1000000000≤n) (hn:n < 4294967296):ag Tryz.prog 122 [.slice H.length 0 10 (.ex 24),.int .u64 (n:Nat)] (H++[.cells [.int .u8 0,.int .u8 0,.int .u8 0,.int .u8 0,.int .u8 0,.int .u8 0,.int .u8 0,.int .u8 0,.int .u8 0,.int .u8 0,.int .u8 0,.int .u8 0,.int .u8 0,.int .u8 0,.int .u8 0,.int .u8 0,.int .u8 0,.int .u8 0,.int .u8 0,.int .u8 0,.int .u8 0,.int .u8 0,.int .u8 0,.int .u8 0] 177 .rw]) k =
  k (.tuple [],H++[.cells (.int .u8 (aC ((n / 100000000 % 100) / 10)).toNat::.int .u8 (aC ((n / 100000000 % 100) % 10)).toNat::.int .u8 (aC ((n % 100000000 / 10000 / 100) / 10)).toNat::.int .u8 (aC ((n % 100000000 / 10000 / 100) % 10)).toNat::.int .u8 (aC ((n % 100000000 / 10000 % 100) / 10)).toNat::.int .u8 (aC ((n % 100000000 / 10000 % 100) % 10)).toNat::.int .u8 (aC ((n % 100000000 % 10000 / 100) / 10)).toNat::.int .u8 (aC ((n % 100000000 % 10000 / 100) % 10)).toNat::.int .u8 (aC ((n % 100000000 % 10000 % 100) / 10)).toNat::.int .u8 (aC ((n % 100000000 % 10000 % 100) % 10)).toNat::[.int .u8 0,.int .u8 0,.int .u8 0,.int .u8 0,.int .u8 0,.int .u8 0,.int .u8 0,.int .u8 0,.int .u8 0,.int .u8 0,.int .u8 0,.int .u8 0,.int .u8 0,.int .u8 0]) 177 .rw],⟨none,some H.length⟩):=by
 refine ak ?_ k
 refine aa (n:=167) (rs:=[]) Tryz.func122 rfl rfl rfl ?_
 intro σ hl ha
 have h0:=ha 0 (by simp)
 have h1':=ha 1 (by simp)
 clear ha
 simp only [Option.getD_some,List.getElem?_cons_zero,List.getElem?_cons_succ] at h0 h1'
 have a1:(n:Int).tmod 100000000=((n % 100000000:Nat):Int):=dL (by decide)
 have a2:IntKind.u32.wrap ((n % 100000000:Nat):Int)=((n % 100000000:Nat):Int):=wrap_u32 (by omega)
 have a3:IntKind.u64.wrap ((n:Int).tdiv 100000000)=((n / 100000000:Nat):Int):=FM (by omega) (by decide)
 have a4:IntKind.u32.wrap (((n % 100000000:Nat):Int).tdiv 10000)=((n % 100000000 / 10000:Nat):Int):=ej (by omega) (by decide)
 have a5:((n % 100000000:Nat):Int).tmod 10000=((n % 100000000 % 10000:Nat):Int):=dL (by decide)
 have b1:IntKind.u32.wrap (((n % 100000000 % 10000:Nat):Int).tdiv 100)=((n % 100000000 % 10000 / 100:Nat):Int):=ej (by omega) (by decide)
 have b2:((n % 100000000 % 10000:Nat):Int).tmod 100=((n % 100000000 % 10000 % 100:Nat):Int):=dL (by decide)
 have b3:IntKind.u32.wrap (((n % 100000000 % 10000 / 100:Nat):Int)*2)=((2*(n % 100000000 % 10000 / 100):Nat):Int):=w2x (by omega)
 have b4:IntKind.u32.wrap (((n % 100000000 % 10000 % 100:Nat):Int)*2)=((2*(n % 100000000 % 10000 % 100):Nat):Int):=w2x (by omega)
 have b5:IntKind.u32.wrap (((2*(n % 100000000 % 10000 / 100):Nat):Int)+1)=((2*(n % 100000000 % 10000 / 100)+1:Nat):Int):=w2y (by omega)
 have b6:IntKind.u32.wrap (((2*(n % 100000000 % 10000 % 100):Nat):Int)+1)=((2*(n % 100000000 % 10000 % 100)+1:Nat):Int):=w2y (by omega)
 have c1:IntKind.u32.wrap (((n % 100000000 / 10000:Nat):Int).tdiv 100)=((n % 100000000 / 10000 / 100:Nat):Int):=ej (by omega) (by decide)
 have c2:((n % 100000000 / 10000:Nat):Int).tmod 100=((n % 100000000 / 10000 % 100:Nat):Int):=dL (by decide)
 have c3:IntKind.u32.wrap (((n % 100000000 / 10000 / 100:Nat):Int)*2)=((2*(n % 100000000 / 10000 / 100):Nat):Int):=w2x (by omega)
 have c4:IntKind.u32.wrap (((n % 100000000 / 10000 % 100:Nat):Int)*2)=((2*(n % 100000000 / 10000 % 100):Nat):Int):=w2x (by omega)
 have c5:IntKind.u32.wrap (((2*(n % 100000000 / 10000 / 100):Nat):Int)+1)=((2*(n % 100000000 / 10000 / 100)+1:Nat):Int):=w2y (by omega)
 have c6:IntKind.u32.wrap (((2*(n % 100000000 / 10000 % 100):Nat):Int)+1)=((2*(n % 100000000 / 10000 % 100)+1:Nat):Int):=w2y (by omega)
 have v0:IntKind.u32.wrap ((n / 100000000:Nat):Int)=((n / 100000000:Nat):Int):=wrap_u32 (by omega)
 have f1:((n / 100000000:Nat):Int).tmod 100=((n / 100000000 % 100:Nat):Int):=dL (by decide)
 have f2:IntKind.u32.wrap (((n / 100000000:Nat):Int).tdiv 100)=((n / 100000000 / 100:Nat):Int):=ej (by omega) (by decide)
 have f3:IntKind.u32.wrap (((n / 100000000 % 100:Nat):Int)*2)=((2*(n / 100000000 % 100):Nat):Int):=w2x (by omega)
 have f4:IntKind.u32.wrap (((2*(n / 100000000 % 100):Nat):Int)+1)=((2*(n / 100000000 % 100)+1:Nat):Int):=w2y (by omega)
 simp only [go_sem,simprocAttr,hl,h0,h1',a1,a2,a3,a4,a5,b1,b2,b3,b4,b5,b6,c1,c2,c3,c4,c5,c6,v0,f1,f2,f3,f4]
 rw [go_loop]
 simp only [go_sem,simprocAttr,hl,h0,h1',a1,a2,a3,a4,a5,b1,b2,b3,b4,b5,b6,c1,c2,c3,c4,c5,c6,v0,f1,f2,f3,f4]
 refine ay au (by kernel_rfl) ?_
 simp only [go_sem,simprocAttr,hl,h0,h1',a1,a2,a3,a4,a5,b1,b2,b3,b4,b5,b6,c1,c2,c3,c4,c5,c6,v0,f1,f2,f3,f4]
 rw [aP (by kernel_rfl) (show n % 100000000 % 10000 % 100 < 100 by omega)]
 simp only [go_sem,simprocAttr,hl,h0,h1',a1,a2,a3,a4,a5,b1,b2,b3,b4,b5,b6,c1,c2,c3,c4,c5,c6,v0,f1,f2,f3,f4]
 rw [aQ (by kernel_rfl) (show n % 100000000 % 10000 % 100 < 100 by omega)]
 simp only [go_sem,simprocAttr,hl,h0,h1',a1,a2,a3,a4,a5,b1,b2,b3,b4,b5,b6,c1,c2,c3,c4,c5,c6,v0,f1,f2,f3,f4]
 refine ⟨(by kernel_rfl:bN _ _ _=true),?_⟩
 try simp only [go_sem,simprocAttr,hl,h0,h1',a1,a2,a3,a4,a5,b1,b2,b3,b4,b5,b6,c1,c2,c3,c4,c5,c6,v0,f1,f2,f3,f4]
 refine ay au (by kernel_rfl) ?_
 simp only [go_sem,simprocAttr,hl,h0,h1',a1,a2,a3,a4,a5,b1,b2,b3,b4,b5,b6,c1,c2,c3,c4,c5,c6,v0,f1,f2,f3,f4]
 rw [aP (by kernel_rfl) (show n % 100000000 % 10000 / 100 < 100 by omega)]
 simp only [go_sem,simprocAttr,hl,h0,h1',a1,a2,a3,a4,a5,b1,b2,b3,b4,b5,b6,c1,c2,c3,c4,c5,c6,v0,f1,f2,f3,f4]
 rw [aQ (by kernel_rfl) (show n % 100000000 % 10000 / 100 < 100 by omega)]
 simp only [go_sem,simprocAttr,hl,h0,h1',a1,a2,a3,a4,a5,b1,b2,b3,b4,b5,b6,c1,c2,c3,c4,c5,c6,v0,f1,f2,f3,f4]
 refine ⟨(by kernel_rfl:bN _ _ _=true),?_⟩
 try simp only [go_sem,simprocAttr,hl,h0,h1',a1,a2,a3,a4,a5,b1,b2,b3,b4,b5,b6,c1,c2,c3,c4,c5,c6,v0,f1,f2,f3,f4]
 refine ay au (by kernel_rfl) ?_
 simp only [go_sem,simprocAttr,hl,h0,h1',a1,a2,a3,a4,a5,b1,b2,b3,b4,b5,b6,c1,c2,c3,c4,c5,c6,v0,f1,f2,f3,f4]
 rw [aP (by kernel_rfl) (show n % 100000000 / 10000 % 100 < 100 by omega)]
 simp only [go_sem,simprocAttr,hl,h0,h1',a1,a2,a3,a4,a5,b1,b2,b3,b4,b5,b6,c1,c2,c3,c4,c5,c6,v0,f1,f2,f3,f4]
 rw [aQ (by kernel_rfl) (show n % 100000000 / 10000 % 100 < 100 by omega)]
 simp only [go_sem,simprocAttr,hl,h0,h1',a1,a2,a3,a4,a5,b1,b2,b3,b4,b5,b6,c1,c2,c3,c4,c5,c6,v0,f1,f2,f3,f4]
 refine ⟨(by kernel_rfl:bN _ _ _=true),?_⟩
 try simp only [go_sem,simprocAttr,hl,h0,h1',a1,a2,a3,a4,a5,b1,b2,b3,b4,b5,b6,c1,c2,c3,c4,c5,c6,v0,f1,f2,f3,f4]
 refine ay au (by kernel_rfl) ?_
 simp only [go_sem,simprocAttr,hl,h0,h1',a1,a2,a3,a4,a5,b1,b2,b3,b4,b5,b6,c1,c2,c3,c4,c5,c6,v0,f1,f2,f3,f4]
 rw [aP (by kernel_rfl) (show n % 100000000 / 10000 / 100 < 100 by omega)]
 simp only [go_sem,simprocAttr,hl,h0,h1',a1,a2,a3,a4,a5,b1,b2,b3,b4,b5,b6,c1,c2,c3,c4,c5,c6,v0,f1,f2,f3,f4]
 rw [aQ (by kernel_rfl) (show n % 100000000 / 10000 / 100 < 100 by omega)]
 simp only [go_sem,simprocAttr,hl,h0,h1',a1,a2,a3,a4,a5,b1,b2,b3,b4,b5,b6,c1,c2,c3,c4,c5,c6,v0,f1,f2,f3,f4]
 refine ⟨(by kernel_rfl:bN _ _ _=true),?_⟩
 try simp only [go_sem,simprocAttr,hl,h0,h1',a1,a2,a3,a4,a5,b1,b2,b3,b4,b5,b6,c1,c2,c3,c4,c5,c6,v0,f1,f2,f3,f4]
 rw [go_loop]
 try simp only [go_sem,simprocAttr,hl,h0,h1',a1,a2,a3,a4,a5,b1,b2,b3,b4,b5,b6,c1,c2,c3,c4,c5,c6,v0,f1,f2,f3,f4]
 refine ay au (by kernel_rfl) ?_
 simp only [go_sem,simprocAttr,hl,h0,h1',a1,a2,a3,a4,a5,b1,b2,b3,b4,b5,b6,c1,c2,c3,c4,c5,c6,v0,f1,f2,f3,f4]
 rw [aP (by kernel_rfl) (show n / 100000000 % 100 < 100 by omega)]
 simp only [go_sem,simprocAttr,hl,h0,h1',a1,a2,a3,a4,a5,b1,b2,b3,b4,b5,b6,c1,c2,c3,c4,c5,c6,v0,f1,f2,f3,f4]
 rw [aQ (by kernel_rfl) (show n / 100000000 % 100 < 100 by omega)]
 simp only [go_sem,simprocAttr,hl,h0,h1',a1,a2,a3,a4,a5,b1,b2,b3,b4,b5,b6,c1,c2,c3,c4,c5,c6,v0,f1,f2,f3,f4]
 refine ⟨(by kernel_rfl:bN _ _ _=true),?_⟩
 try simp only [go_sem,simprocAttr,hl,h0,h1',a1,a2,a3,a4,a5,b1,b2,b3,b4,b5,b6,c1,c2,c3,c4,c5,c6,v0,f1,f2,f3,f4]
 rw [cp rfl (by simp),dP (by omega)]


theorem O1 (n:Nat) (H k) (h1:100≤n) (hn:n < 1000):ag Tryz.prog 122 [.slice H.length 1 3 (.ex 23),.int .u64 (n:Nat)] (H++[.cells [.int .u8 0,.int .u8 0,.int .u8 0,.int .u8 0,.int .u8 0,.int .u8 0,.int .u8 0,.int .u8 0,.int .u8 0,.int .u8 0,.int .u8 0,.int .u8 0,.int .u8 0,.int .u8 0,.int .u8 0,.int .u8 0,.int .u8 0,.int .u8 0,.int .u8 0,.int .u8 0,.int .u8 0,.int .u8 0,.int .u8 0,.int .u8 0] 177 .rw]) k =
  k (.tuple [],H++[.cells (.int .u8 0::.int .u8 (aC (n / 100)).toNat::.int .u8 (aC ((n % 100) / 10)).toNat::.int .u8 (aC ((n % 100) % 10)).toNat::[.int .u8 0,.int .u8 0,.int .u8 0,.int .u8 0,.int .u8 0,.int .u8 0,.int .u8 0,.int .u8 0,.int .u8 0,.int .u8 0,.int .u8 0,.int .u8 0,.int .u8 0,.int .u8 0,.int .u8 0,.int .u8 0,.int .u8 0,.int .u8 0,.int .u8 0,.int .u8 0]) 177 .rw],⟨none,some H.length⟩):=by
 refine ak ?_ k
 refine aa (n:=167) (rs:=[]) Tryz.func122 rfl rfl rfl ?_
 intro σ hl ha
 have h0:=ha 0 (by simp)
 have h1':=ha 1 (by simp)
 clear ha
 simp only [Option.getD_some,List.getElem?_cons_zero,List.getElem?_cons_succ] at h0 h1'
 have v0:IntKind.u32.wrap (n:Int)=(n:Int):=wrap_u32 (by omega)
 have f1:(n:Int).tmod 100=((n % 100:Nat):Int):=dL (by decide)
 have f2:IntKind.u32.wrap ((n:Int).tdiv 100)=((n / 100:Nat):Int):=ej (by omega) (by decide)
 have f3:IntKind.u32.wrap (((n % 100:Nat):Int)*2)=((2*(n % 100):Nat):Int):=w2x (by omega)
 have f4:IntKind.u32.wrap (((2*(n % 100):Nat):Int)+1)=((2*(n % 100)+1:Nat):Int):=w2y (by omega)
 have g1:IntKind.u8.wrap (IntKind.u32.wrap (48+((n / 100:Nat):Int)))=((aC (n / 100)).toNat:Int):=lM (by omega)
 simp only [go_sem,simprocAttr,hl,h0,h1',v0,f1,f2,f3,f4,g1]
 rw [go_loop]
 simp only [go_sem,simprocAttr,hl,h0,h1',v0,f1,f2,f3,f4,g1]
 refine ay au (by kernel_rfl) ?_
 simp only [go_sem,simprocAttr,hl,h0,h1',v0,f1,f2,f3,f4,g1]
 rw [aP (by kernel_rfl) (show n % 100 < 100 by omega)]
 simp only [go_sem,simprocAttr,hl,h0,h1',v0,f1,f2,f3,f4,g1]
 rw [aQ (by kernel_rfl) (show n % 100 < 100 by omega)]
 simp only [go_sem,simprocAttr,hl,h0,h1',v0,f1,f2,f3,f4,g1]
 refine ⟨(by kernel_rfl:bN _ _ _=true),?_⟩
 try simp only [go_sem,simprocAttr,hl,h0,h1',v0,f1,f2,f3,f4,g1]
 rw [cp rfl (by simp),dP (by omega)]

theorem O0 (n:Nat) (H k) (h1:1000≤n) (hn:n < 10000):ag Tryz.prog 122 [.slice H.length 1 4 (.ex 23),.int .u64 (n:Nat)] (H++[.cells [.int .u8 0,.int .u8 0,.int .u8 0,.int .u8 0,.int .u8 0,.int .u8 0,.int .u8 0,.int .u8 0,.int .u8 0,.int .u8 0,.int .u8 0,.int .u8 0,.int .u8 0,.int .u8 0,.int .u8 0,.int .u8 0,.int .u8 0,.int .u8 0,.int .u8 0,.int .u8 0,.int .u8 0,.int .u8 0,.int .u8 0,.int .u8 0] 177 .rw]) k =
  k (.tuple [],H++[.cells (.int .u8 0::.int .u8 (aC ((n % 10000 / 100) / 10)).toNat::.int .u8 (aC ((n % 10000 / 100) % 10)).toNat::.int .u8 (aC ((n % 10000 % 100) / 10)).toNat::.int .u8 (aC ((n % 10000 % 100) % 10)).toNat::[.int .u8 0,.int .u8 0,.int .u8 0,.int .u8 0,.int .u8 0,.int .u8 0,.int .u8 0,.int .u8 0,.int .u8 0,.int .u8 0,.int .u8 0,.int .u8 0,.int .u8 0,.int .u8 0,.int .u8 0,.int .u8 0,.int .u8 0,.int .u8 0,.int .u8 0]) 177 .rw],⟨none,some H.length⟩):=by
 refine ak ?_ k
 refine aa (n:=167) (rs:=[]) Tryz.func122 rfl rfl rfl ?_
 intro σ hl ha
 have h0:=ha 0 (by simp)
 have h1':=ha 1 (by simp)
 clear ha
 simp only [Option.getD_some,List.getElem?_cons_zero,List.getElem?_cons_succ] at h0 h1'
 have v0:IntKind.u32.wrap (n:Int)=(n:Int):=wrap_u32 (by omega)
 have d1:(n:Int).tmod 10000=((n % 10000:Nat):Int):=dL (by decide)
 have d2:IntKind.u32.wrap ((n:Int).tdiv 10000)=((n / 10000:Nat):Int):=ej (by omega) (by decide)
 have e1:IntKind.u32.wrap (((n % 10000:Nat):Int).tdiv 100)=((n % 10000 / 100:Nat):Int):=ej (by omega) (by decide)
 have e2:((n % 10000:Nat):Int).tmod 100=((n % 10000 % 100:Nat):Int):=dL (by decide)
 have e3:IntKind.u32.wrap (((n % 10000 / 100:Nat):Int)*2)=((2*(n % 10000 / 100):Nat):Int):=w2x (by omega)
 have e4:IntKind.u32.wrap (((n % 10000 % 100:Nat):Int)*2)=((2*(n % 10000 % 100):Nat):Int):=w2x (by omega)
 have e5:IntKind.u32.wrap (((2*(n % 10000 / 100):Nat):Int)+1)=((2*(n % 10000 / 100)+1:Nat):Int):=w2y (by omega)
 have e6:IntKind.u32.wrap (((2*(n % 10000 % 100):Nat):Int)+1)=((2*(n % 10000 % 100)+1:Nat):Int):=w2y (by omega)
 simp only [go_sem,simprocAttr,hl,h0,h1',v0,d1,d2,e1,e2,e3,e4,e5,e6]
 rw [go_loop]
 simp only [go_sem,simprocAttr,hl,h0,h1',v0,d1,d2,e1,e2,e3,e4,e5,e6]
 refine ay au (by kernel_rfl) ?_
 simp only [go_sem,simprocAttr,hl,h0,h1',v0,d1,d2,e1,e2,e3,e4,e5,e6]
 rw [aP (by kernel_rfl) (show n % 10000 % 100 < 100 by omega)]
 simp only [go_sem,simprocAttr,hl,h0,h1',v0,d1,d2,e1,e2,e3,e4,e5,e6]
 rw [aQ (by kernel_rfl) (show n % 10000 % 100 < 100 by omega)]
 simp only [go_sem,simprocAttr,hl,h0,h1',v0,d1,d2,e1,e2,e3,e4,e5,e6]
 refine ⟨(by kernel_rfl:bN _ _ _=true),?_⟩
 try simp only [go_sem,simprocAttr,hl,h0,h1',v0,d1,d2,e1,e2,e3,e4,e5,e6]
 refine ay au (by kernel_rfl) ?_
 simp only [go_sem,simprocAttr,hl,h0,h1',v0,d1,d2,e1,e2,e3,e4,e5,e6]
 rw [aP (by kernel_rfl) (show n % 10000 / 100 < 100 by omega)]
 simp only [go_sem,simprocAttr,hl,h0,h1',v0,d1,d2,e1,e2,e3,e4,e5,e6]
 rw [aQ (by kernel_rfl) (show n % 10000 / 100 < 100 by omega)]
 simp only [go_sem,simprocAttr,hl,h0,h1',v0,d1,d2,e1,e2,e3,e4,e5,e6]
 refine ⟨(by kernel_rfl:bN _ _ _=true),?_⟩
 try simp only [go_sem,simprocAttr,hl,h0,h1',v0,d1,d2,e1,e2,e3,e4,e5,e6]
 rw [cp rfl (by simp),dP (by omega)]

theorem OZ (n:Nat) (H k) (h1:10000≤n) (hn:n < 100000):ag Tryz.prog 122 [.slice H.length 1 5 (.ex 23),.int .u64 (n:Nat)] (H++[.cells [.int .u8 0,.int .u8 0,.int .u8 0,.int .u8 0,.int .u8 0,.int .u8 0,.int .u8 0,.int .u8 0,.int .u8 0,.int .u8 0,.int .u8 0,.int .u8 0,.int .u8 0,.int .u8 0,.int .u8 0,.int .u8 0,.int .u8 0,.int .u8 0,.int .u8 0,.int .u8 0,.int .u8 0,.int .u8 0,.int .u8 0,.int .u8 0] 177 .rw]) k =
  k (.tuple [],H++[.cells (.int .u8 0::.int .u8 (aC (n / 10000)).toNat::.int .u8 (aC ((n % 10000 / 100) / 10)).toNat::.int .u8 (aC ((n % 10000 / 100) % 10)).toNat::.int .u8 (aC ((n % 10000 % 100) / 10)).toNat::.int .u8 (aC ((n % 10000 % 100) % 10)).toNat::[.int .u8 0,.int .u8 0,.int .u8 0,.int .u8 0,.int .u8 0,.int .u8 0,.int .u8 0,.int .u8 0,.int .u8 0,.int .u8 0,.int .u8 0,.int .u8 0,.int .u8 0,.int .u8 0,.int .u8 0,.int .u8 0,.int .u8 0,.int .u8 0]) 177 .rw],⟨none,some H.length⟩):=by
 refine ak ?_ k
 refine aa (n:=167) (rs:=[]) Tryz.func122 rfl rfl rfl ?_
 intro σ hl ha
 have h0:=ha 0 (by simp)
 have h1':=ha 1 (by simp)
 clear ha
 simp only [Option.getD_some,List.getElem?_cons_zero,List.getElem?_cons_succ] at h0 h1'
 have v0:IntKind.u32.wrap (n:Int)=(n:Int):=wrap_u32 (by omega)
 have d1:(n:Int).tmod 10000=((n % 10000:Nat):Int):=dL (by decide)
 have d2:IntKind.u32.wrap ((n:Int).tdiv 10000)=((n / 10000:Nat):Int):=ej (by omega) (by decide)
 have e1:IntKind.u32.wrap (((n % 10000:Nat):Int).tdiv 100)=((n % 10000 / 100:Nat):Int):=ej (by omega) (by decide)
 have e2:((n % 10000:Nat):Int).tmod 100=((n % 10000 % 100:Nat):Int):=dL (by decide)
 have e3:IntKind.u32.wrap (((n % 10000 / 100:Nat):Int)*2)=((2*(n % 10000 / 100):Nat):Int):=w2x (by omega)
 have e4:IntKind.u32.wrap (((n % 10000 % 100:Nat):Int)*2)=((2*(n % 10000 % 100):Nat):Int):=w2x (by omega)
 have e5:IntKind.u32.wrap (((2*(n % 10000 / 100):Nat):Int)+1)=((2*(n % 10000 / 100)+1:Nat):Int):=w2y (by omega)
 have e6:IntKind.u32.wrap (((2*(n % 10000 % 100):Nat):Int)+1)=((2*(n % 10000 % 100)+1:Nat):Int):=w2y (by omega)
 have g1:IntKind.u8.wrap (IntKind.u32.wrap (48+((n / 10000:Nat):Int)))=((aC (n / 10000)).toNat:Int):=lM (by omega)
 simp only [go_sem,simprocAttr,hl,h0,h1',v0,d1,d2,e1,e2,e3,e4,e5,e6,g1]
 rw [go_loop]
 simp only [go_sem,simprocAttr,hl,h0,h1',v0,d1,d2,e1,e2,e3,e4,e5,e6,g1]
 refine ay au (by kernel_rfl) ?_
 simp only [go_sem,simprocAttr,hl,h0,h1',v0,d1,d2,e1,e2,e3,e4,e5,e6,g1]
 rw [aP (by kernel_rfl) (show n % 10000 % 100 < 100 by omega)]
 simp only [go_sem,simprocAttr,hl,h0,h1',v0,d1,d2,e1,e2,e3,e4,e5,e6,g1]
 rw [aQ (by kernel_rfl) (show n % 10000 % 100 < 100 by omega)]
 simp only [go_sem,simprocAttr,hl,h0,h1',v0,d1,d2,e1,e2,e3,e4,e5,e6,g1]
 refine ⟨(by kernel_rfl:bN _ _ _=true),?_⟩
 try simp only [go_sem,simprocAttr,hl,h0,h1',v0,d1,d2,e1,e2,e3,e4,e5,e6,g1]
 refine ay au (by kernel_rfl) ?_
 simp only [go_sem,simprocAttr,hl,h0,h1',v0,d1,d2,e1,e2,e3,e4,e5,e6,g1]
 rw [aP (by kernel_rfl) (show n % 10000 / 100 < 100 by omega)]
 simp only [go_sem,simprocAttr,hl,h0,h1',v0,d1,d2,e1,e2,e3,e4,e5,e6,g1]
 rw [aQ (by kernel_rfl) (show n % 10000 / 100 < 100 by omega)]
 simp only [go_sem,simprocAttr,hl,h0,h1',v0,d1,d2,e1,e2,e3,e4,e5,e6,g1]
 refine ⟨(by kernel_rfl:bN _ _ _=true),?_⟩
 try simp only [go_sem,simprocAttr,hl,h0,h1',v0,d1,d2,e1,e2,e3,e4,e5,e6,g1]
 rw [cp rfl (by simp),dP (by omega)]


def ua (n:Nat):Nat:=if n < 256 then bl8 n else 8+bl8 (n / 256)
def bl (n:Nat):Nat:=if n < 65536 then ua n else 16+ua (n / 65536)
theorem Fp {n:Nat} (h:n < 65536):ua n≤16:=by
 unfold ua
 split
 ·have:=(tH ‹_›).2; omega
 ·have:=(tH (c:=n / 256) (by omega)).2; omega
theorem nQ {n:Nat} (h:n < 65536):n < 2 ^ ua n∧(n≠0→2 ^ ua n≤2*n):=by
 unfold ua
 split
 ·exact vk ‹_›
 ·have hr:=vk (c:=n / 256) (by omega)
  rw [Nat.pow_add]
  have:=hr.2 (by omega)
  omega
theorem K6 {n:Nat} (h:n < 4294967296):n < 2 ^ bl n∧(n≠0→2 ^ bl n≤2*n)∧bl n≤32:=by
 unfold bl
 split
 ·have:=Fp ‹_›
  exact ⟨(nQ ‹_›).1,(nQ ‹_›).2,by omega⟩
 ·have hr:=nQ (n:=n / 65536) (by omega)
  have:=Fp (n:=n / 65536) (by omega)
  rw [Nat.pow_add]
  have:=hr.2 (by omega)
  omega

theorem MW (n:Nat) (H k) (hn:n < 4294967296):ag Tryz.prog 146 [.int .u64 (n:Nat)] H k=k (.int .i64 (bl n:Nat),H,z0):=by
 refine ak (r:=(.int .i64 (bl n:Nat),H,z0)) ?_ k
 refine aa (n:=25) (rs:=[.tmp 2]) Tryz.func146 rfl rfl rfl ?_
 intro σ hl ha
 have h0:=ha 0 (by simp)
 clear ha
 simp only [Option.getD_some,List.getElem?_cons_zero,List.getElem?_cons_succ] at h0
 have g1:decide ((n:Int)≥4294967296)=false:=by simp; omega
 obtain ⟨m,b,hm,hmb,hg,hsum⟩:∃ (m b:Nat),m < 65536∧(decide ((n:Int)≥65536)=false∧m=n∧b=0∨decide ((n:Int)≥65536)=true∧m=n / 65536∧b=16)∧b≤16∧bl n=b+ua m:=by
  by_cases h:n < 65536
  ·exact ⟨n,0,h,.inl ⟨by simp; omega,rfl,rfl⟩,by omega,by unfold bl; rw [if_pos h,Nat.zero_add]⟩
  ·exact ⟨n / 65536,16,by omega,.inr ⟨by simp; omega,rfl,rfl⟩,by omega,by unfold bl; rw [if_neg h]⟩
 have w16:IntKind.i64.wrap (0+16)=((16:Nat):Int):=by decide
 have w16':IntKind.i64.wrap 16=16:=by decide
 have sh:(n:Int).fdiv (2 ^ min 16 64)=((n / 65536:Nat):Int):=by
  have:(2:Int) ^ min 16 64=65536:=by decide
  rw [this,Int.fdiv_eq_ediv_of_nonneg _ (by omega)]; omega
 rw [hsum]
 by_cases h:m < 256
 ·have g3:decide ((m:Int)≥256)=false:=by simp; omega
  have w1:IntKind.u8.wrap (m:Int)=(m:Int):=by rw [wrap_u8 (by omega)]
  have hb:=(tH h).2
  have hv:=ofNat_le hb (by decide)
  have w2:IntKind.i64.wrap (bl8 m:Int)=(bl8 m:Int):=by rw [wrap_i64 (by omega)]
  have hs:ua m=bl8 m:=if_pos h
  rcases hmb with ⟨g2,rfl,rfl⟩ | ⟨g2,rfl,rfl⟩
  ·have w3:IntKind.i64.wrap (0+(bl8 m:Int))=(bl8 m:Int):=by rw [wrap_i64 (by omega)]; omega
   simp only [go_sem,simprocAttr,hl,h0,g1,g2,g3,w1]
   rw [kM (by kernel_rfl) h]
   simp only [go_sem,simprocAttr,hl,h0,hv,w2,w3,hs,Nat.zero_add]
  ·have w3:IntKind.i64.wrap (16+(bl8 (n / 65536):Int))=((16+bl8 (n / 65536):Nat):Int):=by rw [wrap_i64 (by omega)]; omega
   simp only [go_sem,simprocAttr,hl,h0,g1,g2,sh,g3,w1,w16,w16']
   rw [kM (by kernel_rfl) h]
   simp only [go_sem,simprocAttr,hl,h0,hv,w2,w3,hs]
 ·have g3:decide ((m:Int)≥256)=true:=by simp; omega
  have w1:IntKind.u8.wrap ((m:Int).fdiv (2 ^ min 8 64))=((m / 256:Nat):Int):=by
   have:(2:Int) ^ min 8 64=256:=by decide
   rw [this,Int.fdiv_eq_ediv_of_nonneg _ (by omega),wrap_u8 (by omega)]; omega
  have hlt:m / 256 < 256:=by omega
  have hb:=(tH hlt).2
  have hv:=ofNat_le hb (by decide)
  have w2:IntKind.i64.wrap (bl8 (m / 256):Int)=(bl8 (m / 256):Int):=by rw [wrap_i64 (by omega)]
  have hs:ua m=8+bl8 (m / 256):=if_neg h
  rcases hmb with ⟨g2,rfl,rfl⟩ | ⟨g2,rfl,rfl⟩
  ·have w3:IntKind.i64.wrap (8+(bl8 (m / 256):Int))=((8+bl8 (m / 256):Nat):Int):=by rw [wrap_i64 (by omega)]; omega
   simp only [go_sem,simprocAttr,hl,h0,g1,g2,g3,w1]
   rw [kM (by kernel_rfl) hlt]
   simp only [go_sem,simprocAttr,hl,h0,hv,w2,w3,hs,Nat.zero_add]
  ·have w3:IntKind.i64.wrap (24+(bl8 (n / 65536 / 256):Int))=((16+(8+bl8 (n / 65536 / 256)):Nat):Int):=by rw [wrap_i64 (by omega)]; omega
   have w4:IntKind.i64.wrap (16+8)=24:=by decide
   have w5:IntKind.i64.wrap 24=24:=by decide
   simp only [go_sem,simprocAttr,hl,h0,g1,g2,sh,g3,w1,w16,w16',w4,w5]
   rw [kM (by kernel_rfl) hlt]
   simp only [go_sem,simprocAttr,hl,h0,hv,w2,w3,hs]

theorem PO {b:Nat} (h:b≤32):b*78913 / 262144≤9∧10 ^ (b*78913 / 262144)≤2 ^ b∧2 ^ b≤10 ^ (b*78913 / 262144+1):=by
 have:∀ b:Fin 33,b.val*78913 / 262144≤9∧10 ^ (b.val*78913 / 262144)≤2 ^ b.val∧2 ^ b.val≤10 ^ (b.val*78913 / 262144+1):=by decide +kernel
 exact this ⟨b,by omega⟩
theorem Pz {l:Nat} (h:l≤9) (e:TypeId) (k:Kd):ldC l 1 false (.cells we e k)=some (.int .u64 ((10 ^ l:Nat):Int)):=by
 have:l=0∨l=1∨l=2∨l=3∨l=4∨l=5∨l=6∨l=7∨l=8∨l=9:=by omega
 rcases this with rfl | rfl | rfl | rfl | rfl | rfl | rfl | rfl | rfl | rfl <;> rfl

theorem ny (n L:Nat) (H k) (ht:Tb H) (hL:1≤L) (h1:10 ^ (L - 1)≤n) (h2:n < 10 ^ L) (hn:n < 4294967296):ag Tryz.prog 121 [.int .u64 (n:Nat)] H k=k (.int .i64 (L:Nat),H,z0):=by
 refine ak (r:=(.int .i64 (L:Nat),H,z0)) ?_ k
 refine aa (n:=15) (rs:=[.tmp 2]) Tryz.func121 rfl rfl rfl ?_
 intro σ hl ha
 have h0:=ha 0 (by simp)
 clear ha
 simp only [Option.getD_some,List.getElem?_cons_zero,List.getElem?_cons_succ] at h0
 obtain ⟨te,kd,ht⟩:=ht
 obtain ⟨r1,r2,r3⟩:=K6 hn
 obtain ⟨t1,t2,t3⟩:=PO r3
 have c1:=fun H k=>MW n H k hn
 have c2:=fun H k=>MV (bl n) H k (by omega)
 have c3:=fun b H k=>Jl b H k
 obtain ⟨l,hl'⟩:∃ l,bl n*78913 / 262144=l:=⟨_,rfl⟩
 rw [hl'] at c2 t1 t2 t3
 have hld:=Pz t1
 have ix:=T8 (i:=l) (by omega)
 have uniq:∀ a:Nat,10 ^ a≤n→n < 10 ^ (a+1)→L=a+1:=by
  intro a ha1 ha2
  have p1:L - 1 < a+1:=(Nat.pow_lt_pow_iff_right (by decide:1 < 10)).1 (Nat.lt_of_le_of_lt h1 ha2)
  have p2:a < L:=(Nat.pow_lt_pow_iff_right (by decide:1 < 10)).1 (Nat.lt_of_le_of_lt ha1 h2)
  omega
 by_cases hg:10 ^ l≤n
 ·have g1:decide ((n:Int)≥((10 ^ l:Nat):Int))=true:=by simp only [decide_eq_true_eq]; omega
  have hres:=uniq l hg (by omega)
  have w:IntKind.i64.wrap ((l:Int)+1)=((l+1:Nat):Int):=by rw [wrap_i64 (by omega)]; omega
  subst hres
  simp only [go_sem,simprocAttr,hl,h0,c1,c2,ix,ht,hld,ge_iff_le,Int.ofNat_le,hg,c3,w]
 ·have hn0:n≠0:=by
   have:0 < 10 ^ (L - 1):=Nat.pow_pos (by decide)
   omega
  have h4:=r2 hn0
  have hl1:1≤l:=by
   rcases Nat.eq_zero_or_pos l with h | h
   ·rw [h] at hg; simp at hg; omega
   ·exact h
  obtain ⟨q,rfl⟩:∃ q,l=q+1:=⟨l - 1,by omega⟩
  have hp:10 ^ (q+1)=10 ^ q*10:=Nat.pow_succ 10 q
  have hres:=uniq q (by omega) (by omega)
  have w:IntKind.i64.wrap (((q+1:Nat):Int)+0)=((q+1:Nat):Int):=by rw [wrap_i64 (by omega)]; omega
  have w':IntKind.i64.wrap (((q+1:Nat):Int))=((q+1:Nat):Int):=by rw [wrap_i64 (by omega)]
  subst hres
  simp only [go_sem,simprocAttr,hl,h0,c1,c2,ix,ht,hld,ge_iff_le,Int.ofNat_le,hg,c3,w,w',Int.add_zero]

theorem DF (n:Nat) (H k) (ht:Tb H) (hn:n < 4294967296):ag Tryz.prog 90 [.int .u64 (n:Nat),.int .i64 10] H k=k (.str (bF n),H,z0):=by
 refine ak (r:=(.str (bF n),H,z0)) ?_ k
 refine aa (n:=32) (rs:=[.tmp 4]) Tryz.func90 rfl rfl rfl ?_
 intro σ hl ha
 have h0:=ha 0 (by simp)
 have h1:=ha 1 (by simp)
 clear ha
 simp only [Option.getD_some,List.getElem?_cons_zero,List.getElem?_cons_succ] at h0 h1
 by_cases h100:n < 100
 ·have g1:decide ((n:Int) < 100)=true:=by simp; omega
  have hs:=fun H k=>pJ n H k h100
  have w1:IntKind.i64.wrap (n:Int)=(n:Int):=wrap_i64 (by omega)
  simp only [go_sem,simprocAttr,hl,h0,h1,g1,w1,hs]
 ·have g1:decide ((n:Int) < 100)=false:=by simp; omega
  have hnum:=fun L k h1 h2 h3=>ny n L (H++[.cells [.int .u8 0,.int .u8 0,.int .u8 0,.int .u8 0,.int .u8 0,.int .u8 0,.int .u8 0,.int .u8 0,.int .u8 0,.int .u8 0,.int .u8 0,.int .u8 0,.int .u8 0,.int .u8 0,.int .u8 0,.int .u8 0,.int .u8 0,.int .u8 0,.int .u8 0,.int .u8 0,.int .u8 0,.int .u8 0,.int .u8 0,.int .u8 0] 177 .rw]) k (ht.old _) h1 h2 h3 hn
  have hc:(n < 1000)∨(1000≤n∧n < 10000)∨(10000≤n∧n < 100000)∨(100000≤n∧n < 1000000)∨(1000000≤n∧n < 10000000)∨(10000000≤n∧n < 100000000)∨(100000000≤n∧n < 1000000000)∨(1000000000≤n):=by omega
  rcases hc with h | ⟨h,h'⟩ | ⟨h,h'⟩ | ⟨h,h'⟩ | ⟨h,h'⟩ | ⟨h,h'⟩ | ⟨h,h'⟩ | h
  ·have hd:=fun k=>hnum 3 k (by decide) (by omega) (by omega)
   have hf:=fun k=>S4 n H k (by omega) (by omega)
   simp only [go_sem,simprocAttr,hl,h0,h1,g1,hd,hf,Int.cast_ofNat_Int]
   rw [QY (n:=n) (by omega) (by omega)]
  ·have hd:=fun k=>hnum 4 k (by decide) (by omega) (by omega)
   have hf:=fun k=>S3 n H k (by omega) (by omega)
   simp only [go_sem,simprocAttr,hl,h0,h1,g1,hd,hf,Int.cast_ofNat_Int]
   rw [QX (n:=n) (by omega) (by omega)]
  ·have hd:=fun k=>hnum 5 k (by decide) (by omega) (by omega)
   have hf:=fun k=>S2 n H k (by omega) (by omega)
   simp only [go_sem,simprocAttr,hl,h0,h1,g1,hd,hf,Int.cast_ofNat_Int]
   rw [QW (n:=n) (by omega) (by omega)]
  ·have hd:=fun k=>hnum 6 k (by decide) (by omega) (by omega)
   have hf:=fun k=>S1 n H k (by omega) (by omega)
   simp only [go_sem,simprocAttr,hl,h0,h1,g1,hd,hf,Int.cast_ofNat_Int]
   rw [Tl (n:=n) (by omega) (by omega)]
  ·have hd:=fun k=>hnum 7 k (by decide) (by omega) (by omega)
   have hf:=fun k=>S0 n H k (by omega) (by omega)
   simp only [go_sem,simprocAttr,hl,h0,h1,g1,hd,hf,Int.cast_ofNat_Int]
   rw [Tj (n:=n) (by omega) (by omega)]
  ·have hd:=fun k=>hnum 8 k (by decide) (by omega) (by omega)
   have hf:=fun k=>SZ n H k (by omega) (by omega)
   simp only [go_sem,simprocAttr,hl,h0,h1,g1,hd,hf,Int.cast_ofNat_Int]
   rw [Ti (n:=n) (by omega) (by omega)]
  ·have hd:=fun k=>hnum 9 k (by decide) (by omega) (by omega)
   have hf:=fun k=>SY n H k (by omega) (by omega)
   simp only [go_sem,simprocAttr,hl,h0,h1,g1,hd,hf,Int.cast_ofNat_Int]
   rw [Th (n:=n) (by omega) (by omega)]
  ·have hd:=fun k=>hnum 10 k (by decide) (by omega) (by omega)
   have hf:=fun k=>Qr n H k (by omega) (by omega)
   simp only [go_sem,simprocAttr,hl,h0,h1,g1,hd,hf,Int.cast_ofNat_Int]
   rw [O4 (n:=n) (by omega) (by omega)]

theorem GO (n:Nat) (H k) (ht:Tb H) (hn:n < 100000):ag Tryz.prog 93 [.int .i64 (n:Nat),.int .i64 10] H k=k (.str (bF n),H,z0):=by
 refine ak (r:=(.str (bF n),H,z0)) ?_ k
 refine aa (n:=54) (rs:=[.tmp 4]) Tryz.func93 rfl rfl rfl ?_
 intro σ hl ha
 have h0:=ha 0 (by simp)
 have h1:=ha 1 (by simp)
 clear ha
 simp only [Option.getD_some,List.getElem?_cons_zero,List.getElem?_cons_succ] at h0 h1
 have g0:decide ((0:Int)≤(n:Int))=true:=by simp
 have w1:IntKind.u64.wrap (n:Int)=(n:Int):=wrap_u64 (by omega)
 by_cases h100:n < 100
 ·have g1:decide ((n:Int) < 100)=true:=by simp; omega
  have hs:=fun H k=>pJ n H k h100
  simp only [go_sem,simprocAttr,hl,h0,h1,g0,g1,hs]
 ·have g1:decide ((n:Int) < 100)=false:=by simp; omega
  have g2:decide ((n:Int) < 0)=false:=by simp
  have hnum:=fun L k h1 h2 h3=>ny n L (H++[.cells [.int .u8 0,.int .u8 0,.int .u8 0,.int .u8 0,.int .u8 0,.int .u8 0,.int .u8 0,.int .u8 0,.int .u8 0,.int .u8 0,.int .u8 0,.int .u8 0,.int .u8 0,.int .u8 0,.int .u8 0,.int .u8 0,.int .u8 0,.int .u8 0,.int .u8 0,.int .u8 0,.int .u8 0,.int .u8 0,.int .u8 0,.int .u8 0] 177 .rw]) k (ht.old _) h1 h2 h3 (by omega)
  have hc:(n < 1000)∨(1000≤n∧n < 10000)∨(10000≤n∧n < 100000):=by omega
  rcases hc with h | ⟨h,h'⟩ | ⟨h,h'⟩
  ·have hd:=fun k=>hnum 3 k (by decide) (by omega) (by omega)
   have hf:=fun k=>O1 n H k (by omega) (by omega)
   simp only [go_sem,simprocAttr,hl,h0,h1,g0,g1,g2,w1,hd,hf,Int.cast_ofNat_Int]
   rw [QY (n:=n) (by omega) (by omega)]
  ·have hd:=fun k=>hnum 4 k (by decide) (by omega) (by omega)
   have hf:=fun k=>O0 n H k (by omega) (by omega)
   simp only [go_sem,simprocAttr,hl,h0,h1,g0,g1,g2,w1,hd,hf,Int.cast_ofNat_Int]
   rw [QX (n:=n) (by omega) (by omega)]
  ·have hd:=fun k=>hnum 5 k (by decide) (by omega) (by omega)
   have hf:=fun k=>OZ n H k (by omega) (by omega)
   simp only [go_sem,simprocAttr,hl,h0,h1,g0,g1,g2,w1,hd,hf,Int.cast_ofNat_Int]
   rw [QW (n:=n) (by omega) (by omega)]
theorem P2 (n:Nat) (H k) (ht:Tb H) (hn:n < 100000):ag Tryz.prog 59 [.int .i64 (n:Nat)] H k=k (.str (bF n),H,z0):=by
 refine ak (r:=(.str (bF n),H,z0)) ?_ k
 refine aa (n:=5) (rs:=[.tmp 2]) Tryz.func59 rfl rfl rfl ?_
 intro σ hl ha
 have h0:=ha 0 (by simp)
 clear ha
 simp only [Option.getD_some,List.getElem?_cons_zero,List.getElem?_cons_succ] at h0
 have hf:=fun k=>GO n H k ht hn
 simp only [go_sem,simprocAttr,hl,h0,hf]
theorem P3 (n:Nat) (H k) (ht:Tb H) (hn:n < 100000):ag Tryz.prog 30 [.int .i64 (n:Nat)] H k=k (.str (bF n),H,z0):=by
 refine ak (r:=(.str (bF n),H,z0)) ?_ k
 refine aa (n:=5) (rs:=[.tmp 2]) Tryz.func30 rfl rfl rfl ?_
 intro σ hl ha
 have h0:=ha 0 (by simp)
 clear ha
 simp only [Option.getD_some,List.getElem?_cons_zero,List.getElem?_cons_succ] at h0
 have hf:=fun k=>P2 n H k ht hn
 simp only [go_sem,simprocAttr,hl,h0,hf]
theorem Kf (n:Nat) (H k) (ht:Tb H) (hn:n < 4294967296):ag Tryz.prog 56 [.int .u64 (n:Nat),.int .i64 10] H k=k (.str (bF n),H,z0):=by
 refine ak (r:=(.str (bF n),H,z0)) ?_ k
 refine aa (n:=8) (rs:=[.tmp 4]) Tryz.func56 rfl rfl rfl ?_
 intro σ hl ha
 have h0:=ha 0 (by simp)
 have h1:=ha 1 (by simp)
 clear ha
 simp only [Option.getD_some,List.getElem?_cons_zero,List.getElem?_cons_succ] at h0 h1
 have hf:=fun k=>DF n H k ht hn
 simp only [go_sem,simprocAttr,hl,h0,h1,hf]
def gi (n:Nat):List UInt8:=if n < 16 then [aC n] else gi (n / 16)++[aC (n % 16)]
termination_by n
decreasing_by omega
theorem fk {n:Nat} (h:n < 16):gi n=[aC n]:=by unfold gi; rw [if_pos h]
theorem lK {n:Nat} (h:¬ n < 16):gi n=gi (n / 16)++[aC (n % 16)]:=by rw [gi]; rw [if_neg h]
theorem oV (n:Nat):(bF n).length≤n+1:=by
 induction n using Nat.strongRecOn with
 | _ n ih =>
  by_cases h:n < 10
  ·rw [cW h]; simp
  ·rw [gC h,List.length_append]
   have:=ih (n / 10) (by omega)
   simp; omega
theorem oK (n:Nat):(gi n).length≤n+1:=by
 induction n using Nat.strongRecOn with
 | _ n ih =>
  by_cases h:n < 16
  ·rw [fk h]; simp
  ·rw [lK h,List.length_append]
   have:=ih (n / 16) (by omega)
   simp; omega
theorem dB (n:Nat) (H k) (hn:n < 4294967296):ag Tryz.prog 97 [.int .u32 (n:Nat)] H k=k (.str (bF n),H,z0):=by
 refine ak (r:=(.str (bF n),H,z0)) ?_ k
 refine aa (n:=17) (rs:=[.tmp 2]) Tryz.func97 rfl rfl rfl ?_
 intro σ hl ha
 have h0:=ha 0 (by simp)
 clear ha
 simp only [Option.getD_some,List.getElem?_cons_zero,List.getElem?_cons_succ] at h0
 simp only [go_sem,simprocAttr,hl,h0]
 refine go_rounds (fun m st=>∃ σ T e acc,m < 4294967296∧bF n=bF m++acc∧st=⟨σ,H++T,e⟩∧clean H.length e∧σ.length=17∧fr σ 0=.int .u32 (m:Nat)∧fr σ 3=.str acc) n
  ⟨_,[],_,[],hn,by simp,by rw [List.append_nil],⟨rfl,rfl⟩,by simp only [go_sem,simprocAttr,hl],by simp only [go_sem,simprocAttr,hl,h0],by simp only [go_sem,simprocAttr,hl]⟩ ?_
 rintro m _ ⟨σ,T,e,acc,hm,hd,rfl,he,hl,h0,h3⟩
 have hal:acc.length≤4294967297:=by
  have h1:=oV n
  rw [hd,List.length_append] at h1; omega
 have w0:IntKind.u8.wrap (IntKind.u32.wrap (48+(m:Int).tmod 10))=((aC (m % 10)).toNat:Int):=by
  have e:(m:Int).tmod 10=((m % 10:Nat):Int):=rfl
  have h:(aC (m % 10)).toNat=48+m % 10:=by
   unfold aC; rw [if_pos (by omega)]; exact ofNat_le (m:=57) (by omega) (by omega)
  rw [e,h,show IntKind.u32.wrap (48+((m % 10:Nat):Int))=48+((m % 10:Nat):Int) from wrap_u32 (by omega),wrap_u8 (by omega)]; omega
 have w1:IntKind.u32.wrap ((m:Int).tdiv 10)=((m / 10:Nat):Int):=by
  have e:(m:Int).tdiv 10=((m / 10:Nat):Int):=rfl
  rw [e,wrap_u32 (by omega)]
 have a1:=iF (a:=[aC (m % 10)]) (b:=acc) (m:=1) (n:=4294967297) (by simp) hal (by omega)
 by_cases hlt:m < 10
 ·have z:((m / 10:Nat):Int) == 0:=by simp; omega
  have w2:m / 10=0:=by omega
  have hdd:[aC (m % 10)]++acc=bF n:=by rw [hd,cW hlt,Nat.mod_eq_of_lt hlt]
  simp only [go_sem,simprocAttr,hl,h0,h3,w0,w1,w2,jA,a1,Int.natCast_zero,Int.cast_ofNat_Int]
  rw [show aC (m % 10)::acc=bF n from hdd]
  exact aW rfl he
 ·have z:(((m / 10:Nat):Int) == 0)=false:=by simp; omega
  simp only [go_sem,simprocAttr,hl,h0,h3,w0,w1,z,jA,a1]
  exact ⟨m / 10,by omega,_,_,_,aC (m % 10)::acc,by omega,by rw [hd,gC hlt,List.append_assoc]; rfl,rfl,he,by simp only [go_sem,simprocAttr,hl],by simp only [go_sem,simprocAttr,hl],by simp only [go_sem,simprocAttr,hl]⟩

theorem pQ (n:Nat) (H k) (hn:n < 4294967296):ag Tryz.prog 98 [.int .i64 (n:Nat)] H k=k (.str (gi n),H,z0):=by
 refine ak (r:=(.str (gi n),H,z0)) ?_ k
 refine aa (n:=17) (rs:=[.tmp 2]) Tryz.func98 rfl rfl rfl ?_
 intro σ hl ha
 have h0:=ha 0 (by simp)
 clear ha
 simp only [Option.getD_some,List.getElem?_cons_zero,List.getElem?_cons_succ] at h0
 simp only [go_sem,simprocAttr,hl,h0]
 refine go_rounds (fun m st=>∃ σ acc,m < 4294967296∧gi n=gi m++acc∧st=⟨σ,H,z0⟩∧σ.length=17∧fr σ 0=.int .i64 (m:Nat)∧fr σ 3=.str acc) n
  ⟨_,[],hn,by simp,rfl,by simp only [go_sem,simprocAttr,hl],by simp only [go_sem,simprocAttr,hl,h0],by simp only [go_sem,simprocAttr,hl]⟩ ?_
 rintro m _ ⟨σ,acc,hm,hd,rfl,hl,h0,h3⟩
 have hal:acc.length≤4294967297:=by
  have h1:=oK n
  rw [hd,List.length_append] at h1; omega
 have w0:(m:Int).tmod 16=((m % 16:Nat):Int):=rfl
 have w1:IntKind.i64.wrap ((m:Int).tdiv 16)=((m / 16:Nat):Int):=by
  have e:(m:Int).tdiv 16=((m / 16:Nat):Int):=rfl
  rw [e,wrap_i64 (by omega)]
 have w3:IntKind.i64.wrap (((m % 16:Nat):Int)+1)=((m % 16+1:Nat):Int):=by rw [wrap_i64 (by omega)]; omega
 have hsl:=ND (n:=m % 16) (by omega)
 have d1:m % 16≤15:=by omega
 have d2:m % 16+1≤16:=by omega
 have d3:m % 16+1 - m % 16=1:=by omega
 have a1:=iF (a:=[aC (m % 16)]) (b:=acc) (m:=1) (n:=4294967297) (by simp) hal (by omega)
 by_cases hlt:m < 16
 ·have w2:m / 16=0:=by omega
  have hdd:[aC (m % 16)]++acc=gi n:=by rw [hd,fk hlt,Nat.mod_eq_of_lt hlt]
  simp only [go_sem,simprocAttr,hl,h0,h3,w0,w1,w2,w3,d1,d2,d3,hsl,a1,Int.natCast_zero,Int.cast_ofNat_Int]
  exact ⟨by omega,by rw [show aC (m % 16)::acc=gi n from hdd]⟩
 ·have z:(((m / 16:Nat):Int) == 0)=false:=by simp; omega
  simp only [go_sem,simprocAttr,hl,h0,h3,w0,w1,w3,d1,d2,d3,hsl,z,a1]
  exact ⟨by omega,m / 16,by omega,_,aC (m % 16)::acc,by omega,by rw [hd,lK hlt,List.append_assoc]; rfl,rfl,by simp only [go_sem,simprocAttr,hl],by simp only [go_sem,simprocAttr,hl],by simp only [go_sem,simprocAttr,hl]⟩
def xe:List AV:=[.int .u8 0,.int .u8 1,.int .u8 56,.int .u8 2,.int .u8 57,.int .u8 49,.int .u8 28,.int .u8 3,.int .u8 61,.int .u8 58,.int .u8 42,.int .u8 50,.int .u8 38,.int .u8 29,.int .u8 17,.int .u8 4,.int .u8 62,.int .u8 47,.int .u8 59,.int .u8 36,.int .u8 45,.int .u8 43,.int .u8 51,.int .u8 22,.int .u8 53,.int .u8 39,.int .u8 33,.int .u8 30,.int .u8 24,.int .u8 18,.int .u8 12,.int .u8 5,.int .u8 63,.int .u8 55,.int .u8 48,.int .u8 27,.int .u8 60,.int .u8 41,.int .u8 37,.int .u8 16,.int .u8 46,.int .u8 35,.int .u8 44,.int .u8 21,.int .u8 52,.int .u8 32,.int .u8 23,.int .u8 11,.int .u8 54,.int .u8 26,.int .u8 40,.int .u8 15,.int .u8 34,.int .u8 20,.int .u8 31,.int .u8 10,.int .u8 25,.int .u8 14,.int .u8 19,.int .u8 9,.int .u8 13,.int .u8 8,.int .u8 7,.int .u8 6]
def Db (H:Hp):Prop:=∃ e k,H[8]?=some (.cells xe e k)
theorem Db.old {H:Hp} (h:Db H) (l:Hp):Db (H++l):=by
 obtain ⟨e,k,h⟩:=h
 exact ⟨e,k,iC h⟩
theorem ixB {i:Int} (h:0≤i∧i < 64):aN Tryz.prog 226 (.ptr 8 0) (.int .u64 i)=some (.ptr 8 i.toNat):=by
 simp only [aN,Ev]
 rw [if_pos ⟨by omega,by omega⟩]
 simp
theorem LP (H k) (ht:Db H):ag Tryz.prog 165 [.int .u64 16] H k=k (.int .i64 4,H,z0):=by
 obtain ⟨et,kt,ht⟩:=ht
 refine ak (r:=(.int .i64 4,H,z0)) ?_ k
 refine aa (n:=14) (rs:=[.tmp 2]) Tryz.func165 rfl rfl rfl ?_
 intro σ hl ha
 have h0:=ha 0 (by simp)
 clear ha
 simp only [Option.getD_some,List.getElem?_cons_zero,List.getElem?_cons_succ] at h0
 have a1:eG .and .u64 16 (IntKind.u64.wrap (-16))=some (.int .u64 16):=rfl
 have a2:IntKind.u64.wrap 4573923408821661840=4573923408821661840:=rfl
 have a3:Int.fdiv 4573923408821661840 (2 ^ min 58 64)=15:=rfl
 have a4:=ixB (i:=15) (by decide)
 have a5:∀ (e:TypeId) (k:Kd),ldC 15 1 false (.cells xe e k)=some (.int .u8 4):=by intro e k; rw [sE]; rfl
 simp only [go_sem,simprocAttr,hl,h0,ht,a1,a2,a3,a4,a5]

theorem RI (H k) (ht:Db H):ag Tryz.prog 149 [.int .u64 16] H k=k (.int .i64 4,H,z0):=by
 refine ak (r:=(.int .i64 4,H,z0)) ?_ k
 refine aa (n:=8) (rs:=[.tmp 2]) Tryz.func149 rfl rfl rfl ?_
 intro σ hl ha
 have h0:=ha 0 (by simp)
 clear ha
 simp only [Option.getD_some,List.getElem?_cons_zero,List.getElem?_cons_succ] at h0
 have hf:=fun k=>LP H k ht
 simp only [go_sem,simprocAttr,hl,h0,hf]
theorem MM (H k):ag Tryz.prog 148 [.int .i64 16] H k=k (.bool true,H,z0):=by
 refine ak (r:=(.bool true,H,z0)) ?_ k
 refine aa (n:=8) (rs:=[.tmp 2]) Tryz.func148 rfl rfl rfl ?_
 intro σ hl ha
 have h0:=ha 0 (by simp)
 clear ha
 simp only [Option.getD_some,List.getElem?_cons_zero,List.getElem?_cons_succ] at h0
 have a1:eG .and .i64 16 15=some (.int .i64 0):=rfl
 simp only [go_sem,simprocAttr,hl,h0,a1]
theorem zN:∀ (k n:Nat),n < 16 ^ (k+1)→(gi n).length≤k+1
 | 0,n,h=>by rw [fk (by simpa using h)]; simp
 | k+1,n,h=>by
  by_cases h0:n < 16
  ·rw [fk h0]; simp
  ·rw [lK h0,List.length_append]
   have:n / 16 < 16 ^ (k+1):=by
    rw [Nat.div_lt_iff_lt_mul (by omega)]
    rw [Nat.pow_succ] at h; exact h
   have:=zN k (n / 16) this
   simp; omega
def z65 (l:List UInt8):List AV:=u8s (List.replicate (65 - l.length) 0++l)
theorem zP {n:Nat} (h:n < 16):([48,49,50,51,52,53,54,55,56,57,97,98,99,100,101,102,103,104,105,106,107,108,109,110,111,112,113,114,115,116,117,118,119,120,121,122]:List UInt8)[n]?=some (aC n):=by
 have:∀ n:Fin 16,([48,49,50,51,52,53,54,55,56,57,97,98,99,100,101,102,103,104,105,106,107,108,109,110,111,112,113,114,115,116,117,118,119,120,121,122]:List UInt8)[n.val]?=some (aC n.val):=by decide
 exact this ⟨n,h⟩
theorem Ee {l:List UInt8} {c:UInt8} (h:l.length < 65):splice (z65 l) (64 - l.length) [.int .u8 c.toNat]=z65 (c::l):=by
 unfold z65
 rw [Bn (c:=0) (by rw [List.getElem?_append_left (by simp; omega),List.getElem?_replicate_of_lt (by omega)])]
 congr 1
 obtain ⟨m,hm⟩:∃ m,65 - l.length=m+1:=⟨64 - l.length,by omega⟩
 have hm2:64 - l.length=m:=by omega
 have hm3:65 - (c::l).length=m:=by simp; omega
 rw [hm3,hm,hm2,List.replicate_succ',List.append_assoc]
 rw [List.set_append_right _ _ (by simp)]
 simp
theorem Eg (l:List UInt8) (h:l.length≤65):(z65 l).length=65:=by simp [z65,u8s]; omega
theorem HB (l:List UInt8) (h:l.length≤65):(z65 l).drop (65 - l.length)=u8s l:=by
 unfold z65
 rw [KE,List.drop_append_of_le_length (by simp),List.drop_eq_nil_of_le (by simp),List.nil_append]
set_option maxHeartbeats 1000000 in
theorem DG (n:Nat) (H k) (ht:Db H) (hn:n < 4294967296):ag Tryz.prog 123 [.aI,.int .u64 (n:Nat),.int .i64 16,.bool false,.bool false] H k=k (.tuple [.aI,.str (gi n)],H,z0):=by
 refine ak (r:=(.tuple [.aI,.str (gi n)],H,z0)) ?_ k
 refine aa (n:=102) (rs:=[.tmp 10,.tmp 11]) Tryz.func123 rfl rfl rfl ?_
 intro σ hl ha
 have h0:=ha 0 (by simp)
 have h1:=ha 1 (by simp)
 have h2:=ha 2 (by simp)
 have h3:=ha 3 (by simp)
 have h4:=ha 4 (by simp)
 clear ha
 simp only [Option.getD_some,List.getElem?_cons_zero,List.getElem?_cons_succ] at h0 h1 h2 h3 h4
 have hp:=fun H k=>MM H k
 have htz:=fun (x:bp) k=>RI (H++[x]) k (ht.old [x])
 simp only [go_sem,simprocAttr,hl,h0,h1,h2,h3,h4,hp,htz]
 have hz:z65 []=(List.replicate 65 (AV.int .u8 0)):=by simp [z65,u8s]
 refine go_rounds (fun m st=>∃ σ acc e,m < 4294967296∧gi n=gi m++acc∧acc.length+(gi m).length≤60∧st=⟨σ,H++[.cells (z65 acc) 202 .rw],e⟩∧clean H.length e∧σ.length=102∧fr σ 0=.aI∧fr σ 10=.aI∧fr σ 1=.int .u64 (m:Nat)∧fr σ 3=.bool false∧fr σ 4=.bool false∧fr σ 12=.ptr H.length 0∧fr σ 13=.int .i64 ((65 - acc.length:Nat))∧fr σ 14=.int .u64 4∧fr σ 15=.int .u64 16∧fr σ 16=.int .u64 15) n
  ⟨_,[],_,hn,by simp,?_,rfl,⟨rfl,rfl⟩,by simp only [go_sem,simprocAttr,hl],by simp only [go_sem,simprocAttr,hl,h0],by simp only [go_sem,simprocAttr,hl],by simp only [go_sem,simprocAttr,hl,h1],by simp only [go_sem,simprocAttr,hl,h3],by simp only [go_sem,simprocAttr,hl,h4],by simp only [go_sem,simprocAttr,hl],by simp only [go_sem,simprocAttr,hl],by simp only [go_sem,simprocAttr,hl],by simp only [go_sem,simprocAttr,hl],by simp only [go_sem,simprocAttr,hl]⟩ ?_
 ·have:=zN 8 n (by omega); simp; omega
 clear hl h0 h1 h2 h3 h4
 rintro m _ ⟨σ,acc,e,hm,hd,hal,rfl,he,hl,h0,h10,h1,h3,h4,h12,h13,h14,h15,h16⟩
 have hacc:acc.length≤60:=by omega
 have hpos:1≤(gi m).length:=by
  unfold gi; split <;> simp
 have wi:IntKind.i64.wrap (((65 - acc.length:Nat):Int) - 1)=((64 - acc.length:Nat):Int):=by rw [wrap_i64 (by omega)]; omega
 have hzl:=Eg acc (by omega)
 have dlt:64 - acc.length < 65:=by omega
 have dlt2:decide (64 - acc.length < 65)=true:=by simpa using dlt
 by_cases hge:16≤m
 ·have g1:decide ((m:Int)≥16)=true:=by simp; omega
  have a1:eG .and .u64 (m:Int) 15=some (.int .u64 ((m % 16:Nat):Int)):=by
   have:(BitVec.ofInt 64 (m:Int) &&& BitVec.ofInt 64 15).toNat=m % 16:=by
    rw [BitVec.toNat_and,BitVec.ofInt_natCast]
    simp only [BitVec.toNat_ofNat]
    rw [Nat.mod_eq_of_lt (show m < 2 ^ 64 by omega)]
    exact Nat.and_two_pow_sub_one_eq_mod m 4
   show some (AV.int .u64 (IntKind.u64.wrap ((BitVec.ofInt 64 (m:Int) &&& BitVec.ofInt 64 15).toNat:Int)))=_
   rw [this,wrap_u64 (by omega)]
  have a2:(m:Int).fdiv (2 ^ min 4 64)=((m / 16:Nat):Int):=by
   have:(2:Int) ^ min 4 64=16:=by decide
   rw [this,Int.fdiv_eq_ediv_of_nonneg _ (by omega)]; omega
  have hx:=zP (n:=m % 16) (by omega)
  have hx2:m % 16 < 36:=by omega
  have hput:=Ee (l:=acc) (c:=aC (m % 16)) (by omega)
  have hbig:=lK (n:=m) (by omega)
  simp only [go_sem,simprocAttr,hl,h0,h1,h3,h4,h12,h13,h14,h15,h16,g1,wi,a1,a2,hx,hx2,hput,hzl,dlt,dlt2]
  exact ⟨by omega,by omega,m / 16,by omega,_,aC (m % 16)::acc,_,by omega,by rw [hd,hbig,List.append_assoc]; rfl,by rw [hbig] at hal; simp at hal ⊢; omega,rfl,by simp only [go_sem,simprocAttr,he],by simp only [go_sem,simprocAttr,hl],by simp only [go_sem,simprocAttr,hl,h0],by simp only [go_sem,simprocAttr,hl,h10],by simp only [go_sem,simprocAttr,hl],by simp only [go_sem,simprocAttr,hl,h3],by simp only [go_sem,simprocAttr,hl,h4],by simp only [go_sem,simprocAttr,hl,h12],by simp only [go_sem,simprocAttr,hl],by simp only [go_sem,simprocAttr,hl,h14],by simp only [go_sem,simprocAttr,hl,h15],by simp only [go_sem,simprocAttr,hl,h16]⟩
 ·have g1:decide ((m:Int)≥16)=false:=by simp; omega
  have hx:=zP (n:=m) (by omega)
  have hx2:m < 36:=by omega
  have hput:=Ee (l:=acc) (c:=aC m) (by omega)
  have hsm:=fk (n:=m) (by omega)
  have hzl2:=Eg (aC m::acc) (by simp; omega)
  have htl:=HB (aC m::acc) (by simp; omega)
  have hfin:aC m::acc=gi n:=by rw [hd,hsm]; rfl
  simp only [go_sem,simprocAttr,hl,h0,h1,h3,h4,h12,h13,h14,h15,h16,g1,wi,hx,hx2,hput,hzl,dlt,dlt2]
  refine ⟨by omega,by omega,by omega,?_⟩
  have hrd:∀ (e:TypeId) (k:Kd),rdC (if 65=64 - acc.length then 0 else 64 - acc.length) (65 - (64 - acc.length)) (.cells (z65 (aC m::acc)) e k)=some (u8s (gi n)):=by
   intro e k
   rw [if_neg (by omega),y5,if_pos (by rw [hzl2]; omega),show 64 - acc.length=65 - (aC m::acc).length by simp,htl,hfin]
   rw [List.take_of_length_le (by rw [bz,← hfin]; simp; omega)]
  simp only [go_sem,simprocAttr,hl,hrd,lS,h10]
  exact aW rfl (bn he (by simp [clean,low]))

theorem GP (n:Nat) (H k) (ht:Db H) (hn:n < 4294967296):ag Tryz.prog 90 [.int .u64 (n:Nat),.int .i64 16] H k=k (.str (gi n),H,z0):=by
 refine ak (r:=(.str (gi n),H,z0)) ?_ k
 refine aa (n:=32) (rs:=[.tmp 4]) Tryz.func90 rfl rfl rfl ?_
 intro σ hl ha
 have h0:=ha 0 (by simp)
 have h1:=ha 1 (by simp)
 clear ha
 simp only [Option.getD_some,List.getElem?_cons_zero,List.getElem?_cons_succ] at h0 h1
 have hf:=fun k=>DG n H k ht hn
 simp only [go_sem,simprocAttr,hl,h0,h1,hf]
theorem NZ (n:Nat) (H k) (ht:Db H) (hn:n < 4294967296):ag Tryz.prog 56 [.int .u64 (n:Nat),.int .i64 16] H k=k (.str (gi n),H,z0):=by
 refine ak (r:=(.str (gi n),H,z0)) ?_ k
 refine aa (n:=8) (rs:=[.tmp 4]) Tryz.func56 rfl rfl rfl ?_
 intro σ hl ha
 have h0:=ha 0 (by simp)
 have h1:=ha 1 (by simp)
 clear ha
 simp only [Option.getD_some,List.getElem?_cons_zero,List.getElem?_cons_succ] at h0 h1
 have hf:=fun k=>GP n H k ht hn
 simp only [go_sem,simprocAttr,hl,h0,h1,hf]
structure Dt where
 raw:List UInt8
 host:List UInt8
 bW:List UInt8
 n0:Int
 n1:Int
 n2:Int
 n3:Int
 n4:Int
 deriving DecidableEq
def Dt.cells (d:Dt):List AV:=[.str d.raw,.str d.host,.str d.bW,.int .u32 d.n0,.int .u32 d.n1,.int .u32 d.n2,.int .u32 d.n3,.int .u32 d.n4]
def Dt.zero:Dt:=⟨[],[],[],0,0,0,0,0⟩
def iB (n:Int):Prop:=0≤n∧n < 4294967296
structure Dt.wf (d:Dt):Prop where
 raw:d.raw.length≤1048576
 host:d.host.length≤1048576
 bW:d.bW.length≤1048576
 n0:iB d.n0
 n1:iB d.n1
 n2:iB d.n2
 n3:iB d.n3
 n4:iB d.n4

theorem cR (t:Int):t=1∨t=2∨t=5∨t=6∨t=12∨t=15∨t=16∨t=28∨t=33∨(t≠1∧t≠2∧t≠5∧t≠6∧t≠12∧t≠15∧t≠16∧t≠28∧t≠33):=by omega
def nB:List AV:=[.int .u16 1,.str [65],.str [97],.int .u16 2,.str [78,83],.str [104],.int .u16 5,.str [67,78,65,77,69],.str [104],.int .u16 6,.str [83,79,65],.str [104,109,108,108,108,108,108],.int .u16 12,.str [80,84,82],.str [104],.int .u16 15,.str [77,88],.str [115,104],.int .u16 16,.str [84,88,84],.str [120],.int .u16 28,.str [65,65,65,65],.str [113],.int .u16 33,.str [83,82,86],.str [115,115,115,112]]
def Tk (H:Hp):Prop:=∃ e k,H[0]?=some (.cells nB e k)
theorem Tk.old {H:Hp} (h:Tk H) (l:Hp):Tk (H++l):=by
 obtain ⟨e,k,h⟩:=h
 exact ⟨e,k,iC h⟩
def aU (t:Int):List UInt8 :=
 if t=1 then [97] else if t=2 then [104] else if t=5 then [104] else if t=6 then [104,109,108,108,108,108,108] else if t=12 then [104] else
 if t=15 then [115,104] else if t=16 then [120] else if t=28 then [113] else if t=33 then [115,115,115,112] else [114]

def kT (i:Nat):Int:=(([1,2,5,6,12,15,16,28,33]:List Int)[i]?).getD 0
def fT (i:Nat):List UInt8:=aU (kT i)
theorem sI {i:Nat} (h:i < 9) (e:TypeId) (k:Kd):ldC (i*3) 1 false (.cells nB e k)=some (.int .u16 (kT i))∧ldC (i*3+2) 1 false (.cells nB e k)=some (.str (fT i)):=by
 have:i=0∨i=1∨i=2∨i=3∨i=4∨i=5∨i=6∨i=7∨i=8:=by omega
 rcases this with rfl | rfl | rfl | rfl | rfl | rfl | rfl | rfl | rfl <;> exact ⟨rfl,rfl⟩
theorem Kc {t:Int} (h:∀ j,j < 9→kT j≠t):aU t=[114]:=by
 have h0:=h 0 (by decide); have h1:=h 1 (by decide); have h2:=h 2 (by decide); have h3:=h 3 (by decide); have h4:=h 4 (by decide)
 have h5:=h 5 (by decide); have h6:=h 6 (by decide); have h7:=h 7 (by decide); have h8:=h 8 (by decide)
 simp only [kT,List.getElem?_cons_zero,List.getElem?_cons_succ,Option.getD_some] at h0 h1 h2 h3 h4 h5 h6 h7 h8
 unfold aU
 rw [if_neg (Ne.symm h0),if_neg (Ne.symm h1),if_neg (Ne.symm h2),if_neg (Ne.symm h3),if_neg (Ne.symm h4),if_neg (Ne.symm h5),if_neg (Ne.symm h6),if_neg (Ne.symm h7),if_neg (Ne.symm h8)]

theorem bM (t:Int) (H k) (hk:Tk H):ag Tryz.prog 55 [.int .u16 t] H k=k (.str (aU t),H,z0):=by
 obtain ⟨e,kd,hg⟩:=hk
 refine ak (r:=(.str (aU t),H,z0)) ?_ k
 refine aa (n:=18) (rs:=[.tmp 2]) Tryz.func55 rfl rfl rfl ?_
 intro σ hl ha
 have h0:=ha 0 (by simp)
 clear ha
 simp only [Option.getD_some,List.getElem?_cons_zero,List.getElem?_cons_succ] at h0
 simp only [go_sem,simprocAttr,hl,h0]
 refine go_rounds (fun n st=>∃ σ i,n+i=9∧(∀ j,j < i→kT j≠t)∧st=⟨σ,H,z0⟩∧σ.length=18∧fr σ 0=.int .u16 t∧fr σ 4=.int .i64 (i:Nat)) 9
  ⟨_,0,rfl,fun j hj=>by omega,rfl,by simp only [go_sem,simprocAttr,hl],by simp only [go_sem,simprocAttr,hl,h0],by simp only [go_sem,simprocAttr,hl]⟩ ?_
 rintro n _ ⟨σ,i,hn,hall,rfl,hl,h0,h4⟩
 by_cases hlt:i < 9
 ·obtain ⟨l1,l2⟩:=sI hlt e kd
  have hw:=aS (show i < 9223372036854775807 by omega)
  have g0:decide ((i:Int) < 9)=true:=by simp; omega
  have b0:(i:Int) < 9:=by omega
  by_cases hk:kT i=t
  ·have g1:(kT i == t)=true:=by rw [hk]; exact beq_self_eq_true t
   have hf:fT i=aU t:=by unfold fT; rw [hk]
   simp only [go_sem,simprocAttr,hl,h0,h4,g0,b0,hg,l1,l2,g1,hf]
  ·have g1:(kT i == t)=false:=by rw [beq_eq_false_iff_ne]; exact hk
   simp only [go_sem,simprocAttr,hl,h0,h4,g0,b0,hg,l1,l2,g1,hw]
   refine ⟨n - 1,by omega,_,i+1,by omega,fun j hj=>?_,rfl,by simp only [go_sem,simprocAttr,hl],by simp only [go_sem,simprocAttr,hl,h0],by simp only [go_sem,simprocAttr,hl]⟩
   by_cases hji:j=i
   ·rw [hji]; exact hk
   ·exact hall j (by omega)
 ·have g0:decide ((i:Int) < 9)=false:=by simp; omega
  have hf:=Kc (fun j hj=>hall j (by omega))
  simp only [go_sem,simprocAttr,hl,h0,h4,g0,hf]

def cG (t:Int):Bool:=decide (t=2∨t=5∨t=12∨t=6∨t=15∨t=33)
def cZ (t:Int):Bool:=decide (t=6)
def iA (t:Int):Nat:=if t=6 then 5 else if t=15 then 1 else if t=33 then 3 else 0
def iy (t:Int):Nat:=if t=6 then 32 else if t=15 then 16 else if t=33 then 16 else 0

theorem E7:cG 1=false:=rfl
theorem EW:cZ 1=false:=rfl
theorem E6:cG 2=true:=rfl
theorem EV:cZ 2=false:=rfl
theorem E5:cG 5=true:=rfl
theorem EU:cZ 5=false:=rfl
theorem E4:cG 6=true:=rfl
theorem ET:cZ 6=true:=rfl
theorem zM:cG 12=true:=rfl
theorem zw:cZ 12=false:=rfl
theorem zL:cG 15=true:=rfl
theorem zu:cZ 15=false:=rfl
theorem zK:cG 16=false:=rfl
theorem zq:cZ 16=false:=rfl
theorem zJ:cG 28=false:=rfl
theorem zn:cZ 28=false:=rfl
theorem zI:cG 33=true:=rfl
theorem zm:cZ 33=false:=rfl
attribute [go_sem] E7 EW E6 EV E5 EU E4 ET zM zw zL zu zK zq zJ zn zI zm
theorem jo {t a:Int} (h:t≠a):(t == a)=false:=by rw [beq_eq_false_iff_ne]; exact h

theorem dM (t:Int) (H k):ag Tryz.prog 65 [.int .u16 t] H k=k (.tuple [.bool (cG t),.bool (cZ t)],H,z0):=by
 refine ak (r:=(.tuple [.bool (cG t),.bool (cZ t)],H,z0)) ?_ k
 refine aa (n:=28) (rs:=[.tmp 2,.tmp 3]) Tryz.func65 rfl rfl rfl ?_
 intro σ hl ha
 have h0:=ha 0 (by simp)
 clear ha
 simp only [Option.getD_some,List.getElem?_cons_zero,List.getElem?_cons_succ] at h0
 rcases cR t with rfl | rfl | rfl | rfl | rfl | rfl | rfl | rfl | rfl | ⟨h1,h2,h3,h4,h5,h6,h7,h8,h9⟩
 all_goals try (first | (simp only [go_sem,simprocAttr,hl,h0]; done) | (simp only [go_sem,simprocAttr,hl,h0]; rfl))
 have e1:cG t=false:=by simp only [cG,decide_eq_false_iff_not]; omega
 have e2:cZ t=false:=by simp only [cZ,decide_eq_false_iff_not]; omega
 have h2:=jo h2; have h3:=jo h3; have h4:=jo h4; have h5:=jo h5; have h6:=jo h6; have h9:=jo h9
 simp only [go_sem,simprocAttr,hl,h0,h2,h3,h4,h5,h6,h9,e1,e2]
theorem dr (t:Int) (H k):ag Tryz.prog 96 [.int .u16 t] H k=k (.tuple [.int .i64 (iA t:Nat),.int .i64 (iy t:Nat)],H,z0):=by
 refine ak (r:=(.tuple [.int .i64 (iA t:Nat),.int .i64 (iy t:Nat)],H,z0)) ?_ k
 refine aa (n:=11) (rs:=[.tmp 2,.tmp 3]) Tryz.func96 rfl rfl rfl ?_
 intro σ hl ha
 have h0:=ha 0 (by simp)
 clear ha
 simp only [Option.getD_some,List.getElem?_cons_zero,List.getElem?_cons_succ] at h0
 rcases cR t with rfl | rfl | rfl | rfl | rfl | rfl | rfl | rfl | rfl | ⟨h1,h2,h3,h4,h5,h6,h7,h8,h9⟩
 all_goals try (first | (simp only [go_sem,simprocAttr,hl,h0]; done) | (simp only [go_sem,simprocAttr,hl,h0]; rfl))
 have e1:iA t=0:=by unfold iA; rw [if_neg h4,if_neg h6,if_neg h9]
 have e2:iy t=0:=by unfold iy; rw [if_neg h4,if_neg h6,if_neg h9]
 have h4:=jo h4; have h6:=jo h6; have h9:=jo h9
 simp only [go_sem,simprocAttr,hl,h0,h4,h6,h9,e1,e2]

def qY (t:Int) (r:List UInt8):Bool :=
 if cG t=true then (r == []) else if t=1 then ((r.length:Int) == 4) else if t=28 then ((r.length:Int) == 16) else if t=16 then (kV r && decide ((r.length:Int)≤65535)) else decide ((r.length:Int)≤65535)

theorem MF (t:Int) (r:List UInt8) (H k) (hr:r.length≤1048576):ag Tryz.prog 126 [.int .u16 t,.str r] H k=k (.bool (qY t r),H,z0):=by
 refine ak (r:=(.bool (qY t r),H,z0)) ?_ k
 refine aa (n:=47) (rs:=[.tmp 4]) Tryz.func126 rfl rfl rfl ?_
 intro σ hl ha
 have h0:=ha 0 (by simp)
 have h1:=ha 1 (by simp)
 clear ha
 simp only [Option.getD_some,List.getElem?_cons_zero,List.getElem?_cons_succ] at h0 h1
 have hn:=fun (t:Int) H k=>dM t H k
 rcases cR t with rfl | rfl | rfl | rfl | rfl | rfl | rfl | rfl | rfl | ⟨h1',h2,h3,h4,h5,h6,h7,h8,h9⟩
 case inr.inr.inr.inr.inr.inr.inl =>
  obtain ⟨b,_,hb⟩:=uB r H hr
  cases ht:kV r <;> rw [ht] at hb <;> simp only [go_sem,simprocAttr,hl,h0,h1,hn,hb] <;> simp [qY,cG,ht]
 case inr.inr.inr.inr.inr.inr.inr.inr.inr =>
  have e1:cG t=false:=by simp only [cG,decide_eq_false_iff_not]; omega
  have e2:cZ t=false:=by simp only [cZ,decide_eq_false_iff_not]; omega
  have e3:qY t r=decide ((r.length:Int)≤65535):=by unfold qY; rw [e1,if_neg (by decide),if_neg h1',if_neg h8,if_neg h7]
  have h1':=jo h1'; have h8:=jo h8; have h7:=jo h7
  simp only [go_sem,simprocAttr,hl,h0,h1,hn,e1,e2,e3,h1',h8,h7]
 all_goals (simp only [go_sem,simprocAttr,hl,h0,h1,hn]; first | done | simp [qY,cG])
def eqD (d d':Dt):Bool:=decide (d=d')
theorem aM (r h m r' h' m':List UInt8) (a b c d e a' b' c' d' e':Int) :
  gj Tryz.prog 20 34 (.agg [.str r,.str h,.str m,.int .u32 a,.int .u32 b,.int .u32 c,.int .u32 d,.int .u32 e]) (.agg [.str r',.str h',.str m',.int .u32 a',.int .u32 b',.int .u32 c',.int .u32 d',.int .u32 e'])=some (eqD ⟨r,h,m,a,b,c,d,e⟩ ⟨r',h',m',a',b',c',d',e'⟩):=by
 have key:gj Tryz.prog 20 34 (.agg [.str r,.str h,.str m,.int .u32 a,.int .u32 b,.int .u32 c,.int .u32 d,.int .u32 e]) (.agg [.str r',.str h',.str m',.int .u32 a',.int .u32 b',.int .u32 c',.int .u32 d',.int .u32 e']) =
   if (r == r')=true then (if (h == h')=true then (if (m == m')=true then
    ((if (a == a')=true then (if (b == b')=true then (if (c == c')=true then (if (d == d')=true then (if (e == e')=true then some true else some false) else some false) else some false) else some false) else some false:Option Bool).bind fun q=>if q=true then some true else some false)
    else some false) else some false) else some false:=by kernel_rfl
 rw [key]
 unfold eqD
 simp only [beq_iff_eq]
 by_cases h1:r=r'
 case neg=>simp [h1,Dt.mk.injEq]
 subst h1
 by_cases h2:h=h'
 case neg=>simp [h2,Dt.mk.injEq]
 subst h2
 by_cases h3:m=m'
 case neg=>simp [h3,Dt.mk.injEq]
 subst h3
 by_cases h4:a=a'
 case neg=>simp [h4,Dt.mk.injEq]
 subst h4
 by_cases h5:b=b'
 case neg=>simp [h5,Dt.mk.injEq]
 subst h5
 by_cases h6:c=c'
 case neg=>simp [h6,Dt.mk.injEq]
 subst h6
 by_cases h7:d=d'
 case neg=>simp [h7,Dt.mk.injEq]
 subst h7
 by_cases h8:e=e'
 case neg=>simp [h8,Dt.mk.injEq]
 subst h8
 simp
theorem need (is ok:Bool) (H:Hp) (x:bp) (r:Hp) (k):ag Tryz.prog 89 [.bool is,.ptr (H.length+1) 0] (H++(x::.cells [.bool ok] 4 .rw::r)) k=k (.tuple [],H++(x::.cells [.bool (ok && is)] 4 .rw::r),⟨none,some (H.length+1)⟩):=by
 refine ak (r:=(.tuple [],H++(x::.cells [.bool (ok && is)] 4 .rw::r),⟨none,some (H.length+1)⟩)) ?_ k
 refine aa (n:=7) (rs:=[]) Tryz.func89 rfl rfl rfl ?_
 intro σ hl ha
 have h0:=ha 0 (by simp)
 have h1:=ha 1 (by simp)
 clear ha
 simp only [Option.getD_some,List.getElem?_cons_zero,List.getElem?_cons_succ] at h0 h1
 cases ok
 ·simp only [go_sem,simprocAttr,hl,h0,h1]
  rw [cp rfl (by simp),dP (by omega)]
  rfl
 ·simp only [go_sem,simprocAttr,hl,h0,h1]
  rw [cp rfl (by simp),dP (by omega)]

theorem ckq (b:Bool):((if b=true then (0:Int) else 11) == 0)=b:=by cases b <;> rfl
theorem ax:bq Tryz.prog 34 []=some (.agg [.str [],.str [],.str [],.int .u32 0,.int .u32 0,.int .u32 0,.int .u32 0,.int .u32 0]):=by kernel_rfl
theorem iO {t:Int} (h:t≠1∧t≠2∧t≠5∧t≠6∧t≠12∧t≠15∧t≠16∧t≠28∧t≠33):aU t=[114]:=by
 obtain ⟨h1,h2,h3,h4,h5,h6,h7,h8,h9⟩:=h
 unfold aU
 rw [if_neg h1,if_neg h2,if_neg h3,if_neg h4,if_neg h5,if_neg h6,if_neg h7,if_neg h8,if_neg h9]

theorem check_1 (d:Dt) (H) (hk:Tk H) (hd:d.wf):ag Tryz.prog 54 [.int .u16 1,.agg d.cells] H (fun q=>q=(.int .i64 (if (((d.raw.length:Int) == 4) && eqD ⟨[],d.host,d.bW,d.n0,d.n1,d.n2,d.n3,d.n4⟩ ⟨[],[],[],0,0,0,0,0⟩)=true then 0 else 40),H,z0)):=by
 refine aa (n:=108) (rs:=[.tmp 4]) Tryz.func54 rfl rfl rfl ?_
 intro σ hl ha
 have h0:=ha 0 (by simp)
 have h1:=ha 1 (by simp)
 clear ha
 simp only [Option.getD_some,List.getElem?_cons_zero,List.getElem?_cons_succ] at h0 h1
 have hf:=fun l k=>bM 1 (H++l) k (hk.old l)
 have hneed:=fun (a b:Bool) x r k=>need a b H x r k
 rw [show aU 1=[97] from rfl] at hf
 have i0:aJ [97] 0=(.tuple [.bool true,.int .i64 0,.int .i32 97],1):=by rw [aE (by decide)]; rfl
 have i1:aJ [97] 1=(.tuple [.bool false],1):=by rw [aE (by decide)]; rfl
 simp only [go_sem,simprocAttr,hl,h0,h1,Dt.cells,hf,hneed,ckq,Bool.true_and,aM,ax]
 rw [go_loop]
 simp only [go_sem,simprocAttr,hl,h0,h1,i0,i1,hf,hneed,ckq,Bool.true_and,aM,ax]
 rw [go_loop]
 simp only [go_sem,simprocAttr,hl,h0,h1,i0,i1,hf,hneed,ckq,Bool.true_and,aM,ax]
 cases ho:((d.raw.length:Int) == 4)
 ·simp only [go_sem,simprocAttr,hl,h0,h1,hf,hneed,ckq,Bool.true_and,aM,ax,ho]
  simp only [Bool.false_and,Bool.false_eq_true,if_false]
 ·cases hz:eqD ⟨[],d.host,d.bW,d.n0,d.n1,d.n2,d.n3,d.n4⟩ ⟨[],[],[],0,0,0,0,0⟩
  ·simp only [go_sem,simprocAttr,hl,h0,h1,hf,hneed,ckq,Bool.true_and,aM,ax,ho,hz]
  ·simp only [go_sem,simprocAttr,hl,h0,h1,hf,hneed,ckq,Bool.true_and,aM,ax,ho,hz]
theorem Oj (d:Dt) (H) (hk:Tk H) (hd:d.wf):ag Tryz.prog 54 [.int .u16 2,.agg d.cells] H (fun q=>q=(.int .i64 (if ((nm d.host).isSome && eqD ⟨d.raw,[],d.bW,d.n0,d.n1,d.n2,d.n3,d.n4⟩ ⟨[],[],[],0,0,0,0,0⟩)=true then 0 else 40),H,z0)):=by
 refine aa (n:=108) (rs:=[.tmp 4]) Tryz.func54 rfl rfl rfl ?_
 intro σ hl ha
 have h0:=ha 0 (by simp)
 have h1:=ha 1 (by simp)
 clear ha
 simp only [Option.getD_some,List.getElem?_cons_zero,List.getElem?_cons_succ] at h0 h1
 have hf:=fun l k=>bM 2 (H++l) k (hk.old l)
 have hneed:=fun (a b:Bool) x r k=>need a b H x r k
 rw [show aU 2=[104] from rfl] at hf
 have hh:=fun H k=>cU d.host H k (by have:=hd.host; show _≤9223372036854775807; omega)
 have i0:aJ [104] 0=(.tuple [.bool true,.int .i64 0,.int .i32 104],1):=by rw [aE (by decide)]; rfl
 have i1:aJ [104] 1=(.tuple [.bool false],1):=by rw [aE (by decide)]; rfl
 simp only [go_sem,simprocAttr,hl,h0,h1,Dt.cells,hf,hneed,ckq,Bool.true_and,aM,ax,hh]
 rw [go_loop]
 simp only [go_sem,simprocAttr,hl,h0,h1,i0,i1,hf,hneed,ckq,Bool.true_and,aM,ax,hh]
 rw [go_loop]
 simp only [go_sem,simprocAttr,hl,h0,h1,i0,i1,hf,hneed,ckq,Bool.true_and,aM,ax,hh]
 cases ho:(nm d.host).isSome
 ·simp only [go_sem,simprocAttr,hl,h0,h1,hf,hneed,ckq,Bool.true_and,aM,ax,hh,ho]
  simp only [Bool.false_and,Bool.false_eq_true,if_false]
 ·cases hz:eqD ⟨d.raw,[],d.bW,d.n0,d.n1,d.n2,d.n3,d.n4⟩ ⟨[],[],[],0,0,0,0,0⟩
  ·simp only [go_sem,simprocAttr,hl,h0,h1,hf,hneed,ckq,Bool.true_and,aM,ax,hh,ho,hz]
  ·simp only [go_sem,simprocAttr,hl,h0,h1,hf,hneed,ckq,Bool.true_and,aM,ax,hh,ho,hz]
theorem Oi (d:Dt) (H) (hk:Tk H) (hd:d.wf):ag Tryz.prog 54 [.int .u16 5,.agg d.cells] H (fun q=>q=(.int .i64 (if ((nm d.host).isSome && eqD ⟨d.raw,[],d.bW,d.n0,d.n1,d.n2,d.n3,d.n4⟩ ⟨[],[],[],0,0,0,0,0⟩)=true then 0 else 40),H,z0)):=by
 refine aa (n:=108) (rs:=[.tmp 4]) Tryz.func54 rfl rfl rfl ?_
 intro σ hl ha
 have h0:=ha 0 (by simp)
 have h1:=ha 1 (by simp)
 clear ha
 simp only [Option.getD_some,List.getElem?_cons_zero,List.getElem?_cons_succ] at h0 h1
 have hf:=fun l k=>bM 5 (H++l) k (hk.old l)
 have hneed:=fun (a b:Bool) x r k=>need a b H x r k
 rw [show aU 5=[104] from rfl] at hf
 have hh:=fun H k=>cU d.host H k (by have:=hd.host; show _≤9223372036854775807; omega)
 have i0:aJ [104] 0=(.tuple [.bool true,.int .i64 0,.int .i32 104],1):=by rw [aE (by decide)]; rfl
 have i1:aJ [104] 1=(.tuple [.bool false],1):=by rw [aE (by decide)]; rfl
 simp only [go_sem,simprocAttr,hl,h0,h1,Dt.cells,hf,hneed,ckq,Bool.true_and,aM,ax,hh]
 rw [go_loop]
 simp only [go_sem,simprocAttr,hl,h0,h1,i0,i1,hf,hneed,ckq,Bool.true_and,aM,ax,hh]
 rw [go_loop]
 simp only [go_sem,simprocAttr,hl,h0,h1,i0,i1,hf,hneed,ckq,Bool.true_and,aM,ax,hh]
 cases ho:(nm d.host).isSome
 ·simp only [go_sem,simprocAttr,hl,h0,h1,hf,hneed,ckq,Bool.true_and,aM,ax,hh,ho]
  simp only [Bool.false_and,Bool.false_eq_true,if_false]
 ·cases hz:eqD ⟨d.raw,[],d.bW,d.n0,d.n1,d.n2,d.n3,d.n4⟩ ⟨[],[],[],0,0,0,0,0⟩
  ·simp only [go_sem,simprocAttr,hl,h0,h1,hf,hneed,ckq,Bool.true_and,aM,ax,hh,ho,hz]
  ·simp only [go_sem,simprocAttr,hl,h0,h1,hf,hneed,ckq,Bool.true_and,aM,ax,hh,ho,hz]
theorem Oh (d:Dt) (H) (hk:Tk H) (hd:d.wf):ag Tryz.prog 54 [.int .u16 6,.agg d.cells] H (fun q=>q=(.int .i64 (if (((nm d.host).isSome && (nm d.bW).isSome) && eqD ⟨d.raw,[],[],0,0,0,0,0⟩ ⟨[],[],[],0,0,0,0,0⟩)=true then 0 else 40),H,z0)):=by
 refine aa (n:=108) (rs:=[.tmp 4]) Tryz.func54 rfl rfl rfl ?_
 intro σ hl ha
 have h0:=ha 0 (by simp)
 have h1:=ha 1 (by simp)
 clear ha
 simp only [Option.getD_some,List.getElem?_cons_zero,List.getElem?_cons_succ] at h0 h1
 have hf:=fun l k=>bM 6 (H++l) k (hk.old l)
 have hneed:=fun (a b:Bool) x r k=>need a b H x r k
 rw [show aU 6=[104,109,108,108,108,108,108] from rfl] at hf
 have hh:=fun H k=>cU d.host H k (by have:=hd.host; show _≤9223372036854775807; omega)
 have hm:=fun H k=>cU d.bW H k (by have:=hd.bW; show _≤9223372036854775807; omega)
 have i0:aJ [104,109,108,108,108,108,108] 0=(.tuple [.bool true,.int .i64 0,.int .i32 104],1):=by rw [aE (by decide)]; rfl
 have i1:aJ [104,109,108,108,108,108,108] 1=(.tuple [.bool true,.int .i64 1,.int .i32 109],2):=by rw [aE (by decide)]; rfl
 have i2:aJ [104,109,108,108,108,108,108] 2=(.tuple [.bool true,.int .i64 2,.int .i32 108],3):=by rw [aE (by decide)]; rfl
 have i3:aJ [104,109,108,108,108,108,108] 3=(.tuple [.bool true,.int .i64 3,.int .i32 108],4):=by rw [aE (by decide)]; rfl
 have i4:aJ [104,109,108,108,108,108,108] 4=(.tuple [.bool true,.int .i64 4,.int .i32 108],5):=by rw [aE (by decide)]; rfl
 have i5:aJ [104,109,108,108,108,108,108] 5=(.tuple [.bool true,.int .i64 5,.int .i32 108],6):=by rw [aE (by decide)]; rfl
 have i6:aJ [104,109,108,108,108,108,108] 6=(.tuple [.bool true,.int .i64 6,.int .i32 108],7):=by rw [aE (by decide)]; rfl
 have i7:aJ [104,109,108,108,108,108,108] 7=(.tuple [.bool false],7):=by rw [aE (by decide)]; rfl
 simp only [go_sem,simprocAttr,hl,h0,h1,Dt.cells,hf,hneed,ckq,Bool.true_and,aM,ax,hh,hm]
 rw [go_loop]
 simp only [go_sem,simprocAttr,hl,h0,h1,i0,i1,i2,i3,i4,i5,i6,i7,hf,hneed,ckq,Bool.true_and,aM,ax,hh,hm]
 rw [go_loop]
 simp only [go_sem,simprocAttr,hl,h0,h1,i0,i1,i2,i3,i4,i5,i6,i7,hf,hneed,ckq,Bool.true_and,aM,ax,hh,hm]
 rw [go_loop]
 simp only [go_sem,simprocAttr,hl,h0,h1,i0,i1,i2,i3,i4,i5,i6,i7,hf,hneed,ckq,Bool.true_and,aM,ax,hh,hm]
 rw [go_loop]
 simp only [go_sem,simprocAttr,hl,h0,h1,i0,i1,i2,i3,i4,i5,i6,i7,hf,hneed,ckq,Bool.true_and,aM,ax,hh,hm]
 rw [go_loop]
 simp only [go_sem,simprocAttr,hl,h0,h1,i0,i1,i2,i3,i4,i5,i6,i7,hf,hneed,ckq,Bool.true_and,aM,ax,hh,hm]
 rw [go_loop]
 simp only [go_sem,simprocAttr,hl,h0,h1,i0,i1,i2,i3,i4,i5,i6,i7,hf,hneed,ckq,Bool.true_and,aM,ax,hh,hm]
 rw [go_loop]
 simp only [go_sem,simprocAttr,hl,h0,h1,i0,i1,i2,i3,i4,i5,i6,i7,hf,hneed,ckq,Bool.true_and,aM,ax,hh,hm]
 rw [go_loop]
 simp only [go_sem,simprocAttr,hl,h0,h1,i0,i1,i2,i3,i4,i5,i6,i7,hf,hneed,ckq,Bool.true_and,aM,ax,hh,hm]
 cases ho:((nm d.host).isSome && (nm d.bW).isSome)
 ·simp only [go_sem,simprocAttr,hl,h0,h1,hf,hneed,ckq,Bool.true_and,aM,ax,hh,hm,ho]
  simp only [Bool.false_and,Bool.false_eq_true,if_false]
 ·cases hz:eqD ⟨d.raw,[],[],0,0,0,0,0⟩ ⟨[],[],[],0,0,0,0,0⟩
  ·simp only [go_sem,simprocAttr,hl,h0,h1,hf,hneed,ckq,Bool.true_and,aM,ax,hh,hm,ho,hz]
  ·simp only [go_sem,simprocAttr,hl,h0,h1,hf,hneed,ckq,Bool.true_and,aM,ax,hh,hm,ho,hz]
theorem KR (d:Dt) (H) (hk:Tk H) (hd:d.wf):ag Tryz.prog 54 [.int .u16 12,.agg d.cells] H (fun q=>q=(.int .i64 (if ((nm d.host).isSome && eqD ⟨d.raw,[],d.bW,d.n0,d.n1,d.n2,d.n3,d.n4⟩ ⟨[],[],[],0,0,0,0,0⟩)=true then 0 else 40),H,z0)):=by
 refine aa (n:=108) (rs:=[.tmp 4]) Tryz.func54 rfl rfl rfl ?_
 intro σ hl ha
 have h0:=ha 0 (by simp)
 have h1:=ha 1 (by simp)
 clear ha
 simp only [Option.getD_some,List.getElem?_cons_zero,List.getElem?_cons_succ] at h0 h1
 have hf:=fun l k=>bM 12 (H++l) k (hk.old l)
 have hneed:=fun (a b:Bool) x r k=>need a b H x r k
 rw [show aU 12=[104] from rfl] at hf
 have hh:=fun H k=>cU d.host H k (by have:=hd.host; show _≤9223372036854775807; omega)
 have i0:aJ [104] 0=(.tuple [.bool true,.int .i64 0,.int .i32 104],1):=by rw [aE (by decide)]; rfl
 have i1:aJ [104] 1=(.tuple [.bool false],1):=by rw [aE (by decide)]; rfl
 simp only [go_sem,simprocAttr,hl,h0,h1,Dt.cells,hf,hneed,ckq,Bool.true_and,aM,ax,hh]
 rw [go_loop]
 simp only [go_sem,simprocAttr,hl,h0,h1,i0,i1,hf,hneed,ckq,Bool.true_and,aM,ax,hh]
 rw [go_loop]
 simp only [go_sem,simprocAttr,hl,h0,h1,i0,i1,hf,hneed,ckq,Bool.true_and,aM,ax,hh]
 cases ho:(nm d.host).isSome
 ·simp only [go_sem,simprocAttr,hl,h0,h1,hf,hneed,ckq,Bool.true_and,aM,ax,hh,ho]
  simp only [Bool.false_and,Bool.false_eq_true,if_false]
 ·cases hz:eqD ⟨d.raw,[],d.bW,d.n0,d.n1,d.n2,d.n3,d.n4⟩ ⟨[],[],[],0,0,0,0,0⟩
  ·simp only [go_sem,simprocAttr,hl,h0,h1,hf,hneed,ckq,Bool.true_and,aM,ax,hh,ho,hz]
  ·simp only [go_sem,simprocAttr,hl,h0,h1,hf,hneed,ckq,Bool.true_and,aM,ax,hh,ho,hz]
theorem KQ (d:Dt) (H) (hk:Tk H) (hd:d.wf):ag Tryz.prog 54 [.int .u16 15,.agg d.cells] H (fun q=>q=(.int .i64 (if ((decide (d.n0≤65535) && (nm d.host).isSome) && eqD ⟨d.raw,[],d.bW,0,d.n1,d.n2,d.n3,d.n4⟩ ⟨[],[],[],0,0,0,0,0⟩)=true then 0 else 40),H,z0)):=by
 refine aa (n:=108) (rs:=[.tmp 4]) Tryz.func54 rfl rfl rfl ?_
 intro σ hl ha
 have h0:=ha 0 (by simp)
 have h1:=ha 1 (by simp)
 clear ha
 simp only [Option.getD_some,List.getElem?_cons_zero,List.getElem?_cons_succ] at h0 h1
 have hf:=fun l k=>bM 15 (H++l) k (hk.old l)
 have hneed:=fun (a b:Bool) x r k=>need a b H x r k
 rw [show aU 15=[115,104] from rfl] at hf
 have hh:=fun H k=>cU d.host H k (by have:=hd.host; show _≤9223372036854775807; omega)
 have i0:aJ [115,104] 0=(.tuple [.bool true,.int .i64 0,.int .i32 115],1):=by rw [aE (by decide)]; rfl
 have i1:aJ [115,104] 1=(.tuple [.bool true,.int .i64 1,.int .i32 104],2):=by rw [aE (by decide)]; rfl
 have i2:aJ [115,104] 2=(.tuple [.bool false],2):=by rw [aE (by decide)]; rfl
 simp only [go_sem,simprocAttr,hl,h0,h1,Dt.cells,hf,hneed,ckq,Bool.true_and,aM,ax,hh]
 rw [go_loop]
 simp only [go_sem,simprocAttr,hl,h0,h1,i0,i1,i2,hf,hneed,ckq,Bool.true_and,aM,ax,hh]
 rw [go_loop]
 simp only [go_sem,simprocAttr,hl,h0,h1,i0,i1,i2,hf,hneed,ckq,Bool.true_and,aM,ax,hh]
 rw [go_loop]
 simp only [go_sem,simprocAttr,hl,h0,h1,i0,i1,i2,hf,hneed,ckq,Bool.true_and,aM,ax,hh]
 cases ho:(decide (d.n0≤65535) && (nm d.host).isSome)
 ·simp only [go_sem,simprocAttr,hl,h0,h1,hf,hneed,ckq,Bool.true_and,aM,ax,hh,ho]
  simp only [Bool.false_and,Bool.false_eq_true,if_false]
 ·cases hz:eqD ⟨d.raw,[],d.bW,0,d.n1,d.n2,d.n3,d.n4⟩ ⟨[],[],[],0,0,0,0,0⟩
  ·simp only [go_sem,simprocAttr,hl,h0,h1,hf,hneed,ckq,Bool.true_and,aM,ax,hh,ho,hz]
  ·simp only [go_sem,simprocAttr,hl,h0,h1,hf,hneed,ckq,Bool.true_and,aM,ax,hh,ho,hz]
theorem KO (d:Dt) (H) (hk:Tk H) (hd:d.wf):ag Tryz.prog 54 [.int .u16 16,.agg d.cells] H (fun q=>q=(.int .i64 (if ((decide ((d.raw.length:Int)≤65535) && kV d.raw) && eqD ⟨[],d.host,d.bW,d.n0,d.n1,d.n2,d.n3,d.n4⟩ ⟨[],[],[],0,0,0,0,0⟩)=true then 0 else 40),H,z0)):=by
 refine aa (n:=108) (rs:=[.tmp 4]) Tryz.func54 rfl rfl rfl ?_
 intro σ hl ha
 have h0:=ha 0 (by simp)
 have h1:=ha 1 (by simp)
 clear ha
 simp only [Option.getD_some,List.getElem?_cons_zero,List.getElem?_cons_succ] at h0 h1
 have hf:=fun l k=>bM 16 (H++l) k (hk.old l)
 have hneed:=fun (a b:Bool) x r k=>need a b H x r k
 rw [show aU 16=[120] from rfl] at hf
 have i0:aJ [120] 0=(.tuple [.bool true,.int .i64 0,.int .i32 120],1):=by rw [aE (by decide)]; rfl
 have i1:aJ [120] 1=(.tuple [.bool false],1):=by rw [aE (by decide)]; rfl
 simp only [go_sem,simprocAttr,hl,h0,h1,Dt.cells,hf,hneed,ckq,Bool.true_and,aM,ax]
 rw [go_loop]
 simp only [go_sem,simprocAttr,hl,h0,h1,i0,i1,hf,hneed,ckq,Bool.true_and,aM,ax]
 cases ho:decide ((d.raw.length:Int)≤65535)
 ·simp only [go_sem,simprocAttr,hl,h0,h1,i0,i1,hf,hneed,ckq,Bool.true_and,aM,ax,ho]
  rw [go_loop]
  simp only [go_sem,simprocAttr,hl,h0,h1,i0,i1,hf,hneed,ckq,Bool.true_and,aM,ax,ho]
  simp only [Bool.false_and,Bool.false_eq_true,if_false]
 ·have hr:=hd.raw
  have htx:=fun l=>qC d.raw (H++l) hr
  obtain ⟨b,_,hb⟩:=htx [.cells [.str d.raw,.str d.host,.str d.bW,.int .u32 d.n0,.int .u32 d.n1,.int .u32 d.n2,.int .u32 d.n3,.int .u32 d.n4] 34 .rw,.cells [.bool true] 4 .rw,.cells [.str [],.str d.host,.str d.bW,.int .u32 d.n0,.int .u32 d.n1,.int .u32 d.n2,.int .u32 d.n3,.int .u32 d.n4] 34 .rw,.iter [120] 1]
  simp only [go_sem,simprocAttr,hl,h0,h1,i0,i1,hf,hneed,ckq,Bool.true_and,aM,ax,ho,hb]
  rw [go_loop]
  simp only [go_sem,simprocAttr,hl,h0,h1,i0,i1,hf,hneed,ckq,Bool.true_and,aM,ax,ho,hb]
  cases ht:kV d.raw
  ·simp only [go_sem,simprocAttr,hl,h0,h1,hf,hneed,ckq,Bool.true_and,aM,ax,ht]
   simp only [Bool.and_false,Bool.false_and,Bool.false_eq_true,if_false]
  ·cases hz:eqD ⟨[],d.host,d.bW,d.n0,d.n1,d.n2,d.n3,d.n4⟩ ⟨[],[],[],0,0,0,0,0⟩
   ·simp only [go_sem,simprocAttr,hl,h0,h1,hf,hneed,ckq,Bool.true_and,aM,ax,ht,hz]
   ·simp only [go_sem,simprocAttr,hl,h0,h1,hf,hneed,ckq,Bool.true_and,aM,ax,ht,hz]
theorem KN (d:Dt) (H) (hk:Tk H) (hd:d.wf):ag Tryz.prog 54 [.int .u16 28,.agg d.cells] H (fun q=>q=(.int .i64 (if (((d.raw.length:Int) == 16) && eqD ⟨[],d.host,d.bW,d.n0,d.n1,d.n2,d.n3,d.n4⟩ ⟨[],[],[],0,0,0,0,0⟩)=true then 0 else 40),H,z0)):=by
 refine aa (n:=108) (rs:=[.tmp 4]) Tryz.func54 rfl rfl rfl ?_
 intro σ hl ha
 have h0:=ha 0 (by simp)
 have h1:=ha 1 (by simp)
 clear ha
 simp only [Option.getD_some,List.getElem?_cons_zero,List.getElem?_cons_succ] at h0 h1
 have hf:=fun l k=>bM 28 (H++l) k (hk.old l)
 have hneed:=fun (a b:Bool) x r k=>need a b H x r k
 rw [show aU 28=[113] from rfl] at hf
 have i0:aJ [113] 0=(.tuple [.bool true,.int .i64 0,.int .i32 113],1):=by rw [aE (by decide)]; rfl
 have i1:aJ [113] 1=(.tuple [.bool false],1):=by rw [aE (by decide)]; rfl
 simp only [go_sem,simprocAttr,hl,h0,h1,Dt.cells,hf,hneed,ckq,Bool.true_and,aM,ax]
 rw [go_loop]
 simp only [go_sem,simprocAttr,hl,h0,h1,i0,i1,hf,hneed,ckq,Bool.true_and,aM,ax]
 rw [go_loop]
 simp only [go_sem,simprocAttr,hl,h0,h1,i0,i1,hf,hneed,ckq,Bool.true_and,aM,ax]
 cases ho:((d.raw.length:Int) == 16)
 ·simp only [go_sem,simprocAttr,hl,h0,h1,hf,hneed,ckq,Bool.true_and,aM,ax,ho]
  simp only [Bool.false_and,Bool.false_eq_true,if_false]
 ·cases hz:eqD ⟨[],d.host,d.bW,d.n0,d.n1,d.n2,d.n3,d.n4⟩ ⟨[],[],[],0,0,0,0,0⟩
  ·simp only [go_sem,simprocAttr,hl,h0,h1,hf,hneed,ckq,Bool.true_and,aM,ax,ho,hz]
  ·simp only [go_sem,simprocAttr,hl,h0,h1,hf,hneed,ckq,Bool.true_and,aM,ax,ho,hz]
theorem KM (d:Dt) (H) (hk:Tk H) (hd:d.wf):ag Tryz.prog 54 [.int .u16 33,.agg d.cells] H (fun q=>q=(.int .i64 (if ((((decide (d.n0≤65535) && decide (d.n1≤65535)) && decide (d.n2≤65535)) && (nm d.host).isSome) && eqD ⟨d.raw,[],d.bW,0,0,0,d.n3,d.n4⟩ ⟨[],[],[],0,0,0,0,0⟩)=true then 0 else 40),H,z0)):=by
 refine aa (n:=108) (rs:=[.tmp 4]) Tryz.func54 rfl rfl rfl ?_
 intro σ hl ha
 have h0:=ha 0 (by simp)
 have h1:=ha 1 (by simp)
 clear ha
 simp only [Option.getD_some,List.getElem?_cons_zero,List.getElem?_cons_succ] at h0 h1
 have hf:=fun l k=>bM 33 (H++l) k (hk.old l)
 have hneed:=fun (a b:Bool) x r k=>need a b H x r k
 rw [show aU 33=[115,115,115,112] from rfl] at hf
 have hh:=fun H k=>cU d.host H k (by have:=hd.host; show _≤9223372036854775807; omega)
 have i0:aJ [115,115,115,112] 0=(.tuple [.bool true,.int .i64 0,.int .i32 115],1):=by rw [aE (by decide)]; rfl
 have i1:aJ [115,115,115,112] 1=(.tuple [.bool true,.int .i64 1,.int .i32 115],2):=by rw [aE (by decide)]; rfl
 have i2:aJ [115,115,115,112] 2=(.tuple [.bool true,.int .i64 2,.int .i32 115],3):=by rw [aE (by decide)]; rfl
 have i3:aJ [115,115,115,112] 3=(.tuple [.bool true,.int .i64 3,.int .i32 112],4):=by rw [aE (by decide)]; rfl
 have i4:aJ [115,115,115,112] 4=(.tuple [.bool false],4):=by rw [aE (by decide)]; rfl
 simp only [go_sem,simprocAttr,hl,h0,h1,Dt.cells,hf,hneed,ckq,Bool.true_and,aM,ax,hh]
 rw [go_loop]
 simp only [go_sem,simprocAttr,hl,h0,h1,i0,i1,i2,i3,i4,hf,hneed,ckq,Bool.true_and,aM,ax,hh]
 rw [go_loop]
 simp only [go_sem,simprocAttr,hl,h0,h1,i0,i1,i2,i3,i4,hf,hneed,ckq,Bool.true_and,aM,ax,hh]
 rw [go_loop]
 simp only [go_sem,simprocAttr,hl,h0,h1,i0,i1,i2,i3,i4,hf,hneed,ckq,Bool.true_and,aM,ax,hh]
 rw [go_loop]
 simp only [go_sem,simprocAttr,hl,h0,h1,i0,i1,i2,i3,i4,hf,hneed,ckq,Bool.true_and,aM,ax,hh]
 rw [go_loop]
 simp only [go_sem,simprocAttr,hl,h0,h1,i0,i1,i2,i3,i4,hf,hneed,ckq,Bool.true_and,aM,ax,hh]
 cases ho:(((decide (d.n0≤65535) && decide (d.n1≤65535)) && decide (d.n2≤65535)) && (nm d.host).isSome)
 ·simp only [go_sem,simprocAttr,hl,h0,h1,hf,hneed,ckq,Bool.true_and,aM,ax,hh,ho]
  simp only [Bool.false_and,Bool.false_eq_true,if_false]
 ·cases hz:eqD ⟨d.raw,[],d.bW,0,0,0,d.n3,d.n4⟩ ⟨[],[],[],0,0,0,0,0⟩
  ·simp only [go_sem,simprocAttr,hl,h0,h1,hf,hneed,ckq,Bool.true_and,aM,ax,hh,ho,hz]
  ·simp only [go_sem,simprocAttr,hl,h0,h1,hf,hneed,ckq,Bool.true_and,aM,ax,hh,ho,hz]
theorem Oe (t:Int) (d:Dt) (H) (ht:t≠1∧t≠2∧t≠5∧t≠6∧t≠12∧t≠15∧t≠16∧t≠28∧t≠33) (hk:Tk H) (hd:d.wf):ag Tryz.prog 54 [.int .u16 t,.agg d.cells] H (fun q=>q=(.int .i64 (if (decide ((d.raw.length:Int)≤65535) && eqD ⟨[],d.host,d.bW,d.n0,d.n1,d.n2,d.n3,d.n4⟩ ⟨[],[],[],0,0,0,0,0⟩)=true then 0 else 40),H,z0)):=by
 refine aa (n:=108) (rs:=[.tmp 4]) Tryz.func54 rfl rfl rfl ?_
 intro σ hl ha
 have h0:=ha 0 (by simp)
 have h1:=ha 1 (by simp)
 clear ha
 simp only [Option.getD_some,List.getElem?_cons_zero,List.getElem?_cons_succ] at h0 h1
 have hf:=fun l k=>bM t (H++l) k (hk.old l)
 have hneed:=fun (a b:Bool) x r k=>need a b H x r k
 have hfs:aU t=[114]:=iO ht
 rw [hfs] at hf
 have i0:aJ [114] 0=(.tuple [.bool true,.int .i64 0,.int .i32 114],1):=by rw [aE (by decide)]; rfl
 have i1:aJ [114] 1=(.tuple [.bool false],1):=by rw [aE (by decide)]; rfl
 simp only [go_sem,simprocAttr,hl,h0,h1,Dt.cells,hf,hneed,ckq,Bool.true_and,aM,ax]
 rw [go_loop]
 simp only [go_sem,simprocAttr,hl,h0,h1,i0,i1,hf,hneed,ckq,Bool.true_and,aM,ax]
 rw [go_loop]
 simp only [go_sem,simprocAttr,hl,h0,h1,i0,i1,hf,hneed,ckq,Bool.true_and,aM,ax]
 cases ho:decide ((d.raw.length:Int)≤65535)
 ·simp only [go_sem,simprocAttr,hl,h0,h1,hf,hneed,ckq,Bool.true_and,aM,ax,ho]
  simp only [Bool.false_and,Bool.false_eq_true,if_false]
 ·cases hz:eqD ⟨[],d.host,d.bW,d.n0,d.n1,d.n2,d.n3,d.n4⟩ ⟨[],[],[],0,0,0,0,0⟩
  ·simp only [go_sem,simprocAttr,hl,h0,h1,hf,hneed,ckq,Bool.true_and,aM,ax,ho,hz]
  ·simp only [go_sem,simprocAttr,hl,h0,h1,hf,hneed,ckq,Bool.true_and,aM,ax,ho,hz]

def Dt.n (d:Dt):Nat→Int
 | 0=>d.n0
 | 1=>d.n1
 | 2=>d.n2
 | 3=>d.n3
 | _=>d.n4
def kY (t:Int) (d:Dt) (i:Nat):Bool:=if i < iA t then !(iy t == 16 && decide (d.n i > 65535)) else (d.n i == 0)
def jg (t:Int) (d:Dt):Bool:=qY t d.raw && ((cG t == (nm d.host).isSome) && ((cG t || (d.host == [])) && ((cZ t == (nm d.bW).isSome) && (cZ t || (d.bW == [])))))
def er (t:Int) (d:Dt):Bool:=jg t d && (kY t d 0 && (kY t d 1 && (kY t d 2 && (kY t d 3 && kY t d 4))))
def chk (t:Int) (d:Dt):Int:=if er t d=true then 0 else 40

theorem tV {p q:Bool} (h:p=q) {H:Hp}:(AV.int .i64 (if p=true then (0:Int) else 40),H,z0)=(AV.int .i64 (if q=true then (0:Int) else 40),H,z0):=by rw [h]
theorem fW {p q:Bool} (h:p=true↔q=true):p=q:=by cases p <;> cases q <;> simp_all

theorem vZ (t:Int) (d:Dt) (H) (hk:Tk H) (hd:d.wf):ag Tryz.prog 54 [.int .u16 t,.agg d.cells] H (fun q=>q=(.int .i64 (chk t d),H,z0)):=by
 have hn:(nm d.host).isSome=true→d.host≠[]:=by intro h e; rw [e] at h; cases h
 have hm:(nm d.bW).isSome=true→d.bW≠[]:=by intro h e; rw [e] at h; cases h
 have hx:kV d.raw=true→d.raw≠[]:=by intro h e; rw [e] at h; cases h
 have nn:nm ([]:List UInt8)=none:=rfl
 rcases cR t with rfl | rfl | rfl | rfl | rfl | rfl | rfl | rfl | rfl | ht
 case inr.inr.inr.inr.inr.inr.inr.inr.inr =>
  refine bG (Oe t d H ht hk hd) (fun r hr=>hr.trans (tV (fW ?_)))
  obtain ⟨h1,h2,h3,h4,h5,h6,h7,h8,h9⟩:=ht
  have e1:cG t=false:=by simp only [cG,decide_eq_false_iff_not]; omega
  have e2:cZ t=false:=by simp only [cZ,decide_eq_false_iff_not]; omega
  have e3:iA t=0:=by unfold iA; rw [if_neg h4,if_neg h6,if_neg h9]
  simp only [er,jg,qY,kY,e1,e2,e3,h1,h7,h8,eqD,Dt.n,Bool.and_eq_true,decide_eq_true_eq,Dt.mk.injEq,if_false,Bool.false_eq_true,Nat.not_lt_zero,beq_iff_eq,Bool.or_eq_true,false_or]
  obtain ⟨r,h,m,a,b,c,e,f⟩:=d
  constructor
  ·rintro ⟨x1,x2,rfl,rfl,rfl,rfl,rfl,rfl,rfl⟩
   simp [nn,x1]
  ·rintro ⟨⟨x1,x2,rfl,x4,rfl⟩,rfl,rfl,rfl,rfl,rfl⟩
   simp [x1]
 all_goals
  first
   | refine bG (check_1 d H hk hd) (fun r hr=>hr.trans (tV (fW ?_)))
   | refine bG (Oj d H hk hd) (fun r hr=>hr.trans (tV (fW ?_)))
   | refine bG (Oi d H hk hd) (fun r hr=>hr.trans (tV (fW ?_)))
   | refine bG (Oh d H hk hd) (fun r hr=>hr.trans (tV (fW ?_)))
   | refine bG (KR d H hk hd) (fun r hr=>hr.trans (tV (fW ?_)))
   | refine bG (KQ d H hk hd) (fun r hr=>hr.trans (tV (fW ?_)))
   | refine bG (KO d H hk hd) (fun r hr=>hr.trans (tV (fW ?_)))
   | refine bG (KN d H hk hd) (fun r hr=>hr.trans (tV (fW ?_)))
   | refine bG (KM d H hk hd) (fun r hr=>hr.trans (tV (fW ?_)))
 all_goals
  obtain ⟨r,h,m,a,b,c,e,f⟩:=d
  simp only [er,jg,qY,kY,cG,cZ,iA,iy,eqD,Dt.n,Bool.and_eq_true,decide_eq_true_eq,Dt.mk.injEq,beq_iff_eq,Bool.or_eq_true]
  constructor
  ·intro hh
   simp only [true_and] at hh
   simp_all
   try omega
  ·intro hh
   simp_all
   try omega
theorem qD (t:Int) (d:Dt) (H k) (hk:Tk H) (hd:d.wf):ag Tryz.prog 54 [.int .u16 t,.agg d.cells] H k=k (.int .i64 (chk t d),H,z0):=ak (vZ t d H hk hd) k

theorem Rf:((true:Bool) == false)=false:=rfl
theorem Rg:((false:Bool) == true)=false:=rfl
attribute [go_sem] Rf Rg
theorem Dt.at (d:Dt) {i:Nat} (hi:i < 5) (e:TypeId) (k:Kd):ldC (3+i) 1 false (.cells d.cells e k)=some (.int .u32 (d.n i)):=by
 have:i=0∨i=1∨i=2∨i=3∨i=4:=by omega
 rcases this with rfl | rfl | rfl | rfl | rfl <;> rfl
theorem Dt.l0 (d:Dt) (e:TypeId) (k:Kd):ldC 0 1 false (.cells d.cells e k)=some (.str d.raw):=rfl
theorem Dt.l1 (d:Dt) (e:TypeId) (k:Kd):ldC 1 1 false (.cells d.cells e k)=some (.str d.host):=rfl
theorem Dt.l2 (d:Dt) (e:TypeId) (k:Kd):ldC 2 1 false (.cells d.cells e k)=some (.str d.bW):=rfl
theorem Dt.l8 (d:Dt) (e:TypeId) (k:Kd):ldC 0 8 true (.cells d.cells e k)=some (.agg d.cells):=rfl
theorem Dt.vc (d:Dt):bH (.agg d.cells)=d.cells:=rfl
theorem Dt.len (d:Dt):d.cells.length=8:=rfl
theorem Dt.scl (d:Dt):d.cells.all cK=true:=rfl
theorem Dt.flat (d:Dt):bK d.cells=true:=by simp only [Dt.cells,go_sem]

theorem MX (t:Int):iA t≤5:=by
 unfold iA
 split
 ·omega
 ·split
  ·omega
  ·split <;> omega
theorem kJ {t:Int} {d:Dt} (h:jg t d=false):chk t d=40:=by unfold chk er; rw [h]; rfl
theorem Fj {t:Int} {d:Dt} {i:Nat} (hi:i < 5) (h:kY t d i=false):chk t d=40:=by
 have:i=0∨i=1∨i=2∨i=3∨i=4:=by omega
 unfold chk er
 rcases this with rfl | rfl | rfl | rfl | rfl <;> simp [h]
theorem Q6 {t:Int} {d:Dt} (h:jg t d=true) (hn:∀ j,j < 5→kY t d j=true):chk t d=0:=by
 unfold chk er
 rw [h,hn 0 (by decide),hn 1 (by decide),hn 2 (by decide),hn 3 (by decide),hn 4 (by decide)]; rfl

set_option maxHeartbeats 2000000 in
theorem BK (t:Int) (d:Dt) (H) (hd:d.wf):ag Tryz.prog 95 [.int .u16 t,.agg d.cells] H (fun q=>q=(.int .i64 (chk t d),H,z0)):=by
 refine aa (n:=87) (rs:=[.tmp 4]) Tryz.func95 rfl rfl rfl ?_
 intro σ hl ha
 have h0:=ha 0 (by simp)
 have h1:=ha 1 (by simp)
 clear ha
 simp only [Option.getD_some,List.getElem?_cons_zero,List.getElem?_cons_succ] at h0 h1
 have hn:=fun (t:Int) H k=>dM t H k
 have hu:=fun (t:Int) H k=>dr t H k
 have hr:=fun (t:Int) H k=>MF t d.raw H k hd.raw
 have hh:=fun H k=>vW d.host H k (by have:=hd.host; show _≤9223372036854775807; omega)
 have hm:=fun H k=>vW d.bW H k (by have:=hd.bW; show _≤9223372036854775807; omega)
 have hdl0:=d.l0; have hdl1:=d.l1; have hdl2:=d.l2; have hvc:=d.vc
 simp only [go_sem,simprocAttr,hl,h0,h1,hn,hu,hr,hh,hm,hdl0,hdl1,hdl2,hvc]
 cases r1:qY t d.raw
 ·have hb:=kJ (t:=t) (d:=d) (by unfold jg; rw [r1]; rfl)
  simp only [go_sem,simprocAttr,hl,h0,h1,hn,hu,hr,hh,hm,hdl0,hdl1,hdl2,hvc,r1,hb]
 have cs:∀ p q r:Bool,(p=true∧q=true)∨(p=false∧q=false∧r=true)∨(p=true∧q=false)∨(p=false∧q=true)∨(p=false∧q=false∧r=false):=by decide
 rcases cs (cG t) (nm d.host).isSome (d.host == []) with ⟨e1,e2⟩ | ⟨e1,e2,e3⟩ | ⟨e1,e2⟩ | ⟨e1,e2⟩ | ⟨e1,e2,e3⟩
 case inr.inr.inl =>
  have hb:=kJ (t:=t) (d:=d) (by unfold jg; rw [r1,e1,e2]; rfl)
  simp only [go_sem,simprocAttr,hl,h0,h1,hn,hu,hr,hh,hm,hdl0,hdl1,hdl2,hvc,r1,e1,e2,hb]
 case inr.inr.inr.inl =>
  have hb:=kJ (t:=t) (d:=d) (by unfold jg; rw [r1,e1,e2]; rfl)
  simp only [go_sem,simprocAttr,hl,h0,h1,hn,hu,hr,hh,hm,hdl0,hdl1,hdl2,hvc,r1,e1,e2,hb]
 case inr.inr.inr.inr =>
  have hb:=kJ (t:=t) (d:=d) (by unfold jg; rw [r1,e1,e2,e3]; rfl)
  simp only [go_sem,simprocAttr,hl,h0,h1,hn,hu,hr,hh,hm,hdl0,hdl1,hdl2,hvc,r1,e1,e2,e3,hb]
 all_goals
  rcases cs (cZ t) (nm d.bW).isSome (d.bW == []) with ⟨f1,f2⟩ | ⟨f1,f2,f3⟩ | ⟨f1,f2⟩ | ⟨f1,f2⟩ | ⟨f1,f2,f3⟩
  case inr.inr.inl =>
   have hb:=kJ (t:=t) (d:=d) (by unfold jg; simp only [r1,f1,f2]; simp)
   simp only [go_sem,simprocAttr,hl,h0,h1,hn,hu,hr,hh,hm,hdl0,hdl1,hdl2,hvc,r1,e1,e2, *,f1,f2,hb]
  case inr.inr.inr.inl =>
   have hb:=kJ (t:=t) (d:=d) (by unfold jg; simp only [r1,f1,f2]; simp)
   simp only [go_sem,simprocAttr,hl,h0,h1,hn,hu,hr,hh,hm,hdl0,hdl1,hdl2,hvc,r1,e1,e2, *,f1,f2,hb]
  case inr.inr.inr.inr =>
   have hb:=kJ (t:=t) (d:=d) (by unfold jg; simp only [r1,f1,f2,f3]; simp)
   simp only [go_sem,simprocAttr,hl,h0,h1,hn,hu,hr,hh,hm,hdl0,hdl1,hdl2,hvc,r1,e1,e2, *,f1,f2,f3,hb]
  all_goals
   have hhead:jg t d=true:=by unfold jg; simp only [r1,e1,e2,f1,f2, *]; simp
   simp only [go_sem,simprocAttr,hl,h0,h1,hn,hu,hr,hh,hm,hdl0,hdl1,hdl2,hvc,r1,e1,e2, *,f1,f2]
   have hat:=fun {i:Nat} (hi:i < 5)=>d.at hi
   have hnt:=MX t
   have hbt:iy t=0∨iy t=16∨iy t=32:=by unfold iy; split; exact .inr (.inr rfl); split; exact .inr (.inl rfl); split; exact .inr (.inl rfl); exact .inl rfl
   refine go_rounds (fun n st=>∃ σ i,n+i=5∧(∀ j,j < i→kY t d j=true)∧st=⟨σ,H++[.cells d.cells 34 .rw],z0⟩∧σ.length=87∧fr σ 3=.ptr H.length 0∧fr σ 7=.int .i64 (iA t:Nat)∧fr σ 8=.int .i64 (iy t:Nat)∧fr σ 9=.int .i64 (i:Nat)) 5
    ⟨_,0,rfl,fun j hj=>by omega,rfl,by simp only [go_sem,simprocAttr,hl],by simp only [go_sem,simprocAttr,hl],by simp only [go_sem,simprocAttr,hl],by simp only [go_sem,simprocAttr,hl],by simp only [go_sem,simprocAttr,hl]⟩ ?_
   rintro n _ ⟨σ,i,hn',hall,rfl,hl,h3,h7,h8,h9⟩
   by_cases hlt:i < 5
   ·have hld:=fun (e:TypeId) (k:Kd)=>d.at hlt e k
    have g0:decide ((i:Int) < 5)=true:=by simp; omega
    have b0:(i:Int) < 5:=by omega
    have hw:=aS (show i < 9223372036854775807 by omega)
    by_cases hk:i < iA t
    ·have hk':¬ iA t≤i:=by omega
     by_cases hb:iy t=16
     ·have g1:((iy t:Int) == 16)=true:=by rw [hb]; rfl
      by_cases hv:d.n i > 65535
      ·have g2:decide (d.n i > 65535)=true:=by simpa using hv
       have hc:=Fj (t:=t) (d:=d) hlt (by unfold kY; rw [if_pos hk,hb,g2]; rfl)
       simp only [go_sem,simprocAttr,hl,h3,h7,h8,h9,g0,b0,hk,hk',g1,hld,g2,hc,ge_iff_le]
      ·have g2:decide (d.n i > 65535)=false:=by simpa using hv
       have hc:kY t d i=true:=by unfold kY; rw [if_pos hk,g2]; simp
       simp only [go_sem,simprocAttr,hl,h3,h7,h8,h9,g0,b0,hk,hk',g1,hld,g2,hw,ge_iff_le]
       exact ⟨n - 1,by omega,_,i+1,by omega,fun j hj=>by (by_cases hji:j=i; rw [hji]; exact hc; exact hall j (by omega)),rfl,by simp only [go_sem,simprocAttr,hl],by simp only [go_sem,simprocAttr,hl,h3],by simp only [go_sem,simprocAttr,hl,h7],by simp only [go_sem,simprocAttr,hl,h8],by simp only [go_sem,simprocAttr,hl]⟩
     ·have g1:((iy t:Int) == 16)=false:=by rw [beq_eq_false_iff_ne]; omega
      have hc:kY t d i=true:=by
       unfold kY
       rw [if_pos hk]
       have:(iy t == 16)=false:=by rw [beq_eq_false_iff_ne]; exact hb
       rw [this]; rfl
      simp only [go_sem,simprocAttr,hl,h3,h7,h8,h9,g0,b0,hk,hk',g1,hld,hw,ge_iff_le]
      exact ⟨n - 1,by omega,_,i+1,by omega,fun j hj=>by (by_cases hji:j=i; rw [hji]; exact hc; exact hall j (by omega)),rfl,by simp only [go_sem,simprocAttr,hl],by simp only [go_sem,simprocAttr,hl,h3],by simp only [go_sem,simprocAttr,hl,h7],by simp only [go_sem,simprocAttr,hl,h8],by simp only [go_sem,simprocAttr,hl]⟩
    ·have hk':iA t≤i:=by omega
     by_cases hv:d.n i=0
     ·have g2:(d.n i != 0)=false:=by rw [hv]; rfl
      have hc:kY t d i=true:=by unfold kY; rw [if_neg hk,hv]; rfl
      simp only [go_sem,simprocAttr,hl,h3,h7,h8,h9,g0,b0,hk,hk',hld,g2,hw,ge_iff_le]
      exact ⟨n - 1,by omega,_,i+1,by omega,fun j hj=>by (by_cases hji:j=i; rw [hji]; exact hc; exact hall j (by omega)),rfl,by simp only [go_sem,simprocAttr,hl],by simp only [go_sem,simprocAttr,hl,h3],by simp only [go_sem,simprocAttr,hl,h7],by simp only [go_sem,simprocAttr,hl,h8],by simp only [go_sem,simprocAttr,hl]⟩
     ·have g2:(d.n i != 0)=true:=by simpa using hv
      have hc:=Fj (t:=t) (d:=d) hlt (by unfold kY; rw [if_neg hk,beq_eq_false_iff_ne]; exact hv)
      simp only [go_sem,simprocAttr,hl,h3,h7,h8,h9,g0,b0,hk,hk',hld,g2,hc,ge_iff_le]
   ·have g0:decide ((i:Int) < 5)=false:=by simp; omega
    have hc:=Q6 hhead (fun j hj=>hall j (by omega))
    simp only [go_sem,simprocAttr,hl,h3,h7,h8,h9,g0,hc]

theorem ep (t:Int) (d:Dt) (H k) (hd:d.wf):ag Tryz.prog 95 [.int .u16 t,.agg d.cells] H k=k (.int .i64 (chk t d),H,z0):=ak (BK t d H hd) k

def eE (t:Int) (d:Dt):Dt:={ d with host:=if cG t=true then bB d.host else d.host,bW:=if cZ t=true then bB d.bW else d.bW }
theorem Gc (t:Int) (d:Dt) (H k) (hd:d.wf):ag Tryz.prog 38 [.int .u16 t,.agg d.cells] H k=k (.agg (eE t d).cells,H,z0):=by
 refine ak (r:=(.agg (eE t d).cells,H,z0)) ?_ k
 refine aa (n:=23) (rs:=[.cell 4 34]) Tryz.func38 rfl rfl rfl ?_
 intro σ hl ha
 have h0:=ha 0 (by simp)
 have h1:=ha 1 (by simp)
 clear ha
 simp only [Option.getD_some,List.getElem?_cons_zero,List.getElem?_cons_succ] at h0 h1
 have hn:=fun (t:Int) H k=>dM t H k
 have hh:=fun H k=>lB d.host H k (by have:=hd.host; show _≤9223372036854775807; omega)
 have hm:=fun H k=>lB d.bW H k (by have:=hd.bW; show _≤9223372036854775807; omega)
 have hz:cB Tryz.prog 34=some (Dt.cells Dt.zero):=by rw [nX]; rfl
 simp only [go_sem,simprocAttr,hl,h0,h1,hn,hh,hm,Dt.cells,eE]
 cases eh:cG t <;> cases em:cZ t <;> simp only [go_sem,simprocAttr,hl,h0,h1,hn,hh,hm,eh,em]
theorem bZ.qw {P:Program} {H T:Hp} {v:AV} {e z b len:Nat} {cs:List AV} (h:bZ H.length T v e z len cs) (hz:decide (0 < z)=true) (hk:zok P e z=true) (xs:List AV) (q:Nat) (hq:0 < q) (hx:xs.length=q*z) (hsc:xs.all V.cK=true) (hf:fits (len+q) b=true) :
  ∃ T2 e2,(∀ kk,aF (c9 P (.slice e z b) v (xs,q) (H++T)) kk=kk (.slice (H.length+T.length) 0 (len+q) (.op 0),H++T2,e2))∧T2.length=T.length+1∧clean H.length e2∧(∀ (i:Nat) x,T[i]?=some x→(∀ m n,v=.slice (H.length+m) 0 n (.op 0)→i≠m)→T2[i]?=some x)∧T2[T.length]?=some (.cells (cs++xs) e (.op 0 false))∧bZ H.length T2 (.slice (H.length+T.length) 0 (len+q) (.op 0)) e z (len+q) (cs++xs):=by
 have hz':0 < z:=by simpa using hz
 obtain ⟨rfl,rfl,rfl⟩ | ⟨hpos,hcl,m,rfl,hm⟩:=h
 ·refine ⟨T++[.cells xs e (.op 0 false)],z0,fun kk=>?_,by simp,⟨rfl,rfl⟩,fun i x hx _=>ah hx,by simp,.inr ⟨by omega,by simpa using hx,T.length,by simp,by simp⟩⟩
  rw [dS hz hk]
  have hd:decide (q=0)=false:=by simp; omega
  have hf:fits q b=true:=by simpa using hf
  simp only [hd,cn,hf,true_and,List.length_append,List.append_assoc,Nat.zero_add]
 ·have hlt:=ai hm
  have hg:(H++T)[H.length+m]?=some (.cells cs e (.op 0 false)):=by rw [bX,hm]
  refine ⟨T.set m .dead++[.cells (cs++xs) e (.op 0 false)],⟨none,some (H.length+m)⟩,fun kk=>?_,by simp,by simp [clean,low],fun i x hx hf=>?_,by simp,.inr ⟨by omega,by rw [List.length_append,hcl,hx,Nat.add_mul],T.length,rfl,by simp⟩⟩
  ·rw [eC hz hk,hg]
   simp only [aD,hU]
   have hqz:0 < q*z:=Nat.mul_pos hq hz'
   have hd:decide (0+(len+q)*z≤cs.length)=false:=by
    rw [hcl,Nat.add_mul]; simp; omega
   have ht:(List.drop 0 cs).take (len*z)++xs=cs++xs:=by
    rw [List.drop_zero,List.take_of_length_le (by rw [hcl]; exact Nat.le_refl _)]
   have hle:0+len*z≤cs.length:=by rw [hcl]; omega
   rw [hd,cn]
   simp only [ht,hf,hsc,hle,gz,List.length_append,List.append_assoc,Nat.sub_self,Nat.zero_le,true_and,and_true,Nat.zero_mul]
  ·have hne:=hf m len rfl
   rw [ah (x:=x)]
   rw [List.getElem?_set_ne (Ne.symm hne)]; exact hx

def isN (c:UInt8):Bool:=c == 115 || c == 108
def iM (s:List UInt8):List UInt8:=[34]++fJ true s++[34]
def jS (r:List UInt8) (i:Nat):Nat:=((r[2*i]?).getD 0).toNat*256+((r[2*i+1]?).getD 0).toNat
def cP (r:List UInt8):List (List UInt8):=r.map fun b=>bF b.toNat
def ek (r:List UInt8):List (List UInt8):=(List.range 8).map fun i=>gi (jS r i)
def cL (d:Dt) (c:UInt8) (k:Nat):List (List UInt8) :=
 if c=104∨c=112 then [eo d.host] else if c=109 then [eo d.bW] else if isN c=true then [bF (d.n k).toNat]
 else if c=97 then [dQ [46] (cP d.raw)] else if c=113 then [dQ [58] (ek d.raw)]
 else if c=120 then ((gv d.raw).getD []).map iM else [[92,35],bF d.raw.length]++(if d.raw=[] then [] else [mM d.raw])
def kI (f:List UInt8):Nat:=(f.filter isN).length
def cF (d:Dt):List UInt8→Nat→List (List UInt8)
 | [],_=>[]
 | c::f,k=>cL d c k++cF d f (if isN c=true then k+1 else k)
theorem rY (d:Dt) (c:UInt8):∀ (f:List UInt8) (k:Nat),cF d (f++[c]) k=cF d f k++cL d c (k+kI f)
 | [],k=>by simp [cF,kI]
 | b::f,k=>by
  rw [List.cons_append,cF,rY d c f,cF,List.append_assoc]
  congr 3
  unfold kI
  rw [List.filter_cons]
  split <;> simp <;> omega
theorem vi {f:List UInt8} {c:UInt8} {i:Nat} (h:f[i]?=some c):kI (f.take (i+1))=kI (f.take i)+if isN c=true then 1 else 0:=by
 rw [cu h]; unfold kI; rw [List.filter_append,List.length_append]
 congr 1
 rw [List.filter_cons]; split <;> simp
theorem Bw {d:Dt} {f:List UInt8} {c:UInt8} {i:Nat} (h:f[i]?=some c):cF d (f.take (i+1)) 0=cF d (f.take i) 0++cL d c (kI (f.take i)):=by
 rw [cu h,rY,Nat.zero_add]
theorem Er:∀ (n:Nat) (s:List UInt8),s.length < n→∀ L,txF n s=some L→L.length≤s.length∧b9 L≤s.length
 | 0,s,h,L,_=>by omega
 | n+1,[],_,L,hL=>by
  simp only [txF] at hL
  cases hL
  exact ⟨Nat.le_refl _,Nat.le_refl _⟩
 | n+1,k::t,h,L,hL=>by
  simp only [List.length_cons] at h
  rw [txF] at hL
  split at hL
  ·cases hL
  ·rw [Option.map_eq_some_iff] at hL
   obtain ⟨L',h1,rfl⟩:=hL
   have:=Er n (t.drop k.toNat) (by rw [List.length_drop]; omega) L' h1
   rw [List.length_drop] at this
   have e:b9 (t.take k.toNat::L')=(t.take k.toNat).length+b9 L':=by simp [b9]
   rw [e,List.length_cons,List.length_cons,List.length_take]; omega
theorem nY {s:List UInt8} {L:List (List UInt8)} (h:gv s=some L):L.length≤s.length∧b9 L≤s.length:=Er _ s (Nat.lt_succ_self _) L h
theorem G0 (d:Dt) (hd:d.wf) (c:UInt8) (k:Nat):(cL d c k).length≤1048579:=by
 have hr:=hd.raw
 unfold cL
 split
 ·simp
 split
 ·simp
 split
 ·simp
 split
 ·simp
 split
 ·simp
 split
 ·rw [List.length_map]
  cases h:gv d.raw with
  | none=>simp
  | some L=>have:=(nY h).1; simp only [Option.getD_some]; omega
 ·split <;> simp
theorem pO (d:Dt) (hd:d.wf):∀ (f:List UInt8) (k:Nat),(cF d f k).length≤f.length*1048579
 | [],k=>by simp [cF]
 | c::f,k=>by
  rw [cF,List.length_append,List.length_cons]
  have:=G0 d hd c k
  have:=pO d hd f (if isN c=true then k+1 else k)
  rw [Nat.add_mul]; omega
def dm (t:Int) (d:Dt):List UInt8:=dQ [32] (cF d (aU t) 0)
theorem NT (t:Int):∀ c ∈ aU t,c=104∨c=112∨c=109∨isN c=true∨c=97∨c=113∨c=120∨c=114:=by
 rcases cR t with rfl | rfl | rfl | rfl | rfl | rfl | rfl | rfl | rfl | ht
 case inr.inr.inr.inr.inr.inr.inr.inr.inr=>rw [iO ht]; decide
 all_goals decide
theorem AJ (t:Int):(aU t).length≤7:=by
 rcases cR t with rfl | rfl | rfl | rfl | rfl | rfl | rfl | rfl | rfl | ht
 case inr.inr.inr.inr.inr.inr.inr.inr.inr=>rw [iO ht]; decide
 all_goals decide
theorem jJ (t:Int):(aU t).all (fun c=>decide (c.toNat < 128))=true:=by
 rcases cR t with rfl | rfl | rfl | rfl | rfl | rfl | rfl | rfl | rfl | ht
 case inr.inr.inr.inr.inr.inr.inr.inr.inr=>rw [iO ht]; decide
 all_goals decide
theorem Q4 {t:Int} {i:Nat} {c:UInt8} (h:(aU t)[i]?=some c) (hc:isN c=true):kI ((aU t).take i) < 5:=by
 have h1:kI ((aU t).take (i+1))≤5:=by
  have:kI (aU t)≤5:=by
   rcases cR t with rfl | rfl | rfl | rfl | rfl | rfl | rfl | rfl | rfl | ht
   case inr.inr.inr.inr.inr.inr.inr.inr.inr=>rw [iO ht]; decide
   all_goals decide
  have h2:kI (aU t)=kI ((aU t).take (i+1))+kI ((aU t).drop (i+1)):=by
   conv=>lhs; rw [← List.take_append_drop (i+1) (aU t)]
   unfold kI; rw [List.filter_append,List.length_append]
  omega
 rw [vi h,if_pos hc] at h1; omega
theorem fH {t:Int} {d:Dt} (h:er t d=true):(∀ c ∈ aU t,(c=104∨c=112)→(nm d.host).isSome=true)∧(∀ c ∈ aU t,c=109→(nm d.bW).isSome=true)∧(∀ c ∈ aU t,c=97→d.raw.length=4)∧(∀ c ∈ aU t,c=113→d.raw.length=16)∧(∀ c ∈ aU t,c=120→kV d.raw=true)∧d.raw.length≤65535:=by
 unfold er at h
 rw [Bool.and_eq_true] at h
 have h:=h.1
 unfold jg at h
 simp only [Bool.and_eq_true,beq_iff_eq] at h
 obtain ⟨hr,hh,_,hm,_⟩:=h
 rcases cR t with rfl | rfl | rfl | rfl | rfl | rfl | rfl | rfl | rfl | ht
 case inr.inr.inr.inr.inr.inr.inr.inr.inr =>
  rw [iO ht]
  obtain ⟨h1,h2,h3,h4,h5,h6,h7,h8,h9⟩:=ht
  have e1:cG t=false:=by simp only [cG,decide_eq_false_iff_not]; omega
  simp [qY,e1,h1,h7,h8] at hr
  simp; omega
 all_goals
  simp only [E7,E6,E5,E4,zM,zL,zK,zJ,zI,EW,EV,EU,ET,zw,zu,zq,zn,zm] at hh hm
  simp [qY,cG] at hr
  simp [aU,hr,← hh,← hm]
  try omega

theorem kg:∀ (L:List (List UInt8)) (b:Nat),(∀ x ∈ L,x.length≤b)→b9 L≤L.length*b
 | [],b,h=>by simp [b9]
 | x::L,b,h=>by
  have h1:=kg L b (fun y hy=>h y (by simp [hy]))
  have h2:=h x (by simp)
  have e:b9 (x::L)=x.length+b9 L:=by simp [b9]
  rw [e,List.length_cons,Nat.add_mul]; omega
theorem oU (n:Nat):0 < (bF n).length:=by
 by_cases h:n < 10
 ·rw [cW h]; simp
 ·rw [gC h,List.length_append]; simp
theorem zO (n:Nat):0 < (gi n).length:=by
 by_cases h:n < 16
 ·rw [fk h]; simp
 ·rw [lK h,List.length_append]; simp
theorem sL (sep:List UInt8) (L:List (List UInt8)):(dQ sep L).length≤b9 L+L.length*sep.length:=by
 cases L with
 | nil=>simp [dQ]
 | cons x r =>
  have e2:b9 (x::r)=x.length+b9 r:=by simp [b9]
  show (x++r.flatMap (sep++·)).length≤_
  rw [uT,e2,List.length_cons,Nat.succ_mul]; omega
theorem rS (a b:List (List UInt8)):b9 (a++b)=b9 a+b9 b:=by simp [b9]
theorem rR:∀ (L:List (List UInt8)),b9 (L.map iM)≤4*b9 L+2*L.length
 | []=>by simp [b9]
 | x::L=>by
  have h:=rR L
  have e1:b9 ((x::L).map iM)=(iM x).length+b9 (L.map iM):=by simp [b9]
  have e2:b9 (x::L)=x.length+b9 L:=by simp [b9]
  have h2:=fV true x
  have e3:(iM x).length=(fJ true x).length+2:=by simp [iM]
  rw [e1,e2,e3,List.length_cons]; omega
theorem dO (s:List UInt8):(eo s).length≤1021:=by
 unfold eo
 split
 ·simp
 ·have:=jN (gL s)
  have:=sF (s:=s)
  omega
theorem xH {s:List UInt8} (h:(nm s).isSome=true):0 < (eo s).length:=by
 unfold eo
 split
 ·simp
 ·rename_i h0
  obtain ⟨L,hL⟩:=Option.isSome_iff_exists.1 h
  cases L with
  | nil =>
   exfalso; apply h0
   have hL:=(sr hL).1
   cases s with
   | nil=>cases hL
   | cons c t =>
    rw [fR] at hL
    split at hL
    ·rename_i hc
     split at hL
     ·rename_i ht
      have:c=0:=UInt8.toNat.inj (by simpa using hc)
      rw [this,List.length_eq_zero_iff.1 ht]
     ·cases hL
    ·split at hL
     ·cases hL
     ·rw [Option.map_eq_some_iff] at hL
      obtain ⟨_,_,h⟩:=hL
      cases h
  | cons l L =>
   have:gL s=l::L:=by rw [gL,hL]; rfl
   rw [this]
   show 0 < ((fJ false l++[46])++kU L).length
   rw [List.length_append,List.length_append]; simp; omega
theorem cM {n:Nat} (h:n < 4294967296):(bF n).length≤10:=by
 have key:∀ (k n:Nat),n < 10 ^ (k+1)→(bF n).length≤k+1:=by
  intro k
  induction k with
  | zero=>intro n h; rw [cW (by simpa using h)]; simp
  | succ k ih =>
   intro n h
   by_cases h0:n < 10
   ·rw [cW h0]; simp
   ·rw [gC h0,List.length_append]
    have:n / 10 < 10 ^ (k+1):=by
     rw [Nat.div_lt_iff_lt_mul (by omega)]
     rw [Nat.pow_succ] at h; exact h
    have:=ih (n / 10) this
    simp; omega
 exact key 9 n (by omega)
theorem GZ {t:Int} {d:Dt} (hd:d.wf) (hg:er t d=true) {c:UInt8} (hc:c ∈ aU t) (k:Nat):(∀ x ∈ cL d c k,0 < x.length)∧b9 (cL d c k)≤1000000:=by
 obtain ⟨gh,gm,ga,gq,gx,graw⟩:=fH hg
 unfold cL
 split
 ·rename_i h
  have:=dO d.host
  exact ⟨by intro x hx; simp only [List.mem_singleton] at hx; subst hx; exact xH (gh c hc h),by simp [b9]; omega⟩
 split
 ·rename_i h
  have:=dO d.bW
  exact ⟨by intro x hx; simp only [List.mem_singleton] at hx; subst hx; exact xH (gm c hc h),by simp [b9]; omega⟩
 split
 ·have h5:(d.n k).toNat < 4294967296:=by
   have:=hd.n0.2; have:=hd.n1.2; have:=hd.n2.2; have:=hd.n3.2; have:=hd.n4.2
   unfold Dt.n
   split <;> omega
  have:=cM h5
  exact ⟨by intro x hx; simp only [List.mem_singleton] at hx; subst hx; exact oU _,by simp [b9]; omega⟩
 split
 ·rename_i h
  have hr:=ga c hc h
  have hAl:(cP d.raw).length=4:=by simp [cP,hr]
  have ht:=kg (cP d.raw) 256 (by intro x hx; simp only [cP,List.mem_map] at hx; obtain ⟨b,_,rfl⟩:=hx; have:=oV b.toNat; have:=b.toNat_lt; omega)
  have hj:=sL [46] (cP d.raw)
  refine ⟨?_,by simp [b9]; simp at hj; omega⟩
  intro x hx; simp only [List.mem_singleton] at hx; subst hx
  cases h0:cP d.raw with
  | nil=>rw [h0] at hAl; simp at hAl
  | cons a r =>
   have:0 < a.length:=by
    have ha:a ∈ cP d.raw:=by rw [h0]; simp
    simp only [cP,List.mem_map] at ha; obtain ⟨b,_,rfl⟩:=ha; exact oU _
   show 0 < (a++r.flatMap ([46]++·)).length
   rw [List.length_append]; omega
 split
 ·rename_i h
  have hr:=gq c hc h
  have hAl:(ek d.raw).length=8:=by simp [ek]
  have ht:=kg (ek d.raw) 65536 (by intro x hx; simp only [ek,List.mem_map] at hx; obtain ⟨b,_,rfl⟩:=hx; have h1:=oK (jS d.raw b); have h2:jS d.raw b≤65535:=(by unfold jS; have:=((d.raw[2*b]?).getD 0).toNat_lt; have:=((d.raw[2*b+1]?).getD 0).toNat_lt; omega); omega)
  have hj:=sL [58] (ek d.raw)
  refine ⟨?_,by simp [b9]; simp at hj; omega⟩
  intro x hx; simp only [List.mem_singleton] at hx; subst hx
  cases h0:ek d.raw with
  | nil=>rw [h0] at hAl; simp at hAl
  | cons a r =>
   have:0 < a.length:=by
    have ha:a ∈ ek d.raw:=by rw [h0]; simp
    simp only [ek,List.mem_map] at ha; obtain ⟨b,_,rfl⟩:=ha; exact zO _
   show 0 < (a++r.flatMap ([58]++·)).length
   rw [List.length_append]; omega
 split
 ·refine ⟨?_,?_⟩
  ·intro x hx; simp only [List.mem_map] at hx; obtain ⟨b,_,rfl⟩:=hx; simp [iM]
  ·cases h:gv d.raw with
   | none=>simp [b9]
   | some L =>
    have h1:=nY h
    have h2:=rR L
    simp only [Option.getD_some]; omega
 ·have h1:=cM (n:=d.raw.length) (by omega)
  refine ⟨?_,?_⟩
  ·intro x hx
   rcases List.mem_append.1 hx with hx | hx
   ·simp only [List.mem_cons,List.not_mem_nil,or_false] at hx
    rcases hx with rfl | rfl
    ·simp
    ·exact oU _
   ·split at hx
    ·cases hx
    ·rename_i h0
     simp only [List.mem_singleton] at hx; subst hx
     rw [lJ]
     have:d.raw.length≠0:=fun e=>h0 (List.length_eq_zero_iff.1 e)
     omega
  ·rw [rS]
   have e1:b9 [[92,35],bF d.raw.length]=2+(bF d.raw.length).length:=by simp [b9]
   rw [e1]
   split
   ·simp [b9]; omega
   ·have e2:b9 [mM d.raw]=(mM d.raw).length:=by simp [b9]
    rw [e2,lJ]; omega
theorem pN {t:Int} {d:Dt} (hd:d.wf) (hg:er t d=true):∀ (f:List UInt8) (k:Nat),(∀ c ∈ f,c ∈ aU t)→(∀ x ∈ cF d f k,0 < x.length)∧b9 (cF d f k)≤f.length*1000000
 | [],k,_=>by simp [cF,b9]
 | c::f,k,h=>by
  obtain ⟨a1,a2⟩:=GZ hd hg (h c (by simp)) k
  obtain ⟨b1,b2⟩:=pN hd hg f (if isN c=true then k+1 else k) (fun x hx=>h x (by simp [hx]))
  refine ⟨fun x hx=>?_,?_⟩
  ·rw [cF] at hx
   rcases List.mem_append.1 hx with hx | hx
   ·exact a1 x hx
   ·exact b1 x hx
  ·rw [cF,rS,List.length_cons,Nat.succ_mul]; omega
theorem FW (t:Int) (d:Dt) (hg:er t d=true):0 < (cF d (aU t) 0).length:=by
 obtain ⟨gh,gm,ga,gq,gx,graw⟩:=fH hg
 have hne:∀ c k,c ∈ aU t→0 < (cL d c k).length:=by
  intro c k hc
  unfold cL
  split
  ·simp
  split
  ·simp
  split
  ·simp
  split
  ·simp
  split
  ·simp
  split
  ·rename_i h
   have hok:=gx c hc h
   cases h:gv d.raw with
   | none=>rw [jO h] at hok; cases hok
   | some L =>
    cases L with
    | nil=>rw [lu h] at hok; cases hok
    | cons a b=>simp
  ·simp
 cases hf:aU t with
 | nil =>
  exfalso
  rcases cR t with rfl | rfl | rfl | rfl | rfl | rfl | rfl | rfl | rfl | ht
  case inr.inr.inr.inr.inr.inr.inr.inr.inr=>rw [iO ht] at hf; cases hf
  all_goals (revert hf; decide)
 | cons c f =>
  have:=hne c 0 (by rw [hf]; simp)
  rw [cF,List.length_append]; omega
def kW (A:List (List UInt8)) (n j:Nat):List AV:=strs (A.take j)++List.replicate (n - j) (.str [])
theorem r8 {A:List (List UInt8)} {n j:Nat} (hA:A.length=n) (hj:j≤n):(kW A n j).length=n:=by
 simp [kW,strs]; omega
theorem r9 {A:List (List UInt8)} {n:Nat} (hA:A.length=n):kW A n n=strs A:=by
 unfold kW; rw [← hA,List.take_length]; simp
theorem oo {A:List (List UInt8)} {n j:Nat} {x:List UInt8} (h:A[j]?=some x) (hj:j < n):splice (kW A n j) j [.str x]=kW A n (j+1):=by
 have hl:(strs (A.take j)).length=j:=by have:=(List.getElem?_eq_some_iff.1 h).1; simp [strs]; omega
 obtain ⟨m,hm⟩:∃ m,n - j=m+1:=⟨n - j - 1,by omega⟩
 unfold kW splice
 rw [cu h,hm,show n - (j+1)=m by omega]
 rw [List.take_left' hl,List.length_singleton,List.replicate_succ,show j+1=(strs (A.take j)).length+1 by omega,List.drop_append]
 simp [strs]

set_option maxHeartbeats 2000000 in
theorem BL (t:Int) (d:Dt) (H) (hk:Tk H) (ht:Tb H) (hdb:Db H) (hd:d.wf) (hg:er t d=true):ag Tryz.prog 28 [.int .u16 t,.agg d.cells] H (fun q=>q=(.tuple [.str (dm t d),.int .i64 0],H,z0)):=by
 refine aa (n:=169) (rs:=[.tmp 4,.tmp 5]) Tryz.func28 rfl rfl rfl ?_
 intro σ hl ha
 have h0:=ha 0 (by simp)
 have h1:=ha 1 (by simp)
 clear ha
 simp only [Option.getD_some,List.getElem?_cons_zero,List.getElem?_cons_succ] at h0 h1
 have hck:=fun k=>qD t d (H++[.cells d.cells 34 .rw]) k (hk.old _) hd
 have hfm:=fun k=>bM t (H++[.cells d.cells 34 .rw]) k (hk.old _)
 have hc0:chk t d=0:=if_pos hg
 rw [hc0] at hck
 obtain ⟨gh,gm,ga,gq,gx,graw⟩:=fH hg
 simp only [go_sem,simprocAttr,hl,h0,h1,hck,hfm,Dt.l8,Dt.vc,Dt.len]
 refine go_rounds (fun (m:Nat) (st:St)=>∃ σ i v T e,m+i=(aU t).length∧st=⟨σ,H++T,e⟩∧T[0]?=some (.cells d.cells 34 .rw)∧T[1]?=some (.iter (aU t) i)∧bZ H.length T v 9 1 (cF d ((aU t).take i) 0).length (strs (cF d ((aU t).take i) 0))∧clean H.length e∧σ.length=169∧fr σ 3=.ptr H.length 0∧fr σ 6=v∧fr σ 7=.int .i64 ((kI ((aU t).take i):Nat))∧fr σ 26=.ptr (H.length+1) 0) (aU t).length
  ⟨_,0,.aI,[.cells d.cells 34 .rw,.iter (aU t) 0],_,rfl,rfl,rfl,rfl,.inl ⟨rfl,rfl,rfl⟩,⟨rfl,rfl⟩,by simp only [go_sem,simprocAttr,hl],by simp only [go_sem,simprocAttr,hl],by simp only [go_sem,simprocAttr,hl],by simp only [go_sem,simprocAttr,hl]; rfl,by simp only [go_sem,simprocAttr,hl]⟩ ?_
 clear hl h0 h1 hck hfm
 rintro m _ ⟨σ,i,v,T,e,hm,rfl,hT0,hT1,hv,he,hl,h3,h6,h7,h26⟩
 have hfl:=AJ t
 have hT1l:=ai hT1
 have hb0:(H++T)[H.length]?=some (.cells d.cells 34 .rw):=by rw [dg]; exact hT0
 have hb1:(H++T)[H.length+1]?=some (.iter (aU t) i):=by rw [bX]; exact hT1
 have hd1:decide (1 < T.length)=true:=by simpa using hT1l
 by_cases hlt:i < (aU t).length
 ·obtain ⟨c,hc⟩:∃ c,(aU t)[i]?=some c:=⟨_,List.getElem?_eq_getElem hlt⟩
  have hcm:=List.mem_of_getElem? hc
  have hsl:=Bw (d:=d) hc
  have hcn:=vi hc
  have hLl:=pO d hd ((aU t).take i) 0
  rw [List.length_take] at hLl
  have hkl:kI ((aU t).take i)≤7:=by
   have:=List.length_filter_le isN ((aU t).take i)
   rw [List.length_take] at this
   unfold kI; omega
  generalize hK:kI ((aU t).take i)=K at *
  generalize hL1:cF d ((aU t).take i) 0=L1 at *
  have hLb:L1.length≤7340053:=by omega
  -- memory behind the next round's start
  generalize hT':T.set 1 (.iter (aU t) (i+1))=T' at *
  obtain ⟨q,hq⟩:∃ q,T.length=q:=⟨_,rfl⟩
  have hT'l:T'.length=q:=by rw [← hT',List.length_set,hq]
  have hnew:∀ (x:bp) (l:Hp),(T'++x::l)[q]?=some x:=fun x l=>by rw [← hT'l,List.getElem?_append_right (Nat.le_refl _)]; simp
  have hset:∀ (x y:bp),(T'++[x]).set q y=T'++[y]:=fun x y=>by rw [← hT'l,List.set_append_right _ _ (Nat.le_refl _)]; simp
  have hT'0:T'[0]?=some (.cells d.cells 34 .rw):=by rw [← hT',List.getElem?_set_ne (by decide)]; exact hT0
  have hT'1:T'[1]?=some (.iter (aU t) (i+1)):=by rw [← hT',List.getElem?_set_self hT1l]
  have hv':bZ H.length T' v 9 1 L1.length (strs L1):=by
   obtain h | ⟨g1,g2,m,rfl,g3⟩:=hv
   ·exact .inl h
   ·refine .inr ⟨g1,g2,m,rfl,?_⟩
    rw [← hT',List.getElem?_set_ne]
    ·exact g3
    ·rintro rfl; rw [hT1] at g3; cases g3
  have hv0:∀ m n,v=.slice (H.length+m) 0 n (.op 0)→0≠m∧1≠m:=by
   intro m n hvm
   obtain ⟨rfl,_⟩ | ⟨g1,g2,m',rfl,g3⟩:=hv'
   ·cases hvm
   ·injection hvm with q1 q2 q3 q4
    have:m'=m:=by omega
    subst this
    refine ⟨?_,?_⟩
    ·rintro rfl; rw [hT'0] at g3; injection g3 with g; injection g with _ g _; exact absurd g (by decide)
    ·rintro rfl; rw [hT'1] at g3; cases g3
  have hbo:∀ l:Hp,(T'++l)[0]?=some (.cells d.cells 34 .rw):=fun l=>ah hT'0
  -- what a round leaves that adds texts
  have fin:∀ (xs:List (List UInt8)) (K':Nat) (T2:Hp) (w:AV) (σ':List AV) (e':Ef),cL d c K=xs→K'=K+(if isN c=true then 1 else 0)→T2[0]?=some (.cells d.cells 34 .rw)→T2[1]?=some (.iter (aU t) (i+1)) →
    bZ H.length T2 w 9 1 (L1.length+xs.length) (strs L1++strs xs)→clean H.length e'→σ'.length=169→fr σ' 3=.ptr H.length 0→fr σ' 6=w→fr σ' 7=.int .i64 (K':Nat)→fr σ' 26=.ptr (H.length+1) 0 →
    ∃ m',m' < m∧(fun (m:Nat) (st:St)=>∃ σ i v T e,m+i=(aU t).length∧st=⟨σ,H++T,e⟩∧T[0]?=some (.cells d.cells 34 .rw)∧T[1]?=some (.iter (aU t) i)∧bZ H.length T v 9 1 (cF d ((aU t).take i) 0).length (strs (cF d ((aU t).take i) 0))∧clean H.length e∧σ.length=169∧fr σ 3=.ptr H.length 0∧fr σ 6=v∧fr σ 7=.int .i64 ((kI ((aU t).take i):Nat))∧fr σ 26=.ptr (H.length+1) 0) m' ⟨σ',H++T2,e'⟩:=by
   intro xs K' T2 w σ' e' hx hK' q0 q1 qb qe ql q3 q6 q7 q26
   refine ⟨m - 1,by omega,σ',i+1,w,T2,e',by omega,rfl,q0,q1,?_,qe,ql,q3,q6,by rw [hcn,← hK']; exact q7,q26⟩
   rw [hsl,hx]
   simpa [strs] using qb
  rcases NT t c hcm with rfl | rfl | rfl | hN | rfl | rfl | rfl | rfl
  ·have hit:aJ (aU t) i=(.tuple [.bool true,.int .i64 (i:Nat),.int .i32 104],i+1):=by rw [aE (jJ t),lI hc]; rfl
   have hel:cL d 104 K=[eo d.host]:=by unfold cL; rw [if_pos (.inl rfl)]
   have htx:=fun H k=>jT d.host H k (by have:=hd.host; show _≤9223372036854775807; omega)
   obtain ⟨T2,e2,happ,_,c2,k2,_,b2⟩:=(hv'.more [.cells [.str (eo d.host)] 9 .rw]).qw (P:=Tryz.prog) (b:=16) (by decide) eU [.str (eo d.host)] 1 (by decide) rfl rfl (by simp only [fits,decide_eq_true_eq]; omega)
   simp only [go_sem,simprocAttr,hl,h3,h6,h7,h26,hb0,hb1,hT0,hT1,hT',hT'0,hT'l,hq,hnew,hbo,hd1,Dt.l0,Dt.l1,Dt.l2,hit,cO,happ,htx]
   exact fin _ (K) _ _ _ _ hel rfl (k2 0 _ (hbo _) (fun m n h=>(hv0 m n h).1)) (k2 1 _ (ah hT'1) (fun m n h=>(hv0 m n h).2)) b2 (by simp only [go_sem,simprocAttr,he,c2]) (by simp only [go_sem,simprocAttr,hl]) (by simp only [go_sem,simprocAttr,hl,h3]) (by simp only [go_sem,simprocAttr,hl,hT'l]) (by simp only [go_sem,simprocAttr,hl,h7]) (by simp only [go_sem,simprocAttr,hl,h26])
  ·have hit:aJ (aU t) i=(.tuple [.bool true,.int .i64 (i:Nat),.int .i32 112],i+1):=by rw [aE (jJ t),lI hc]; rfl
   have hel:cL d 112 K=[eo d.host]:=by unfold cL; rw [if_pos (.inr rfl)]
   have htx:=fun H k=>jT d.host H k (by have:=hd.host; show _≤9223372036854775807; omega)
   obtain ⟨T2,e2,happ,_,c2,k2,_,b2⟩:=(hv'.more [.cells [.str (eo d.host)] 9 .rw]).qw (P:=Tryz.prog) (b:=16) (by decide) eU [.str (eo d.host)] 1 (by decide) rfl rfl (by simp only [fits,decide_eq_true_eq]; omega)
   simp only [go_sem,simprocAttr,hl,h3,h6,h7,h26,hb0,hb1,hT0,hT1,hT',hT'0,hT'l,hq,hnew,hbo,hd1,Dt.l0,Dt.l1,Dt.l2,hit,cO,happ,htx]
   exact fin _ (K) _ _ _ _ hel rfl (k2 0 _ (hbo _) (fun m n h=>(hv0 m n h).1)) (k2 1 _ (ah hT'1) (fun m n h=>(hv0 m n h).2)) b2 (by simp only [go_sem,simprocAttr,he,c2]) (by simp only [go_sem,simprocAttr,hl]) (by simp only [go_sem,simprocAttr,hl,h3]) (by simp only [go_sem,simprocAttr,hl,hT'l]) (by simp only [go_sem,simprocAttr,hl,h7]) (by simp only [go_sem,simprocAttr,hl,h26])
  ·have hit:aJ (aU t) i=(.tuple [.bool true,.int .i64 (i:Nat),.int .i32 109],i+1):=by rw [aE (jJ t),lI hc]; rfl
   have hel:cL d 109 K=[eo d.bW]:=by unfold cL; rw [if_neg (by decide),if_pos rfl]
   have htx:=fun H k=>jT d.bW H k (by have:=hd.bW; show _≤9223372036854775807; omega)
   obtain ⟨T2,e2,happ,_,c2,k2,_,b2⟩:=(hv'.more [.cells [.str (eo d.bW)] 9 .rw]).qw (P:=Tryz.prog) (b:=16) (by decide) eU [.str (eo d.bW)] 1 (by decide) rfl rfl (by simp only [fits,decide_eq_true_eq]; omega)
   simp only [go_sem,simprocAttr,hl,h3,h6,h7,h26,hb0,hb1,hT0,hT1,hT',hT'0,hT'l,hq,hnew,hbo,hd1,Dt.l0,Dt.l1,Dt.l2,hit,cO,happ,htx]
   exact fin _ (K) _ _ _ _ hel rfl (k2 0 _ (hbo _) (fun m n h=>(hv0 m n h).1)) (k2 1 _ (ah hT'1) (fun m n h=>(hv0 m n h).2)) b2 (by simp only [go_sem,simprocAttr,he,c2]) (by simp only [go_sem,simprocAttr,hl]) (by simp only [go_sem,simprocAttr,hl,h3]) (by simp only [go_sem,simprocAttr,hl,hT'l]) (by simp only [go_sem,simprocAttr,hl,h7]) (by simp only [go_sem,simprocAttr,hl,h26])
  ·have hK5:K < 5:=by rw [← hK]; exact Q4 hc hN
   obtain ⟨nn,hnn,hnl⟩:∃ nn:Nat,d.n K=(nn:Int)∧nn < 4294967296:=by
    have:iB (d.n K):=by
     have:K=0∨K=1∨K=2∨K=3∨K=4:=by omega
     rcases this with rfl | rfl | rfl | rfl | rfl
     ·exact hd.n0
     ·exact hd.n1
     ·exact hd.n2
     ·exact hd.n3
     ·exact hd.n4
    exact ⟨(d.n K).toNat,by have:=this.1; omega,by have:=this.2; have:=this; omega⟩
   have hld:=fun e k=>d.at hK5 e k
   rw [hnn] at hld
   have hel:cL d c K=[bF nn]:=by
    have h1:c=115∨c=108:=by simpa [isN] using hN
    unfold cL
    rw [if_neg (by rcases h1 with rfl | rfl <;> decide),if_neg (by rcases h1 with rfl | rfl <;> decide),if_pos hN,hnn]; rfl
   have hfu:=fun l k=>Kf nn (H++l) k (ht.old l) hnl
   have w1:IntKind.u64.wrap (nn:Int)=(nn:Int):=wrap_u64 (by omega)
   have w2:IntKind.i64.wrap ((K:Int)+1)=((K+1:Nat):Int):=by rw [wrap_i64 (by omega)]; omega
   have hK':K+1=K+(if isN c=true then 1 else 0):=by rw [if_pos hN]
   obtain ⟨T2,e2,happ,_,c2,k2,_,b2⟩:=(hv'.more [.cells [.str (bF nn)] 9 .rw]).qw (P:=Tryz.prog) (b:=16) (by decide) eU [.str (bF nn)] 1 (by decide) rfl rfl (by simp only [fits,decide_eq_true_eq]; omega)
   have h1:c=115∨c=108:=by simpa [isN] using hN
   rcases h1 with rfl | rfl
   ·have hit:aJ (aU t) i=(.tuple [.bool true,.int .i64 (i:Nat),.int .i32 115],i+1):=by rw [aE (jJ t),lI hc]; rfl
    simp only [go_sem,simprocAttr,hl,h3,h6,h7,h26,hb0,hb1,hT0,hT1,hT',hT'0,hT'l,hq,hnew,hbo,hd1,Dt.l0,Dt.l1,Dt.l2,hit,cO,happ,hld,hfu,w1,w2,hK5]
    exact ⟨by omega,fin _ (K+1) _ _ _ _ hel hK' (k2 0 _ (hbo _) (fun m n h=>(hv0 m n h).1)) (k2 1 _ (ah hT'1) (fun m n h=>(hv0 m n h).2)) b2 (by simp only [go_sem,simprocAttr,he,c2]) (by simp only [go_sem,simprocAttr,hl]) (by simp only [go_sem,simprocAttr,hl,h3]) (by simp only [go_sem,simprocAttr,hl,hT'l]) (by simp only [go_sem,simprocAttr,hl,h7]) (by simp only [go_sem,simprocAttr,hl,h26])⟩
   ·have hit:aJ (aU t) i=(.tuple [.bool true,.int .i64 (i:Nat),.int .i32 108],i+1):=by rw [aE (jJ t),lI hc]; rfl
    simp only [go_sem,simprocAttr,hl,h3,h6,h7,h26,hb0,hb1,hT0,hT1,hT',hT'0,hT'l,hq,hnew,hbo,hd1,Dt.l0,Dt.l1,Dt.l2,hit,cO,happ,hld,hfu,w1,w2,hK5]
    exact ⟨by omega,fin _ (K+1) _ _ _ _ hel hK' (k2 0 _ (hbo _) (fun m n h=>(hv0 m n h).1)) (k2 1 _ (ah hT'1) (fun m n h=>(hv0 m n h).2)) b2 (by simp only [go_sem,simprocAttr,he,c2]) (by simp only [go_sem,simprocAttr,hl]) (by simp only [go_sem,simprocAttr,hl,h3]) (by simp only [go_sem,simprocAttr,hl,hT'l]) (by simp only [go_sem,simprocAttr,hl,h7]) (by simp only [go_sem,simprocAttr,hl,h26])⟩
  ·-- 97
   have hit:aJ (aU t) i=(.tuple [.bool true,.int .i64 (i:Nat),.int .i32 97],i+1):=by rw [aE (jJ t),lI hc]; rfl
   have hel:cL d 97 K=[dQ [46] (cP d.raw)]:=by unfold cL; rw [if_neg (by decide),if_neg (by decide),if_neg (by decide),if_pos rfl]
   have hrl:=ga _ hcm rfl
   have hAl:(cP d.raw).length=4:=by simp [cP,hrl]
   have hr0:(List.replicate 4 (AV.str []))=kW (cP d.raw) 4 0:=rfl
   have hz:([AV.str [],AV.str [],AV.str [],AV.str []]:List AV)=kW (cP d.raw) 4 0:=rfl
   simp only [go_sem,simprocAttr,hl,h3,h6,h7,h26,hb0,hb1,hT0,hT1,hT',hT'0,hT'l,hq,hnew,hbo,hd1,Dt.l0,Dt.l1,Dt.l2,hit,hz]
   refine go_rounds (fun (r:Nat) (st:St)=>∃ σ j e,r+j=4∧st=⟨σ,H++(T'++[.cells (kW (cP d.raw) 4 j) 115 .rw]),e⟩∧clean H.length e∧σ.length=169∧fr σ 3=.ptr H.length 0∧fr σ 6=v∧fr σ 7=.int .i64 (K:Nat)∧fr σ 26=.ptr (H.length+1) 0∧fr σ 10=.ptr (H.length+q) 0∧fr σ 99=.int .i64 (j:Nat)) 4
    ⟨_,0,_,rfl,rfl,by simp only [go_sem,simprocAttr,he],by simp only [go_sem,simprocAttr,hl],by simp only [go_sem,simprocAttr,hl,h3],by simp only [go_sem,simprocAttr,hl,h6],by simp only [go_sem,simprocAttr,hl,h7],by simp only [go_sem,simprocAttr,hl,h26],by simp only [go_sem,simprocAttr,hl],by simp only [go_sem,simprocAttr,hl]⟩ ?_
   clear hl h3 h6 h7 h26 he
   rintro r _ ⟨σ,j,e,hr,rfl,he,hl,h3,h6,h7,h26,ha,hj⟩
   by_cases hjn:j < 4
   ·obtain ⟨b,hb⟩:∃ b,d.raw[j]?=some b:=⟨_,List.getElem?_eq_getElem (by omega)⟩
    have hA:(cP d.raw)[j]?=some (bF b.toNat):=by simp [cP,hb]
    have hbl:=b.toNat_lt
    have hit2:=fun l k=>P3 b.toNat (H++l) k (ht.old l) (by omega)
    have hput:=oo (n:=4) hA hjn
    have hrwl:=r8 (A:=cP d.raw) (n:=4) (j:=j) (by omega) (by omega)
    have w1:IntKind.i64.wrap (b.toNat:Int)=(b.toNat:Int):=wrap_i64 (by omega)
    have hw:=aS (show j < 9223372036854775807 by omega)
    have hjr:j < d.raw.length:=by omega
    have hjd:decide ((j:Int) < 4)=true:=by simp; omega
    have dq:decide (q < T'.length+1)=true:=by simp; omega
    simp only [go_sem,simprocAttr,hl,h3,h6,h7,h26,ha,hj,hT'l,hq,hnew,hbo,Dt.l0,hb,hit2,hput,hrwl,w1,hw,hjn,hjr,hjd]
    exact ⟨by omega,by omega,r - 1,by omega,_,j+1,_,by omega,by rw [hset],by simp only [go_sem,simprocAttr,he],by simp only [go_sem,simprocAttr,hl],by simp only [go_sem,simprocAttr,hl,h3],by simp only [go_sem,simprocAttr,hl,h6],by simp only [go_sem,simprocAttr,hl,h7],by simp only [go_sem,simprocAttr,hl,h26],by simp only [go_sem,simprocAttr,hl,ha],by simp only [go_sem,simprocAttr,hl]⟩
   ·have hj4:j=4:=by omega
    subst hj4
    have hrow:kW (cP d.raw) 4 4=strs (cP d.raw):=r9 hAl
    rw [hrow]
    have hsv:Sv (H++(T'++[.cells (strs (cP d.raw)) 115 .rw])) (.slice (H.length+q) 0 4 (.ex 4)) (cP d.raw):=⟨_,_,115,.rw,by rw [hAl],by rw [bX]; exact hnew _ _,.inl (by rw [hAl]),by omega⟩
    have hjo:=fun k=>BA [46] (cP d.raw) _ _ k hsv (by decide) (by decide) (by omega) (by intro x hx; simp only [cP,List.mem_map] at hx; obtain ⟨b,_,rfl⟩:=hx; exact oU _) (by have:=kg (cP d.raw) 256 (by intro x hx; simp only [cP,List.mem_map] at hx; obtain ⟨b,_,rfl⟩:=hx; have:=oV b.toNat; have:=b.toNat_lt; omega); omega)
    obtain ⟨T2,e2,happ,_,c2,k2,_,b2⟩:=(hv'.more [.cells (strs (cP d.raw)) 115 .rw,.cells [.str (dQ [46] (cP d.raw))] 9 .rw]).qw (P:=Tryz.prog) (b:=16) (by decide) eU [.str (dQ [46] (cP d.raw))] 1 (by decide) rfl rfl (by simp only [fits,decide_eq_true_eq]; omega)
    have hnew2:∀ (x y:bp),(T'++[x,y])[q+1]?=some y:=fun x y=>by rw [← hT'l,List.getElem?_append_right (by omega)]; simp
    simp only [go_sem,simprocAttr,hl,h3,h6,h7,h26,ha,hj,hT'l,hq,hnew,hnew2,hbo,cO,hjo,happ]
    exact fin _ (K) _ _ _ _ hel rfl (k2 0 _ (by exact hbo _) (fun m n h=>(hv0 m n h).1)) (k2 1 _ (ah hT'1) (fun m n h=>(hv0 m n h).2)) b2 (by simp only [go_sem,simprocAttr,he,c2]) (by simp only [go_sem,simprocAttr,hl]) (by simp only [go_sem,simprocAttr,hl,h3]) (by simp only [go_sem,simprocAttr,hl,hT'l]) (by simp only [go_sem,simprocAttr,hl,h7]) (by simp only [go_sem,simprocAttr,hl,h26])
  ·-- 113
   have hit:aJ (aU t) i=(.tuple [.bool true,.int .i64 (i:Nat),.int .i32 113],i+1):=by rw [aE (jJ t),lI hc]; rfl
   have hel:cL d 113 K=[dQ [58] (ek d.raw)]:=by unfold cL; rw [if_neg (by decide),if_neg (by decide),if_neg (by decide),if_neg (by decide),if_pos rfl]
   have hrl:=gq _ hcm rfl
   have hAl:(ek d.raw).length=8:=by simp [ek,hrl]
   have hr0:(List.replicate 8 (AV.str []))=kW (ek d.raw) 8 0:=rfl
   have hz:([AV.str [],AV.str [],AV.str [],AV.str [],AV.str [],AV.str [],AV.str [],AV.str []]:List AV)=kW (ek d.raw) 8 0:=rfl
   simp only [go_sem,simprocAttr,hl,h3,h6,h7,h26,hb0,hb1,hT0,hT1,hT',hT'0,hT'l,hq,hnew,hbo,hd1,Dt.l0,Dt.l1,Dt.l2,hit,hz]
   refine go_rounds (fun (r:Nat) (st:St)=>∃ σ j e,r+j=8∧st=⟨σ,H++(T'++[.cells (kW (ek d.raw) 8 j) 117 .rw]),e⟩∧clean H.length e∧σ.length=169∧fr σ 3=.ptr H.length 0∧fr σ 6=v∧fr σ 7=.int .i64 (K:Nat)∧fr σ 26=.ptr (H.length+1) 0∧fr σ 12=.ptr (H.length+q) 0∧fr σ 118=.int .i64 (j:Nat)) 8
    ⟨_,0,_,rfl,rfl,by simp only [go_sem,simprocAttr,he],by simp only [go_sem,simprocAttr,hl],by simp only [go_sem,simprocAttr,hl,h3],by simp only [go_sem,simprocAttr,hl,h6],by simp only [go_sem,simprocAttr,hl,h7],by simp only [go_sem,simprocAttr,hl,h26],by simp only [go_sem,simprocAttr,hl],by simp only [go_sem,simprocAttr,hl]⟩ ?_
   clear hl h3 h6 h7 h26 he
   rintro r _ ⟨σ,j,e,hr,rfl,he,hl,h3,h6,h7,h26,ha,hj⟩
   by_cases hjn:j < 8
   ·obtain ⟨a,hxa⟩:∃ a,d.raw[2*j]?=some a:=⟨_,List.getElem?_eq_getElem (by omega)⟩
    obtain ⟨b,hxb⟩:∃ b,d.raw[2*j+1]?=some b:=⟨_,List.getElem?_eq_getElem (by omega)⟩
    have hA:(ek d.raw)[j]?=some (gi (a.toNat*256+b.toNat)):=by simp [ek,jS,hxa,hxb,hjn]
    have hal:=a.toNat_lt
    have hbl:=b.toNat_lt
    have hit2:=fun l k=>NZ (a.toNat*256+b.toNat) (H++l) k (hdb.old l) (by omega)
    have hput:=oo (n:=8) hA hjn
    have hrwl:=r8 (A:=ek d.raw) (n:=8) (j:=j) (by omega) (by omega)
    have w0:IntKind.i64.wrap (2*(j:Int))=((2*j:Nat):Int):=by rw [wrap_i64 (by omega)]; omega
    have w1:IntKind.i64.wrap (((2*j:Nat):Int)+1)=((2*j+1:Nat):Int):=by rw [wrap_i64 (by omega)]; omega
    have w2:IntKind.u64.wrap (a.toNat:Int)=(a.toNat:Int):=wrap_u64 (by omega)
    have w3:IntKind.u64.wrap (b.toNat:Int)=(b.toNat:Int):=wrap_u64 (by omega)
    have w4:IntKind.u64.wrap ((a.toNat:Int)*2 ^ (min 8 64))=((a.toNat*256:Nat):Int):=by
     have e:(2:Int) ^ (min 8 64)=256:=by decide
     rw [e,wrap_u64 (by omega)]; omega
    have w5:eG .or .u64 ((a.toNat*256:Nat):Int) (b.toNat:Int)=some (.int .u64 ((a.toNat*256+b.toNat:Nat):Int)):=by
     have:(BitVec.ofInt 64 ((a.toNat*256:Nat):Int) ||| BitVec.ofInt 64 (b.toNat:Int)).toNat=a.toNat*256+b.toNat:=by
      rw [BitVec.toNat_or,BitVec.ofInt_natCast,BitVec.ofInt_natCast]
      simp only [BitVec.toNat_ofNat]
      rw [Nat.mod_eq_of_lt (show a.toNat*256 < 2 ^ 64 by omega),Nat.mod_eq_of_lt (show b.toNat < 2 ^ 64 by omega)]
      have:=Nat.shiftLeft_add_eq_or_of_lt (show b.toNat < 2 ^ 8 by omega) a.toNat
      rw [Nat.shiftLeft_eq] at this
      rw [← this]
     show some (AV.int .u64 (IntKind.u64.wrap ((BitVec.ofInt 64 ((a.toNat*256:Nat):Int) ||| BitVec.ofInt 64 (b.toNat:Int)).toNat:Int)))=_
     rw [this,wrap_u64 (by omega)]
    have hw:=aS (show j < 9223372036854775807 by omega)
    have hjr:2*j < d.raw.length:=by omega
    have hjr2:2*j+1 < d.raw.length:=by omega
    have hjd:decide ((j:Int) < 8)=true:=by simp; omega
    have dq:decide (q < T'.length+1)=true:=by simp; omega
    simp only [go_sem,simprocAttr,hl,h3,h6,h7,h26,ha,hj,hT'l,hq,hnew,hbo,Dt.l0,hxa,hxb,hit2,hput,hrwl,w0,w1,w2,w3,w4,w5,hw,hjn,hjr,hjr2,hjd]
    refine ay au (by kernel_rfl) ?_
    simp only [go_sem,simprocAttr,hl,h3,h6,h7,h26,ha,hj,hT'l,hq,hnew,hbo,Dt.l0,hxa,hxb,hit2,hput,hrwl,w0,w1,w2,w3,w4,w5,hw,hjn,hjr,hjr2,hjd]
    exact ⟨by omega,by omega,(by kernel_rfl:bN _ _ _=true),r - 1,by omega,_,j+1,_,by omega,by rw [hset],by simp only [go_sem,simprocAttr,he],by simp only [go_sem,simprocAttr,hl],by simp only [go_sem,simprocAttr,hl,h3],by simp only [go_sem,simprocAttr,hl,h6],by simp only [go_sem,simprocAttr,hl,h7],by simp only [go_sem,simprocAttr,hl,h26],by simp only [go_sem,simprocAttr,hl,ha],by simp only [go_sem,simprocAttr,hl]⟩
   ·have hj4:j=8:=by omega
    subst hj4
    have hrow:kW (ek d.raw) 8 8=strs (ek d.raw):=r9 hAl
    rw [hrow]
    have hsv:Sv (H++(T'++[.cells (strs (ek d.raw)) 117 .rw])) (.slice (H.length+q) 0 8 (.ex 8)) (ek d.raw):=⟨_,_,117,.rw,by rw [hAl],by rw [bX]; exact hnew _ _,.inl (by rw [hAl]),by omega⟩
    have hjo:=fun k=>BA [58] (ek d.raw) _ _ k hsv (by decide) (by decide) (by omega) (by intro x hx; simp only [ek,List.mem_map] at hx; obtain ⟨b,_,rfl⟩:=hx; exact zO _) (by have:=kg (ek d.raw) 65536 (by intro x hx; simp only [ek,List.mem_map] at hx; obtain ⟨b,_,rfl⟩:=hx; have h1:=oK (jS d.raw b); have h2:jS d.raw b≤65535:=(by unfold jS; have:=((d.raw[2*b]?).getD 0).toNat_lt; have:=((d.raw[2*b+1]?).getD 0).toNat_lt; omega); omega); omega)
    obtain ⟨T2,e2,happ,_,c2,k2,_,b2⟩:=(hv'.more [.cells (strs (ek d.raw)) 117 .rw,.cells [.str (dQ [58] (ek d.raw))] 9 .rw]).qw (P:=Tryz.prog) (b:=16) (by decide) eU [.str (dQ [58] (ek d.raw))] 1 (by decide) rfl rfl (by simp only [fits,decide_eq_true_eq]; omega)
    have hnew2:∀ (x y:bp),(T'++[x,y])[q+1]?=some y:=fun x y=>by rw [← hT'l,List.getElem?_append_right (by omega)]; simp
    simp only [go_sem,simprocAttr,hl,h3,h6,h7,h26,ha,hj,hT'l,hq,hnew,hnew2,hbo,cO,hjo,happ]
    exact fin _ (K) _ _ _ _ hel rfl (k2 0 _ (by exact hbo _) (fun m n h=>(hv0 m n h).1)) (k2 1 _ (ah hT'1) (fun m n h=>(hv0 m n h).2)) b2 (by simp only [go_sem,simprocAttr,he,c2]) (by simp only [go_sem,simprocAttr,hl]) (by simp only [go_sem,simprocAttr,hl,h3]) (by simp only [go_sem,simprocAttr,hl,hT'l]) (by simp only [go_sem,simprocAttr,hl,h7]) (by simp only [go_sem,simprocAttr,hl,h26])
  ·have hit:aJ (aU t) i=(.tuple [.bool true,.int .i64 (i:Nat),.int .i32 120],i+1):=by rw [aE (jJ t),lI hc]; rfl
   have hel:cL d 120 K=((gv d.raw).getD []).map iM:=by unfold cL; rw [if_neg (by decide),if_neg (by decide),if_neg (by decide),if_neg (by decide),if_neg (by decide),if_pos rfl]
   have hok:=gx _ hcm rfl
   obtain ⟨L,hL,hLn⟩:∃ L,gv d.raw=some L∧L≠[]:=by
    cases h:gv d.raw with
    | none=>rw [jO h] at hok; cases hok
    | some L =>
     cases L with
     | nil=>rw [lu h] at hok; cases hok
     | cons a b=>exact ⟨_,rfl,by simp⟩
   rw [hL] at hel
   simp only [Option.getD_some] at hel
   obtain ⟨⟨bv,bT⟩,hb,htx⟩:=qC d.raw (H++T') hd.raw
   have hB:=hb L hL hLn
   obtain ⟨rfl,_,h3'⟩ | ⟨g1,g2,bm,hbv,g3⟩:=hB
   ·exact absurd (List.length_eq_zero_iff.1 h3') hLn
   simp only at hbv g3 htx
   subst hbv
   have hLl2:=nY hL
   have htx:∀ k,ag Tryz.prog 58 [.str d.raw] (H++T') k=k (.tuple [.slice (H.length+(q+bm)) 0 L.length (.op 0),.bool (kV d.raw)],H++(T'++bT),z0):=by
    intro k; rw [htx,List.length_append,hT'l,List.append_assoc,Nat.add_assoc]
   have g3':(T'++bT)[q+bm]?=some (.cells (strs L) 9 (.op 0 false)):=by rw [← hT'l,List.getElem?_append_right (by omega),Nat.add_sub_cancel_left]; exact g3
   have hvB:=hv'.more bT
   have hvm:∀ m n,v=.slice (H.length+m) 0 n (.op 0)→m < q:=by
    intro m n hvm
    obtain ⟨rfl,_⟩ | ⟨g1,g2,m',rfl,g3⟩:=hv'
    ·cases hvm
    ·injection hvm with q1 q2 q3 q4
     have:=ai g3
     omega
   simp only [go_sem,simprocAttr,hl,h3,h6,h7,h26,hb0,hb1,hT0,hT1,hT',hT'0,hT'l,hq,hbo,hd1,Dt.l0,Dt.l1,Dt.l2,hit,htx]
   refine go_rounds (fun (r:Nat) (st:St)=>∃ σ j v T e,r+j=L.length∧st=⟨σ,H++T,e⟩∧T[0]?=some (.cells d.cells 34 .rw)∧T[1]?=some (.iter (aU t) (i+1))∧T[q+bm]?=some (.cells (strs L) 9 (.op 0 false))∧(∀ m n,v=.slice (H.length+m) 0 n (.op 0)→0≠m∧1≠m∧q+bm≠m) ∧
     bZ H.length T v 9 1 (L1.length+j) (strs L1++strs ((L.take j).map iM))∧clean H.length e∧σ.length=169∧fr σ 3=.ptr H.length 0∧fr σ 6=v∧fr σ 7=.int .i64 (K:Nat)∧fr σ 26=.ptr (H.length+1) 0∧fr σ 153=.slice (H.length+(q+bm)) 0 L.length (.op 0)∧fr σ 154=.int .i64 L.length∧fr σ 155=.int .i64 (j:Nat)) L.length
    ⟨_,0,v,T'++bT,_,rfl,rfl,ah hT'0,ah hT'1,g3',fun m n h=>⟨(hv0 m n h).1,(hv0 m n h).2,by have:=hvm m n h; omega⟩,by simpa [strs] using hvB,by simp only [go_sem,simprocAttr,he],by simp only [go_sem,simprocAttr,hl],by simp only [go_sem,simprocAttr,hl,h3],by simp only [go_sem,simprocAttr,hl,h6],by simp only [go_sem,simprocAttr,hl,h7],by simp only [go_sem,simprocAttr,hl,h26],by simp only [go_sem,simprocAttr,hl],by simp only [go_sem,simprocAttr,hl],by simp only [go_sem,simprocAttr,hl]⟩ ?_
   clear hl h3 h6 h7 h26 he
   rintro r _ ⟨σ,j,v,T,e,hr,rfl,hT0,hT1,hTb,hvn,hv,he,hl,h3,h6,h7,h26,h153,h154,h155⟩
   by_cases hjn:j < L.length
   ·obtain ⟨x,hx⟩:∃ x,L[j]?=some x:=⟨_,List.getElem?_eq_getElem hjn⟩
    have hxl:x.length≤1048576:=by
     have h1:=mj hx
     have h2:=eN L (j+1)
     have:=hd.raw
     omega
    have hxl2:x.length≤65535:=by
     have h1:=mj hx
     have h2:=eN L (j+1)
     omega
    have hld:=iK hx
    have hbb:(H++T)[H.length+(q+bm)]?=some (.cells (strs L) 9 (.op 0 false)):=by rw [bX]; exact hTb
    have hE:=fun H' k=>qM x true H' k (by omega)
    have hEl:=fV true x
    have a1:=iF (a:=[34]) (b:=fJ true x) (m:=1) (n:=262140) (by simp) (by omega) (by omega)
    have a2:=iF (a:=[34]++fJ true x) (b:=[34]) (m:=262141) (n:=1) (by rw [List.length_append,List.length_singleton]; omega) (by simp) (by omega)
    obtain ⟨T2,e2,happ,hT2l,c2,k2,_,b2⟩:=(hv.more [.cells [.str (iM x)] 9 .rw]).qw (P:=Tryz.prog) (b:=16) (by decide) eU [.str (iM x)] 1 (by decide) rfl rfl (by simp only [fits,decide_eq_true_eq]; omega)
    have hw:=aS (show j < 9223372036854775807 by omega)
    have hqp:34::(fJ true x++[34])=iM x:=rfl
    simp only [go_sem,simprocAttr,hl,h3,h6,h7,h26,h153,h154,h155,hTb,hbb,hld,hE,a1,a2,hw,hjn,cO,hqp,happ]
    have hbl:=ai hTb
    have h1l:=ai hT1
    refine ⟨by show _≤9223372036854775807; omega,r - 1,by omega,_,j+1,_,T2,_,by omega,rfl,k2 0 _ (ah hT0) (fun m n h=>(hvn m n h).1),k2 1 _ (ah hT1) (fun m n h=>(hvn m n h).2.1),k2 _ _ (ah hTb) (fun m n h=>(hvn m n h).2.2),?_,?_,by simp only [go_sem,simprocAttr,he,c2],by simp only [go_sem,simprocAttr,hl],by simp only [go_sem,simprocAttr,hl,h3],by simp only [go_sem,simprocAttr,hl]; rfl,by simp only [go_sem,simprocAttr,hl,h7],by simp only [go_sem,simprocAttr,hl,h26],by simp only [go_sem,simprocAttr,hl,h153],by simp only [go_sem,simprocAttr,hl,h154],by simp only [go_sem,simprocAttr,hl]⟩
    ·intro m n h
     injection h with z1 z2 z3 z4
     refine ⟨?_,?_,?_⟩ <;> omega
    ·rw [cu hx]
     simpa [strs,Nat.add_assoc] using b2
   ·have hjL:j=L.length:=by omega
    subst hjL
    rw [List.take_length] at hv
    simp only [go_sem,simprocAttr,hl,h3,h6,h7,h26,h153,h154,h155,hjn]
    exact fin _ K _ _ _ _ hel rfl hT0 hT1 (by simpa using hv) (by simp only [go_sem,simprocAttr,he]) (by simp only [go_sem,simprocAttr,hl]) (by simp only [go_sem,simprocAttr,hl,h3]) (by simp only [go_sem,simprocAttr,hl,h6]) (by simp only [go_sem,simprocAttr,hl,h7]) (by simp only [go_sem,simprocAttr,hl,h26])
  ·have hit:aJ (aU t) i=(.tuple [.bool true,.int .i64 (i:Nat),.int .i32 114],i+1):=by rw [aE (jJ t),lI hc]; rfl
   have hi1:=fun l k=>P3 d.raw.length (H++l) k (ht.old l) (by omega)
   obtain ⟨T2,e2,happ,hT2l,c2,k2,g2,b2⟩:=(hv'.more [.cells [.str [92,35],.str (bF d.raw.length)] 9 .rw]).qw (P:=Tryz.prog) (b:=16) (by decide) eU [.str [92,35],.str (bF d.raw.length)] 2 (by decide) rfl rfl (by simp only [fits,decide_eq_true_eq]; omega)
   have q0:=k2 0 _ (hbo _) (fun m n h=>(hv0 m n h).1)
   have q1:=k2 1 _ (ah hT'1) (fun m n h=>(hv0 m n h).2)
   have hT2l:T2.length=q+2:=by rw [hT2l,List.length_append,hT'l]; rfl
   have hbs2:∀ (a b:List UInt8) (H:Hp),aO Tryz.prog 85 2 [(0,.str a),(1,.str b)] H=some (.slice H.length 0 2 (.ex 2),H++[.cells [.str a,.str b] 9 .rw]):=by
    intro a b H
    simp only [aO,jc,nV,Option.bind_some]
    rfl
   have q0l:∀ l:Hp,(T2++l)[0]?=some (.cells d.cells 34 .rw):=fun l=>ah q0
   by_cases hr0:d.raw=[]
   ·have hel:cL d 114 K=[[92,35],bF d.raw.length]:=by unfold cL; rw [if_neg (by decide),if_neg (by decide),if_neg (by decide),if_neg (by decide),if_neg (by decide),if_neg (by decide),if_pos hr0]; rfl
    have hne:(d.raw == [])=true:=by simp [hr0]
    simp only [go_sem,simprocAttr,hl,h3,h6,h7,h26,hb0,hb1,hT0,hT1,hT',hT'0,hT'l,hq,hnew,hbo,hd1,Dt.l0,Dt.l1,Dt.l2,hit,hi1,hbs2,happ,q0,hne]
    exact fin _ K _ _ _ _ hel rfl q0 q1 b2 (by simp only [go_sem,simprocAttr,he,c2]) (by simp only [go_sem,simprocAttr,hl]) (by simp only [go_sem,simprocAttr,hl,h3]) (by simp only [go_sem,simprocAttr,hl,hT'l]) (by simp only [go_sem,simprocAttr,hl,h7]) (by simp only [go_sem,simprocAttr,hl,h26])
   ·have hel:cL d 114 K=[[92,35],bF d.raw.length,mM d.raw]:=by unfold cL; rw [if_neg (by decide),if_neg (by decide),if_neg (by decide),if_neg (by decide),if_neg (by decide),if_neg (by decide),if_neg hr0]; rfl
    have hne:(d.raw == [])=false:=by simp [hr0]
    simp only [go_sem,simprocAttr,hl,h3,h6,h7,h26,hb0,hb1,hT0,hT1,hT',hT'0,hT'l,hq,hnew,hbo,hd1,Dt.l0,Dt.l1,Dt.l2,hit,hi1,hbs2,happ,q0,q0l,hne,hT2l]
    have hbs0:Bld H.length (T2++[.cells [.fF,.aI] 73 .rw]) (q+2) (mM (d.raw.take 0)):=⟨_,_,by rw [← hT2l,List.getElem?_append_right (Nat.le_refl _),Nat.sub_self]; rfl,.inl rfl,.inl ⟨rfl,rfl⟩⟩
    have hfx:∀ (c:List AV) (k:Kd),Kh (.cells c 9 k)=true:=by intro c k; cases k <;> rfl
    refine go_rounds (fun (r:Nat) (st:St)=>∃ σ j T e,r+j=d.raw.length∧st=⟨σ,H++T,e⟩∧T[0]?=some (.cells d.cells 34 .rw)∧T[1]?=some (.iter (aU t) (i+1))∧T[q+1]?=some (.cells (strs L1++[.str [92,35],.str (bF d.raw.length)]) 9 (.op 0 false))∧Bld H.length T (q+2) (mM (d.raw.take j))∧clean H.length e∧σ.length=169∧fr σ 3=.ptr H.length 0∧fr σ 6=.slice (H.length+(q+1)) 0 (L1.length+2) (.op 0)∧fr σ 7=.int .i64 (K:Nat)∧fr σ 26=.ptr (H.length+1) 0∧fr σ 18=.ptr (H.length+(q+2)) 0∧fr σ 43=.int .i64 d.raw.length∧fr σ 44=.int .i64 (j:Nat)) d.raw.length
     ⟨_,0,_,_,rfl,rfl,ah q0,ah q1,ah (by rw [← g2,List.length_append,hT'l]; rfl),hbs0,by simp only [go_sem,simprocAttr,he,c2],by simp only [go_sem,simprocAttr,hl],by simp only [go_sem,simprocAttr,hl,h3],by simp only [go_sem,simprocAttr,hl,hT'l],by simp only [go_sem,simprocAttr,hl,h7],by simp only [go_sem,simprocAttr,hl,h26],by simp only [go_sem,simprocAttr,hl],by simp only [go_sem,simprocAttr,hl],by simp only [go_sem,simprocAttr,hl]⟩ ?_
    clear hl h3 h6 h7 h26 he
    rintro r _ ⟨σ,j,T,e,hr,rfl,hT0,hT1,hTl,hbd,he,hl,h3,h6,h7,h26,h18,h43,h44⟩
    have h2l:=hbd.lt
    have hb0:(H++T)[H.length]?=some (.cells d.cells 34 .rw):=by rw [dg]; exact hT0
    by_cases hjn:j < d.raw.length
    ·obtain ⟨b,hb⟩:∃ b,d.raw[j]?=some b:=⟨_,List.getElem?_eq_getElem hjn⟩
     have hbl:=b.toNat_lt
     have hsn:=uU hb
     have hpl:=lJ (d.raw.take j)
     rw [List.length_take] at hpl
     obtain ⟨T3,e3,b3,k3,c3,r3⟩:=xu H T (q+2) _ (aC (b.toNat / 16)) hbd (by simp only [fits,decide_eq_true_eq]; omega)
     obtain ⟨T4,e4,b4,k4,c4,r4⟩:=xu H T3 (q+2) _ (aC (b.toNat % 16)) b3 (by simp only [fits,decide_eq_true_eq]; rw [List.length_append,List.length_singleton]; omega)
     have c3:=c3.cln
     have c4:=c4.cln
     have k30:=k3.2 0 _ (by omega) hT0 rfl
     have k31:=k3.2 1 _ (by omega) hT1 rfl
     have k3l:=k3.2 (q+1) _ (by omega) hTl (hfx _ _)
     have k40:=k4.2 0 _ (by omega) k30 rfl
     have k41:=k4.2 1 _ (by omega) k31 rfl
     have k4l:=k4.2 (q+1) _ (by omega) k3l (hfx _ _)
     have s1:(b.toNat:Int).fdiv (2 ^ min 4 8)=((b.toNat / 16:Nat):Int):=by
      have:(2:Int) ^ min 4 8=16:=by decide
      rw [this,Int.fdiv_eq_ediv_of_nonneg _ (by omega)]; omega
     have s2:eG .and .u8 (b.toNat:Int) 15=some (.int .u8 ((b.toNat % 16:Nat):Int)):=by
      have:(BitVec.ofInt 8 (b.toNat:Int) &&& BitVec.ofInt 8 15).toNat=b.toNat % 16:=by
       rw [BitVec.toNat_and,BitVec.ofInt_natCast]
       simp only [BitVec.toNat_ofNat]
       rw [Nat.mod_eq_of_lt (show b.toNat < 2 ^ 8 by omega)]
       exact Nat.and_two_pow_sub_one_eq_mod b.toNat 4
      show some (AV.int .u8 (IntKind.u8.wrap ((BitVec.ofInt 8 (b.toNat:Int) &&& BitVec.ofInt 8 15).toNat:Int)))=_
      rw [this,wrap_u8 (by omega)]
     have hx1:=E8 (n:=b.toNat / 16) (by omega)
     have hx2:=E8 (n:=b.toNat % 16) (by omega)
     have hy1:b.toNat / 16 < 16:=by omega
     have hy2:b.toNat % 16 < 16:=by omega
     have hw:=aS (show j < 9223372036854775807 by omega)
     simp only [go_sem,simprocAttr,hl,h3,h6,h7,h26,h18,h43,h44,hT0,k30,hb0,Dt.l0,hb,s1,s2,hx1,hx2,hy1,hy2,r3,r4,hw,hjn]
     exact ⟨r - 1,by omega,_,j+1,T4,_,by omega,rfl,k40,k41,k4l,by rw [hsn]; simpa [FI,List.append_assoc] using b4,by simp only [go_sem,simprocAttr,he,c3,c4],by simp only [go_sem,simprocAttr,hl],by simp only [go_sem,simprocAttr,hl,h3],by simp only [go_sem,simprocAttr,hl,h6],by simp only [go_sem,simprocAttr,hl,h7],by simp only [go_sem,simprocAttr,hl,h26],by simp only [go_sem,simprocAttr,hl,h18],by simp only [go_sem,simprocAttr,hl,h43],by simp only [go_sem,simprocAttr,hl]⟩
    ·have hjL:j=d.raw.length:=by omega
     subst hjL
     rw [List.take_length] at hbd
     have hpl:=lJ d.raw
     obtain ⟨T3,e3,k3,c3,r3⟩:=qv H T (q+2) _ hbd (by omega)
     have k30:=k3.2 0 _ (by omega) hT0 rfl
     have k31:=k3.2 1 _ (by omega) hT1 rfl
     have k3l:=k3.2 (q+1) _ (by omega) hTl (hfx _ _)
     have gb3:bZ H.length T3 (.slice (H.length+(q+1)) 0 (L1.length+2) (.op 0)) 9 1 (L1.length+2) (strs L1++[.str [92,35],.str (bF d.raw.length)]):=.inr ⟨by omega,by simp [strs],q+1,rfl,k3l⟩
     obtain ⟨T4,e4,happ2,hT4l,c4,k4,_,b4⟩:=(gb3.more [.cells [.str (mM d.raw)] 9 .rw]).qw (P:=Tryz.prog) (b:=16) (by decide) eU [.str (mM d.raw)] 1 (by decide) rfl rfl (by simp only [fits,decide_eq_true_eq]; omega)
     have hql:1 < q:=by have:=ai hT'1; omega
     have kk0:=k4 0 _ (ah k30) (fun m n h=>by injection h with z1 z2 z3 z4; omega)
     have kk1:=k4 1 _ (ah k31) (fun m n h=>by injection h with z1 z2 z3 z4; omega)
     generalize hvv:AV.slice (H.length+(q+1)) 0 (L1.length+2) (.op 0)=vv at h6 happ2
     simp only [go_sem,simprocAttr,hl,h3,h6,h7,h26,h18,h43,h44,hjn,r3,cO,happ2]
     exact fin _ K _ _ _ _ hel rfl kk0 kk1 (by simpa [strs,Nat.add_assoc] using b4) (by simp only [go_sem,simprocAttr,he,c3,c4]) (by simp only [go_sem,simprocAttr,hl]) (by simp only [go_sem,simprocAttr,hl,h3]) (by simp only [go_sem,simprocAttr,hl]) (by simp only [go_sem,simprocAttr,hl,h7]) (by simp only [go_sem,simprocAttr,hl,h26])
 ·-- done
  have hi:i=(aU t).length:=by omega
  have hit:aJ (aU t) i=(.tuple [.bool false],i):=by rw [aE (jJ t),Sx (by rw [hi]; simp)]
  have hst:T.set 1 (.iter (aU t) i)=T:=eT hT1
  rw [hi,List.take_length] at hv
  obtain ⟨sf1,sf2⟩:=pN hd hg (aU t) 0 (fun c h=>h)
  have hpos:=FW t d hg
  have hLl:=pO d hd (aU t) 0
  obtain ⟨_,_,h0⟩ | ⟨g1,g2,vm,rfl,g3⟩:=hv
  ·omega
  have hsv:Sv (H++T) (.slice (H.length+vm) 0 (cF d (aU t) 0).length (.op 0)) (cF d (aU t) 0):=⟨_,_,_,_,rfl,by rw [bX]; exact g3,.inr ⟨rfl,rfl,_,_,rfl⟩,hpos⟩
  have hjo:=fun k=>BA [32] (cF d (aU t) 0) _ _ k hsv (by decide) (by decide) (by omega) sf1 (by omega)
  simp only [go_sem,simprocAttr,hl,h3,h6,h7,h26,hb1,hT1,hd1,hit,hst,hjo]
  exact aW rfl (bn he (by simp [clean,low]))

theorem yW (t:Int) (d:Dt) (H) (hk:Tk H) (hd:d.wf) (hg:er t d=false):ag Tryz.prog 28 [.int .u16 t,.agg d.cells] H (fun q=>q=(.tuple [.str [],.int .i64 40],H,z0)):=by
 refine aa (n:=169) (rs:=[.tmp 4,.tmp 5]) Tryz.func28 rfl rfl rfl ?_
 intro σ hl ha
 have h0:=ha 0 (by simp)
 have h1:=ha 1 (by simp)
 clear ha
 simp only [Option.getD_some,List.getElem?_cons_zero,List.getElem?_cons_succ] at h0 h1
 have hck:=fun k=>qD t d (H++[.cells d.cells 34 .rw]) k (hk.old _) hd
 have hc0:chk t d=40:=if_neg (by rw [hg]; simp)
 rw [hc0] at hck
 simp only [go_sem,simprocAttr,hl,h0,h1,hck,Dt.l8,Dt.vc,Dt.len]
def lA (t:Int) (d:Dt):List UInt8:=if er t d=true then dm t d else []
theorem yV (t:Int) (d:Dt) (H k) (hk:Tk H) (ht:Tb H) (hdb:Db H) (hd:d.wf):ag Tryz.prog 28 [.int .u16 t,.agg d.cells] H k=k (.tuple [.str (lA t d),.int .i64 (chk t d)],H,z0):=by
 cases hg:er t d with
 | true =>
  rw [show lA t d=dm t d from if_pos hg,show chk t d=0 from if_pos hg]
  exact ak (BL t d H hk ht hdb hd hg) k
 | false =>
  rw [show lA t d=[] from if_neg (by rw [hg]; simp),show chk t d=40 from if_neg (by rw [hg]; simp)]
  exact ak (yW t d H hk hd hg) k
end Go.Proofs.YtdppgaphcmhffaaGreatDoor.V
namespace Go.Proofs.YtdppgaphcmhffaaGreatDoor.V
open Go

def scan (p:UInt8):List UInt8→Nat
 | []=>0
 | [c]=>if c=p then 0 else if c=92 then 2 else 1
 | c::d::r=>if c=p then 0 else if c=92 then 2+scan p r else 1+scan p (d::r)
theorem ON {c:UInt8} {n:Nat} (hn:n < 256) (h:c.toNat≠n):c≠UInt8.ofNat n:=by
 rintro rfl
 rw [UInt8.toNat_ofNat'] at h
 omega
theorem KG (n:Nat):∀ c ∈ bF n,48≤c.toNat∧c.toNat≤57:=by
 induction n using Nat.strongRecOn with
 | ind n ih =>
  intro c hc
  have hd:∀ k,k < 10→48≤(aC k).toNat∧(aC k).toNat≤57:=by
   intro k hk
   unfold aC; rw [if_pos hk,UInt8.toNat_ofNat']; omega
  unfold bF at hc
  split at hc
  ·rename_i h
   simp only [List.mem_singleton] at hc; subst hc; exact hd n h
  ·rename_i h
   rcases List.mem_append.1 hc with hc | hc
   ·exact ih (n / 10) (by omega) c hc
   ·simp only [List.mem_singleton] at hc; subst hc; exact hd _ (by omega)
end Go.Proofs.YtdppgaphcmhffaaGreatDoor.V
