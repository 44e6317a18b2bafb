/- Joined by mkclaim.py: WUn WParse WBytes WOf WPars WType WNumP WNumQ WNumR WSplit WPut WPutA WPutB WPutC WPutE WPutD WPutF WRefA WRefB WRefC WRefD WRefE WRefF WWake WLawP WTakeA WTakeB VDef WTakeC WTakeP WWordA WTok WTokP WTokA WTokB WTokD. No conditions. -/
import Derived.Test.YtdppgaphcmhffaaGreatDoorJ2
import Derived.Test.YtdppgaphcmhffaaGreatDoorJ3
import Derived.Lib.IndexLaws
import Derived.Lib.IndexBytes
set_option linter.unusedSimpArgs false
set_option linter.unusedVariables false
set_option maxRecDepth 100000
namespace Go.Proofs.YtdppgaphcmhffaaGreatDoor.V
open Go

def dig (c:UInt8):Bool:=decide (48≤c.toNat∧c.toNat≤57)
def unC (c:UInt8) (r:List UInt8):Option (UInt8 × List UInt8) :=
 if c.toNat≠92 then some (c,r) else
 match r with
 | []=>none
 | d::r1=>if dig d=false then some (d,r1) else
  match r1 with
  | e::f::r2=>if (dig e && dig f)=false then none else
   if (d.toNat - 48)*100+(e.toNat - 48)*10+(f.toNat - 48) > 255 then none else some (UInt8.ofNat ((d.toNat - 48)*100+(e.toNat - 48)*10+(f.toNat - 48)),r2)
  | _=>none
theorem Bm {c b:UInt8} {r r':List UInt8} (h:unC c r=some (b,r')):r'.length≤r.length:=by
 unfold unC at h
 split at h
 ·cases h; exact Nat.le_refl _
 ·split at h
  ·cases h
  ·split at h
   ·cases h; simp
   ·split at h
    ·split at h
     ·cases h
     ·split at h
      ·cases h
      ·cases h; simp; omega
    ·cases h
def unF:Nat→List UInt8→Option (List UInt8)
 | _,[]=>some []
 | 0,_::_=>none
 | n+1,c::r=>(unC c r).bind fun x=>(unF n x.2).map (x.1::·)
theorem xz:∀ (n m:Nat) (s:List UInt8),s.length≤n→s.length≤m→unF n s=unF m s
 | _,_,[],_,_=>by unfold unF; rfl
 | 0,_,c::r,h,_=>by simp at h
 | _,0,c::r,_,h=>by simp at h
 | n+1,m+1,c::r,h,k=>by
  simp only [unF]
  cases hx:unC c r with
  | none=>rfl
  | some x =>
   obtain ⟨b,r'⟩:=x
   have:=Bm hx
   simp only [List.length_cons] at h k
   simp only [Option.bind_some]
   rw [xz n m r' (by omega) (by omega)]
def unB (s:List UInt8):Option (List UInt8):=unF s.length s
theorem Ei:unB []=some []:=rfl
theorem xA (c:UInt8) (r:List UInt8):unB (c::r)=(unC c r).bind fun x=>(unB x.2).map (x.1::·):=by
 unfold unB
 rw [List.length_cons]
 simp only [unF]
 cases hx:unC c r with
 | none=>rfl
 | some x =>
  obtain ⟨b,r'⟩:=x
  have:=Bm hx
  simp only [Option.bind_some]
  rw [xz r.length r'.length r' (by omega) (Nat.le_refl _)]
def lF (L:List (List UInt8)):List UInt8:=L.flatMap fun l=>UInt8.ofNat l.length::l
def nameOf (L:List (List UInt8)):List UInt8:=lF L++[0]
theorem pX (L:List (List UInt8)):(lF L).length=tot L:=by
 induction L with
 | nil=>rfl
 | cons l L ih =>
  have e1:lF (l::L)=(UInt8.ofNat l.length::l)++lF L:=rfl
  have e2:tot (l::L)=(1+l.length)+tot L:=by simp [tot]
  rw [e1,e2,List.length_append,ih,List.length_cons]; omega
theorem BT {L:List (List UInt8)} {i:Nat} {l:List UInt8} (h:L[i]?=some l):lF (L.take (i+1))=lF (L.take i)++(UInt8.ofNat l.length::l):=by
 rw [cu h]; simp [lF]
def mN (l:List UInt8):Bool:=l.length == 0 || decide (63 < l.length)
def ofS (L:List (List UInt8)):List UInt8 × Nat:=if L.any mN=true then ([],10) else if 255 < tot L+1 then ([],2) else (nameOf L,0)
def fh (x:List UInt8):List UInt8 × Nat:=match unB x with
 | none=>([],12)
 | some l=>(l,if mN l=true then 10 else 0)
def mS : Nat → Bool → List UInt8 → Except Nat (List (List UInt8) × Bool)
  | 0, _, _ => .error 12
  | n + 1, fst, s =>
    if scan 46 s < s.length then
      (if (fh (s.take (scan 46 s))).2 = 0 then (mS n false (s.drop (scan 46 s + 1))).map fun r => ((fh (s.take (scan 46 s))).1 :: r.1, r.2)
       else .error (fh (s.take (scan 46 s))).2)
    else if 0 < s.length ∨ fst = true then (if (fh s).2 = 0 then .ok ([(fh s).1], true) else .error (fh s).2)
    else .ok ([], false)
theorem sk:∀ (n m:Nat) (b:Bool) (s:List UInt8),s.length < n→s.length < m→mS n b s=mS m b s
 | 0,_,b,s,h,_=>by omega
 | _+1,0,b,s,_,h=>by omega
 | n+1,m+1,b,s,h,k=>by
  simp only [mS]
  by_cases hs:scan 46 s < s.length
  ·rw [if_pos hs,if_pos hs,sk n m false (s.drop (scan 46 s+1)) (by rw [List.length_drop]; omega) (by rw [List.length_drop]; omega)]
  ·rw [if_neg hs,if_neg hs]
def qF (b:Bool) (s:List UInt8):Except Nat (List (List UInt8) × Bool):=mS (s.length+1) b s
theorem ze (b : Bool) (s : List UInt8) : qF b s = if scan 46 s < s.length then
      (if (fh (s.take (scan 46 s))).2 = 0 then (qF false (s.drop (scan 46 s + 1))).map fun r => ((fh (s.take (scan 46 s))).1 :: r.1, r.2)
       else .error (fh (s.take (scan 46 s))).2)
    else if 0 < s.length ∨ b = true then (if (fh s).2 = 0 then .ok ([(fh s).1], true) else .error (fh s).2)
    else .ok ([], false) := by
  unfold qF
  conv => lhs; unfold mS
  by_cases hs : scan 46 s < s.length
  · rw [if_pos hs, if_pos hs, sk s.length ((s.drop (scan 46 s + 1)).length + 1) false _ (by rw [List.length_drop]; omega) (by omega)]
  · rw [if_neg hs, if_neg hs]
def dI (s o:List UInt8):List UInt8 × Nat :=
 match nm o with
 | none=>([],11)
 | some K=>if s=[46] then ([0],0) else match qF true s with
  | .error e=>([],e)
  | .ok (L,b)=>ofS (if b=true then L++K else L)
end Go.Proofs.YtdppgaphcmhffaaGreatDoor.V
namespace Go.Proofs.YtdppgaphcmhffaaGreatDoor.V
open Go
attribute [local irreducible] go bt goD opK ag bx aF aH bC

theorem rB (a:Int) (H:Hp):aO Tryz.prog 71 1 [(0,.int .u8 a)] H=some (.slice H.length 0 1 (.ex 1),H++[.cells [.int .u8 a] 5 .rw]):=by
 simp only [aO,dh,jq,Option.bind_some]
 rfl
def jF (out:List UInt8) (n:Nat):List AV:=u8s (out++List.replicate (n - out.length) 0)
theorem IU {out:List UInt8} {n:Nat} (h:out.length≤n):(jF out n).length=n:=by simp [jF,u8s]; omega
theorem IQ {out:List UInt8} {n:Nat} {c:UInt8} (h:out.length < n):splice (jF out n) out.length [.int .u8 c.toNat]=jF (out++[c]) n:=by
 unfold splice jF
 have e:n - out.length=(n - (out++[c]).length)+1:=by simp; omega
 rw [e,List.replicate_succ,j8]
 have h1:(u8s out).length=out.length:=bz
 rw [List.take_left' h1,List.length_singleton,← List.drop_drop,List.drop_left' h1]
 simp [u8s]
theorem PJ (n:Nat) (m:Nat) (H:Hp) (hm:m≤n) (hn:n≤1048576):jh Tryz.prog 71 (.int .i64 (m:Nat)) (.int .i64 (n:Nat)) H=some (.slice H.length 0 m (.ex n),H++[.cells (jF [] n) 5 .rw]):=by
 have hr:∀ n,rep [.int .u8 0] n=List.replicate n (AV.int .u8 0):=by
  intro n; induction n with
  | zero=>rfl
  | succ n ih=>rw [rep,ih]; rfl
 simp only [jh,dh,jq,Option.bind_some]
 rw [if_pos (by omega)]
 simp [hr,jF,u8s]
theorem MB {H:Hp} {bl:Nat} {out:List UInt8} {N:Nat} {c:UInt8} (hb:H[bl]?=some (.cells (jF out N) 5 .rw)) (h:out.length < N) (kk:AV × Hp × Ef→Prop) :
  aF (c9 Tryz.prog (.slice 5 1 1) (.slice bl 0 out.length (.ex N)) ([.int .u8 c.toNat],1) H) kk=kk (.slice bl 0 (out.length+1) (.ex N),H.set bl (.cells (jF (out++[c]) N) 5 .rw),⟨none,some bl⟩):=by
 rw [lY (by decide) jC]
 have g:decide (out.length+1≤N)=true:=by simp; omega
 have hl:=IU (out:=out) (n:=N) (by omega)
 have hp:=IQ (c:=c) h
 simp only [go_sem,simprocAttr,g,hb,hl,Nat.mul_one]
 rw [hp]
 exact propext ⟨fun h=>h.2,fun h=>⟨by omega,h⟩⟩
def jz (s:List UInt8) (i:Nat):Bool:=match s[i]? with
 | some c=>dig c
 | none=>false
theorem kG {s:List UInt8} {i:Nat} {c:UInt8} (h:s[i]?=some c):jz s i=dig c:=by unfold jz; rw [h]
theorem BR (s:List UInt8) (i b:Nat) (H k) (hb:H[b]?=some (.cells [.str s] 9 .rw)):ag Tryz.prog 129 [.int .i64 (i:Nat),.ptr b 0] H k=k (.bool (jz s i),H,z0):=by
 refine ak (r:=(.bool (jz s i),H,z0)) ?_ k
 refine aa (n:=20) (rs:=[.tmp 3]) Tryz.func129 rfl rfl rfl ?_
 intro σ hl ha
 have h0:=ha 0 (by simp)
 have h1:=ha 1 (by simp)
 clear ha
 simp only [Option.getD_some,List.getElem?_cons_zero,List.getElem?_cons_succ] at h0 h1
 by_cases hlt:i < s.length
 ·obtain ⟨c,hc⟩:∃ c,s[i]?=some c:=⟨_,List.getElem?_eq_getElem hlt⟩
  rw [kG hc]
  by_cases h48:48≤c.toNat
  ·have g1:decide (48≤(c.toNat:Int))=true:=by simp; omega
   by_cases h57:c.toNat≤57
   ·have g2:decide ((c.toNat:Int)≤57)=true:=by simp; omega
    have hd:dig c=true:=by unfold dig; simp; omega
    simp only [go_sem,simprocAttr,hl,h0,h1,hb,hlt,hc,g1,g2,hd]
   ·have g2:decide ((c.toNat:Int)≤57)=false:=by simp; omega
    have hd:dig c=false:=by unfold dig; simp; omega
    simp only [go_sem,simprocAttr,hl,h0,h1,hb,hlt,hc,g1,g2,hd]
  ·have g1:decide (48≤(c.toNat:Int))=false:=by simp; omega
   have hd:dig c=false:=by unfold dig; simp; omega
   simp only [go_sem,simprocAttr,hl,h0,h1,hb,hlt,hc,g1,hd]
 ·have hd:jz s i=false:=by unfold jz; rw [List.getElem?_eq_none (by omega)]
  simp only [go_sem,simprocAttr,hl,h0,h1,hb,hlt,hd]
set_option maxHeartbeats 4000000 in
theorem BS (s:List UInt8) (H k) (hs:s.length≤1048576):ag Tryz.prog 106 [.str s] H k=k (.tuple [.str ((unB s).getD []),.int .i64 (if (unB s).isSome=true then 0 else 12)],H,z0):=by
 refine ak (r:=(.tuple [.str ((unB s).getD []),.int .i64 (if (unB s).isSome=true then 0 else 12)],H,z0)) ?_ k
 refine aa (n:=95) (rs:=[.tmp 2,.tmp 3]) Tryz.func106 rfl rfl rfl ?_
 intro σ hl ha
 have h0:=ha 0 (by simp)
 clear ha
 simp only [Option.getD_some,List.getElem?_cons_zero,List.getElem?_cons_succ] at h0
 have hmk:=fun H'=>PJ s.length 0 H' (by omega) hs
 have hmk:∀ H',jh Tryz.prog 71 (.int .i64 0) (.int .i64 (s.length:Nat)) H'=_:=hmk
 simp only [go_sem,simprocAttr,hl,h0,hmk]
 refine go_rounds (fun n st=>∃ σ i out T e,n+i=s.length∧unB s=(unB (s.drop i)).map (out++·)∧out.length≤i∧st=⟨σ,H++(.cells [.str s] 9 .rw::.cells (jF out s.length) 5 .rw::T),e⟩∧clean H.length e∧σ.length=95∧fr σ 1=.ptr H.length 0∧fr σ 4=.slice (H.length+1) 0 out.length (.ex s.length)∧fr σ 5=.func (.func 129) [] [.ptr H.length 0]∧fr σ 6=.int .i64 (i:Nat)) s.length
  ⟨_,0,[],[],_,rfl,by simp,Nat.le_refl _,rfl,⟨rfl,rfl⟩,by simp only [go_sem,simprocAttr,hl],by simp only [go_sem,simprocAttr,hl],by simp only [go_sem,simprocAttr,hl],by simp only [go_sem,simprocAttr,hl],by simp only [go_sem,simprocAttr,hl]⟩ ?_
 rintro n _ ⟨σ,i,out,T,e,hn,hm,ho,rfl,he,hl,h1,h4,h5,h6⟩
 by_cases hlt:i < s.length
 ·obtain ⟨c,hc⟩:∃ c,s[i]?=some c:=⟨_,List.getElem?_eq_getElem hlt⟩
  have hcl:=c.toNat_lt
  rw [fK hc,xA] at hm
  have hw:=aS (show i < 9223372036854775807 by omega)
  have happ:=fun (X:bp) (c:UInt8) kk=>MB (H:=H++(.cells [.str s] 9 .rw::.cells (jF out s.length) 5 .rw::(T++[X]))) (bl:=H.length+1) (out:=out) (N:=s.length) (c:=c) (by rw [bX]; rfl) (by omega) kk
  have hfin:∀ (σ':List AV) (i':Nat) (c:UInt8) (T':Hp) (e':Ef),i < i'→i'≤s.length→unB s=(unB (s.drop i')).map ((out++[c])++·)→clean H.length e'→σ'.length=95→fr σ' 1=.ptr H.length 0→fr σ' 4=.slice (H.length+1) 0 (out.length+1) (.ex s.length)→fr σ' 5=.func (.func 129) [] [.ptr H.length 0]→fr σ' 6=.int .i64 (i':Nat) →
    ∃ m,m < n∧∃ σ i o2 T e,m+i=s.length∧unB s=(unB (s.drop i)).map (o2++·)∧o2.length≤i∧(⟨σ',H++(.cells [.str s] 9 .rw::.cells (jF (out++[c]) s.length) 5 .rw::T'),e'⟩:St)=⟨σ,H++(.cells [.str s] 9 .rw::.cells (jF o2 s.length) 5 .rw::T),e⟩∧clean H.length e∧σ.length=95∧fr σ 1=.ptr H.length 0∧fr σ 4=.slice (H.length+1) 0 o2.length (.ex s.length)∧fr σ 5=.func (.func 129) [] [.ptr H.length 0]∧fr σ 6=.int .i64 (i:Nat):=by
   intro σ' i' c T' e' q1 q2 q3 q4 q5 q6 q7 q8 q9
   exact ⟨n - (i' - i),by omega,σ',i',out++[c],T',e',by omega,q3,by simp; omega,rfl,q4,q5,q6,by rw [q7]; simp,q8,q9⟩
  have hdg:=fun i' k=>BR s i' H.length (H++(.cells [.str s] 9 .rw::.cells (jF out s.length) 5 .rw::T)) k (by rw [dg]; rfl)
  have hs2:∀ (X:bp) (c:UInt8),((H++(.cells [.str s] 9 .rw::.cells (jF out s.length) 5 .rw::(T++[X]))).set (H.length+1) (.cells (jF (out++[c]) s.length) 5 .rw))=H++(.cells [.str s] 9 .rw::.cells (jF (out++[c]) s.length) 5 .rw::(T++[X])):=fun X c=>by rw [gz]; rfl
  by_cases h92:c.toNat=92
  ·have g92:((c.toNat:Int) != 92)=false:=by simp; omega
   have hc92:¬ c.toNat≠92:=by omega
   by_cases hend:i+1=s.length
   ·have hd0:s.drop (i+1)=[]:=List.drop_of_length_le (by omega)
    rw [hd0] at hm
    have hu:unB s=none:=by rw [hm]; unfold unC; rw [if_neg hc92]; rfl
    rw [hu]
    have ge:(((i+1:Nat):Int) == (s.length:Int))=true:=by rw [hend]; exact beq_self_eq_true _
    simp only [go_sem,simprocAttr,hl,h1,h4,h5,h6,hlt,hc,g92,hw,ge,Option.getD_none,Option.isSome_none,he]
   ·have ge:(((i+1:Nat):Int) == (s.length:Int))=false:=by rw [beq_eq_false_iff_ne]; omega
    have hlt1:i+1 < s.length:=by omega
    obtain ⟨d,hd⟩:∃ d,s[i+1]?=some d:=⟨_,List.getElem?_eq_getElem hlt1⟩
    have hdl:=d.toNat_lt
    have hw2:IntKind.i64.wrap ((i:Int)+2)=((i+2:Nat):Int):=by rw [wrap_i64 (by omega)]; omega
    have hw3:IntKind.i64.wrap ((i:Int)+3)=((i+3:Nat):Int):=by rw [wrap_i64 (by omega)]; omega
    have hwb:IntKind.i64.wrap (((i+1:Nat):Int)+1)=((i+2:Nat):Int):=by rw [wrap_i64 (by omega)]; omega
    have hwc:IntKind.i64.wrap (((i+3:Nat):Int)+1)=((i+4:Nat):Int):=by rw [wrap_i64 (by omega)]; omega
    rw [fK hd] at hm
    cases hdd:dig d with
    | false =>
     have e1:jz s (i+1)=false:=by rw [kG hd,hdd]
     have hu:unB s=(unB (s.drop (i+2))).map ((out++[d])++·):=by
      rw [hm]; unfold unC; rw [if_neg hc92]
      simp only [hdd,if_true,Option.bind_some,Option.map_map]
      congr 1; funext x; simp
     have hbs:=rB d.toNat
     simp only [go_sem,simprocAttr,hl,h1,h4,h5,h6,hlt,hlt1,hc,hd,g92,hw,ge,hdg,e1,hbs,↓happ,hs2,hwb]
     exact hfin _ (i+2) d _ _ (by omega) (by omega) hu (by simp only [go_sem,simprocAttr,he]) (by simp only [go_sem,simprocAttr,hl]) (by simp only [go_sem,simprocAttr,hl,h1]) (by simp only [go_sem,simprocAttr,hl]) (by simp only [go_sem,simprocAttr,hl,h5]) (by simp only [go_sem,simprocAttr,hl])
    | true =>
     have e1:jz s (i+1)=true:=by rw [kG hd,hdd]
     have bad:(jz s (i+2) && jz s (i+3))=false→unB s=none:=by
      intro hb
      rw [hm]; unfold unC; rw [if_neg hc92]
      simp only [hdd,Bool.true_eq_false,if_false]
      cases h2:s.drop (i+1+1) with
      | nil=>rfl
      | cons e r =>
       cases r with
       | nil=>rfl
       | cons f r =>
        have k2:s[i+2]?=some e:=by have:=congrArg (·[0]?) h2; simpa using this
        have k3:s[i+3]?=some f:=by have:=congrArg (·[1]?) h2; simpa using this
        rw [kG k2,kG k3] at hb
        simp only [hb,if_true]; rfl
     cases e2:jz s (i+2) with
     | false =>
      have hu:=bad (by rw [e2]; rfl)
      rw [hu]
      simp only [go_sem,simprocAttr,hl,h1,h4,h5,h6,hlt,hlt1,hc,hd,g92,hw,hw2,ge,hdg,e1,e2,Option.getD_none,Option.isSome_none,he]
     | true =>
      cases e3:jz s (i+3) with
      | false =>
       have hu:=bad (by rw [e2,e3]; rfl)
       rw [hu]
       simp only [go_sem,simprocAttr,hl,h1,h4,h5,h6,hlt,hlt1,hc,hd,g92,hw,hw2,hw3,ge,hdg,e1,e2,e3,Option.getD_none,Option.isSome_none,he]
      | true =>
       have hlt2:i+2 < s.length:=by
        by_cases h:i+2 < s.length
        ·exact h
        ·unfold jz at e2; rw [List.getElem?_eq_none (by omega)] at e2; cases e2
       have hlt3:i+3 < s.length:=by
        by_cases h:i+3 < s.length
        ·exact h
        ·unfold jz at e3; rw [List.getElem?_eq_none (by omega)] at e3; cases e3
       obtain ⟨x,hx⟩:∃ d,s[i+2]?=some d:=⟨_,List.getElem?_eq_getElem hlt2⟩
       obtain ⟨y,hy⟩:∃ d,s[i+3]?=some d:=⟨_,List.getElem?_eq_getElem hlt3⟩
       have dx:dig x=true:=by rw [kG hx] at e2; exact e2
       have dy:dig y=true:=by rw [kG hy] at e3; exact e3
       have rng:∀ c,dig c=true→48≤c.toNat∧c.toNat≤57:=fun c h=>by simpa [dig] using h
       have rd:=rng d hdd
       have rx:=rng x dx
       have ry:=rng y dy
       obtain ⟨D,hD⟩:∃ D,D=d.toNat - 48:=⟨_,rfl⟩
       obtain ⟨X,hX⟩:∃ D,D=x.toNat - 48:=⟨_,rfl⟩
       obtain ⟨Y,hY⟩:∃ D,D=y.toNat - 48:=⟨_,rfl⟩
       have a1:IntKind.u8.wrap ((d.toNat:Int) - 48)=(D:Int):=by rw [wrap_u8 (by omega)]; omega
       have a2:IntKind.u8.wrap ((x.toNat:Int) - 48)=(X:Int):=by rw [wrap_u8 (by omega)]; omega
       have a3:IntKind.u8.wrap ((y.toNat:Int) - 48)=(Y:Int):=by rw [wrap_u8 (by omega)]; omega
       have b1:IntKind.i64.wrap (D:Int)=(D:Int):=wrap_i64 (by omega)
       have b2:IntKind.i64.wrap (X:Int)=(X:Int):=wrap_i64 (by omega)
       have b3:IntKind.i64.wrap (Y:Int)=(Y:Int):=wrap_i64 (by omega)
       have c1:IntKind.i64.wrap ((D:Int)*100)=((D*100:Nat):Int):=by rw [wrap_i64 (by omega)]; omega
       have c2:IntKind.i64.wrap ((X:Int)*10)=((X*10:Nat):Int):=by rw [wrap_i64 (by omega)]; omega
       have c3:IntKind.i64.wrap (((D*100:Nat):Int)+((X*10:Nat):Int))=((D*100+X*10:Nat):Int):=by rw [wrap_i64 (by omega)]; omega
       have c4:IntKind.i64.wrap (((D*100+X*10:Nat):Int)+(Y:Int))=((D*100+X*10+Y:Nat):Int):=by rw [wrap_i64 (by omega)]; omega
       obtain ⟨N,hN⟩:∃ N,N=D*100+X*10+Y:=⟨_,rfl⟩
       rw [← hN] at c4
       have hun:unC c (d::s.drop (i+1+1))=if N > 255 then none else some (UInt8.ofNat N,s.drop (i+4)):=by
        have k2:s.drop (i+1+1)=x::y::s.drop (i+4):=by rw [fK hx,fK hy]
        unfold unC
        rw [if_neg hc92]
        simp only [hdd,Bool.true_eq_false,if_false,k2,dx,dy,Bool.and_self]
        rw [← hD,← hX,← hY,← hN]
       rw [hun] at hm
       by_cases hbig:N > 255
       ·have gN:decide ((N:Int) > 255)=true:=by simp; omega
        rw [if_pos hbig] at hm
        have hu:unB s=none:=hm
        rw [hu]
        simp only [go_sem,simprocAttr,hl,h1,h4,h5,h6,hlt,hlt1,hc,hd,g92,hw,hw2,hw3,ge,hdg,e1,e2,e3]
        refine ay au (by kernel_rfl) ?_
        simp only [go_sem,simprocAttr,hl,h1,h4,h5,h6,hlt1,hlt2,hlt3,hd,hx,hy,hw,hw2,hw3,a1,a2,a3,b1,b2,b3,c1,c2,c3,c4,gN,Option.getD_none,Option.isSome_none,he]
       ·have gN:decide ((N:Int) > 255)=false:=by simp; omega
        rw [if_neg hbig] at hm
        have hu:unB s=(unB (s.drop (i+4))).map ((out++[UInt8.ofNat N])++·):=by
         rw [hm]
         simp only [Option.bind_some,Option.map_map]
         congr 1; funext x; simp
        have wN:IntKind.u8.wrap (N:Int)=((UInt8.ofNat N).toNat:Int):=by rw [UInt8.toNat_ofNat',wrap_u8 (by omega)]; omega
        have hbs:=rB (UInt8.ofNat N).toNat
        simp only [go_sem,simprocAttr,hl,h1,h4,h5,h6,hlt,hlt1,hc,hd,g92,hw,hw2,hw3,ge,hdg,e1,e2,e3]
        refine ay au (by kernel_rfl) ?_
        simp only [go_sem,simprocAttr,hl,h1,h4,h5,h6,hlt1,hlt2,hlt3,hd,hx,hy,hw,hw2,hw3,a1,a2,a3,b1,b2,b3,c1,c2,c3,c4,gN,wN,hbs,↓happ,hs2,hwc]
        exact hfin _ (i+4) (UInt8.ofNat N) _ _ (by omega) (by omega) hu (by simp only [go_sem,simprocAttr,he]) (by simp only [go_sem,simprocAttr,hl]) (by simp only [go_sem,simprocAttr,hl,h1]) (by simp only [go_sem,simprocAttr,hl]) (by simp only [go_sem,simprocAttr,hl,h5]) (by simp only [go_sem,simprocAttr,hl])
  ·have g92:((c.toNat:Int) != 92)=true:=by simp; omega
   have hu:unB s=(unB (s.drop (i+1))).map ((out++[c])++·):=by
    rw [hm]; unfold unC; rw [if_pos h92]
    simp only [Option.bind_some,Option.map_map]
    congr 1; funext x; simp
   have hbs:=rB c.toNat
   simp only [go_sem,simprocAttr,hl,h1,h4,h5,h6,hlt,hc,g92,hbs,↓happ,hs2,hw]
   exact hfin _ (i+1) c _ _ (by omega) (by omega) hu (by simp only [go_sem,simprocAttr,he]) (by simp only [go_sem,simprocAttr,hl]) (by simp only [go_sem,simprocAttr,hl,h1]) (by simp only [go_sem,simprocAttr,hl]) (by simp only [go_sem,simprocAttr,hl,h5]) (by simp only [go_sem,simprocAttr,hl])
 ·have hi:i=s.length:=by omega
  subst hi
  rw [List.drop_length,Ei] at hm
  have hu:unB s=some out:=by rw [hm]; simp
  rw [hu]
  have hcv:aZ Tryz.prog 71 9 (.slice (H.length+1) 0 out.length (.ex s.length)) (H++(.cells [.str s] 9 .rw::.cells (jF out s.length) 5 .rw::T))=some (.str out,H++(.cells [.str s] 9 .rw::.cells (jF out s.length) 5 .rw::T)):=by
   have hv:Rd (H++(.cells [.str s] 9 .rw::.cells (jF out s.length) 5 .rw::T)) (.slice (H.length+1) 0 out.length (.ex s.length)) out:=by
    refine .inr ⟨H.length+1,0,_,[],u8s (List.replicate (s.length - out.length) 0),5,.rw,rfl,rfl,?_,.inl ⟨_,rfl,ho⟩⟩
    rw [bX]
    simp [jF,j8]
   exact hv.v.str
  simp only [go_sem,simprocAttr,hl,h1,h4,h5,h6,hlt,hcv,Option.getD_some,Option.isSome_some,he]
def Lv (H:Hp) (v:AV) (L:List (List UInt8)):Prop:=(v=.aI∧L=[])∨∃ b c e k,v=.slice b 0 L.length c∧H[b]?=some (.cells (strs L) e k)
theorem Lv.old {H:Hp} {v:AV} {L:List (List UInt8)} (h:Lv H v L) (l:Hp):Lv (H++l) v L:=by
 obtain h | ⟨b,c,e,k,h1,h2⟩:=h
 ·exact .inl h
 ·exact .inr ⟨b,c,e,k,h1,ah h2⟩
theorem Lv.len {H:Hp} {v:AV} {L:List (List UInt8)} (h:Lv H v L) (H':Hp):bY Tryz.prog 85 v H'=some (.int .i64 L.length):=by
 obtain ⟨rfl,rfl⟩ | ⟨b,c,e,k,rfl,_⟩:=h
 ·simp only [bY,jc]; rfl
 ·simp only [bY,jc]
theorem bZ.lv {H T:Hp} {v:AV} {L:List (List UInt8)} (h:bZ H.length T v 9 1 L.length (strs L)):Lv (H++T) v L:=by
 obtain ⟨rfl,h2,h3⟩ | ⟨h1,h2,m,rfl,h3⟩:=h
 ·exact .inl ⟨rfl,List.length_eq_zero_iff.1 h3⟩
 ·exact .inr ⟨_,_,_,_,rfl,by rw [bX]; exact h3⟩
theorem Gz {v:Int} {kd:IntKind} {H T:Hp}:leave (List.length H+List.length T) (.int kd v) (H++T) z0=(.int kd v,H++T,z0):=by
 rw [← List.length_append]
 exact dJ rfl ⟨rfl,rfl⟩
theorem Tu (H T:Hp) (j:Nat) (bs:List UInt8) (hb:Bld H.length T j bs) (k):ag Tryz.prog 32 [.ptr (H.length+j) 0] (H++T) k=k (.int .i64 bs.length,H++T,z0):=by
 obtain ⟨p,v,hj,hp,hv⟩:=hb
 have hlen:=hv.len
 refine ak (r:=(.int .i64 bs.length,H++T,z0)) ?_ k
 refine aa (n:=8) (rs:=[.tmp 2]) Tryz.func32 rfl rfl rfl ?_
 intro σ hl ha
 have h0:=ha 0 (by simp)
 clear ha
 simp only [Option.getD_some,List.getElem?_cons_zero,List.getElem?_cons_succ] at h0
 simp only [go_sem,simprocAttr,hl,h0,hj,hlen,Gz]
theorem O8 (H T:Hp) (j:Nat) (bs:List UInt8) (hb:Bld H.length T j bs) (c:UInt8) (n:Int) (hn:n=c.toNat) (hf:bs.length≤1000000) :
  ∃ T' e,Bld H.length T' j (bs++[c])∧lp T j T'∧clean H.length e∧∀ k,ag Tryz.prog 53 [.ptr (H.length+j) 0,.int .u8 n] (H++T) k=k (.de,H++T',e):=by
 obtain ⟨T',e,h1,h2,h3,h4⟩:=dA H T j bs c n hn hb (by simp only [fits,decide_eq_true_eq]; omega)
 exact ⟨T',e,h1,h2,h3.cln,h4⟩
theorem Tn (H T:Hp) (j:Nat) (bs:List UInt8) (hb:Bld H.length T j bs) (s:List UInt8) (hs:0 < s.length) (hf:bs.length+s.length≤1000000000) :
  ∃ T' e,Bld H.length T' j (bs++s)∧lp T j T'∧clean H.length e∧∀ k,ag Tryz.prog 26 [.ptr (H.length+j) 0,.str s] (H++T) k=k (.tuple [.int .i64 s.length,.de],H++T',e):=by
 obtain ⟨T',e,h1,h2,h3,h4⟩:=qu H T j bs s hb hs (by simp only [fits,decide_eq_true_eq]; omega)
 exact ⟨T',e,h1,h2,h3.cln,h4⟩
theorem LD {L:List (List UInt8)} {i:Nat} {l:List UInt8} (h:L[i]?=some l) (ha:(L.take i).any mN=false) (hl:mN l=false):(L.take (i+1)).any mN=false:=by
 rw [cu h,List.any_append,ha]; simp [hl]
theorem FJ {L:List (List UInt8)} {i:Nat} {l:List UInt8} (h:L[i]?=some l):tot (L.take (i+1))=tot (L.take i)+(1+l.length):=by
 rw [cu h,xL]
set_option maxHeartbeats 2000000 in
theorem ER (L:List (List UInt8)) (v:AV) (H k) (hv:Lv H v L) (hL:L.length≤2000000) (hx:∀ l ∈ L,l.length≤1048576):ag Tryz.prog 107 [v] H k=k (.tuple [.str (ofS L).1,.int .i64 ((ofS L).2:Nat)],H,z0):=by
 refine ak (r:=(.tuple [.str (ofS L).1,.int .i64 ((ofS L).2:Nat)],H,z0)) ?_ k
 refine aa (n:=42) (rs:=[.tmp 2,.tmp 3]) Tryz.func107 rfl rfl rfl ?_
 intro σ hl ha
 have h0:=ha 0 (by simp)
 clear ha
 simp only [Option.getD_some,List.getElem?_cons_zero,List.getElem?_cons_succ] at h0
 have hlen:=hv.len
 have hb0:Bld H.length [.cells [.fF,.aI] 73 .rw] 0 (lF (L.take 0)):=⟨_,_,rfl,.inl rfl,.inl ⟨rfl,rfl⟩⟩
 simp only [go_sem,simprocAttr,hl,h0,hlen]
 refine go_rounds (fun n st=>∃ σ i bs lg T e,n+i=L.length∧(L.take i).any mN=false∧((lg=false∧bs=lF (L.take i)∧tot (L.take i)+1≤255)∨(lg=true∧255 < tot (L.take i)+1))∧bs.length≤255∧st=⟨σ,H++T,e⟩∧Bld H.length T 0 bs∧clean H.length e∧σ.length=42∧fr σ 4=.ptr H.length 0∧fr σ 5=.bool lg∧fr σ 8=v∧fr σ 9=.int .i64 L.length∧fr σ 10=.int .i64 (i:Nat)) L.length
  ⟨_,0,_,false,_,_,rfl,rfl,.inl ⟨rfl,rfl,by simp [tot]⟩,by simp [lF],rfl,hb0,⟨rfl,rfl⟩,by simp only [go_sem,simprocAttr,hl],by simp only [go_sem,simprocAttr,hl],by simp only [go_sem,simprocAttr,hl],by simp only [go_sem,simprocAttr,hl,h0],by simp only [go_sem,simprocAttr,hl],by simp only [go_sem,simprocAttr,hl]⟩ ?_
 rintro n _ ⟨σ,i,bs,lg,T,e,hi,hany,hlg,hbs,rfl,hb,he,hl,h4,h5,h8,h9,h10⟩
 have bl:=fun k=>Tu H T 0 bs hb k
 simp only [Nat.add_zero] at bl
 by_cases hlt:i < L.length
 ·obtain ⟨l,hli⟩:∃ l,L[i]?=some l:=⟨_,List.getElem?_eq_getElem hlt⟩
  have hlm:=hx l (List.mem_of_getElem? hli)
  have hw:=aS (show i < 9223372036854775807 by omega)
  have hld:=iK hli
  have htk:=FJ hli
  obtain ⟨rfl,h3'⟩ | ⟨b,c,ee,kd,rfl,hg⟩:=hv
  ·rw [h3'] at hlt; simp at hlt
  have hgT:=fun T':Hp=>ah (l:=T') hg
  by_cases hz:l=[]
  ·have hbad:L.any mN=true:=List.any_eq_true.2 ⟨l,List.mem_of_getElem? hli,by rw [hz]; rfl⟩
   have ho:ofS L=([],10):=if_pos hbad
   rw [ho]
   have g0:(l == [])=true:=by rw [hz]; rfl
   simp only [go_sem,simprocAttr,hl,h4,h5,h8,h9,h10,hlt,hgT,hld,g0,he]
  have g0:(l == [])=false:=by rw [beq_eq_false_iff_ne]; exact hz
  have hlp:0 < l.length:=List.length_pos_iff.2 hz
  by_cases h63:63 < l.length
  ·have hbad:L.any mN=true:=List.any_eq_true.2 ⟨l,List.mem_of_getElem? hli,by unfold mN; simp [h63]⟩
   have ho:ofS L=([],10):=if_pos hbad
   rw [ho]
   have g1:decide ((l.length:Int) > 63)=true:=by simp; omega
   simp only [go_sem,simprocAttr,hl,h4,h5,h8,h9,h10,hlt,hgT,hld,g0,g1,he]
  have g1:decide ((l.length:Int) > 63)=false:=by simp; omega
  have hbl:mN l=false:=by simp only [mN,Bool.or_eq_false_iff,beq_eq_false_iff_ne,decide_eq_false_iff_not]; omega
  have hany':=LD hli hany hbl
  rcases hlg with ⟨rfl,hbs',htot⟩ | ⟨rfl,htot⟩
  ·have hbl2:bs.length=tot (L.take i):=by rw [hbs',pX]
   have w1:IntKind.i64.wrap ((bs.length:Int)+(l.length:Int))=((bs.length+l.length:Nat):Int):=by rw [wrap_i64 (by omega)]; omega
   have w2:IntKind.i64.wrap (((bs.length+l.length:Nat):Int)+2)=((bs.length+(l.length+2):Nat):Int):=by rw [wrap_i64 (by omega)]; omega
   by_cases hbig:bs.length+l.length+2 > 255
   ·have g2:decide (((bs.length+(l.length+2):Nat):Int) > 255)=true:=by simp; omega
    simp only [go_sem,simprocAttr,hl,h4,h5,h8,h9,h10,hlt,hgT,hld,g0,g1,bl,w1,w2,g2,hw]
    exact ⟨n - 1,by omega,_,i+1,bs,true,T,_,by omega,hany',.inr ⟨rfl,by omega⟩,hbs,rfl,hb,by simp only [go_sem,simprocAttr,he],by simp only [go_sem,simprocAttr,hl],by simp only [go_sem,simprocAttr,hl,h4],by simp only [go_sem,simprocAttr,hl],by simp only [go_sem,simprocAttr,hl,h8],by simp only [go_sem,simprocAttr,hl,h9],by simp only [go_sem,simprocAttr,hl]⟩
   ·have g2:decide (((bs.length+(l.length+2):Nat):Int) > 255)=false:=by simp; omega
    have w3:IntKind.u8.wrap (l.length:Int)=((UInt8.ofNat l.length).toNat:Int):=by rw [UInt8.toNat_ofNat',wrap_u8 (by omega)]; omega
    obtain ⟨T1,e1,b1,k1,c1,r1⟩:=O8 H T 0 bs hb (UInt8.ofNat l.length) _ rfl (by omega)
    obtain ⟨T2,e2,b2,k2,c2,r2⟩:=Tn H T1 0 _ b1 l hlp (by simp; omega)
    simp only [Nat.add_zero] at r1 r2
    simp only [go_sem,simprocAttr,hl,h4,h5,h8,h9,h10,hlt,hgT,hld,g0,g1,bl,w1,w2,w3,g2,hw,r1,r2]
    exact ⟨n - 1,by omega,_,i+1,_,false,T2,_,by omega,hany',.inl ⟨rfl,by rw [BT hli,← hbs']; simp,by omega⟩,by simp; omega,rfl,b2,by simp only [go_sem,simprocAttr,he,c1,c2],by simp only [go_sem,simprocAttr,hl],by simp only [go_sem,simprocAttr,hl,h4],by simp only [go_sem,simprocAttr,hl],by simp only [go_sem,simprocAttr,hl,h8],by simp only [go_sem,simprocAttr,hl,h9],by simp only [go_sem,simprocAttr,hl]⟩
  ·simp only [go_sem,simprocAttr,hl,h4,h5,h8,h9,h10,hlt,hgT,hld,g0,g1,hw]
   exact ⟨n - 1,by omega,_,i+1,bs,true,T,_,by omega,hany',.inr ⟨rfl,by omega⟩,hbs,rfl,hb,by simp only [go_sem,simprocAttr,he],by simp only [go_sem,simprocAttr,hl],by simp only [go_sem,simprocAttr,hl,h4],by simp only [go_sem,simprocAttr,hl,h5],by simp only [go_sem,simprocAttr,hl,h8],by simp only [go_sem,simprocAttr,hl,h9],by simp only [go_sem,simprocAttr,hl]⟩
 ·have hiL:i=L.length:=by omega
  subst hiL
  rw [List.take_length] at hany hlg
  rcases hlg with ⟨rfl,rfl,htot⟩ | ⟨rfl,htot⟩
  ·have ho:ofS L=(nameOf L,0):=by unfold ofS; rw [hany,if_neg (by simp),if_neg (by omega)]
   rw [ho]
   obtain ⟨T1,e1,b1,k1,c1,r1⟩:=O8 H T 0 _ hb 0 0 rfl (by omega)
   obtain ⟨T2,e2,k2,c2,r2⟩:=qv H T1 0 _ b1 (by simp; omega)
   simp only [Nat.add_zero] at r1 r2
   simp only [go_sem,simprocAttr,hl,h4,h5,h8,h9,h10,hlt,r1,r2]
   exact aW (by simp [flat,bK]) (by simp only [go_sem,simprocAttr,he,c1,c2])
  ·have ho:ofS L=([],2):=by unfold ofS; rw [hany,if_neg (by simp),if_pos htot]
   rw [ho]
   simp only [go_sem,simprocAttr,hl,h4,h5,h8,h9,h10,hlt,he]
theorem FY (p c:UInt8) (r:List UInt8):scan p (c::r)=if c=p then 0 else if c=92 then 2+scan p r.tail else 1+scan p r:=by
 cases r with
 | nil=>simp only [scan,List.tail_nil,Nat.add_zero]
 | cons d r=>simp only [scan,List.tail_cons]
theorem FX (p:UInt8) {s:List UInt8} {i:Nat} {c:UInt8} (h:s[i]?=some c):scan p (s.drop i)=if c=p then 0 else if c=92 then 2+scan p (s.drop (i+2)) else 1+scan p (s.drop (i+1)):=by
 rw [fK h,FY,List.tail_drop]
theorem Ej:∀ (n:Nat) (s:List UInt8),s.length≤n→∀ r,unB s=some r→r.length≤s.length
 | _,[],_,r,h=>by rw [Ei] at h; cases h; exact Nat.le_refl _
 | 0,c::s,hn,r,h=>by simp at hn
 | n+1,c::s,hn,r,h=>by
  rw [xA,Option.bind_eq_some_iff] at h
  obtain ⟨⟨b,t⟩,h1,h2⟩:=h
  rw [Option.map_eq_some_iff] at h2
  obtain ⟨u,h3,rfl⟩:=h2
  have h4:=Bm h1
  have:=Ej n t (by simp at hn; omega) u h3
  simp only [List.length_cons]
  omega
theorem zC (x:List UInt8):(fh x).1.length≤x.length:=by
 unfold fh
 cases h:unB x with
 | none=>exact Nat.zero_le _
 | some l=>exact Ej _ x (Nat.le_refl _) l h
set_option maxHeartbeats 2000000 in
theorem su (s:List UInt8) (L1:List (List UInt8)) (v:AV) (frm tt:Nat) (H T:Hp) (t0:T[0]?=some (.cells [.str s] 9 .rw)) (t1:T[1]?=some (.cells [v] 85 .rw)) (t2:T[2]?=some (.cells [.int .i64 (frm:Nat)] 3 .rw))
  (hB:bZ H.length T v 9 1 L1.length (strs L1)) (hft:frm≤tt) (hto:tt≤s.length) (hs:s.length≤1048576) (hL:L1.length≤1048576) :
  ∃ T' v' e',T'[0]?=some (.cells [.str s] 9 .rw)∧T'[1]?=some (.cells [v'] 85 .rw)∧T'[2]?=some (.cells [.int .i64 (tt+1:Nat)] 3 .rw)∧bZ H.length T' v' 9 1 (L1.length+1) (strs (L1++[(fh ((s.drop frm).take (tt - frm))).1]))∧Cl H.length 1 e' ∧
   ∀ k,ag Tryz.prog 105 [.int .i64 (tt:Nat),.ptr H.length 0,.ptr (H.length+2) 0,.ptr (H.length+1) 0] (H++T) k=k (.int .i64 ((fh ((s.drop frm).take (tt - frm))).2:Nat),H++T',e'):=by
 obtain ⟨x,hx⟩:∃ x,x=(s.drop frm).take (tt - frm):=⟨_,rfl⟩
 have hxl:x.length≤1048576:=by rw [hx,List.length_take,List.length_drop]; omega
 rw [← hx]
 have hby:=fun k=>BS x (H++T) k hxl
 obtain ⟨l,hl0⟩:∃ l,l=(fh x).1:=⟨_,rfl⟩
 obtain ⟨v',T2,e2,happ,hlen2,hcl2,hkp,hv3,hfl,hvc,_⟩:=(hB.more [.cells [.str l] 9 .rw]).D9 (P:=Tryz.prog) (b:=16) (by decide) eU [.str l] 1 (by decide) rfl rfl (by simp only [fits,decide_eq_true_eq]; omega)
 have k0:T2[0]?=some (.cells [.str s] 9 .rw):=hkp 0 _ (ah t0) (by intro c fz st h; injection h with _ _ h; cases h)
 have k1:T2[1]?=some (.cells [v] 85 .rw):=hkp 1 _ (ah t1) (by intro c fz st h; injection h with _ _ h; cases h)
 have k2:T2[2]?=some (.cells [.int .i64 (frm:Nat)] 3 .rw):=hkp 2 _ (ah t2) (by intro c fz st h; injection h with _ _ h; cases h)
 have l1:=ai k1
 have l2:=ai k2
 have hscl:cK v'=true:=hv3.scl
 have hst:l=(unB x).getD []:=by rw [hl0]; unfold fh; cases unB x <;> rfl
 have hcl:Cl H.length 1 (((z0.and e2).and ⟨some (H.length+1),some (H.length+1)⟩).and ⟨none,some (H.length+2)⟩):=.Uo (.Ea (bn ⟨rfl,rfl⟩ hcl2) ⟨_,rfl,by omega,by omega,by simp [low]⟩) (xk (by omega))
 obtain ⟨e',hE,hleave⟩:=hcl.leave (m:=H.length+T.length) (by have:=ai t1; omega)
 rw [Ef.j7] at hleave
 refine ⟨(T2.set 1 (.cells [v'] 85 .rw)).set 2 (.cells [.int .i64 (tt+1:Nat)] 3 .rw),v',e',by simp [k0],by simp [l1],by simp [l2],?_,hE,fun k=>?_⟩
 ·have:=(hv3.set (x:=.cells [v'] 85 .rw) k1).set (j:=2) (x:=.cells [.int .i64 (tt+1:Nat)] 3 .rw) (by rw [List.getElem?_set_ne (by decide)]; exact k2)
  rw [← hl0]
  simpa [strs] using this
 refine ak ?_ k
 refine aa (n:=34) (rs:=[.tmp 5]) Tryz.func105 rfl rfl rfl ?_
 intro σ hl ha
 have h0:=ha 0 (by simp)
 have h1:=ha 1 (by simp)
 have h2:=ha 2 (by simp)
 have h3:=ha 3 (by simp)
 clear ha
 simp only [Option.getD_some,List.getElem?_cons_zero,List.getElem?_cons_succ] at h0 h1 h2 h3
 have hw:=aS (show tt < 9223372036854775807 by omega)
 have b1:(frm:Int)≤(tt:Int):=by omega
 have b2:(tt:Int)≤(s.length:Int):=by omega
 have hbs:=cO l
 have hg1:∀ y,(T2.set 1 y)[2]?=some (.cells [.int .i64 (frm:Nat)] 3 .rw):=fun y=>by rw [List.getElem?_set_ne (by decide)]; exact k2
 cases hu:unB x with
 | none =>
  have hc:(fh x).2=12:=by unfold fh; rw [hu]
  rw [hu] at hby hst
  simp only [Option.getD_none,Option.isSome_none,Bool.false_eq_true,if_false] at hby hst
  subst hst
  rw [hc]
  simp only [go_sem,simprocAttr,hl,h0,h1,h2,h3,t0,t1,t2,b1,b2,hx.symm,hby,hbs,↓happ,k0,k1,k2,hvc,hscl,hfl,hg1,hw]
  exact hleave _ _
 | some y =>
  rw [hu] at hby hst
  simp only [Option.getD_some,Option.isSome_some,if_true] at hby hst
  subst hst
  by_cases hz:l=[]
  ·have hc:(fh x).2=10:=by unfold fh; rw [hu]; simp only; rw [hz]; rfl
   rw [hc]
   have g0:(l == [])=true:=by rw [hz]; rfl
   simp only [go_sem,simprocAttr,hl,h0,h1,h2,h3,t0,t1,t2,b1,b2,hx.symm,hby,hbs,↓happ,k0,k1,k2,hvc,hscl,hfl,hg1,hw,g0]
   exact hleave _ _
  ·have g0:(l == [])=false:=by rw [beq_eq_false_iff_ne]; exact hz
   have hlp:0 < l.length:=List.length_pos_iff.2 hz
   by_cases h63:63 < l.length
   ·have hc:(fh x).2=10:=by unfold fh; rw [hu]; simp only; rw [if_pos]; unfold mN; simp [h63]
    rw [hc]
    have g1:decide ((l.length:Int) > 63)=true:=by simp; omega
    simp only [go_sem,simprocAttr,hl,h0,h1,h2,h3,t0,t1,t2,b1,b2,hx.symm,hby,hbs,↓happ,k0,k1,k2,hvc,hscl,hfl,hg1,hw,g0,g1]
    exact hleave _ _
   ·have hc:(fh x).2=0:=by unfold fh; rw [hu]; simp only; rw [if_neg]; simp only [mN,Bool.or_eq_true,beq_iff_eq,decide_eq_true_eq]; omega
    rw [hc]
    have g1:decide ((l.length:Int) > 63)=false:=by simp; omega
    simp only [go_sem,simprocAttr,hl,h0,h1,h2,h3,t0,t1,t2,b1,b2,hx.symm,hby,hbs,↓happ,k0,k1,k2,hvc,hscl,hfl,hg1,hw,g0,g1]
    exact hleave _ _
theorem bZ.Un {P:Program} {H T:Hp} {v:AV} {e z b len:Nat} {cs:List AV} (h:bZ H.length T v e z len cs) (hp:0 < len) (hz:decide (0 < z)=true) (hk:zok P e z=true) :
  ∃ w,(∀ kk,aF (c9 P (.slice e z b) v ([],0) (H++T)) kk=kk (v,H++T,⟨none,some w⟩))∧H.length≤w:=by
 obtain ⟨rfl,h2,h3⟩ | ⟨h1,h2,m,rfl,h3⟩:=h
 ·omega
 ·refine ⟨H.length+m,fun kk=>?_,by omega⟩
  rw [eC hz hk,bX,h3,aD,hU]
  have g:decide (0+(len+0)*z≤cs.length)=true:=by simp [h2]
  rw [g,cV]
  have hw:wr (H++T) (H.length+m) (0+len*z) []=some (H++T,⟨none,some (H.length+m)⟩):=by
   unfold wr
   rw [bX,h3]
   simp only
   have e1:splice cs (0+len*z) []=cs:=by unfold splice; simp
   rw [if_pos ⟨by simp [h2],by simp [gE],rfl⟩,e1,gz,eT h3]
   simp only [bK,if_true]
  rw [hw,aD]
  simp only [Nat.add_zero,Nat.zero_mul,Nat.zero_add,h2]
  exact propext ⟨fun h=>h.2,fun h=>⟨⟨trivial,trivial,Nat.le_refl _⟩,h⟩⟩
theorem y7 {v:AV} {H T l:Hp} {x:bp} {e:Ef}:quiet (v,H++(T++x::l),e) (H++T)=false:=by simp [quiet]
theorem zj {l:List UInt8}:∀ {L:List (List UInt8)},l ∈ L→l.length≤b9 L
 | m::L,h=>by
  have e:b9 (m::L)=m.length+b9 L:=by simp [b9]
  rcases List.mem_cons.1 h with rfl | h
  ·omega
  ·have:=zj h; omega
theorem BU {α β γ:Type} {x:Except Nat α} {f:α→β} {g:β→γ}:(x.map f).map g=x.map fun a=>g (f a):=by cases x <;> rfl
theorem ES {α β:Type} {e:Nat} {f:α→β}:(Except.error e:Except Nat α).map f=.error e:=rfl
theorem Js {α β:Type} {a:α} {f:α→β}:(Except.ok a:Except Nat α).map f=.ok (f a):=rfl
set_option maxHeartbeats 4000000 in
theorem sv (s o:List UInt8) (H k) (hs:s.length≤1048576) (ho:o.length≤1048576):ag Tryz.prog 73 [.str s,.str o] H k=k (.tuple [.str (dI s o).1,.int .i64 ((dI s o).2:Nat)],H,z0):=by
 refine ak (r:=(.tuple [.str (dI s o).1,.int .i64 ((dI s o).2:Nat)],H,z0)) ?_ k
 refine aa (n:=62) (rs:=[.tmp 4,.tmp 5]) Tryz.func73 rfl rfl rfl ?_
 intro σ hl ha
 have h0:=ha 0 (by simp)
 have h1:=ha 1 (by simp)
 clear ha
 simp only [Option.getD_some,List.getElem?_cons_zero,List.getElem?_cons_succ] at h0 h1
 have hck:=fun H' k=>cU o H' k (by show _≤9223372036854775807; omega)
 cases ho2:nm o with
 | none =>
  have hn:dI s o=([],11):=by unfold dI; rw [ho2]
  rw [hn]
  rw [ho2] at hck
  simp only [Option.isSome_none,Bool.false_eq_true,if_false] at hck
  simp only [go_sem,simprocAttr,hl,h0,h1,hck]
 | some K =>
 rw [ho2] at hck
 simp only [Option.isSome_some,if_true] at hck
 by_cases hd:s=[46]
 ·have hn:dI s o=([0],0):=by unfold dI; rw [ho2]; exact if_pos hd
  rw [hn]
  subst hd
  simp only [go_sem,simprocAttr,hl,h0,h1,hck]
 have hne:(s == [46])=false:=by rw [beq_eq_false_iff_ne]; exact hd
 have hn:dI s o=match qF true s with | .error e=>([],e) | .ok (L,b)=>ofS (if b=true then L++K else L):=by unfold dI; rw [ho2]; exact if_neg hd
 rw [hn]
 simp only [go_sem,simprocAttr,hl,h0,h1,hck,hne]
 refine go_rounds (fun n st=>∃ σ i frm L1 v T e,n+i=s.length+1∧frm≤i∧frm≤s.length∧qF true s=(qF (decide (frm=0)) (s.drop frm)).map (fun r=>(L1++r.1,r.2))∧(L1=[]→frm=0)∧L1.length≤frm∧b9 L1≤frm∧frm+scan 46 (s.drop frm)=i+scan 46 (s.drop i) ∧
   T[0]?=some (.cells [.str s] 9 .rw)∧T[1]?=some (.cells [v] 85 .rw)∧T[2]?=some (.cells [.int .i64 (frm:Nat)] 3 .rw)∧bZ H.length T v 9 1 L1.length (strs L1)∧st=⟨σ,H++T,e⟩∧clean H.length e∧σ.length=62∧fr σ 1=.str o∧fr σ 2=.ptr H.length 0∧fr σ 6=.ptr (H.length+1) 0∧fr σ 7=.ptr (H.length+2) 0∧fr σ 8=.func (.func 105) [] [.ptr H.length 0,.ptr (H.length+2) 0,.ptr (H.length+1) 0]∧fr σ 9=.int .i64 (i:Nat)) (s.length+1)
  ⟨_,0,0,[],.aI,[.cells [.str s] 9 .rw,.cells [.aI] 85 .rw,.cells [.int .i64 0] 3 .rw],_,rfl,Nat.le_refl _,Nat.zero_le _,by cases h:qF true s <;> simp [h,Except.map],fun _=>rfl,Nat.le_refl _,by simp [b9],rfl,rfl,rfl,rfl,.inl ⟨rfl,rfl,rfl⟩,rfl,by simp only [go_sem,simprocAttr],by simp only [go_sem,simprocAttr,hl],by simp only [go_sem,simprocAttr,hl,h1],by simp only [go_sem,simprocAttr,hl],by simp only [go_sem,simprocAttr,hl],by simp only [go_sem,simprocAttr,hl],by simp only [go_sem,simprocAttr,hl],by simp only [go_sem,simprocAttr,hl]⟩ ?_
 rintro n _ ⟨σ,i,frm,L1,v,T,e,hni,hfi,hfs,hp,hLf,hLl,hLt,hsc,t0,t1,t2,hB,rfl,he,hl,h1,h2,h6,h7,h8,h9⟩
 by_cases hlt:i < s.length
 ·obtain ⟨c,hc⟩:∃ c,s[i]?=some c:=⟨_,List.getElem?_eq_getElem hlt⟩
  have hcl:=c.toNat_lt
  rw [FX 46 hc] at hsc
  have hw:=aS (show i < 9223372036854775807 by omega)
  have hw2:IntKind.i64.wrap (((i+1:Nat):Int)+1)=((i+2:Nat):Int):=by rw [wrap_i64 (by omega)]; omega
  by_cases c92:c.toNat=92
  ·have e1:c=92:=UInt8.toNat.inj c92
   have g92:((c.toNat:Int) == 92)=true:=by simp; omega
   rw [if_neg (by rw [e1]; decide),if_pos e1] at hsc
   simp only [go_sem,simprocAttr,hl,h1,h2,h6,h7,h8,h9,t0,hlt,hc,g92,hw,hw2]
   exact ⟨n - 2,by omega,_,i+2,frm,L1,v,T,e,by omega,by omega,hfs,hp,hLf,hLl,hLt,by omega,t0,t1,t2,hB,rfl,he,by simp only [go_sem,simprocAttr,hl],by simp only [go_sem,simprocAttr,hl,h1],by simp only [go_sem,simprocAttr,hl,h2],by simp only [go_sem,simprocAttr,hl,h6],by simp only [go_sem,simprocAttr,hl,h7],by simp only [go_sem,simprocAttr,hl,h8],by simp only [go_sem,simprocAttr,hl]⟩
  ·have g92:((c.toNat:Int) == 92)=false:=by simp; omega
   have e92:c≠92:=ON (n:=92) (by omega) c92
   by_cases c46:c.toNat=46
   ·have e1:c=46:=UInt8.toNat.inj c46
    have g46:((c.toNat:Int) == 46)=true:=by simp; omega
    rw [if_pos e1] at hsc
    obtain ⟨x,hx⟩:∃ x,x=(s.drop frm).take (i - frm):=⟨_,rfl⟩
    have hk:scan 46 (s.drop frm)=i - frm:=by omega
    rw [ze _ (s.drop frm),hk,if_pos (by rw [List.length_drop]; omega),← hx,List.drop_drop,show frm+(i - frm+1)=i+1 by omega] at hp
    obtain ⟨T',v',e',p0,p1,p2,pB,pc,pr⟩:=su s L1 v frm i H T t0 t1 t2 hB hfi (by omega) hs (by omega)
    have pc:=pc.cln
    rw [← hx] at pB pr
    have hxl:x.length=i - frm:=by rw [hx,List.length_take,List.length_drop]; omega
    have hll:=zC x
    by_cases hc0:(fh x).2=0
    ·rw [if_pos hc0,BU] at hp
     have pr:∀ k,ag Tryz.prog 105 [.int .i64 (i:Nat),.ptr H.length 0,.ptr (H.length+2) 0,.ptr (H.length+1) 0] (H++T) k=k (.int .i64 0,H++T',e'):=by rw [hc0] at pr; exact pr
     simp only [go_sem,simprocAttr,hl,h1,h2,h6,h7,h8,h9,t0,hlt,hc,g92,g46,hw,pr]
     refine ⟨n - 1,by omega,_,i+1,i+1,L1++[(fh x).1],v',T',_,by omega,Nat.le_refl _,by omega,?_,by simp,by simp; omega,by rw [rS]; simp [b9] at hLt ⊢; omega,rfl,p0,p1,p2,by simpa using pB,rfl,by simp only [go_sem,simprocAttr,he,pc],by simp only [go_sem,simprocAttr,hl],by simp only [go_sem,simprocAttr,hl,h1],by simp only [go_sem,simprocAttr,hl,h2],by simp only [go_sem,simprocAttr,hl,h6],by simp only [go_sem,simprocAttr,hl,h7],by simp only [go_sem,simprocAttr,hl,h8],by simp only [go_sem,simprocAttr,hl]⟩
     rw [hp,show decide (i+1=0)=false by simp]
     congr 1; funext r; simp
    ·rw [if_neg hc0,ES] at hp
     rw [hp]
     have gn:(((fh x).2:Int) != 0)=true:=by simp; omega
     simp only [go_sem,simprocAttr,hl,h1,h2,h6,h7,h8,h9,t0,hlt,hc,g92,g46,hw,pr,gn]
     exact aW (by simp [flat,bK]) (by simp only [go_sem,simprocAttr,he,pc])
   ·have g46:((c.toNat:Int) == 46)=false:=by simp; omega
    have e46:c≠46:=ON (n:=46) (by omega) c46
    rw [if_neg e46,if_neg e92] at hsc
    simp only [go_sem,simprocAttr,hl,h1,h2,h6,h7,h8,h9,t0,hlt,hc,g92,g46,hw,hw2]
    exact ⟨n - 1,by omega,_,i+1,frm,L1,v,T,e,by omega,by omega,hfs,hp,hLf,hLl,hLt,by omega,t0,t1,t2,hB,rfl,he,by simp only [go_sem,simprocAttr,hl],by simp only [go_sem,simprocAttr,hl,h1],by simp only [go_sem,simprocAttr,hl,h2],by simp only [go_sem,simprocAttr,hl,h6],by simp only [go_sem,simprocAttr,hl,h7],by simp only [go_sem,simprocAttr,hl,h8],by simp only [go_sem,simprocAttr,hl]⟩
 ·have hdi:s.drop i=[]:=List.drop_of_length_le (by omega)
  rw [hdi] at hsc
  have hsc:frm+scan 46 (s.drop frm)=i:=hsc
  have hnk:¬ scan 46 (s.drop frm) < (s.drop frm).length:=by rw [List.length_drop]; omega
  rw [ze _ (s.drop frm),if_neg hnk] at hp
  have hmem:∀ l ∈ L1,l.length≤1048576:=fun l hl=>by have:=zj hl; omega
  by_cases hlast:frm < s.length∨frm=0
  ·rw [if_pos (by rw [List.length_drop]; rcases hlast with h | h; exact .inl (by omega); exact .inr (by simp [h]))] at hp
   obtain ⟨x,hx⟩:∃ x,x=(s.drop frm).take (s.length - frm):=⟨_,rfl⟩
   have hx':s.drop frm=x:=by rw [hx,List.take_of_length_le (by rw [List.length_drop]; omega)]
   rw [hx'] at hp
   obtain ⟨T',v',e',p0,p1,p2,pB,pc,pr⟩:=su s L1 v frm s.length H T t0 t1 t2 hB hfs (Nat.le_refl _) hs (by omega)
   have pc:=pc.cln
   rw [← hx] at pB pr
   have hll:=zC x
   have hxl:x.length=s.length - frm:=by rw [hx,List.length_take,List.length_drop]; omega
   have gd:frm < s.length∨(¬ frm < s.length∧((frm:Int) == 0)=true):=by
    by_cases h:frm < s.length
    ·exact .inl h
    ·exact .inr ⟨h,by simp; omega⟩
   by_cases hc0:(fh x).2=0
   ·rw [if_pos hc0,Js] at hp
    rw [hp]
    have pr:∀ k,ag Tryz.prog 105 [.int .i64 (s.length:Nat),.ptr H.length 0,.ptr (H.length+2) 0,.ptr (H.length+1) 0] (H++T) k=k (.int .i64 0,H++T',e'):=by rw [hc0] at pr; exact pr
    have hKl:gL o=K:=by unfold gL; rw [ho2]; rfl
    obtain ⟨⟨bv,bT⟩,hb,hlab⟩:=qL o (H++T') (by show _≤9223372036854775807; omega)
    rw [hKl] at hb
    simp only [List.append_assoc] at hlab
    simp only at hb
    have hKb:∀ l ∈ K,l.length≤63:=fun l hl=>by
     rw [← hKl] at hl
     obtain ⟨i,hi⟩:=List.getElem?_of_mem hl
     exact (sG hi).2
    have hKn:K.length≤255:=by have:=oG K; have:=sF (s:=o); rw [hKl] at this; omega
    have hb16:(L1++[(fh x).1]).length=L1.length+1:=by simp
    obtain ⟨L2,hL2⟩:∃ L2,L2=L1++[(fh x).1]:=⟨_,rfl⟩
    rw [← hL2] at pB hb16
    have hL2m:∀ l ∈ L2,l.length≤1048576:=fun l hl=>by
     rw [hL2] at hl
     rcases List.mem_append.1 hl with h | h
     ·exact hmem l h
     ·simp only [List.mem_singleton] at h; subst h; omega
    have hof:∀ (T9:Hp) (v9:AV),bZ H.length T9 v9 9 1 (L2++K).length (strs (L2++K))→∀ k,ag Tryz.prog 107 [v9] (H++T9) k=k (.tuple [.str (ofS (L2++K)).1,.int .i64 ((ofS (L2++K)).2:Nat)],H++T9,z0) :=
     fun T9 v9 h9 k=>ER (L2++K) v9 (H++T9) k h9.lv (by simp; omega) (fun l hl=>by
      rcases List.mem_append.1 hl with h | h
      ·exact hL2m l h
      ·have:=hKb l h; omega)
    have hres:([(fh x).1]:List (List UInt8))=[(fh x).1]:=rfl
    rw [← hL2]
    rcases gd with g1 | ⟨g1,g2⟩
    all_goals
     first | simp only [go_sem,simprocAttr,hl,h1,h2,h6,h7,h8,h9,t0,t2,hlt,pr,g1,g2] | simp only [go_sem,simprocAttr,hl,h1,h2,h6,h7,h8,h9,t0,t2,hlt,pr,g1]
     refine ay au (by kernel_rfl) ?_
     by_cases hK0:K=[]
     ·subst hK0
      obtain rfl:bv=.aI:=by
       obtain ⟨h,_⟩ | ⟨h,_⟩:=hb
       ·exact h
       ·simp at h
      obtain ⟨w,ha0,hw0⟩:=(pB.more bT).Un (P:=Tryz.prog) (b:=16) (by omega) (by decide) eU
      rw [List.append_nil] at hof
      have p1':(T'++bT)[1]?=some (.cells [v'] 85 .rw):=ah p1
      have hv9:=(pB.more bT).set (x:=.cells [v'] 85 .rw) p1'
      rw [eT p1'] at hv9
      have hof:=hof (T'++bT) v' (by rw [hb16]; exact hv9)
      have hscl:cK v'=true:=pB.scl
      have hset:(T'++bT).set 1 (.cells [v'] 85 .rw)=T'++bT:=eT p1'
      have hnf:flat v'=false:=by
       obtain ⟨_,_,h⟩ | ⟨_,_,m,rfl,_⟩:=pB
       ·omega
       ·rfl
      have hvc:bH v'=[v']:=by
       obtain ⟨rfl,_,h⟩ | ⟨_,_,m,rfl,_⟩:=pB <;> rfl
      have hcw:clean H.length ⟨none,some w⟩:=xk hw0
      rcases bT with _ | ⟨b0,bT⟩
      ·simp only [List.append_nil] at hlab ha0 hof hset
       simp only [go_sem,simprocAttr,hl,h1,h6,p1,hlab,↓ha0,hvc,hscl,hnf,hset,hof,List.append_nil]
       exact ⟨by kernel_rfl,aW (by simp [flat,bK]) (by simp only [go_sem,simprocAttr,he,pc,hcw])⟩
      ·simp only [go_sem,simprocAttr,hl,h1,h6,p1,p1',hlab,↓ha0,hvc,hscl,hnf,hset,hof,y7,List.append_nil]
       exact ⟨by kernel_rfl,aW (by simp [flat,bK]) (by simp only [go_sem,simprocAttr,he,pc,hcw])⟩
     ·obtain ⟨_,_,h⟩ | ⟨hKp,_,m,rfl,hbm⟩:=hb
      ·exact absurd (List.length_eq_zero_iff.1 h) hK0
      obtain ⟨v9,T9,e9,happ,hlen9,hcl9,hkp9,hv9,hfl9,hvc9,hq9⟩:=(pB.more bT).D9 (P:=Tryz.prog) (b:=16) (by decide) eU (strs K) K.length hKp (by rw [od,Nat.mul_one]) (by simp [strs,cK]) (by simp only [fits,decide_eq_true_eq]; omega)
      have hrd:rdC 0 K.length (.cells (strs K) 9 (.op 0 false))=some (strs K):=by
       rw [y5,if_pos (by rw [od]; omega),List.drop_zero,List.take_of_length_le (by rw [od]; omega)]
      have hgl:(H++T').length=H.length+T'.length:=List.length_append
      simp only [hgl] at hlab
      have p19:T9[1]?=some (.cells [v'] 85 .rw):=hkp9 1 _ (ah p1) (by intro c fz st h; injection h with _ _ h; cases h)
      have hB9:=hv9.set (x:=.cells [v9] 85 .rw) p19
      have hof:=hof (T9.set 1 (.cells [v9] 85 .rw)) v9 (by simpa [strs,hb16] using hB9)
      have l19:=ai p19
      have hg9:(T9.set 1 (.cells [v9] 85 .rw))[1]?=some (.cells [v9] 85 .rw):=by simp [l19]
      have hscl:cK v9=true:=hv9.scl
      rcases bT with _ | ⟨b0,bT⟩
      ·simp at hbm
      ·simp only [go_sem,simprocAttr,hl,h1,h6,p1,hlab,hbm,hrd,↓happ,hvc9,hscl,hfl9,p19,hg9,hof,y7,hq9]
       exact ⟨by rcases uw 3 e9 with h | h <;> rw [h] <;> kernel_rfl,aW (by simp [flat,bK]) (by simp only [go_sem,simprocAttr,he,pc,hcl9])⟩
   ·rw [if_neg hc0,ES] at hp
    rw [hp]
    have gn:(((fh x).2:Int) != 0)=true:=by simp; omega
    rcases gd with g1 | ⟨g1,g2⟩
    ·simp only [go_sem,simprocAttr,hl,h1,h2,h6,h7,h8,h9,t0,t2,hlt,pr,gn,g1]
     exact aW (by simp [flat,bK]) (by simp only [go_sem,simprocAttr,he,pc])
    ·simp only [go_sem,simprocAttr,hl,h1,h2,h6,h7,h8,h9,t0,t2,hlt,pr,gn,g1,g2]
     exact aW (by simp [flat,bK]) (by simp only [go_sem,simprocAttr,he,pc])
  ·rw [if_neg (by rw [List.length_drop]; rintro (h | h); omega; simp at h; omega),Js] at hp
   rw [hp]
   have g1:¬ frm < s.length:=by omega
   have g2:((frm:Int) == 0)=false:=by simp; omega
   have hof:=fun k=>ER L1 v (H++T) k hB.lv (by omega) hmem
   simp only [go_sem,simprocAttr,hl,h1,h2,h6,h7,h8,h9,t0,t1,t2,hlt,g1,g2,hof,List.append_nil,Bool.false_eq_true,if_false]
   exact aW (by simp [flat,bK]) he
def kX:List (List UInt8):=[[65],[78,83],[67,78,65,77,69],[83,79,65],[80,84,82],[77,88],[84,88,84],[65,65,65,65],[83,82,86]]
def kXt (i:Nat):List UInt8:=(kX[i]?).getD []
theorem zE {i:Nat} (h:i < 9) (e:TypeId) (k:Kd):ldC (i*3+1) 1 false (.cells nB e k)=some (.str (kXt i)):=by
 have:i=0∨i=1∨i=2∨i=3∨i=4∨i=5∨i=6∨i=7∨i=8:=by omega
 rcases this with rfl | rfl | rfl | rfl | rfl | rfl | rfl | rfl | rfl <;> rfl
def rJ (t:Nat):List UInt8 :=
 if t=1 then kXt 0 else if t=2 then kXt 1 else if t=5 then kXt 2 else if t=6 then kXt 3 else if t=12 then kXt 4 else
 if t=15 then kXt 5 else if t=16 then kXt 6 else if t=28 then kXt 7 else if t=33 then kXt 8 else [84,89,80,69]++bF t
theorem Ep {i:Nat} (h:i < 9) {t:Nat} (ht:kT i=(t:Int)):kXt i=rJ t:=by
 have:i=0∨i=1∨i=2∨i=3∨i=4∨i=5∨i=6∨i=7∨i=8:=by omega
 rcases this with rfl | rfl | rfl | rfl | rfl | rfl | rfl | rfl | rfl <;> (simp [kT] at ht; have:t=_:=(Int.ofNat.inj ht).symm; subst this; rfl)
theorem Em {t:Nat} (h:∀ j,j < 9→kT j≠(t:Int)):rJ t=[84,89,80,69]++bF t:=by
 have h0:=h 0 (by decide); have h1:=h 1 (by decide); have h2:=h 2 (by decide); have h3:=h 3 (by decide); have h4:=h 4 (by decide)
 have h5:=h 5 (by decide); have h6:=h 6 (by decide); have h7:=h 7 (by decide); have h8:=h 8 (by decide)
 simp only [kT,List.getElem?_cons_zero,List.getElem?_cons_succ,Option.getD_some] at h0 h1 h2 h3 h4 h5 h6 h7 h8
 unfold rJ
 rw [if_neg (by omega),if_neg (by omega),if_neg (by omega),if_neg (by omega),if_neg (by omega),if_neg (by omega),if_neg (by omega),if_neg (by omega),if_neg (by omega)]
theorem sg (t:Nat) (H k) (hk:Tk H) (htb:Tb H) (ht:t < 65536):ag Tryz.prog 31 [.int .u16 (t:Nat)] H k=k (.str (rJ t),H,z0):=by
 have hto:=fun k=>P3 t H k htb (by omega)
 obtain ⟨e,kd,hg⟩:=hk
 refine ak (r:=(.str (rJ t),H,z0)) ?_ k
 refine aa (n:=22) (rs:=[.tmp 2]) Tryz.func31 rfl rfl rfl ?_
 intro σ hl ha
 have h0:=ha 0 (by simp)
 clear ha
 simp only [Option.getD_some,List.getElem?_cons_zero,List.getElem?_cons_succ] at h0
 simp only [go_sem,simprocAttr,hl,h0]
 refine go_rounds (fun n st=>∃ σ i,n+i=9∧(∀ j,j < i→kT j≠(t:Int))∧st=⟨σ,H,z0⟩∧σ.length=22∧fr σ 0=.int .u16 (t:Nat)∧fr σ 4=.int .i64 (i:Nat)) 9
  ⟨_,0,rfl,fun j hj=>by omega,rfl,by simp only [go_sem,simprocAttr,hl],by simp only [go_sem,simprocAttr,hl,h0],by simp only [go_sem,simprocAttr,hl]⟩ ?_
 rintro n _ ⟨σ,i,hn,hall,rfl,hl,h0,h4⟩
 by_cases hlt:i < 9
 ·obtain ⟨l1,_⟩:=sI hlt e kd
  have l2:=zE hlt e kd
  have hw:=aS (show i < 9223372036854775807 by omega)
  have g0:decide ((i:Int) < 9)=true:=by simp; omega
  have b0:(i:Int) < 9:=by omega
  by_cases hk:kT i=(t:Int)
  ·have g1:(kT i == (t:Int))=true:=by rw [hk]; exact beq_self_eq_true _
   have hf:=Ep hlt hk
   simp only [go_sem,simprocAttr,hl,h0,h4,g0,b0,hg,l1,l2,g1,hf]
  ·have g1:(kT i == (t:Int))=false:=by rw [beq_eq_false_iff_ne]; exact hk
   simp only [go_sem,simprocAttr,hl,h0,h4,g0,b0,hg,l1,l2,g1,hw]
   refine ⟨n - 1,by omega,_,i+1,by omega,fun j hj=>?_,rfl,by simp only [go_sem,simprocAttr,hl],by simp only [go_sem,simprocAttr,hl,h0],by simp only [go_sem,simprocAttr,hl]⟩
   by_cases hji:j=i
   ·rw [hji]; exact hk
   ·exact hall j (by omega)
 ·have g0:decide ((i:Int) < 9)=false:=by simp; omega
  have hf:=Em (fun j hj=>hall j (by omega))
  have w0:IntKind.i64.wrap (t:Int)=(t:Int):=wrap_i64 (by omega)
  have hdl:=tq t (by omega)
  rw [hf]
  simp only [go_sem,simprocAttr,hl,h0,h4,g0,w0,hto]
  unfold cg; omega

def xF:List AV:=[.int .u16 1,.int .u16 2,.int .u16 5,.int .u16 6,.int .u16 12,.int .u16 15,.int .u16 16,.int .u16 28,.int .u16 33]
theorem LR {i:Nat} (h:i < 9) (e:TypeId) (k:Kd):ldC i 1 false (.cells xF e k)=some (.int .u16 (kT i)):=by
 have:i=0∨i=1∨i=2∨i=3∨i=4∨i=5∨i=6∨i=7∨i=8:=by omega
 rcases this with rfl | rfl | rfl | rfl | rfl | rfl | rfl | rfl | rfl <;> rfl
theorem F8 (H k):ag Tryz.prog 100 [] H k=k (.tuple [.slice H.length 0 9 (.ex 9),.slice (H.length+1) 0 9 (.ex 9)],H++[.cells xF 23 .rw,.cells (strs kX) 9 .rw],z0):=by
 refine ak (r:=(.tuple [.slice H.length 0 9 (.ex 9),.slice (H.length+1) 0 9 (.ex 9)],H++[.cells xF 23 .rw,.cells (strs kX) 9 .rw],z0)) ?_ k
 refine aa (n:=4) (rs:=[.tmp 0,.tmp 1]) Tryz.func100 rfl rfl rfl ?_
 intro σ hl ha
 clear ha
 have b1:∀ H',aO Tryz.prog 158 9 [(0,.int .u16 1),(1,.int .u16 2),(2,.int .u16 5),(3,.int .u16 6),(4,.int .u16 12),(5,.int .u16 15),(6,.int .u16 16),(7,.int .u16 28),(8,.int .u16 33)] H'=some (.slice H'.length 0 9 (.ex 9),H'++[.cells xF 23 .rw]):=by
  intro H'
  simp only [aO,EA,xE,Option.bind_some]
  rfl
 have b2:∀ H',aO Tryz.prog 85 9 [(0,.str [65]),(1,.str [78,83]),(2,.str [67,78,65,77,69]),(3,.str [83,79,65]),(4,.str [80,84,82]),(5,.str [77,88]),(6,.str [84,88,84]),(7,.str [65,65,65,65]),(8,.str [83,82,86])] H'=some (.slice H'.length 0 9 (.ex 9),H'++[.cells (strs kX) 9 .rw]):=by
  intro H'
  simp only [aO,jc,nV,Option.bind_some]
  rfl
 simp only [go_sem,simprocAttr,hl,b1,b2]

theorem uE (s:List UInt8) (H k) (hs:s.length≤cg):ag Tryz.prog 75 [.str s] H k=k (.str (bB s),H,z0):=by
 refine ak (r:=(.str (bB s),H,z0)) ?_ k
 refine aa (n:=5) (rs:=[.tmp 2]) Tryz.func75 rfl rfl rfl ?_
 intro σ hl ha
 have h0:=ha 0 (by simp)
 clear ha
 simp only [Option.getD_some,List.getElem?_cons_zero,List.getElem?_cons_succ] at h0
 have hf:=fun k=>dW s H k hs
 simp only [go_sem,simprocAttr,hl,h0,hf]
def jk (s p:List UInt8):List UInt8 × Bool:=if s.take p.length=p then (s.drop p.length,true) else (s,false)
theorem sS (s p:List UInt8) (H k) (hs:s.length≤cg) (hp:p.length≤cg):ag Tryz.prog 42 [.str s,.str p] H k=k (.bool (jk s p).2,H,z0):=by
 refine ak (r:=(.bool (jk s p).2,H,z0)) ?_ k
 refine aa (n:=18) (rs:=[.tmp 4]) Tryz.func42 rfl rfl rfl ?_
 intro σ hl ha
 have h0:=ha 0 (by simp)
 have h1:=ha 1 (by simp)
 clear ha
 simp only [Option.getD_some,List.getElem?_cons_zero,List.getElem?_cons_succ] at h0 h1
 by_cases hlt:p.length≤s.length
 ·have hc:(jk s p).2=(s.take p.length == p):=by
   unfold jk
   by_cases h:s.take p.length=p
   ·rw [if_pos h]; simp [h]
   ·rw [if_neg h]; simp [h]
  rw [hc]
  simp only [go_sem,simprocAttr,hl,h0,h1,ge_iff_le,hlt]
 ·have hc:(jk s p).2=false:=by
   unfold jk
   rw [if_neg]
   intro h
   have:=congrArg List.length h
   rw [List.length_take] at this; omega
  rw [hc]
  simp only [go_sem,simprocAttr,hl,h0,h1,ge_iff_le,hlt]
theorem xg (s p:List UInt8) (H k) (hs:s.length≤cg) (hp:p.length≤cg):ag Tryz.prog 110 [.str s,.str p] H k=k (.tuple [.str (jk s p).1,.bool (jk s p).2],H,z0):=by
 refine ak (r:=(.tuple [.str (jk s p).1,.bool (jk s p).2],H,z0)) ?_ k
 refine aa (n:=15) (rs:=[.tmp 4,.tmp 5]) Tryz.func110 rfl rfl rfl ?_
 intro σ hl ha
 have h0:=ha 0 (by simp)
 have h1:=ha 1 (by simp)
 clear ha
 simp only [Option.getD_some,List.getElem?_cons_zero,List.getElem?_cons_succ] at h0 h1
 have hf:=fun k=>sS s p H k hs hp
 by_cases h:s.take p.length=p
 ·have hc:jk s p=(s.drop p.length,true):=if_pos h
  have hle:p.length≤s.length:=by
   have:=congrArg List.length h
   rw [List.length_take] at this; omega
  have ht:(s.drop p.length).take (s.length - p.length)=s.drop p.length:=by rw [List.take_of_length_le (by rw [List.length_drop]; exact Nat.le_refl _)]
  rw [hc] at hf ⊢
  simp only [go_sem,simprocAttr,hl,h0,h1,hf,hle,ht]
 ·have hc:jk s p=(s,false):=if_neg h
  rw [hc] at hf ⊢
  simp only [go_sem,simprocAttr,hl,h0,h1,hf]
theorem DS (s p:List UInt8) (H k) (hs:s.length≤cg) (hp:p.length≤cg):ag Tryz.prog 76 [.str s,.str p] H k=k (.tuple [.str (jk s p).1,.bool (jk s p).2],H,z0):=by
 refine ak (r:=(.tuple [.str (jk s p).1,.bool (jk s p).2],H,z0)) ?_ k
 refine aa (n:=11) (rs:=[.tmp 4,.tmp 5]) Tryz.func76 rfl rfl rfl ?_
 intro σ hl ha
 have h0:=ha 0 (by simp)
 have h1:=ha 1 (by simp)
 clear ha
 simp only [Option.getD_some,List.getElem?_cons_zero,List.getElem?_cons_succ] at h0 h1
 have hf:=fun k=>xg s p H k hs hp
 simp only [go_sem,simprocAttr,hl,h0,h1,hf]

theorem vV (t:Nat) (H k) (ht:t < 65536):ag Tryz.prog 64 [.int .u16 (t:Nat)] H k=k (.str (rJ t),H,z0):=by
 have htb:=fun k=>F8 H k
 have hdg:=fun l k=>dB t (H++l) k (by omega)
 refine ak (r:=(.str (rJ t),H,z0)) ?_ k
 refine aa (n:=30) (rs:=[.tmp 2]) Tryz.func64 rfl rfl rfl ?_
 intro σ hl ha
 have h0:=ha 0 (by simp)
 clear ha
 simp only [Option.getD_some,List.getElem?_cons_zero,List.getElem?_cons_succ] at h0
 simp only [go_sem,simprocAttr,hl,h0,htb]
 have hg1:(H++[bp.cells xF 23 .rw,bp.cells (strs kX) 9 .rw])[H.length]?=some (.cells xF 23 .rw):=by rw [dg]; rfl
 have hg2:(H++[bp.cells xF 23 .rw,bp.cells (strs kX) 9 .rw])[H.length+1]?=some (.cells (strs kX) 9 .rw):=by rw [bX]; rfl
 generalize hL:[bp.cells xF 23 .rw,bp.cells (strs kX) 9 .rw]=L at *
 refine go_rounds (fun n st=>∃ σ i,n+i=9∧(∀ j,j < i→kT j≠(t:Int))∧st=⟨σ,H++L,z0⟩∧σ.length=30∧fr σ 0=.int .u16 (t:Nat)∧fr σ 3=.slice H.length 0 9 (.ex 9)∧fr σ 4=.slice (H.length+1) 0 9 (.ex 9)∧fr σ 5=.int .i64 (i:Nat)) 9
  ⟨_,0,rfl,fun j hj=>by omega,rfl,by simp only [go_sem,simprocAttr,hl],by simp only [go_sem,simprocAttr,hl,h0],by simp only [go_sem,simprocAttr,hl],by simp only [go_sem,simprocAttr,hl],by simp only [go_sem,simprocAttr,hl]⟩ ?_
 rintro n _ ⟨σ,i,hn,hall,rfl,hl,h0,h3,h4,h5⟩
 by_cases hlt:i < 9
 ·have l1:=LR hlt
  have l2:∀ (e:TypeId) (k:Kd),ldC i 1 false (.cells (strs kX) e k)=some (.str (kXt i)):=by
   intro e k
   have:i=0∨i=1∨i=2∨i=3∨i=4∨i=5∨i=6∨i=7∨i=8:=by omega
   rcases this with rfl | rfl | rfl | rfl | rfl | rfl | rfl | rfl | rfl <;> rfl
  have hw:=aS (show i < 9223372036854775807 by omega)
  have g0:decide ((i:Int) < 9)=true:=by simp; omega
  have b0:(i:Int) < 9:=by omega
  by_cases hk:kT i=(t:Int)
  ·have g1:(kT i == (t:Int))=true:=by rw [hk]; exact beq_self_eq_true _
   have hf:=Ep hlt hk
   simp only [go_sem,simprocAttr,hl,h0,h3,h4,h5,g0,b0,hg1,hg2,l1,l2,g1,hf]
  ·have g1:(kT i == (t:Int))=false:=by rw [beq_eq_false_iff_ne]; exact hk
   simp only [go_sem,simprocAttr,hl,h0,h3,h4,h5,g0,b0,hg1,l1,g1,hw]
   refine ⟨n - 1,by omega,_,i+1,by omega,fun j hj=>?_,rfl,by simp only [go_sem,simprocAttr,hl],by simp only [go_sem,simprocAttr,hl,h0],by simp only [go_sem,simprocAttr,hl,h3],by simp only [go_sem,simprocAttr,hl,h4],by simp only [go_sem,simprocAttr,hl]⟩
   by_cases hji:j=i
   ·rw [hji]; exact hk
   ·exact hall j (by omega)
 ·have g0:decide ((i:Int) < 9)=false:=by simp; omega
  have hf:=Em (fun j hj=>hall j (by omega))
  have w0:IntKind.u32.wrap (t:Int)=(t:Int):=wrap_u32 (by omega)
  have hdl:=tq t (by omega)
  rw [hf]
  simp only [go_sem,simprocAttr,hl,h0,h3,h4,h5,g0,w0,hdg]
  unfold cg; omega
def isD (c:UInt8):Bool:=decide (48≤c.toNat∧c.toNat≤57)
def Bk (s:List UInt8):Nat:=s.foldl (fun v c=>10*v+(c.toNat - 48)) 0
def jH (s:List UInt8) (most:Nat):Option Nat :=
 if s=[]∨(1 < s.length∧s[0]?=some 48)∨12 < s.length then none else if s.all isD=true then (if Bk s≤most then some (Bk s) else none) else none
theorem oz {s:List UInt8} {most:Nat} (h:s=[]∨(1 < s.length∧s[0]?=some 48)∨12 < s.length):jH s most=none:=if_pos h
def puE (mx:Nat):List UInt8→Nat→Nat × Nat
 | [],v=>(v,0)
 | c::r,v=>if isD c=true then (if mx < 10*v+(c.toNat - 48) then (mx,1) else puE mx r (10*v+(c.toNat - 48))) else (0,2)
def Bits (b:Int) (mx:Nat):Prop:=(b=8∧mx=255)∨(b=16∧mx=65535)∨(b=32∧mx=4294967295)∨(b=40∧mx=1099511627775)
theorem Bits.le {b:Int} {mx:Nat} (h:Bits b mx):mx≤1099511627775∧255≤mx:=by unfold Bits at h; omega
theorem Bits.z {b:Int} {mx:Nat} (h:Bits b mx):(b == 0)=false:=by
 rw [beq_eq_false_iff_ne]; unfold Bits at h; omega
theorem Bits.n {b:Int} {mx:Nat} (h:Bits b mx):decide (b < 0)=false:=by
 rw [decide_eq_false_iff_not]; unfold Bits at h; omega
theorem Bits.g {b:Int} {mx:Nat} (h:Bits b mx):decide (b > 64)=false:=by
 rw [decide_eq_false_iff_not]; unfold Bits at h; omega
theorem Bits.w {b:Int} {mx:Nat} (h:Bits b mx):IntKind.u64.wrap b=b:=by
 rcases h with ⟨rfl,_⟩ | ⟨rfl,_⟩ | ⟨rfl,_⟩ | ⟨rfl,_⟩ <;> decide
theorem Bits.m {b:Int} {mx:Nat} (h:Bits b mx):IntKind.u64.wrap (IntKind.u64.wrap (1*2 ^ min b.toNat 64) - 1)=(mx:Int):=by
 rcases h with ⟨rfl,rfl⟩ | ⟨rfl,rfl⟩ | ⟨rfl,rfl⟩ | ⟨rfl,rfl⟩ <;> decide
def N6 (n:Nat):AV:=if n=0 then .de else .iface 187 (.int .i64 (n:Nat))
theorem FP (c:UInt8) (H k):ag Tryz.prog 130 [.int .u8 c.toNat] H k=k (.int .u8 (c ||| 32).toNat,H,z0):=by
 refine ak (r:=(.int .u8 (c ||| 32).toNat,H,z0)) ?_ k
 refine aa (n:=5) (rs:=[.tmp 2]) Tryz.func130 rfl rfl rfl ?_
 intro σ hl ha
 have h0:=ha 0 (by simp)
 clear ha
 simp only [Option.getD_some,List.getElem?_cons_zero,List.getElem?_cons_succ] at h0
 have hor:eG .or .u8 (c.toNat:Int) 32=some (.int .u8 (c ||| 32).toNat):=by
  have hlt:=(c ||| 32).toNat_lt
  have:(BitVec.ofInt 8 (c.toNat:Int) ||| BitVec.ofInt 8 32).toNat=(c ||| 32).toNat:=by
   rw [BitVec.toNat_or,BitVec.ofInt_natCast,UInt8.toNat_or]
   simp only [BitVec.toNat_ofNat]
   rw [Nat.mod_eq_of_lt (show c.toNat < 2 ^ 8 from c.toNat_lt)]
   rfl
  show some (AV.int .u8 (IntKind.u8.wrap ((BitVec.ofInt 8 (c.toNat:Int) ||| BitVec.ofInt 8 32).toNat:Int)))=_
  rw [this,wrap_u8 (by omega)]
 simp only [go_sem,simprocAttr,hl,h0,hor]

theorem oy (s:List UInt8) (bits:Int) (mx:Nat) (hb:Bits bits mx) (H k) (hz:s≠[]) (hs:s.length≤1048576):ag Tryz.prog 108 [.str s,.int .i64 10,.int .i64 bits] H k=k (.tuple [.int .u64 ((puE mx s 0).1:Nat),N6 (puE mx s 0).2],H,z0):=by
 refine ak (r:=(.tuple [.int .u64 ((puE mx s 0).1:Nat),N6 (puE mx s 0).2],H,z0)) ?_ k
 refine aa (n:=172) (rs:=[.tmp 6,.tmp 7]) Tryz.func108 rfl rfl rfl ?_
 intro σ hl ha
 have h0:=ha 0 (by simp)
 have h1:=ha 1 (by simp)
 have h2:=ha 2 (by simp)
 clear ha
 simp only [Option.getD_some,List.getElem?_cons_zero,List.getElem?_cons_succ] at h0 h1 h2
 have e0:(s == [])=false:=by simpa using hz
 have hm:=hb.m
 have hbz:=hb.z
 have hbn:=hb.n
 have hbg:=hb.g
 have hbw:=hb.w
 have hmx:=hb.le
 simp only [go_sem,simprocAttr,hl,h0,h1,h2,e0,hm,hbz,hbn,hbg,hbw]
 refine go_rounds (fun n st=>∃ σ i V e,n+i=s.length∧puE mx s 0=puE mx (s.drop i) V∧V≤mx∧st=⟨σ,H++[.cells (u8s s) 5 (.op 0 true)],e⟩∧clean H.length e∧σ.length=172∧fr σ 0=.str s∧fr σ 1=.int .i64 10∧fr σ 8=.bool false∧fr σ 10=.int .u64 1844674407370955162∧fr σ 11=.int .u64 (mx:Nat)∧fr σ 12=.bool false∧fr σ 13=.int .u64 (V:Nat)∧fr σ 99=.slice H.length 0 s.length (.op 0)∧fr σ 100=.int .i64 s.length∧fr σ 101=.int .i64 (i:Nat)) s.length
  ⟨_,0,0,_,rfl,rfl,by omega,rfl,⟨rfl,rfl⟩,by simp only [go_sem,simprocAttr,hl],by simp only [go_sem,simprocAttr,hl,h0],by simp only [go_sem,simprocAttr,hl,h1],by simp only [go_sem,simprocAttr,hl],by simp only [go_sem,simprocAttr,hl],by simp only [go_sem,simprocAttr,hl,hm],by simp only [go_sem,simprocAttr,hl],by simp only [go_sem,simprocAttr,hl],by simp only [go_sem,simprocAttr,hl],by simp only [go_sem,simprocAttr,hl],by simp only [go_sem,simprocAttr,hl]⟩ ?_
 rintro n _ ⟨σ,i,V,e,hn,hp,hV,rfl,he,hl,h0,h1,h8,h10,h11,h12,h13,h99,h100,h101⟩
 have hg:(H++[bp.cells (u8s s) 5 (.op 0 true)])[H.length]?=some (.cells (u8s s) 5 (.op 0 true)):=by rw [dg]; rfl
 by_cases hlt:i < s.length
 ·obtain ⟨c,hc⟩:∃ c,s[i]?=some c:=⟨_,List.getElem?_eq_getElem hlt⟩
  have hcl:=c.toNat_lt
  have hw:=aS (show i < 9223372036854775807 by omega)
  have hld:=fun (e:TypeId) (k:Kd)=>vr (n:=1) (e:=e) (k:=k) hc
  have hlo:=fun H k=>FP c H k
  rw [fK hc] at hp
  have w10:IntKind.u8.wrap 10=10:=by decide
  have hif:∀ n:Int,jI Tryz.prog 187 (.int .i64 n)=some (.iface 187 (.int .i64 n)):=by intro n; simp only [jI,vD]
  have w11:IntKind.u64.wrap 10=10:=by decide
  by_cases hd:isD c=true
  ·have hd':48≤c.toNat∧c.toNat≤57:=by simpa [isD] using hd
   rw [puE,if_pos hd] at hp
   have a0:((c.toNat:Int) == 95)=false:=by simp; omega
   have a1:decide (48≤(c.toNat:Int))=true:=by simp; omega
   have a2:decide ((c.toNat:Int)≤57)=true:=by simp; omega
   have w1:IntKind.u8.wrap ((c.toNat:Int) - 48)=((c.toNat - 48:Nat):Int):=by rw [wrap_u8 (by omega)]; omega
   have a3:decide (((c.toNat - 48:Nat):Int)≥10)=false:=by simp; omega
   have a4:decide ((V:Int)≥1844674407370955162)=false:=by simp; omega
   have w2:IntKind.u64.wrap ((V:Int)*10)=((10*V:Nat):Int):=by rw [wrap_u64 (by omega)]; omega
   have w3:IntKind.u64.wrap ((c.toNat - 48:Nat):Int)=((c.toNat - 48:Nat):Int):=wrap_u64 (by omega)
   have w4:IntKind.u64.wrap (((10*V:Nat):Int)+((c.toNat - 48:Nat):Int))=((10*V+(c.toNat - 48):Nat):Int):=by rw [wrap_u64 (by omega)]; omega
   have a5:(10*V+(c.toNat - 48) < 10*V)=False:=by apply eq_false; omega
   by_cases ho:mx < 10*V+(c.toNat - 48)
   ·rw [if_pos ho] at hp
    rw [hp]
    have a6:mx < 10*V+(c.toNat - 48):=ho
    simp only [go_sem,simprocAttr,hl,h0,h1,h8,h10,h11,h12,h13,h99,h100,h101,hlt,hg,hld,a0,a1,a2,w1,w10,w11,a3,a4,w2,w3,w4,a5,gt_iff_lt,a6,hw,hif]
    exact aW (by simp [flat,bK]) he
   ·rw [if_neg ho] at hp
    have a6:¬ mx < 10*V+(c.toNat - 48):=ho
    simp only [go_sem,simprocAttr,hl,h0,h1,h8,h10,h11,h12,h13,h99,h100,h101,hlt,hg,hld,a0,a1,a2,w1,w10,w11,a3,a4,w2,w3,w4,a5,gt_iff_lt,a6,hw,hif]
    exact ⟨n - 1,by omega,_,i+1,_,_,by omega,hp,by omega,rfl,he,by simp only [go_sem,simprocAttr,hl],by simp only [go_sem,simprocAttr,hl,h0],by simp only [go_sem,simprocAttr,hl,h1],by simp only [go_sem,simprocAttr,hl,h8],by simp only [go_sem,simprocAttr,hl,h10],by simp only [go_sem,simprocAttr,hl,h11],by simp only [go_sem,simprocAttr,hl,h12],by simp only [go_sem,simprocAttr,hl],by simp only [go_sem,simprocAttr,hl,h99],by simp only [go_sem,simprocAttr,hl,h100],by simp only [go_sem,simprocAttr,hl]⟩
  ·rw [puE,if_neg hd] at hp
   rw [hp]
   have hd':c.toNat < 48∨57 < c.toNat:=by
    have:¬ (48≤c.toNat∧c.toNat≤57):=by simpa [isD] using hd
    omega
   have hLl:=(c ||| 32).toNat_lt
   have y1:decide (48≤(c.toNat:Int))=true∧decide ((c.toNat:Int)≤57)=false∨decide (48≤(c.toNat:Int))=false:=by
    rcases hd' with h | h
    ·exact .inr (by simp; omega)
    ·exact .inl ⟨by simp; omega,by simp; omega⟩
   generalize hL:(c ||| 32).toNat=L at *
   have w6:97≤L→L≤122→decide (IntKind.u8.wrap (IntKind.u8.wrap ((L:Int) - 97)+10)≥10)=true:=by
    intro h1 h2
    have e1:IntKind.u8.wrap ((L:Int) - 97)=((L - 97:Nat):Int):=by rw [wrap_u8 (by omega)]; omega
    rw [e1,wrap_u8 (by omega)]; simp; omega
   by_cases x4:97≤L
   ·have z4:decide (97≤(L:Int))=true:=by simp; omega
    by_cases x5:L≤122
    ·have z5:decide ((L:Int)≤122)=true:=by simp; omega
     have w6:=w6 x4 x5
     rcases y1 with ⟨y1,y2⟩ | y1 <;> cases x1:((c.toNat:Int) == 95)
     all_goals
      first | simp only [go_sem,simprocAttr,hl,h0,h1,h8,h10,h11,h12,h13,h99,h100,h101,hlt,hg,hld,hlo,hL,x1,y1,y2,z4,z5,w6,w10,hif] | simp only [go_sem,simprocAttr,hl,h0,h1,h8,h10,h11,h12,h13,h99,h100,h101,hlt,hg,hld,hlo,hL,x1,y1,z4,z5,w6,w10,hif]
      exact aW (by simp [flat,bK]) he
    ·have z5:decide ((L:Int)≤122)=false:=by simp; omega
     rcases y1 with ⟨y1,y2⟩ | y1 <;> cases x1:((c.toNat:Int) == 95)
     all_goals
      first | simp only [go_sem,simprocAttr,hl,h0,h1,h8,h10,h11,h12,h13,h99,h100,h101,hlt,hg,hld,hlo,hL,x1,y1,y2,z4,z5,w10,hif] | simp only [go_sem,simprocAttr,hl,h0,h1,h8,h10,h11,h12,h13,h99,h100,h101,hlt,hg,hld,hlo,hL,x1,y1,z4,z5,w10,hif]
      exact aW (by simp [flat,bK]) he
   ·have z4:decide (97≤(L:Int))=false:=by simp; omega
    rcases y1 with ⟨y1,y2⟩ | y1 <;> cases x1:((c.toNat:Int) == 95)
    all_goals
     first | simp only [go_sem,simprocAttr,hl,h0,h1,h8,h10,h11,h12,h13,h99,h100,h101,hlt,hg,hld,hlo,hL,x1,y1,y2,z4,w10,hif] | simp only [go_sem,simprocAttr,hl,h0,h1,h8,h10,h11,h12,h13,h99,h100,h101,hlt,hg,hld,hlo,hL,x1,y1,z4,w10,hif]
     exact aW (by simp [flat,bK]) he
 ·have hi:i=s.length:=by omega
  subst hi
  rw [List.drop_length] at hp
  rw [hp]
  simp only [go_sem,simprocAttr,hl,h0,h1,h8,h10,h11,h12,h13,h99,h100,h101,hlt]
  exact aW (by simp [flat,bK]) he
def nT (v:Nat) (s:List UInt8):Nat:=s.foldl (fun v c=>10*v+(c.toNat - 48)) v
theorem vq:∀ (s:List UInt8) (v:Nat),v*10 ^ s.length≤nT v s
 | [],v=>by simp [nT]
 | c::r,v=>by
  have:=vq r (10*v+(c.toNat - 48))
  refine Nat.le_trans ?_ this
  rw [List.length_cons,Nat.pow_succ,Nat.mul_comm (10 ^ r.length) 10,← Nat.mul_assoc]
  exact Nat.mul_le_mul_right _ (by omega)
theorem LL (s:List UInt8) (v:Nat):v≤nT v s :=
 Nat.le_trans (Nat.le_mul_of_pos_right v (Nat.pow_pos (by decide))) (vq s v)
theorem fe {mx:Nat}:∀ (s:List UInt8) (v:Nat),(s.all isD=true∧nT v s≤mx→puE mx s v=(nT v s,0))∧(¬ (s.all isD=true∧nT v s≤mx)→v≤mx→(puE mx s v).2=1∨(puE mx s v).2=2)
 | [],v=>⟨fun _=>rfl,fun h hv=>absurd ⟨rfl,hv⟩ h⟩
 | c::r,v=>by
  have ih:=fe (mx:=mx) r (10*v+(c.toNat - 48))
  have hF:nT v (c::r)=nT (10*v+(c.toNat - 48)) r:=rfl
  have hle:=LL r (10*v+(c.toNat - 48))
  rw [hF]
  by_cases hd:isD c=true
  ·rw [puE,if_pos hd]
   by_cases ho:mx < 10*v+(c.toNat - 48)
   ·rw [if_pos ho]
    exact ⟨fun h=>by omega,fun _ _=>.inl rfl⟩
   ·rw [if_neg ho]
    refine ⟨fun ⟨h1,h2⟩=>ih.1 ⟨by simp only [List.all_cons,hd,Bool.true_and] at h1; exact h1,h2⟩,fun h _=>ih.2 (fun ⟨h1,h2⟩=>h ⟨by simp only [List.all_cons,hd,Bool.true_and]; exact h1,h2⟩) (by omega)⟩
  ·rw [puE,if_neg hd]
   refine ⟨fun ⟨h1,_⟩=>?_,fun _ _=>.inr rfl⟩
   simp only [List.all_cons,Bool.and_eq_true] at h1
   exact absurd h1.1 hd
theorem wh {mx:Nat} (hmx:mx≤4294967295) {s:List UInt8} (hz:s≠[]) (h0:¬ (1 < s.length∧s[0]?=some 48)):jH s mx=if (puE mx s 0).2=0 then some (puE mx s 0).1 else none:=by
 have sp:=fe (mx:=mx) s 0
 by_cases hg:s.all isD=true∧nT 0 s≤mx
 ·rw [sp.1 hg,if_pos rfl]
  have hl:¬ 12 < s.length:=by
   intro hl
   obtain ⟨c,r,rfl⟩:=List.exists_cons_of_ne_nil hz
   have h1:=vq r (10*0+(c.toNat - 48))
   have hc:isD c=true:=by have:=hg.1; simp only [List.all_cons,Bool.and_eq_true] at this; exact this.1
   have hc':48≤c.toNat∧c.toNat≤57:=by simpa [isD] using hc
   have hne:c.toNat≠48:=fun h=>h0 ⟨by omega,by simp; exact UInt8.toNat.inj h⟩
   have hp:10 ^ 12≤10 ^ r.length:=Nat.pow_le_pow_right (by decide) (by simp only [List.length_cons] at hl; omega)
   have h2:1*10 ^ r.length≤(10*0+(c.toNat - 48))*10 ^ r.length:=Nat.mul_le_mul_right _ (by omega)
   have h3:nT (10*0+(c.toNat - 48)) r≤mx:=hg.2
   omega
  unfold jH
  rw [if_neg (by
   rintro (h | h | h)
   ·exact hz h
   ·exact h0 h
   ·exact hl h),if_pos hg.1]
  exact if_pos hg.2
 ·have h1:=sp.2 hg (by omega)
  rw [if_neg (by omega)]
  unfold jH
  split
  ·rfl
  ·split
   ·rename_i ha
    exact if_neg (fun h=>hg ⟨ha,h⟩)
   ·rfl
theorem Gq {mx:Nat} {s:List UInt8} (h:s[0]?=some 43):jH s mx=none:=by
 unfold jH
 split
 ·rfl
 ·rw [if_neg]
  rw [Fu h (by decide)]; simp

def Te (H:Hp):Prop:=(∃ e k u b,H[4]?=some (.cells [.iface u b] e k))∧(∃ e k u b,H[5]?=some (.cells [.iface u b] e k))
theorem Te.old {H:Hp} (h:Te H) (l:Hp):Te (H++l):=by
 obtain ⟨⟨e,k,u,b,h1⟩,⟨e',k',u',b',h2⟩⟩:=h
 exact ⟨⟨e,k,u,b,ah h1⟩,⟨e',k',u',b',ah h2⟩⟩
theorem uZ:∀ s:List UInt8,bK (u8s s)=true
 | []=>rfl
 | c::s=>by
  have:=uZ s
  unfold u8s at this ⊢
  rw [List.map_cons]
  simp only [bK,flat,this,Bool.and_self]
theorem yM (s:List UInt8) (H k) (hs:s.length≤1048576):ag Tryz.prog 153 [.str s] H k=k (.str s,H,z0):=by
 refine ak (r:=(.str s,H,z0)) ?_ k
 refine aa (n:=18) (rs:=[.tmp 2]) Tryz.func153 rfl rfl rfl ?_
 intro σ hl ha
 have h0:=ha 0 (by simp)
 clear ha
 simp only [Option.getD_some,List.getElem?_cons_zero,List.getElem?_cons_succ] at h0
 by_cases hz:s=[]
 ·subst hz
  simp only [go_sem,simprocAttr,hl,h0]
 ·have hpos:0 < s.length:=List.length_pos_iff.2 hz
  have g0:((s.length:Int) == 0)=false:=by simp; exact hz
  have hmk:∀ H',jh Tryz.prog 71 (.int .i64 s.length) (.int .i64 s.length) H'=some (.slice H'.length 0 s.length (.ex s.length),H'++[.cells (List.replicate s.length (.int .u8 0)) 5 .rw]):=by
   intro H'
   have hr:∀ n,rep [.int .u8 0] n=List.replicate n (AV.int .u8 0):=by
    intro n; induction n with
    | zero=>rfl
    | succ n ih=>rw [rep,ih]; rfl
   simp only [jh,dh,jq,Option.bind_some]
   rw [if_pos (by omega)]
   simp [hr]
  have hcp:∀ x,lR Tryz.prog 71 (.slice H.length 0 s.length x) (.str s) (H++[.cells (List.replicate s.length (.int .u8 0)) 5 .rw])=some (.int .i64 s.length,H++[.cells (u8s s) 5 .rw],⟨none,some H.length⟩):=by
   intro x
   have hg:(H++[bp.cells (List.replicate s.length (.int .u8 0)) 5 .rw])[H.length]?=some (.cells (List.replicate s.length (.int .u8 0)) 5 .rw):=by rw [dg]; rfl
   have hsc:(u8s s).all cK=true:=by simp [u8s,cK]
   have hfl:bK (u8s s)=true:=uZ s
   have hsp:splice (List.replicate s.length (AV.int .u8 0)) 0 (u8s s)=u8s s:=by
    unfold splice
    rw [List.take_zero,List.nil_append,List.drop_eq_nil_of_le (by simp [u8s]),List.append_nil]
   simp only [lR,dh,appended,Option.bind_some]
   have ht:List.take (min s.length s.length*1) (s.map fun b=>AV.int .u8 (b.toNat:Int))=u8s s:=by
    rw [List.take_of_length_le (by simp)]; rfl
   simp only [if_true,Option.bind_some,ht]
   unfold wr
   rw [hg]
   simp only
   rw [if_pos ⟨by simp [u8s],rfl,hsc⟩,hsp,hfl]
   simp [gz]
  have hst:∀ H',H'[H.length]?=some (.cells (u8s s) 5 .rw)→gA Tryz.prog 122 (.ptr H.length 0) (.int .i64 s.length) H'=some (.str s,H'.set H.length .dead,⟨none,some H.length⟩):=by
   intro H' hg
   have c1:¬ ((s.length:Int)=0):=by omega
   have c2:0 < (s.length:Int)∧(s.length:Int)≤9223372036854775807:=by omega
   have c3:Tryz.prog.cellsOf 5=1:=by kernel_rfl
   have c5:((u8s s).drop 0).take (s.length:Int).toNat=u8s s:=by
    rw [List.drop_zero,List.take_of_length_le (by rw [bz]; simp)]
   simp only [gA,vH,hg]
   rw [if_neg c1,if_pos c2,if_pos ⟨trivial,rf,c3,by rw [bz]; simp⟩,c5,qs]
   simp
  have hst:=hst (H++[.cells (u8s s) 5 .rw]) (by rw [dg]; rfl)
  simp only [go_sem,simprocAttr,hl,h0,g0,hmk,hcp,hst,hpos]
  omega

theorem nC:(match Tryz.prog.underlying 75 with | some (.interface _)=>true | _=>false)=true:=by kernel_rfl
theorem Pb:Tryz.prog.underlying 187=some (.int .i64):=by kernel_rfl
theorem Q5:(Tryz.prog.info? 187).map (·.comparable)=some true:=by kernel_rfl
theorem Tc {a b:Int} {c:Bool}:gG Tryz.prog .eql 75 (.iface 187 (.int .i64 a)) (.iface 187 (.int .i64 b)) c=some (.bool (a == b)):=by
 obtain ⟨ms,hu⟩:∃ ms,Tryz.prog.underlying 75=some (.interface ms):=by
  have:=nC
  split at this
  ·exact ⟨_,‹_›⟩
  ·cases this
 obtain ⟨i,hi,hc⟩:∃ i,Tryz.prog.info? 187=some i∧i.comparable=true:=by
  have:=Q5
  rw [Option.map_eq_some_iff] at this
  exact this
 simp [gG,kS,gj,hu,hi,hc,Pb]
theorem SB {v:Value}:bu.isConst (.const v)=true:=rfl
theorem TV:gG Tryz.prog .neq 75 .de .de true=some (.bool false):=by
 simp only [gG,if_true,vA]
theorem TW {c:Bool} {u:TypeId} {v:AV}:gG Tryz.prog .neq 75 (.iface u v) .de c=some (.bool true):=by
 obtain ⟨ms,hu⟩:∃ ms,Tryz.prog.underlying 75=some (.interface ms):=by
  have:=nC
  split at this
  ·exact ⟨_,‹_›⟩
  ·cases this
 simp [gG,kS,gj,hu]
attribute [go_sem] Tc SB TV TW
theorem O7 (a b:List UInt8) (u:TypeId) (x:AV):bq Tryz.prog 210 [(0,.str a),(1,.str b),(2,.iface u x)]=some (.agg [.str a,.str b,.iface u x]):=by
 simp only [bq,Ew,uk,qA,Option.bind_some]
 rfl
theorem r5 (a s:List UInt8) (H) (ht:Te H) (hs:s.length≤1048576):∃ x:bp,∀ l k,ag Tryz.prog 132 [.str a,.str s] (H++l) k=k (.ptr (H++l).length 0,H++(l++[x]),z0):=by
 obtain ⟨e0,k0,u,b,hg⟩:=ht.1
 refine ⟨.cells [.str a,.str s,.iface u b] 210 .rw,fun l k=>?_⟩
 refine ak (r:=(.ptr (H++l).length 0,H++(l++[.cells [.str a,.str s,.iface u b] 210 .rw]),z0)) ?_ k
 refine aa (n:=11) (rs:=[.tmp 4]) Tryz.func132 rfl rfl rfl ?_
 intro σ hl ha
 have h0:=ha 0 (by simp)
 have h1:=ha 1 (by simp)
 clear ha
 simp only [Option.getD_some,List.getElem?_cons_zero,List.getElem?_cons_succ] at h0 h1
 have hc:=fun k=>yM s (H++l) k hs
 have hg':(H++l)[4]?=some (.cells [.iface u b] e0 k0):=ah hg
 have hbd:=O7 a s u b
 simp only [go_sem,simprocAttr,hl,h0,h1,hc,hg',hbd]
 refine ay au (by kernel_rfl) ?_
 simp only [go_sem,simprocAttr,hl,h0,h1,hc,hg',hbd]
 kernel_rfl
theorem tP (a s:List UInt8) (H) (ht:Te H) (hs:s.length≤1048576):∃ x:bp,∀ l k,ag Tryz.prog 133 [.str a,.str s] (H++l) k=k (.ptr (H++l).length 0,H++(l++[x]),z0):=by
 obtain ⟨e0,k0,u,b,hg⟩:=ht.2
 refine ⟨.cells [.str a,.str s,.iface u b] 210 .rw,fun l k=>?_⟩
 refine ak (r:=(.ptr (H++l).length 0,H++(l++[.cells [.str a,.str s,.iface u b] 210 .rw]),z0)) ?_ k
 refine aa (n:=11) (rs:=[.tmp 4]) Tryz.func133 rfl rfl rfl ?_
 intro σ hl ha
 have h0:=ha 0 (by simp)
 have h1:=ha 1 (by simp)
 clear ha
 simp only [Option.getD_some,List.getElem?_cons_zero,List.getElem?_cons_succ] at h0 h1
 have hc:=fun k=>yM s (H++l) k hs
 have hg':(H++l)[5]?=some (.cells [.iface u b] e0 k0):=ah hg
 have hbd:=O7 a s u b
 simp only [go_sem,simprocAttr,hl,h0,h1,hc,hg',hbd]
 refine ay au (by kernel_rfl) ?_
 simp only [go_sem,simprocAttr,hl,h0,h1,hc,hg',hbd]
 kernel_rfl
theorem Bx (bits:Int) (a s:List UInt8) (n:Nat) (hn:n=1∨n=2) (H) (ht:Te H) (hs:s.length≤1048576):∃ x:bp,∀ k,ag Tryz.prog 109 [.str a,.str s,.int .i64 10,.int .i64 bits,.iface 187 (.int .i64 (n:Nat))] H k=k (.iface 189 (.ptr H.length 0),H++[x],z0):=by
 obtain ⟨x1,hx1⟩:=r5 a s H ht hs
 obtain ⟨x2,hx2⟩:=tP a s H ht hs
 have hx1:=fun k=>hx1 [] k
 have hx2:=fun k=>hx2 [] k
 simp only [List.append_nil,List.nil_append] at hx1 hx2
 have hif:∀ n:Int,jI Tryz.prog 187 (.int .i64 n)=some (.iface 187 (.int .i64 n)):=by intro n; simp only [jI,vD]
 have hip:∀ n:Nat,jI Tryz.prog 189 (.ptr n 0)=some (.iface 189 (.ptr n 0)):=by intro n; simp only [jI,Ez]
 refine ⟨if n=2 then x1 else x2,fun k=>?_⟩
 refine ak (r:=(.iface 189 (.ptr H.length 0),H++[if n=2 then x1 else x2],z0)) ?_ k
 refine aa (n:=43) (rs:=[.tmp 10]) Tryz.func109 rfl rfl rfl ?_
 intro σ hl ha
 have h0:=ha 0 (by simp)
 have h1:=ha 1 (by simp)
 have h2:=ha 2 (by simp)
 have h3:=ha 3 (by simp)
 have h4:=ha 4 (by simp)
 clear ha
 simp only [Option.getD_some,List.getElem?_cons_zero,List.getElem?_cons_succ] at h0 h1 h2 h3 h4
 rcases hn with rfl | rfl
 ·simp only [go_sem,simprocAttr,hl,h0,h1,h2,h3,h4,hx1,hx2,hif,hip]
 ·simp only [go_sem,simprocAttr,hl,h0,h1,h2,h3,h4,hx1,hx2,hif,hip]
theorem mR (s:List UInt8) (bits:Int) (mx:Nat) (hb:Bits bits mx) (H k) (hz:s≠[]) (hs:s.length≤1048576) (he:(puE mx s 0).2=0):ag Tryz.prog 74 [.str s,.int .i64 10,.int .i64 bits] H k=k (.tuple [.int .u64 ((puE mx s 0).1:Nat),.de],H,z0):=by
 refine ak (r:=(.tuple [.int .u64 ((puE mx s 0).1:Nat),.de],H,z0)) ?_ k
 refine aa (n:=26) (rs:=[.tmp 6,.tmp 7]) Tryz.func74 rfl rfl rfl ?_
 intro σ hl ha
 have h0:=ha 0 (by simp)
 have h1:=ha 1 (by simp)
 have h2:=ha 2 (by simp)
 clear ha
 simp only [Option.getD_some,List.getElem?_cons_zero,List.getElem?_cons_succ] at h0 h1 h2
 have hp:=fun k=>oy s bits mx hb H k hz hs
 rw [he] at hp
 simp only [N6,if_true] at hp
 simp only [go_sem,simprocAttr,hl,h0,h1,h2,hp]
theorem lE (s:List UInt8) (bits:Int) (mx:Nat) (hb:Bits bits mx) (H) (ht:Te H) (hz:s≠[]) (hs:s.length≤1048576) (he:(puE mx s 0).2=1∨(puE mx s 0).2=2):∃ x:bp,∀ k,ag Tryz.prog 74 [.str s,.int .i64 10,.int .i64 bits] H k=k (.tuple [.int .u64 ((puE mx s 0).1:Nat),.iface 189 (.ptr H.length 0)],H++[x],z0):=by
 obtain ⟨x,hx⟩:=Bx bits [80,97,114,115,101,85,105,110,116] s _ he H ht hs
 refine ⟨x,fun k=>?_⟩
 refine ak (r:=(.tuple [.int .u64 ((puE mx s 0).1:Nat),.iface 189 (.ptr H.length 0)],H++[x],z0)) ?_ k
 refine aa (n:=26) (rs:=[.tmp 6,.tmp 7]) Tryz.func74 rfl rfl rfl ?_
 intro σ hl ha
 have h0:=ha 0 (by simp)
 have h1:=ha 1 (by simp)
 have h2:=ha 2 (by simp)
 clear ha
 simp only [Option.getD_some,List.getElem?_cons_zero,List.getElem?_cons_succ] at h0 h1 h2
 have hp:=fun k=>oy s bits mx hb H k hz hs
 have hne:(puE mx s 0).2≠0:=by omega
 simp only [N6,if_neg hne] at hp
 simp only [go_sem,simprocAttr,hl,h0,h1,h2,hp,hx]

theorem oq (s:List UInt8) (bits:Int) (mx:Nat) (hb:Bits bits mx) (hmx:mx≤4294967295) (H k) (ht:Te H) (hs:s.length≤1048576):ag Tryz.prog 77 [.str s,.int .i64 bits] H k=k (.tuple [.int .u32 (((jH s mx).getD 0:Nat)),.bool (jH s mx).isSome],H,z0):=by
 refine ak (r:=(.tuple [.int .u32 (((jH s mx).getD 0:Nat)),.bool (jH s mx).isSome],H,z0)) ?_ k
 refine aa (n:=35) (rs:=[.tmp 4,.tmp 5]) Tryz.func77 rfl rfl rfl ?_
 intro σ hl ha
 have h0:=ha 0 (by simp)
 have h1:=ha 1 (by simp)
 clear ha
 simp only [Option.getD_some,List.getElem?_cons_zero,List.getElem?_cons_succ] at h0 h1
 by_cases hz:s=[]
 ·rw [oz (.inl hz)]
  subst hz
  simp only [go_sem,simprocAttr,hl,h0,h1,Option.getD_none,Option.isSome_none]
 have hpos:0 < s.length:=List.length_pos_iff.2 hz
 obtain ⟨c,hc⟩:∃ c,s[0]?=some c:=⟨_,List.getElem?_eq_getElem hpos⟩
 have e0:(s == [])=false:=by simpa using hz
 have hcl:=c.toNat_lt
 by_cases hld:1 < s.length∧c.toNat=48
 ·rw [oz (.inr (.inl ⟨hld.1,by rw [hc]; congr 1; exact UInt8.toNat.inj hld.2⟩))]
  have g1:decide ((s.length:Int) > 1)=true:=by simp; omega
  have g2:((c.toNat:Int) == 48)=true:=by simp; omega
  simp only [go_sem,simprocAttr,hl,h0,h1,hc,hpos,g1,g2,e0,Option.getD_none,Option.isSome_none]
 have hcase:(decide ((s.length:Int) > 1)=true∧((c.toNat:Int) == 48)=false)∨decide ((s.length:Int) > 1)=false:=by
  by_cases h1:1 < s.length
  ·exact .inl ⟨by simp; omega,by simp; intro h; exact hld ⟨h1,by omega⟩⟩
  ·exact .inr (by simp; omega)
 by_cases hp:c.toNat=43
 ·rw [Gq (by rw [hc]; congr 1; exact UInt8.toNat.inj hp)]
  have g3:((c.toNat:Int) == 43)=true:=by simp; omega
  rcases hcase with ⟨g1,g2⟩ | g1
  ·simp only [go_sem,simprocAttr,hl,h0,h1,hc,hpos,g1,g2,g3,e0,Option.getD_none,Option.isSome_none]
  ·simp only [go_sem,simprocAttr,hl,h0,h1,hc,hpos,g1,g3,e0,Option.getD_none,Option.isSome_none]
 have g3:((c.toNat:Int) == 43)=false:=by simp; omega
 have hnb:¬ (1 < s.length∧s[0]?=some 48):=by
  rintro ⟨h1,h2⟩
  rw [hc] at h2
  cases h2
  exact hld ⟨h1,rfl⟩
 rw [wh hmx hz hnb]
 by_cases he:(puE mx s 0).2=0
 ·have hpu:=fun k=>mR s bits mx hb H k hz hs he
  rw [if_pos he]
  have hle:(puE mx s 0).1≤mx:=by
   by_cases hg:s.all isD=true∧nT 0 s≤mx
   ·rw [(fe (mx:=mx) s 0).1 hg]; exact hg.2
   ·have:=(fe (mx:=mx) s 0).2 hg (by omega); omega
  have w0:IntKind.u32.wrap ((puE mx s 0).1:Int)=((puE mx s 0).1:Int):=wrap_u32 (by omega)
  rcases hcase with ⟨g1,g2⟩ | g1
  ·simp only [go_sem,simprocAttr,hl,h0,h1,hc,hpos,g1,g2,g3,e0,hpu,w0,Option.getD_some,Option.isSome_some]
  ·simp only [go_sem,simprocAttr,hl,h0,h1,hc,hpos,g1,g3,e0,hpu,w0,Option.getD_some,Option.isSome_some]
 ·have hbd:(puE mx s 0).2=1∨(puE mx s 0).2=2:=by
   by_cases hg:s.all isD=true∧nT 0 s≤mx
   ·exact absurd (by rw [(fe (mx:=mx) s 0).1 hg]) he
   ·exact (fe (mx:=mx) s 0).2 hg (by omega)
  obtain ⟨x,hpu⟩:=lE s bits mx hb H ht hz hs hbd
  rw [if_neg he]
  rcases hcase with ⟨g1,g2⟩ | g1
  ·simp only [go_sem,simprocAttr,hl,h0,h1,hc,hpos,g1,g2,g3,e0,hpu,Option.getD_none,Option.isSome_none]
   try exact aW (by simp [flat,bK]) (by simp [clean,low,Ef.and,eD])
  ·simp only [go_sem,simprocAttr,hl,h0,h1,hc,hpos,g1,g3,e0,hpu,Option.getD_none,Option.isSome_none]
   try exact aW (by simp [flat,bK]) (by simp [clean,low,Ef.and,eD])
def cH (c:UInt8):List UInt8→List (List UInt8)
 | []=>[[]]
 | x::r=>if x=c then []::cH c r else match cH c r with
  | []=>[[x]]
  | h::t=>(x::h)::t
theorem rV (c:UInt8):∀ s:List UInt8,(cH c s).length=s.count c+1
 | []=>rfl
 | x::r=>by
  have ih:=rV c r
  unfold cH
  split
  ·rename_i h; subst h; simp [ih]
  ·rename_i h
   have e:(x::r).count c=r.count c:=List.count_cons_of_ne h
   rw [e]
   cases hs:cH c r with
   | nil=>rw [hs] at ih; simp at ih
   | cons a b=>rw [hs] at ih; simpa using ih
theorem pL (c:UInt8):∀ s:List UInt8,c ∉ s→cH c s=[s]
 | [],_=>rfl
 | x::r,h=>by
  have h1:x≠c:=fun e=>h (by simp [e])
  have h2:=pL c r (fun e=>h (by simp [e]))
  unfold cH
  rw [if_neg h1,h2]
theorem pM (c:UInt8):∀ (x r:List UInt8),c ∉ x→cH c (x++c::r)=x::cH c r
 | [],r,_=>by show cH c (c::r)=_; rw [cH,if_pos rfl]
 | y::x,r,h=>by
  have h1:y≠c:=fun e=>h (by simp [e])
  have h2:=pM c x r (fun e=>h (by simp [e]))
  show cH c (y::(x++c::r))=_
  rw [cH,if_neg h1,h2]
theorem qB (c:UInt8):∀ (x:List UInt8) (r:List (List UInt8)),c ∉ x→(∀ y ∈ r,c ∉ y)→cH c (x++r.flatMap ([c]++·))=x::r
 | x,[],h,_=>by rw [List.flatMap_nil,List.append_nil]; exact pL c x h
 | x,y::r,h,hr=>by
  have e:(y::r).flatMap ([c]++·)=c::(y++r.flatMap ([c]++·)):=rfl
  rw [e,pM c x _ h,qB c y r (hr y (by simp)) (fun z hz=>hr z (by simp [hz]))]
theorem P5 (s:List UInt8) (c:UInt8):(Lib.indexByte s c=-1∧c ∉ s)∨∃ o:Nat,Lib.indexByte s c=o∧o < s.length∧s=s.take o++c::s.drop (o+1)∧c ∉ s.take o:=by
 have h1:=Lib.indexByte_ge s c
 by_cases h:Lib.indexByte s c=-1
 ·refine .inl ⟨h,fun hm=>?_⟩
  obtain ⟨k,hk⟩:=List.getElem?_of_mem hm
  exact Lib.indexByte_none h k hk
 ·obtain ⟨o,ho⟩:∃ o:Nat,Lib.indexByte s c=o:=⟨(Lib.indexByte s c).toNat,by omega⟩
  obtain ⟨h2,h3⟩:=Lib.indexByte_some ho
  have hlt:=(List.getElem?_eq_some_iff.1 h2).1
  refine .inr ⟨o,ho,hlt,?_,fun hm=>?_⟩
  ·rw [← fK h2,List.take_append_drop]
  ·obtain ⟨k,hk⟩:=List.getElem?_of_mem hm
   rw [List.getElem?_take] at hk
   split at hk
   ·rename_i hko; exact h3 k hko hk
   ·cases hk
theorem Ek (c:UInt8):c.toNat.toUInt8=c:=UInt8.ofNat_toNat
theorem vR (s:List UInt8) (c:UInt8) (H k):ag Tryz.prog 155 [.str s,.int .u8 c.toNat] H k=k (.int .i64 (Lib.indexByte s c),H,z0):=by
 refine ak (r:=(.int .i64 (Lib.indexByte s c),H,z0)) ?_ k
 refine aa (n:=8) (rs:=[.tmp 4]) Tryz.func155 rfl rfl rfl ?_
 intro σ hl ha
 have h0:=ha 0 (by simp)
 have h1:=ha 1 (by simp)
 clear ha
 simp only [Option.getD_some,List.getElem?_cons_zero,List.getElem?_cons_succ] at h0 h1
 simp only [go_sem,simprocAttr,hl,h0,h1,Ek]
theorem FU (s:List UInt8) (c:UInt8) (H k):ag Tryz.prog 161 [.str s,.str [c]] H k=k (.int .i64 (Lib.indexByte s c),H,z0):=by
 refine ak (r:=(.int .i64 (Lib.indexByte s c),H,z0)) ?_ k
 refine aa (n:=143) (rs:=[.tmp 4]) Tryz.func161 rfl rfl rfl ?_
 intro σ hl ha
 have h0:=ha 0 (by simp)
 have h1:=ha 1 (by simp)
 clear ha
 simp only [Option.getD_some,List.getElem?_cons_zero,List.getElem?_cons_succ] at h0 h1
 by_cases he:s=[c]
 ·have e0:([c] == s)=true:=by rw [he]; exact beq_self_eq_true _
  have hi:Lib.indexByte s c=0:=by rw [he]; simp [Lib.indexByte]
  rw [hi]
  simp only [go_sem,simprocAttr,hl,h0,h1,e0]
 ·have e0:([c] == s)=false:=by rw [beq_eq_false_iff_ne]; exact fun h=>he h.symm
  have hi:=fun k=>vR s c H k
  simp only [go_sem,simprocAttr,hl,h0,h1,e0,hi]
theorem IL (s:List UInt8) (c:UInt8) (H k):ag Tryz.prog 160 [.str s,.str [c]] H k=k (.int .i64 (Lib.indexByte s c),H,z0):=by
 refine ak (r:=(.int .i64 (Lib.indexByte s c),H,z0)) ?_ k
 refine aa (n:=8) (rs:=[.tmp 4]) Tryz.func160 rfl rfl rfl ?_
 intro σ hl ha
 have h0:=ha 0 (by simp)
 have h1:=ha 1 (by simp)
 clear ha
 simp only [Option.getD_some,List.getElem?_cons_zero,List.getElem?_cons_succ] at h0 h1
 have hi:=fun k=>FU s c H k
 simp only [go_sem,simprocAttr,hl,h0,h1,hi]
theorem IM (s:List UInt8) (c:UInt8) (H k):ag Tryz.prog 159 [.str s,.str [c]] H k=k (.int .i64 (s.count c:Nat),H,z0):=by
 refine ak (r:=(.int .i64 (s.count c:Nat),H,z0)) ?_ k
 refine aa (n:=34) (rs:=[.tmp 4]) Tryz.func159 rfl rfl rfl ?_
 intro σ hl ha
 have h0:=ha 0 (by simp)
 have h1:=ha 1 (by simp)
 clear ha
 simp only [Option.getD_some,List.getElem?_cons_zero,List.getElem?_cons_succ] at h0 h1
 have hc:Lib.countByte s c=s.count c:=rfl
 simp only [go_sem,simprocAttr,hl,h0,h1,Ek,hc]
theorem M9 (n:Nat) (H:Hp) (hn:n≤2000000):jh Tryz.prog 85 (.int .i64 (n:Nat)) (.int .i64 (n:Nat)) H=some (.slice H.length 0 n (.ex n),H++[.cells (List.replicate n (.str [])) 9 .rw]):=by
 have hr:∀ n,rep [.str []] n=List.replicate n (AV.str []):=by
  intro n; induction n with
  | zero=>rfl
  | succ n ih=>rw [rep,ih]; rfl
 simp only [jh,jc,nV,Option.bind_some]
 rw [if_pos (by omega)]
 simp [hr]
theorem Sl {a b:Nat} (h:a≤b):qd (.int .i64 (a:Nat)) (.int .i64 (b:Nat))=some (.int .i64 (a:Nat)):=by
 have:¬ ((b:Int) < (a:Int)):=by omega
 simp [qd,this]
set_option maxHeartbeats 2000000 in
theorem Bz (s:List UInt8) (c:UInt8) (H k) (hs:s.length≤1048576):ag Tryz.prog 142 [.str s,.str [c],.int .i64 0,.int .i64 (-1)] H k=k (.slice H.length 0 (cH c s).length (.ex (cH c s).length),H++[.cells (strs (cH c s)) 9 .rw],z0):=by
 refine ak (r:=(.slice H.length 0 (cH c s).length (.ex (cH c s).length),H++[.cells (strs (cH c s)) 9 .rw],z0)) ?_ k
 refine aa (n:=66) (rs:=[.tmp 8]) Tryz.func142 rfl rfl rfl ?_
 intro σ hl ha
 have h0:=ha 0 (by simp)
 have h1:=ha 1 (by simp)
 have h2:=ha 2 (by simp)
 have h3:=ha 3 (by simp)
 clear ha
 simp only [Option.getD_some,List.getElem?_cons_zero,List.getElem?_cons_succ] at h0 h1 h2 h3
 obtain ⟨S,hS⟩:∃ S,S=cH c s:=⟨_,rfl⟩
 obtain ⟨m,hm⟩:∃ m,m=s.count c:=⟨_,rfl⟩
 have hSl:S.length=m+1:=by rw [hS,rV,hm]
 have hml:m≤s.length:=by rw [hm]; exact List.count_le_length
 rw [← hS,hSl]
 have hcn:=fun k=>IM s c H k
 rw [← hm] at hcn
 have hr0:kW S (m+1) 0=List.replicate (m+1) (.str []):=by simp [kW,strs]
 have hmk:=fun H'=>M9 (m+1) H' (by omega)
 rw [← hr0] at hmk
 have w1:IntKind.i64.wrap ((m:Int)+1)=((m+1:Nat):Int):=aS (by omega)
 have w2:IntKind.i64.wrap ((s.length:Int)+1)=((s.length+1:Nat):Int):=aS (by omega)
 have w3:IntKind.i64.wrap (((m+1:Nat):Int) - 1)=(m:Int):=by rw [wrap_i64 (by omega)]; omega
 have hc0:([c] == ([]:List UInt8))=false:=rfl
 have hmn:=Sl (a:=m+1) (b:=s.length+1) (by omega)
 simp only [go_sem,simprocAttr,hl,h0,h1,h2,h3,hcn,w1,w2,hmn,hmk,w3,hc0]
 refine go_rounds (fun n st=>∃ σ i r e,n+i=m∧S=S.take i++cH c r∧i+r.count c=m∧r.length≤s.length∧st=⟨σ,H++[.cells (kW S (m+1) i) 9 .rw],e⟩∧clean H.length e∧σ.length=66∧fr σ 0=.str r∧fr σ 1=.str [c]∧fr σ 2=.int .i64 0∧fr σ 3=.int .i64 (m:Nat)∧fr σ 9=.slice H.length 0 (m+1) (.ex (m+1))∧fr σ 10=.int .i64 (i:Nat)) m
  ⟨_,0,s,_,rfl,by rw [List.take_zero,List.nil_append,hS],by omega,Nat.le_refl _,rfl,⟨rfl,rfl⟩,by simp only [go_sem,simprocAttr,hl],by simp only [go_sem,simprocAttr,hl,h0],by simp only [go_sem,simprocAttr,hl,h1],by simp only [go_sem,simprocAttr,hl,h2],by simp only [go_sem,simprocAttr,hl,w3],by simp only [go_sem,simprocAttr,hl],by simp only [go_sem,simprocAttr,hl]⟩ ?_
 rintro n _ ⟨σ,i,r,e,hn,hSr,hcr,hrl,rfl,he,hl,h0,h1,h2,h3,h9,h10⟩
 have hrow:=r8 (A:=S) (n:=m+1) (j:=i) hSl (by omega)
 have hw:=aS (show i < 9223372036854775807 by omega)
 have b1:(i:Int) < ((m+1:Nat):Int):=by omega
 by_cases hlt:i < m
 ·rcases P5 r c with ⟨_,hno⟩ | ⟨o,ho,hol,hre,hno⟩
  ·have:=List.count_eq_zero.2 hno; omega
  have hix:=fun H' k=>IL r c H' k
  rw [ho] at hix
  have g0:decide ((o:Int) < 0)=false:=by simp
  have w4:IntKind.i64.wrap ((o:Int)+0)=(o:Int):=by rw [wrap_i64 (by omega)]; omega
  have w5:IntKind.i64.wrap ((o:Int)+1)=((o+1:Nat):Int):=aS (by omega)
  have b2:o≤r.length:=by omega
  have b3:o+1≤r.length:=by omega
  have hsp:cH c r=r.take o::cH c (r.drop (o+1)):=by
   conv=>lhs; rw [hre]
   exact pM c _ _ hno
  have hSi:S[i]?=some (r.take o):=by
   have hil:(S.take i).length=i:=by rw [List.length_take,hSl]; omega
   rw [hSr,List.getElem?_append_right (by omega),hil,Nat.sub_self,hsp]; rfl
  have hput:=oo (n:=m+1) hSi (by omega)
  have e1:(r.drop (o+1)).take (r.length - (o+1))=r.drop (o+1):=List.take_of_length_le (by rw [List.length_drop]; omega)
  have hcr':r.count c=(r.drop (o+1)).count c+1:=by
   conv=>lhs; rw [hre]
   rw [List.count_append,List.count_cons_self,List.count_eq_zero.2 hno]; omega
  simp only [go_sem,simprocAttr,hl,h0,h1,h2,h3,h9,h10,hlt,hix,g0,w4,w5,b1,b2,b3,hrow,hput,hw,e1]
  exact ⟨by omega,n - 1,by omega,_,i+1,r.drop (o+1),_,by omega,by rw [cu hSi,List.append_assoc]; rw [hsp] at hSr; exact hSr,by omega,by rw [List.length_drop]; omega,rfl,by simp only [go_sem,simprocAttr,he],by simp only [go_sem,simprocAttr,hl],by simp only [go_sem,simprocAttr,hl],by simp only [go_sem,simprocAttr,hl,h1],by simp only [go_sem,simprocAttr,hl,h2],by simp only [go_sem,simprocAttr,hl,h3],by simp only [go_sem,simprocAttr,hl,h9],by simp only [go_sem,simprocAttr,hl]⟩
 ·have hi:i=m:=by omega
  subst hi
  have hno:c ∉ r:=List.count_eq_zero.1 (by omega)
  rw [pL c r hno] at hSr
  have hSi:S[i]?=some r:=by
   have hil:(S.take i).length=i:=by rw [List.length_take,hSl]; omega
   rw [hSr,List.getElem?_append_right (by omega),hil,Nat.sub_self]; rfl
  have hput:=oo (n:=i+1) hSi (by omega)
  have hend:=r9 hSl
  have b4:((i+1:Nat):Int)≤((i+1:Nat):Int):=Int.le_refl _
  simp only [go_sem,simprocAttr,hl,h0,h1,h2,h3,h9,h10,hlt,b1,hrow,hput,hw,hend]
  exact gb rfl (by simp only [go_sem,simprocAttr,he])
theorem MA (s:List UInt8) (c:UInt8) (H k) (hs:s.length≤1048576):ag Tryz.prog 116 [.str s,.str [c]] H k=k (.slice H.length 0 (cH c s).length (.ex (cH c s).length),H++[.cells (strs (cH c s)) 9 .rw],z0):=by
 refine ak (r:=(.slice H.length 0 (cH c s).length (.ex (cH c s).length),H++[.cells (strs (cH c s)) 9 .rw],z0)) ?_ k
 refine aa (n:=8) (rs:=[.tmp 4]) Tryz.func116 rfl rfl rfl ?_
 intro σ hl ha
 have h0:=ha 0 (by simp)
 have h1:=ha 1 (by simp)
 clear ha
 simp only [Option.getD_some,List.getElem?_cons_zero,List.getElem?_cons_succ] at h0 h1
 have hi:=fun k=>Bz s c H k hs
 simp only [go_sem,simprocAttr,hl,h0,h1,hi]
end Go.Proofs.YtdppgaphcmhffaaGreatDoor.V
namespace Go.Proofs.YtdppgaphcmhffaaGreatDoor.V
open Go
theorem GH {P:Program} {σ:List AV} {H:Hp} {t:TypeId} {kk:AV × Hp × Ef→Prop} (h:(match tsh P t with | some (.map _ _)=>true | _=>false)=true):opK P σ H (.makeMap t none) kk=kk (.map H.length,H++[.map []],z0):=by
 show aF _ _=_
 simp only [bu]
 split at h
 ·rename_i e; rw [e]; rfl
 ·cases h
attribute [local irreducible] go bt goD opK ag bx aF aH bC

def Own (n:Nat) (T:Hp) (v:AV) (bs:List UInt8):Prop:=∃ m,v=.slice (n+m) 0 bs.length (.op 0)∧T[m]?=some (.cells (u8s bs) 5 (.op 0 false))
theorem Own.rd {H T:Hp} {v:AV} {bs:List UInt8} (h:Own H.length T v bs):Rd (H++T) v bs:=by
 obtain ⟨m,rfl,hm⟩:=h
 exact .inr ⟨_,_,_,[],[],5,.op 0 false,rfl,rfl,by rw [bX,hm]; simp,.inr ⟨rfl,rfl,0,false,rfl⟩⟩

attribute [go_sem ↓] GH
theorem LB {P:Program} {σ:List AV}:aG P σ (.const .nilFunc)=some .tS:=rfl
attribute [go_sem] LB
end Go.Proofs.YtdppgaphcmhffaaGreatDoor.V
namespace Go.Proofs.YtdppgaphcmhffaaGreatDoor.V
open Go

def lb (l:List UInt8):List UInt8:=UInt8.ofNat l.length::l
attribute [local irreducible] go bt goD opK ag bx aF aH bC
end Go.Proofs.YtdppgaphcmhffaaGreatDoor.V
namespace Go.Proofs.YtdppgaphcmhffaaGreatDoor.V
open Go

def RdF (H:Hp) (v:AV) (bs:List UInt8):Prop:=(v=.aI∧bs=[])∨∃ b o pre post e k,v=.slice b o bs.length (.ex bs.length)∧pre.length=o∧H[b]?=some (.cells (pre++(u8s bs++post)) e k)
theorem Rd.full {H:Hp} {v:AV} {bs:List UInt8} (h:Rd H v bs) :
  ∃ y,(∀ l kk,slK Tryz.prog 71 v none (some (.int .i64 (bs.length:Nat))) (some (.int .i64 (bs.length:Nat))) (H++l) kk=kk (y,H++l,z0))∧RdF H y bs:=by
 obtain ⟨rfl,rfl⟩ | ⟨b,o,c,pre,post,e,k,rfl,ho,hb,hc⟩:=h
 ·refine ⟨.aI,fun l kk=>?_,.inl ⟨rfl,rfl⟩⟩
  simp only [go_sem,simprocAttr]
 ·refine ⟨.slice b o bs.length (.ex bs.length),fun l kk=>?_,.inr ⟨b,o,pre,post,e,k,rfl,ho,hb⟩⟩
  have hb':(H++l)[b]?=some (.cells (pre++(u8s bs++post)) e k):=iC hb
  obtain ⟨n,rfl,hn⟩ | ⟨rfl,rfl,fz,st,rfl⟩:=hc
  ·simp only [go_sem,simprocAttr,hb']
   simp [hn]
  ·simp only [go_sem,simprocAttr,hb']
   have:bs.length≤(pre.length+(bs.length+post.length) - o) / 1:=by rw [Nat.div_one]; omega
   simp [this]
   intro _; omega
theorem RdF.rd {H:Hp} {v:AV} {bs:List UInt8} (h:RdF H v bs):Rd H v bs:=by
 obtain h | ⟨b,o,pre,post,e,k,h1,h2,h3⟩:=h
 ·exact .inl h
 ·exact .inr ⟨b,o,_,pre,post,e,k,h1,h2,h3,.inl ⟨_,rfl,Nat.le_refl _⟩⟩
theorem RdF.app {H:Hp} {v:AV} {bs:List UInt8} (h:RdF H v bs) (xs:List AV) (q:Nat) (hq:0 < q) (hx:xs.length=q) (hf:fits (bs.length+q) 1=true) (l:Hp) (kk) :
  aF (c9 Tryz.prog (.slice 5 1 1) v (xs,q) (H++l)) kk=kk (.slice (H++l).length 0 (bs.length+q) (.op 0),H++(l++[.cells (u8s bs++xs) 5 (.op 0 false)]),z0):=by
 have zk:=jC
 obtain ⟨rfl,rfl⟩ | ⟨b,o,pre,post,e,k,rfl,ho,hb⟩:=h
 ·rw [dS (by decide) zk]
  have hd:decide (q=0)=false:=by simp; omega
  have hf:fits q 1=true:=by simpa using hf
  simp only [hd,cn,hf,true_and,List.append_assoc]
  simp [u8s]
 ·have hb':(H++l)[b]?=some (.cells (pre++(u8s bs++post)) e k):=iC hb
  rw [lY (by decide) zk]
  have hd:decide (bs.length+q≤bs.length)=false:=by simp; omega
  have hr:V.rd (H++l) b o (bs.length*1)=some (u8s bs):=by
   unfold V.rd
   rw [hb']
   simp only
   rw [if_pos (by rw [List.length_append,List.length_append,bz]; omega)]
   rw [← ho,List.drop_left,Nat.mul_one,List.take_append_of_le_length (by rw [bz]; omega),List.take_of_length_le (by rw [bz]; omega)]
  simp only [hd,cn,hf,true_and,hr,aD,List.append_assoc]

attribute [local irreducible] go bt goD opK ag bx aF aH bC

end Go.Proofs.YtdppgaphcmhffaaGreatDoor.V
namespace Go.Proofs.YtdppgaphcmhffaaGreatDoor.V
open Go

abbrev Tab:=List (List UInt8 × Nat)
def RK:Tab→List UInt8→Option Nat
 | [],_=>none
 | (k,p)::r,s=>if k=s then some p else RK r s
theorem Gv {n:Nat} {a b:Option Nat}:low n (eD a b)=none↔low n a=none∧low n b=none:=by
 cases a <;> cases b <;> simp [eD,low]
 omega
theorem aV {n:Nat} {a b:Ef}:clean n (a.and b)↔clean n a∧clean n b:=by
 unfold clean Ef.and
 simp only [Gv]
 constructor
 ·rintro ⟨⟨h1,h2⟩,h3,h4⟩; exact ⟨⟨h1,h3⟩,h2,h4⟩
 ·rintro ⟨⟨h1,h3⟩,h2,h4⟩; exact ⟨⟨h1,h2⟩,h3,h4⟩
theorem A8 {n:Nat} {a b:Option Nat}:clean n ⟨a,b⟩↔low n a=none∧low n b=none:=Iff.rfl
theorem Jt {n x:Nat}:low n (some x)=none↔n≤x:=by simp [low]
theorem rA {n:Nat}:clean n z0↔True:=by simp [clean,z0,low]
theorem eH {n m:Nat} {e:Ef} (h:clean n e):clean n ⟨low m e.es,low m e.ws⟩:=⟨kB h.1,kB h.2⟩
def Es (j:Nat) (e:Ef):Prop:=∃ x,e.es=some x∧x≤j
theorem Es.l {j:Nat} {a b:Ef} (h:Es j a):Es j (a.and b):=by
 obtain ⟨x,h1,h2⟩:=h
 unfold Es Ef.and
 cases hb:b.es with
 | none=>exact ⟨x,by simp [h1,eD],h2⟩
 | some y=>exact ⟨min x y,by simp [h1,eD],by omega⟩
theorem Es.r {j:Nat} {a b:Ef} (h:Es j b):Es j (a.and b):=by
 obtain ⟨x,h1,h2⟩:=h
 unfold Es Ef.and
 cases hb:a.es with
 | none=>exact ⟨x,by simp [h1,eD],h2⟩
 | some y=>exact ⟨min y x,by simp [h1,eD],by omega⟩
theorem Es.leave {j m:Nat} {e:Ef} (h:Es j e) (hj:j < m) (v:AV) (H:Hp):leave m v H e=(v,H,⟨low m e.es,low m e.ws⟩):=by
 obtain ⟨x,h1,h2⟩:=h
 unfold V.leave
 rw [if_neg (by rw [h1,dP (by omega)]; simp)]
theorem Es.low {j m:Nat} {e:Ef} (h:Es j e) (hj:j < m):Es j ⟨V.low m e.es,V.low m e.ws⟩:=by
 obtain ⟨x,h1,h2⟩:=h
 exact ⟨x,by show V.low m e.es=_; rw [h1,dP (by omega)],h2⟩
theorem b7 {n x:Nat}:clean n ⟨none,some x⟩↔n≤x:=by simp [clean,low]
theorem lV {n x y:Nat}:clean n ⟨some y,some x⟩↔n≤y∧n≤x:=by simp [clean,low]
theorem AK:∀ s:List UInt8,bK (u8s s)=true
 | []=>rfl
 | c::s=>by
  have:=AK s
  unfold u8s at this ⊢
  rw [List.map_cons]
  simp only [bK,flat,this,Bool.and_self]
def bk:AV→Option Nat
 | .slice b _ _ _=>some b
 | _=>none
def Bf (mb:Nat) (H:Hp) (v:AV) (bs:List UInt8):Prop:=(v=.aI∧bs=[]) ∨
 ∃ b c post k,mb < b∧v=.slice b 0 bs.length c∧H[b]?=some (.cells (u8s bs++post) 5 k) ∧
  ((∃ n,c=.ex n∧bs.length≤n∧n≤bs.length+post.length∧(k=.rw∨∃ st,k=.op 0 st))∨(c=.op 0∧post=[]∧∃ st,k=.op 0 st))
theorem Bf.rd {mb:Nat} {H:Hp} {v:AV} {bs:List UInt8} (h:Bf mb H v bs):Rd H v bs:=by
 obtain h | ⟨b,c,post,k,h1,h2,h3,h4⟩:=h
 ·exact .inl h
 ·obtain ⟨n,rfl,h5,h6,h7⟩ | ⟨rfl,rfl,st,rfl⟩:=h4
  ·exact .inr ⟨b,0,_,[],post,_,k,h2,rfl,h3,.inl ⟨n,rfl,h5⟩⟩
  ·exact .inr ⟨b,0,_,[],[],_,_,h2,rfl,h3,.inr ⟨rfl,rfl,0,st,rfl⟩⟩
theorem Bf.keep {mb:Nat} {H H':Hp} {v:AV} {bs:List UInt8} (h:Bf mb H v bs) (hk:∀ i x,bk v=some i→H[i]?=some x→H'[i]?=some x):Bf mb H' v bs:=by
 obtain h | ⟨b,c,post,k,h1,rfl,h3,h4⟩:=h
 ·exact .inl h
 ·exact .inr ⟨b,c,post,k,h1,rfl,hk b _ rfl h3,h4⟩
theorem Bf.lt {mb:Nat} {H:Hp} {v:AV} {bs:List UInt8} (h:Bf mb H v bs) {i:Nat} (hi:bk v=some i):mb < i∧i < H.length:=by
 obtain ⟨rfl,_⟩ | ⟨b,c,post,k,h1,rfl,h3,h4⟩:=h
 ·cases hi
 ·cases hi; exact ⟨h1,ai h3⟩
theorem Bf.scl {mb:Nat} {H:Hp} {v:AV} {bs:List UInt8} (h:Bf mb H v bs):cK v=true:=by
 obtain ⟨rfl,_⟩ | ⟨b,c,post,k,h1,rfl,h3,h4⟩:=h <;> rfl
theorem Bf.mono {mb mb':Nat} {H:Hp} {v:AV} {bs:List UInt8} (h:Bf mb H v bs) (hm:mb'≤mb):Bf mb' H v bs:=by
 obtain h | ⟨b,c,post,k,h1,h2⟩:=h
 ·exact .inl h
 ·exact .inr ⟨b,c,post,k,by omega,h2⟩
theorem rW {bs xs:List UInt8} {post:List AV} (h:xs.length≤post.length):splice (u8s bs++post) bs.length (u8s xs)=u8s (bs++xs)++post.drop xs.length:=by
 unfold splice
 rw [List.take_append_of_le_length (by rw [bz]; exact Nat.le_refl _),List.take_of_length_le (by rw [bz]; exact Nat.le_refl _),j8,bz,List.append_assoc,List.append_assoc,List.drop_append,bz,
  List.drop_eq_nil_of_le (by rw [bz]; omega),List.nil_append]
 congr 3; omega
theorem Bf.app {mb:Nat} {H:Hp} {v:AV} {bs:List UInt8} (h:Bf mb H v bs) (hm:mb < H.length) (xs:List UInt8) (hf:fits (bs.length+xs.length) 1=true) :
  ∃ v' H' e',(∀ kk,aF (c9 Tryz.prog (.slice 5 1 1) v (u8s xs,xs.length) H) kk=kk (v',H',e'))∧Bf mb H' v' (bs++xs)∧H.length≤H'.length ∧
   (∀ i x,bk v≠some i→H[i]?=some x→H'[i]?=some x)∧clean mb e'∧(bk v'=bk v∨∃ j,bk v'=some j∧H.length≤j):=by
 have zk:=jC
 obtain ⟨rfl,rfl⟩ | ⟨b,c,post,k,hb,rfl,hg,hc⟩:=h
 ·by_cases hx:xs=[]
  ·subst hx
   refine ⟨.aI,H,z0,fun kk=>?_,.inl ⟨rfl,rfl⟩,Nat.le_refl _,fun i x _ hx=>hx,by simp [clean,z0,low],.inl rfl⟩
   rw [dS (by decide) zk]
   simp [cV]
  ·have hp:0 < xs.length:=List.length_pos_iff.2 hx
   refine ⟨.slice H.length 0 xs.length (.op 0),H++[.cells (u8s xs) 5 (.op 0 false)],z0,fun kk=>?_,.inr ⟨H.length,.op 0,[],.op 0 false,hm,by simp,by simp,.inr ⟨rfl,rfl,false,rfl⟩⟩,by simp,fun i x _ hx=>ah hx,by simp [clean,z0,low],.inr ⟨_,rfl,Nat.le_refl _⟩⟩
   rw [dS (by decide) zk]
   have hd:decide (xs.length=0)=false:=by simp; exact hx
   have hf:fits xs.length 1=true:=by simpa using hf
   simp only [hd,cn,hf,true_and]
 ·have hlt:=ai hg
  have hset:∀ (y:bp) (i:Nat) (x:bp),bk (.slice b 0 bs.length c)≠some i→H[i]?=some x→(H.set b y)[i]?=some x:=by
   intro y i x hi hx
   rw [List.getElem?_set_ne (by intro e; exact hi (by rw [e]; rfl))]; exact hx
  have hnew:∀ (y:bp) (st:Bool),(∀ kk,aF (c9 Tryz.prog (.slice 5 1 1) (.slice b 0 bs.length c) (u8s xs,xs.length) H) kk=kk (.slice H.length 0 (bs.length+xs.length) (.op 0),H.set b y++[.cells (u8s (bs++xs)) 5 (.op 0 st)],⟨none,some b⟩)) →
    ∃ v' H' e',(∀ kk,aF (c9 Tryz.prog (.slice 5 1 1) (.slice b 0 bs.length c) (u8s xs,xs.length) H) kk=kk (v',H',e'))∧Bf mb H' v' (bs++xs)∧H.length≤H'.length ∧
     (∀ i x,bk (.slice b 0 bs.length c)≠some i→H[i]?=some x→H'[i]?=some x)∧clean mb e'∧(bk v'=bk (.slice b 0 bs.length c)∨∃ j,bk v'=some j∧H.length≤j):=by
   intro y st hy
   refine ⟨_,_,_,hy,.inr ⟨H.length,.op 0,[],.op 0 st,hm,by simp,?_,.inr ⟨rfl,rfl,st,rfl⟩⟩,by simp,fun i x hi hx=>ah (hset y i x hi hx),by simp [clean,low]; omega,.inr ⟨_,rfl,Nat.le_refl _⟩⟩
   rw [List.getElem?_append_right (by simp)]; simp
  obtain ⟨n,rfl,h5,h6,h7⟩ | ⟨rfl,rfl,st,rfl⟩:=hc
  ·have hcan:gE k bs.length=true:=by
    rcases h7 with rfl | ⟨st,rfl⟩
    ·rfl
    ·simp [gE]
   by_cases hroom:bs.length+xs.length≤n
   ·refine ⟨.slice b 0 (bs.length+xs.length) (.ex n),H.set b (.cells (u8s (bs++xs)++post.drop xs.length) 5 k),⟨none,some b⟩,fun kk=>?_,.inr ⟨b,.ex n,post.drop xs.length,k,hb,by simp,by rw [List.getElem?_set_self hlt],.inl ⟨n,rfl,by simp; omega,by simp; omega,h7⟩⟩,by simp,hset _,by simp [clean,low]; omega,.inl rfl⟩
    rw [lY (by decide) zk]
    have hd:decide (bs.length+xs.length≤n)=true:=by simpa using hroom
    have hw:wr H b (0+bs.length*1) (u8s xs)=some (H.set b (.cells (u8s (bs++xs)++post.drop xs.length) 5 k),⟨none,some b⟩):=by
     unfold wr
     rw [hg]
     simp only [Nat.zero_add,Nat.mul_one]
     rw [if_pos ⟨by rw [List.length_append,bz,bz]; omega,hcan,ja⟩,rW (by omega),AK]
     rfl
    simp only [hd,cV,hw,aD]
   ·refine ⟨.slice H.length 0 (bs.length+xs.length) (.op 0),H++[.cells (u8s (bs++xs)) 5 (.op 0 false)],z0,fun kk=>?_,.inr ⟨H.length,.op 0,[],.op 0 false,hm,by simp,by simp,.inr ⟨rfl,rfl,false,rfl⟩⟩,by simp,fun i x _ hx=>ah hx,by simp [clean,z0,low],.inr ⟨_,rfl,Nat.le_refl _⟩⟩
    rw [lY (by decide) zk]
    have hd:decide (bs.length+xs.length≤n)=false:=by simpa using hroom
    have hr:V.rd H b 0 (bs.length*1)=some (u8s bs):=by
     unfold V.rd
     rw [hg]
     simp only
     rw [if_pos (by rw [List.length_append,bz]; omega)]
     rw [List.drop_zero,Nat.mul_one,List.take_append_of_le_length (by rw [bz]; omega),List.take_of_length_le (by rw [bz]; omega)]
    simp only [hd,cn,hf,true_and,hr,aD,j8]
  ·simp only [List.append_nil] at hg
   by_cases hx:xs=[]
   ·subst hx
    refine ⟨.slice b 0 bs.length (.op 0),H,⟨none,some b⟩,fun kk=>?_,.inr ⟨b,.op 0,[],.op 0 st,hb,by simp,by simpa using hg,.inr ⟨rfl,rfl,st,rfl⟩⟩,Nat.le_refl _,fun i x _ hx=>hx,by simp [clean,low]; omega,.inl rfl⟩
    rw [eC (by decide) zk,hg,aD,hU]
    have hd:decide (0+(bs.length+0)*1≤(u8s bs).length)=true:=by rw [bz]; simp
    have hw:wr H b (0+bs.length*1) (u8s [])=some (H,⟨none,some b⟩):=by
     unfold wr
     rw [hg]
     simp only [Nat.zero_add,Nat.mul_one]
     have hs:splice (u8s bs) bs.length (u8s [])=u8s bs:=by have:=rW (bs:=bs) (xs:=[]) (post:=[]) (by simp); simpa using this
     rw [if_pos ⟨by rw [bz,bz]; simp,by simp [gE],ja⟩,hs,eT hg]
     rfl
    simp only [List.length_nil,hd,cV,hw,aD]
    simp [bz]
   ·have hp:0 < xs.length:=List.length_pos_iff.2 hx
    refine hnew .dead st fun kk=>?_
    rw [eC (by decide) zk,hg,aD,hU]
    have hd:decide (bs.length+xs.length≤bs.length)=false:=by simp; omega
    have hz:bs.length*1=bs.length:=Nat.mul_one _
    have hk:((u8s bs).drop 0).take (bs.length*1)++u8s xs=u8s (bs++xs):=by
     rw [List.drop_zero,Nat.mul_one,List.take_of_length_le (by rw [bz]; omega),j8]
    rw [Nat.mul_one] at hk
    simp only [bz,Nat.zero_add,Nat.mul_one,hd,cn,hk,hf,ja]
    simp
theorem Bf.full {mb:Nat} {H:Hp} {v:AV} {bs:List UInt8} (h:Bf mb H v bs) :
  ∃ y,(∀ l kk,slK Tryz.prog 71 v none (some (.int .i64 (bs.length:Nat))) (some (.int .i64 (bs.length:Nat))) (H++l) kk=kk (y,H++l,z0))∧Bf mb H y bs∧bk y=bk v∧(y=.aI∨∃ b,y=.slice b 0 bs.length (.ex bs.length)):=by
 obtain ⟨rfl,rfl⟩ | ⟨b,c,post,k,hb,rfl,hg,hc⟩:=h
 ·refine ⟨.aI,fun l kk=>?_,.inl ⟨rfl,rfl⟩,rfl,.inl rfl⟩
  simp only [go_sem,simprocAttr]
 ·refine ⟨.slice b 0 bs.length (.ex bs.length),fun l kk=>?_,.inr ⟨b,.ex bs.length,post,k,hb,rfl,hg,.inl ⟨_,rfl,Nat.le_refl _,by omega,?_⟩⟩,rfl,.inr ⟨b,rfl⟩⟩
  ·have hg':(H++l)[b]?=some (.cells (u8s bs++post) 5 k):=iC hg
   obtain ⟨n,rfl,h5,h6,h7⟩ | ⟨rfl,rfl,st,rfl⟩:=hc
   ·simp only [go_sem,simprocAttr,hg']
    simp [h5]
   ·simp only [go_sem,simprocAttr,hg']
    simp
  ·obtain ⟨n,rfl,h5,h6,h7⟩ | ⟨rfl,rfl,st,rfl⟩:=hc
   ·exact h7
   ·exact .inr ⟨st,rfl⟩
end Go.Proofs.YtdppgaphcmhffaaGreatDoor.V
namespace Go.Proofs.YtdppgaphcmhffaaGreatDoor.V
open Go
attribute [local irreducible] go bt goD opK ag bx aF aH bC

theorem Rd.Ro {H:Hp} {v:AV} {bs:List UInt8} (h:Rd H v bs):appended H 1 v=some (u8s bs,bs.length):=by
 obtain ⟨rfl,rfl⟩ | ⟨b,o,c,pre,post,e,k,rfl,ho,hb,hc⟩:=h
 ·rfl
 ·have hr:V.rd H b o (bs.length*1)=some (u8s bs):=by
   unfold V.rd
   rw [hb]
   simp only
   rw [if_pos (by rw [List.length_append,List.length_append,bz]; omega)]
   rw [← ho,List.drop_left,Nat.mul_one,List.take_append_of_le_length (by rw [bz]; omega),List.take_of_length_le (by rw [bz]; omega)]
  simp only [appended,hr,Option.map_some]
theorem Rd.upd {H:Hp} {v:AV} {bs:List UInt8} {mb:Nat} {es:List (AV × AV)} (h:Rd (H.set mb (.map es)) v bs) (es':List (AV × AV)) (l:Hp):Rd (H.set mb (.map es')++l) v bs:=by
 obtain h | ⟨b,o,c,pre,post,e,k,h1,h2,h3,h4⟩:=h
 ·exact .inl h
 ·refine .inr ⟨b,o,c,pre,post,e,k,h1,h2,ah ?_,h4⟩
  rw [List.getElem?_set] at h3 ⊢
  split at h3
  ·split at h3 <;> cases h3
  ·rename_i hne
   rw [if_neg hne]; exact h3

end Go.Proofs.YtdppgaphcmhffaaGreatDoor.V
namespace Go.Proofs.YtdppgaphcmhffaaGreatDoor.V
open Go

theorem Bf.cells {mb:Nat} {H:Hp} {v:AV} {bs:List UInt8} (h:Bf mb H v bs) {i:Nat} (hi:bk v=some i):∃ post k,H[i]?=some (.cells (u8s bs++post) 5 k):=by
 obtain ⟨rfl,_⟩ | ⟨b,c,post,k,h1,rfl,h3,h4⟩:=h
 ·cases hi
 ·cases hi; exact ⟨_,_,h3⟩
attribute [local irreducible] go bt goD opK ag bx aF aH bC
end Go.Proofs.YtdppgaphcmhffaaGreatDoor.V
namespace Go.Proofs.YtdppgaphcmhffaaGreatDoor.V
open Go

def Og (n:Nat) (e:TypeId) (H:Hp) (v:AV) (cs:List AV):Prop:=(v=.aI∧cs=[])∨∃ b,n≤b∧v=.slice b 0 cs.length (.op 0)∧H[b]?=some (.cells cs e (.op 0 false))∧cs≠[]
theorem Og.keep {n:Nat} {e:TypeId} {H H':Hp} {v:AV} {cs:List AV} (h:Og n e H v cs) (hk:∀ (i:Nat) (x:bp),bk v=some i→H[i]?=some x→H'[i]?=some x):Og n e H' v cs:=by
 obtain h | ⟨b,h1,rfl,h3,h4⟩:=h
 ·exact .inl h
 ·exact .inr ⟨b,h1,rfl,hk b _ rfl h3,h4⟩
theorem Og.cells {n:Nat} {e:TypeId} {H:Hp} {v:AV} {cs:List AV} (h:Og n e H v cs) {i:Nat} (hi:bk v=some i):n≤i∧H[i]?=some (.cells cs e (.op 0 false)):=by
 obtain ⟨rfl,_⟩ | ⟨b,h1,rfl,h3,h4⟩:=h
 ·cases hi
 ·cases hi; exact ⟨h1,h3⟩
theorem Og.scl {n:Nat} {e:TypeId} {H:Hp} {v:AV} {cs:List AV} (h:Og n e H v cs):cK v=true:=by
 obtain ⟨rfl,_⟩ | ⟨b,h1,rfl,h3,h4⟩:=h <;> rfl
theorem Og.vc {n:Nat} {e:TypeId} {H:Hp} {v:AV} {cs:List AV} (h:Og n e H v cs):bH v=[v]:=by
 obtain ⟨rfl,_⟩ | ⟨b,h1,rfl,h3,h4⟩:=h <;> rfl
theorem Og.Ro {n:Nat} {e:TypeId} {H:Hp} {v:AV} {cs:List AV} (h:Og n e H v cs):appended H 1 v=some (cs,cs.length):=by
 obtain ⟨rfl,rfl⟩ | ⟨b,h1,rfl,h3,h4⟩:=h
 ·rfl
 ·have hr:V.rd H b 0 (cs.length*1)=some cs:=by
   unfold V.rd
   rw [h3]
   simp
  simp only [appended,hr,Option.map_some]
theorem Og.len {n:Nat} {e t w:Nat} {H:Hp} {v:AV} {cs:List AV} (h:Og n e H v cs) (ht:tsh Tryz.prog t=some (.slice e 1 w)) (H':Hp):bY Tryz.prog t v H'=some (.int .i64 cs.length):=by
 obtain ⟨rfl,rfl⟩ | ⟨b,h1,rfl,h3,h4⟩:=h <;> simp only [bY,ht] <;> rfl
theorem Og.at {n:Nat} {e t w:Nat} {H:Hp} {v:AV} {cs:List AV} (h:Og n e H v cs) (ht:tsh Tryz.prog t=some (.slice e 1 w)) {i:Nat} {x:AV} (hx:cs[i]?=some x) :
  ∃ b,aN Tryz.prog t v (.int .i64 (i:Nat))=some (.ptr b i)∧H[b]?=some (.cells cs e (.op 0 false))∧∀ (e':TypeId) (k:Kd),ldC i 1 false (.cells cs e' k)=some x:=by
 have hi:=(List.getElem?_eq_some_iff.1 hx).1
 obtain ⟨rfl,rfl⟩ | ⟨b,h1,rfl,h3,h4⟩:=h
 ·simp at hi
 ·refine ⟨b,?_,h3,fun e' k=>by rw [sE]; exact hx⟩
  simp only [aN,ht]
  rw [if_pos (by omega)]
  simp
theorem Og.app {n:Nat} {e w:Nat} {H:Hp} {v:AV} {cs:List AV} (h:Og n e H v cs) (hn:n≤H.length) (zk:zok Tryz.prog e 1=true) (xs:List AV) (hsc:xs.all cK=true) (hf:fits (cs.length+xs.length) w=true) :
  ∃ (v':AV) (H':Hp) (e':Ef),(∀ kk,aF (c9 Tryz.prog (.slice e 1 w) v (xs,xs.length) H) kk=kk (v',H',e'))∧Og n e H' v' (cs++xs)∧H.length≤H'.length ∧
   (∀ (i:Nat) (x:bp),bk v≠some i→H[i]?=some x→H'[i]?=some x)∧clean n e'∧(bk v'=bk v∨∃ j,bk v'=some j∧H.length≤j)∧(xs≠[]→flat v'=false)∧(xs=[]→v'=v∧H'=H):=by
 obtain ⟨rfl,rfl⟩ | ⟨b,hb,rfl,hg,hne⟩:=h
 ·by_cases hx:xs=[]
  ·subst hx
   refine ⟨.aI,H,z0,fun kk=>?_,.inl ⟨rfl,rfl⟩,Nat.le_refl _,fun i x _ hx=>hx,by simp [clean,z0,low],.inl rfl,fun h=>absurd rfl h,fun _=>⟨rfl,rfl⟩⟩
   rw [dS (by decide) zk]
   simp [cV]
  ·have hp:0 < xs.length:=List.length_pos_iff.2 hx
   refine ⟨.slice H.length 0 xs.length (.op 0),H++[.cells xs e (.op 0 false)],z0,fun kk=>?_,.inr ⟨H.length,hn,by simp,by simp,by simpa using hx⟩,by simp,fun i x _ hx=>ah hx,by simp [clean,z0,low],.inr ⟨_,rfl,Nat.le_refl _⟩,fun _=>rfl,fun h=>absurd h hx⟩
   rw [dS (by decide) zk]
   have hd:decide (xs.length=0)=false:=by simp; exact hx
   have hf:fits xs.length w=true:=by simpa using hf
   simp only [hd,cn,hf,true_and]
 ·have hlt:=ai hg
  by_cases hx:xs=[]
  ·subst hx
   refine ⟨.slice b 0 cs.length (.op 0),H,⟨none,some b⟩,fun kk=>?_,.inr ⟨b,hb,by simp,by simpa using hg,by simpa using hne⟩,Nat.le_refl _,fun i x _ hx=>hx,by simp [clean,low]; omega,.inl rfl,fun h=>absurd rfl h,fun _=>⟨rfl,rfl⟩⟩
   rw [eC (by decide) zk,hg,aD,hU]
   have hd:decide (0+(cs.length+0)*1≤cs.length)=true:=by simp
   have hw:wr H b (0+cs.length*1) []=some (H,⟨none,some b⟩):=by
    unfold wr
    rw [hg]
    simp only [Nat.zero_add,Nat.mul_one]
    have hs:splice cs cs.length []=cs:=by simp [splice]
    rw [if_pos ⟨by simp,by simp [gE],by simp⟩,hs,eT hg]
    rfl
   simp only [List.length_nil,hd,cV,hw,aD]
   simp
  ·have hp:0 < xs.length:=List.length_pos_iff.2 hx
   refine ⟨.slice H.length 0 (cs.length+xs.length) (.op 0),H.set b .dead++[.cells (cs++xs) e (.op 0 false)],⟨none,some b⟩,fun kk=>?_,.inr ⟨H.length,hn,by simp,by rw [List.getElem?_append_right (by simp)]; simp,by simp [hne]⟩,by simp,
    fun i x hi hx=>ah (by rw [List.getElem?_set_ne (by rintro rfl; exact hi rfl)]; exact hx),by simp [clean,low]; omega,.inr ⟨_,rfl,Nat.le_refl _⟩,fun _=>rfl,fun h=>absurd h hx⟩
   rw [eC (by decide) zk,hg,aD,hU]
   have hd:decide (cs.length+xs.length≤cs.length)=false:=by simp; omega
   have hk:(cs.drop 0).take cs.length++xs=cs++xs:=by simp
   simp only [Nat.zero_add,Nat.mul_one,hd,cn,hk,hf,hsc]
   simp
attribute [local irreducible] go bt goD opK ag bx aF aH bC

end Go.Proofs.YtdppgaphcmhffaaGreatDoor.V
namespace Go.Proofs.YtdppgaphcmhffaaGreatDoor.V
open Go
attribute [local irreducible] go bt goD opK ag bx aF aH bC
end Go.Proofs.YtdppgaphcmhffaaGreatDoor.V
namespace Go.Proofs.YtdppgaphcmhffaaGreatDoor.V
open Go

theorem Og.other {n n':Nat} {e e':TypeId} {H:Hp} {v v':AV} {cs cs':List AV} (h:Og n e H v cs) (h':Og n' e' H v' cs') (hne:e≠e') {i:Nat} (hi:bk v=some i):bk v'≠some i:=by
 intro hh
 have h1:=(h.cells hi).2
 have h2:=(h'.cells hh).2
 rw [h1] at h2
 simp only [Option.some.injEq,bp.cells.injEq] at h2
 exact hne h2.2.1
structure Rw (H:Hp) (L:List (List UInt8)) (lk:Nat) (Hc:Hp) (nv pv ov:AV) (N P O:List AV):Prop where
 le:H.length≤Hc.length
 N:Og H.length 24 Hc nv N
 P:Og H.length 3 Hc pv P
 O:Og H.length 5 Hc ov O
 lab:L≠[]→Hc[lk]?=some (.cells (strs L) 9 (.op 0 false))
 old:∀ (i:Nat) (x:bp),H[i]?=some x→Hc[i]?=some x
section
variable {H Hc:Hp} {L:List (List UInt8)} {lk:Nat} {nv pv ov:AV} {N P O:List AV}
theorem Rw.more (h:Rw H L lk Hc nv pv ov N P O) (l:Hp):Rw H L lk (Hc++l) nv pv ov N P O where
 le:=by have:=h.le; simp; omega
 N:=h.N.keep (fun i x _ hx=>ah hx)
 P:=h.P.keep (fun i x _ hx=>ah hx)
 O:=h.O.keep (fun i x _ hx=>ah hx)
 lab:=fun hL=>ah (h.lab hL)
 old:=fun i x hx=>ah (h.old i x hx)
theorem Rw.OJ (h:Rw H L lk Hc nv pv ov N P O) (xs:List AV) (hsc:xs.all cK=true) (hf:fits (O.length+xs.length) 1=true) :
  ∃ (v':AV) (H':Hp) (e':Ef),(∀ kk,aF (c9 Tryz.prog (.slice 5 1 1) ov (xs,xs.length) Hc) kk=kk (v',H',e'))∧Rw H L lk H' nv pv v' N P (O++xs)∧clean H.length e'∧(xs≠[]→flat v'=false):=by
 obtain ⟨v',H',e',h1,h2,h3,h4,h5,_,h7,_⟩:=h.O.app (w:=1) h.le jC xs hsc hf
 refine ⟨v',H',e',h1,⟨by have:=h.le; omega,h.N.keep (fun i x hi hx=>h4 i x (h.N.other h.O (by decide) hi) hx),h.P.keep (fun i x hi hx=>h4 i x (h.P.other h.O (by decide) hi) hx),h2,fun hL=>h4 _ _ (fun hh=>?_) (h.lab hL),fun i x hx=>h4 i x (fun hh=>?_) (h.old i x hx)⟩,h5,h7⟩
 ·have:=(h.O.cells hh).2
  rw [h.lab hL] at this
  simp only [Option.some.injEq,bp.cells.injEq] at this
  exact absurd this.2.1 (by decide)
 ·have:=(h.O.cells hh).1
  have:=ai hx
  omega
end
theorem Og.mono {n m:Nat} {e:TypeId} {H:Hp} {v:AV} {cs:List AV} (h:Og n e H v cs) (hm:m≤n):Og m e H v cs:=by
 obtain h | ⟨b,h1,h2⟩:=h
 ·exact .inl h
 ·exact .inr ⟨b,by omega,h2⟩
attribute [local irreducible] go bt goD opK ag bx aF aH bC
end Go.Proofs.YtdppgaphcmhffaaGreatDoor.V
namespace Go.Proofs.YtdppgaphcmhffaaGreatDoor.V
open Go
attribute [local irreducible] go bt goD opK ag bx aF aH bC
end Go.Proofs.YtdppgaphcmhffaaGreatDoor.V
namespace Go.Proofs.YtdppgaphcmhffaaGreatDoor.V
open Go
theorem Og.rd {n:Nat} {H:Hp} {v:AV} {bs:List UInt8} (h:Og n 5 H v (u8s bs)):Rd H v bs:=by
 obtain ⟨rfl,h2⟩ | ⟨b,h1,rfl,h3,h4⟩:=h
 ·exact .inl ⟨rfl,by simpa [u8s] using h2⟩
 ·exact .inr ⟨b,0,_,[],[],_,_,by rw [bz],rfl,by simpa using h3,.inr ⟨rfl,rfl,0,false,rfl⟩⟩
attribute [local irreducible] go bt goD opK ag bx aF aH bC
end Go.Proofs.YtdppgaphcmhffaaGreatDoor.V
namespace Go.Proofs.YtdppgaphcmhffaaGreatDoor.V
open Go
attribute [local irreducible] go bt goD opK ag bx aF aH bC

end Go.Proofs.YtdppgaphcmhffaaGreatDoor.V
namespace Go.Proofs.YtdppgaphcmhffaaGreatDoor.V
open Go
structure Itm where
 skip:Int
 ty:Int
 d:Dt
def Itm.cells (x:Itm):List AV:=.int .i64 x.skip::.int .u16 x.ty::x.d.cells
theorem Itm.len (x:Itm):x.cells.length=10:=rfl
theorem mz {H Hc:Hp} {v:AV} {e:Ef} (hv:flat v=true) (he:clean H.length e) (hk:∀ (i:Nat) (x:bp),H[i]?=some x→Hc[i]?=some x):leave H.length v Hc e=(v,H,z0):=by
 have ht:Hc.take H.length=H:=by
  apply List.ext_getElem?
  intro i
  by_cases hi:i < H.length
  ·rw [List.getElem?_take_of_lt hi]
   have:=List.getElem?_eq_getElem hi
   rw [this]; exact hk i _ this
  ·rw [List.getElem?_eq_none (by rw [List.length_take]; omega),List.getElem?_eq_none (by omega)]
 unfold leave
 rw [if_pos ⟨hv,he.1⟩,ht,he.1,he.2]
 rfl
theorem Tk.old' {H H':Hp} (h:Tk H) (hk:∀ (i:Nat) (x:bp),H[i]?=some x→H'[i]?=some x):Tk H':=by
 obtain ⟨e,k,h⟩:=h; exact ⟨e,k,hk _ _ h⟩
theorem Tb.old' {H H':Hp} (h:Tb H) (hk:∀ (i:Nat) (x:bp),H[i]?=some x→H'[i]?=some x):Tb H':=by
 obtain ⟨e,k,h⟩:=h; exact ⟨e,k,hk _ _ h⟩
theorem Db.old' {H H':Hp} (h:Db H) (hk:∀ (i:Nat) (x:bp),H[i]?=some x→H'[i]?=some x):Db H':=by
 obtain ⟨e,k,h⟩:=h; exact ⟨e,k,hk _ _ h⟩
attribute [local irreducible] go bt goD opK ag bx aF aH bC
end Go.Proofs.YtdppgaphcmhffaaGreatDoor.V
namespace Go.Proofs.YtdppgaphcmhffaaGreatDoor.V
open Go
attribute [local irreducible] go bt goD opK ag bx aF aH bC

theorem Rd.keep {H H':Hp} {v:AV} {bs:List UInt8} (h:Rd H v bs) (hk:∀ (i:Nat) (x:bp),H[i]?=some x→H'[i]?=some x):Rd H' v bs:=by
 obtain h | ⟨b,o,c,pre,post,e,k,h1,h2,h3,h4⟩:=h
 ·exact .inl h
 ·exact .inr ⟨b,o,c,pre,post,e,k,h1,h2,hk _ _ h3,h4⟩
theorem Rv.Ro {H:Hp} {v:AV} {bs:List UInt8} (h:Rv H v bs):appended H 1 v=some (u8s bs,bs.length):=by
 obtain h | ⟨b,rfl,hb,rfl⟩:=h
 ·exact h.Ro
 ·have hr:V.rd H b 0 (0*1)=some []:=by
   unfold V.rd
   rw [hb]
   rfl
  simp only [appended,hr,Option.map_some]
  rfl

theorem Rv.nm {H:Hp} {v:AV} {bs:List UInt8} (h:Rv H v bs):aZ Tryz.prog 71 24 v H=some (.str bs,H):=by
 obtain ⟨rfl,rfl⟩ | ⟨b,o,c,rfl,hr⟩:=h.rd
 ·exact AZ
 ·rw [tv,hr,Option.bind_some,qV]; rfl

def Px (c d:UInt8):Nat:=(256*c.toNat+d.toNat) % 16384
def Rn (bs:List UInt8):Nat→Nat→Nat→List UInt8→Nat→Prop
 | 0,_,a,n,nx=>bs[a]?=some 0∧n=[0]∧nx=a+1
 | m+1,row,a,n,nx =>
  (∃ c n',bs[a]?=some c∧0 < c.toNat∧c.toNat≤63∧a+1+c.toNat≤bs.length∧n=(bs.drop a).take (1+c.toNat)++n'∧Rn bs m row (a+1+c.toNat) n' nx) ∨
  (∃ c d nx',bs[a]?=some c∧192≤c.toNat∧bs[a+1]?=some d∧nx=a+2∧Px c d < row∧Rn bs m (Px c d) (Px c d) n nx')
theorem Rn.pos {bs:List UInt8}:∀ {m row a:Nat} {n:List UInt8} {nx:Nat},Rn bs m row a n nx→0 < n.length∧a < nx∧nx≤bs.length
 | 0,_,a,n,nx,h=>by obtain ⟨h1,rfl,rfl⟩:=h; exact ⟨by simp,by omega,(List.getElem?_eq_some_iff.1 h1).1⟩
 | m+1,row,a,n,nx,h=>by
  obtain ⟨c,n',h1,h2,h3,h4,rfl,h5⟩ | ⟨c,d,nx',h1,h2,h3,rfl,h4,h5⟩:=h
  ·have:=h5.pos; rw [List.length_append]; omega
  ·have:=h5.pos; exact ⟨this.1,by omega,(List.getElem?_eq_some_iff.1 h3).1⟩
def RdC (v:AV) (a en:Nat) (d:Dt) (k:Nat):List AV:=[v,.int .i64 a,.int .i64 en,.str d.raw,.str d.host,.str d.bW,.int .u32 d.n0,.int .u32 d.n1,.int .u32 d.n2,.int .u32 d.n3,.int .u32 d.n4,.int .i64 k]
section
variable {v:AV} {a en:Nat} {d:Dt} {k:Nat} {e:TypeId} {kd:Kd}
theorem RdC.l0:ldC 0 1 false (.cells (RdC v a en d k) e kd)=some v:=rfl
theorem RdC.l1:ldC 1 1 false (.cells (RdC v a en d k) e kd)=some (.int .i64 a):=rfl
theorem RdC.l2:ldC 2 1 false (.cells (RdC v a en d k) e kd)=some (.int .i64 en):=rfl
theorem RdC.l3:ldC 3 8 true (.cells (RdC v a en d k) e kd)=some (.agg d.cells):=rfl
theorem RdC.len:(RdC v a en d k).length=12:=rfl
theorem RdC.s1 {x:Nat}:splice (RdC v a en d k) 1 [.int .i64 x]=RdC v x en d k:=rfl
theorem RdC.s3 {x:List UInt8}:splice (RdC v a en d k) 3 [.str x]=RdC v a en { d with raw:=x } k:=rfl
theorem RdC.s4 {x:List UInt8}:splice (RdC v a en d k) 4 [.str x]=RdC v a en { d with host:=x } k:=rfl
theorem RdC.s5 {x:List UInt8}:splice (RdC v a en d k) 5 [.str x]=RdC v a en { d with bW:=x } k:=rfl
end
def Dt.IJ (d:Dt):Nat→Int→Dt
 | 0,x=>{ d with n0:=x }
 | 1,x=>{ d with n1:=x }
 | 2,x=>{ d with n2:=x }
 | 3,x=>{ d with n3:=x }
 | 4,x=>{ d with n4:=x }
 | _,_=>d
theorem RdC.sN {v:AV} {a en:Nat} {d:Dt} {k:Nat} {j:Nat} {x:Int} (hj:j < 5):splice (RdC v a en d k) (6+j) [.int .u32 x]=RdC v a en (d.IJ j x) k:=by
 have:j=0∨j=1∨j=2∨j=3∨j=4:=by omega
 rcases this with rfl | rfl | rfl | rfl | rfl <;> rfl
theorem Dt.set_set {d:Dt} {j:Nat} {x y:Int}:(d.IJ j x).IJ j y=d.IJ j y:=by
 match j with
 | 0=>rfl
 | 1=>rfl
 | 2=>rfl
 | 3=>rfl
 | 4=>rfl
 | j+5=>rfl
theorem RdC.no {H:Hp} {v:AV} {bs:List UInt8} (hv:Rd H v bs) {a en:Nat} {d:Dt} {k q:Nat} {x:Int}:(RdC v a en d k)[q]?≠some (.int .u8 x):=by
 have:v≠.int .u8 x:=by
  obtain ⟨rfl,_⟩ | ⟨b,o,c,pre,post,e,k,rfl,_⟩:=hv <;> simp
 intro h
 match q,h with
 | 0,h=>exact this (Option.some.inj h)
 | 1,h=>simp [RdC] at h
 | 2,h=>simp [RdC] at h
 | 3,h=>simp [RdC] at h
 | 4,h=>simp [RdC] at h
 | 5,h=>simp [RdC] at h
 | 6,h=>simp [RdC] at h
 | 7,h=>simp [RdC] at h
 | 8,h=>simp [RdC] at h
 | 9,h=>simp [RdC] at h
 | 10,h=>simp [RdC] at h
 | 11,h=>simp [RdC] at h
 | q+12,h=>simp [RdC] at h
def Wr (rb:Nat) (e:Ef):Prop:=e=z0∨e=⟨none,some rb⟩
theorem Wr.and {rb:Nat} {e:Ef} (h:Wr rb e):e.and ⟨none,some rb⟩=⟨none,some rb⟩:=by
 rcases h with rfl | rfl
 ·rw [Ef.j7]
 ·rw [LF]
theorem Wr.z {rb:Nat} {e:Ef} (h:Wr rb e):Wr rb (e.and z0):=by rw [Ef.fC]; exact h
theorem Wr.w {rb:Nat} {e:Ef} (h:Wr rb e):Wr rb (e.and ⟨none,some rb⟩):=.inr h.and
end Go.Proofs.YtdppgaphcmhffaaGreatDoor.V
namespace Go.Proofs.YtdppgaphcmhffaaGreatDoor.V
open Go

section
variable {P:Program} {Q:Ex→St→Prop} {k:List It} {σ:List AV} {H:Hp} {e:Ef} {ops:List Oper} {K KP:St→Prop} {l:List Oper} {kk kp:AV × Hp × Ef→Prop}

def E3:Code→Bool
 | .region _ ⟨[o]⟩ false=>match o.op,o.guard with
  | .defer _,none=>true
  | _,_=>false
 | .region _ ⟨[p,o]⟩ false=>match o.op,o.guard,p.guard with
  | .defer _,none,none=>true
  | _,_,_=>false
 | _=>false
def O5 (c:Code):Bool :=
 match iS c with
 | some (_,o,_)=>(match o.op with | .defer k=>(match k.callee with | .value _=>true | _=>false) | _=>false)
 | none=>false
theorem KI {a b:Code} (h:E3 a=false):iS (.seq a b)=(iS b).map fun r=>(a::r.1,r.2):=by
 rw [iS.eq_def]
 split
 ·rename_i heq
  cases heq
  split
  ·rename_i h1 h2
   simp only [E3,h1,h2] at h
   cases h
  ·rfl
 ·rename_i heq
  cases heq
  split
  ·rename_i h1 h2 h3
   simp only [E3,h1,h2,h3] at h
   cases h
  ·rfl
 ·rename_i heq
  cases heq
  rfl
 ·rename_i hne
  exact absurd rfl (hne a b)
def goA (P:Program) (rs:List ResultVar) (m:Nat) (kk:AV × Hp × Ef→Prop) (c:Code) (s:St) (_:Ph (kk,c):=⟨⟩):Prop :=
 match iS c with
 | some (l,o,b)=>(match o.op with | .defer d=>(match d.callee with | .value fo=>go P (GY P rs m fo d.args.toList o.dst b kk) (l.map It.code) s | _=>False) | _=>False)
 | none=>False
def EP (P:Program) (rs:List ResultVar) (m:Nat) (kk:AV × Hp × Ef→Prop) (b:Code):Ex→St→Prop
 | .normal,s=>goA P rs m kk b s
 | .ret,s=>tj P rs m kk .ret s
 | _,_=>False
instance {rs:List ResultVar} {m:Nat} {b:Code}:Calm (EP P rs m kk b):=⟨fun _ h=>h⟩
theorem M5 {rs:List ResultVar} {m:Nat} {b:Code}:EP P rs m kk b .normal ⟨σ,H,e⟩=goA P rs m kk b ⟨σ,H,e⟩:=rfl
theorem M4 {rs:List ResultVar} {m:Nat} {b:Code}:EP P rs m kk b .ret ⟨σ,H,e⟩=aq (cS P ⟨σ,H,e⟩ rs) fun vs=>kk (leave m (pack vs) H e):=wY
attribute [go_sem ↓] M5 M4
theorem ic {rs:List ResultVar} {m:Nat} {a b:Code} {s:St} (ha:E3 a=false) (hb:O5 b=true) (h:go P (EP P rs m kk b) [.code a] s):goA P rs m kk (.seq a b) s:=by
 unfold goA
 rw [KI ha]
 unfold O5 at hb
 cases hc:iS b with
 | none=>rw [hc] at hb; cases hb
 | some r =>
  obtain ⟨l,o,b'⟩:=r
  rw [hc] at hb
  simp only [Option.map_some] at hb ⊢
  split at hb
  ·rename_i d ho
   split at hb
   ·rename_i fo hfo
    obtain ⟨n,ex,s',h1,h2⟩:=h
    refine ⟨n,ex,s',h1,?_⟩
    have gen:∀ (Q:Ex→St→Prop) (l:List Code) (ex:Ex) (s:St),ex≠.normal→Q ex s→(∀ i,ex≠.exit i)→gD P Q (l.map It.code) ex s:=by
     intro Q l
     induction l with
     | nil=>intro ex s _ h _; exact h
     | cons c l ih=>intro ex s hn h he; cases ex <;> first | exact absurd rfl hn | exact ih _ _ hn h he
    cases ex with
    | normal =>
     have h2:goA P rs m kk b s':=h2
     unfold goA at h2
     rw [hc] at h2
     simp only [ho,hfo] at h2
     exact h2
    | ret=>exact gen _ l .ret s' (by simp) h2 (by simp)
    | exit i=>exact h2.elim
    | goto l=>exact h2.elim
    | pan=>exact h2.elim
   ·cases hb
  ·cases hb
theorem GN {rs:List ResultVar} {m:Nat} {id:Nat} {dst:Option Tmp} {fo:Operand} {dargs:Array Operand} {ts:Array TypeId} {ty:TypeId} {pos:String} {af:Array Edge} {b:Code}:goA P rs m kk (.seq (.region id ⟨[⟨dst,.defer ⟨.value fo,dargs,ts⟩,ty,pos,af,none⟩]⟩ false) b) ⟨σ,H,e⟩ =
  aq (aG P σ fo) fun f=>aq (bO P σ dargs.toList) fun az=>go P (tY P rs m (f,az) kk) [.code b] ⟨put σ dst bw,H,e⟩:=rfl
theorem JI {t:TypeId} {m x y:Operand}:opK P σ H (.insert t m x y) kk=aq (aG P σ m) fun u=>aq (aG P σ x) fun v=>aq (aG P σ y) fun w=>aq (fS P t u v w H) fun r=>kk (bw,r.1,r.2):=by
 show aF _ _=_
 simp only [bu]
 rw [aT]; refine aR fun c=>?_
 rw [aT]; refine aR fun c=>?_
 rw [aT]; refine aR fun c=>?_
 exact fE
attribute [go_sem ↓] JI
theorem Fa {rs:List ResultVar} {m:Nat} {id:Nat} {dst:Option Tmp} {fo:Operand} {dargs:Array Operand} {ts:Array TypeId} {ty:TypeId} {pos:String} {af:Array Edge} {b:Code} {fv:AV} {az:List AV} (hf:aG P σ fo=some fv) (ha:bO P σ dargs.toList=some az) (h:go P (tY P rs m (fv,az) kk) [.code b] ⟨put σ dst bw,H,e⟩) :
  goA P rs m kk (.seq (.region id ⟨[⟨dst,.defer ⟨.value fo,dargs,ts⟩,ty,pos,af,none⟩]⟩ false) b) ⟨σ,H,e⟩:=by
 rw [GN,hf,aD,ha,aD]
 exact h
theorem J5 {rs:List ResultVar} {m:Nat} {id:Nat} {pd dst:Option Tmp} {po:Op} {pt ty:TypeId} {pp pos:String} {pa af:Array Edge} {fo:Operand} {dargs:Array Operand} {ts:Array TypeId} {b:Code}
  (h:go P (GY P rs m fo dargs.toList dst b kk) [.code (.region id ⟨[⟨pd,po,pt,pp,pa,none⟩]⟩ false)] ⟨σ,H,e⟩) :
  goA P rs m kk (.seq (.region id ⟨[⟨pd,po,pt,pp,pa,none⟩,⟨dst,.defer ⟨.value fo,dargs,ts⟩,ty,pos,af,none⟩]⟩ false) b) ⟨σ,H,e⟩:=h
theorem kL {f:FuncId} {fn:Func} {c:Code} {args:List AV} {rs:List ResultVar} {n:Nat} (hf:P.funcs[f]?=some fn) (hb:fn.body=some c) (hr:fn.results.toList=rs) (hn:args.length+(fn.ntmps - args.length)=n)
  (h:∀ σ:List AV,σ.length=n→(∀ i:Nat,i < args.length→fr σ i=(args[i]?).getD bw)→goA P rs H.length kk c ⟨σ,H,z0⟩):ag P f args H kk:=by
 have h1:∀ (l0:List Code) (o:Oper) (b:Code),iS c=some (l0,o,b)→ag P f args H kk:=by
  intro l0 o b hd
  have hex:∃ fo dargs ts,o.op=.defer ⟨.value fo,dargs,ts⟩:=by
   subst hn
   have h0:=h (args++List.replicate (fn.ntmps - args.length) bw) (by simp) (fun i hi=>by unfold fr; rw [List.getElem?_append_left hi])
   unfold goA at h0
   rw [hd] at h0
   simp only at h0
   split at h0
   ·rename_i d ho
    split at h0
    ·rename_i fo hfo
     obtain ⟨ca,ar,ts⟩:=d
     simp only at hfo
     subst hfo
     exact ⟨fo,ar,ts,ho⟩
    ·exact h0.elim
   ·exact h0.elim
  obtain ⟨fo,dargs,ts,ho⟩:=hex
  refine Bc hf hb hd ho hr hn (fun σ hl ha=>?_)
  have h2:=h σ hl ha
  unfold goA at h2
  rw [hd] at h2
  simp only [ho] at h2
  exact h2
 cases hd:iS c with
 | none =>
  subst hn
  have h0:=h (args++List.replicate (fn.ntmps - args.length) bw) (by simp) (fun i hi=>by unfold fr; rw [List.getElem?_append_left hi])
  unfold goA at h0
  rw [hd] at h0
  exact h0.elim
 | some r=>exact h1 r.1 r.2.1 r.2.2 hd
end
attribute [irreducible] goA
end Go.Proofs.YtdppgaphcmhffaaGreatDoor.V
namespace Go.Proofs.YtdppgaphcmhffaaGreatDoor.V
open Go
attribute [local irreducible] go bt goD opK ag bx aF aH bC

theorem Sz {n:Tmp}:bu.isConst (.tmp n)=false:=rfl
theorem SA {v:Value}:bu.isConst (.const v)=true:=rfl
theorem TX:gG Tryz.prog .neq 20 .de .de true=some (.bool false):=by
 simp only [gG,if_true,Io]
theorem Fk {p q:AV} {H:Hp} {K:Hp × Ef→Prop} (h:K (H,z0)):qi Tryz.prog (.func (.func 78) [] [],[p,q]) none H K:=by
 refine nM (n:=24) Tryz.func78 rfl rfl rfl rfl rfl rfl ?_
 intro σ hl ha
 have h0:=ha 0 (by simp)
 have h1:=ha 1 (by simp)
 clear ha
 simp only [go_sem,simprocAttr,hl,Option.getD_none,Sz,SA,TX]
 exact h
end Go.Proofs.YtdppgaphcmhffaaGreatDoor.V
namespace Go.Proofs.YtdppgaphcmhffaaGreatDoor.V
open Go

theorem NR {α:Type} {l xs:List α} {i:Nat} {x:α} (h:l[i]?=some x):(l++xs)[i]?=some x:=by
 rw [List.getElem?_append_left (List.getElem?_eq_some_iff.1 h).1]; exact h
theorem Rn.app {bs:List UInt8} (xs:List UInt8):∀ {m row a:Nat} {n:List UInt8} {nx:Nat},Rn bs m row a n nx→Rn (bs++xs) m row a n nx
 | 0,_,a,n,nx,h=>by
  obtain ⟨h1,h2,h3⟩:=h
  exact ⟨NR h1,h2,h3⟩
 | m+1,row,a,n,nx,h=>by
  obtain ⟨c,n',h1,h2,h3,h4,h5,h6⟩ | ⟨c,d,nx',h1,h2,h3,h4,h5,h6⟩:=h
  ·refine .inl ⟨c,n',NR h1,h2,h3,by rw [List.length_append]; omega,?_,h6.app xs⟩
   rw [h5,List.drop_append_of_le_length (by omega),List.take_append_of_le_length (by rw [List.length_drop]; omega)]
  ·exact .inr ⟨c,d,nx',NR h1,h2,NR h3,h4,h5,h6.app xs⟩
def LH (out:List UInt8) (tab:Tab):Prop:=∀ n p,RK tab n=some p→p < out.length∧p≤16383∧∃ m nx,Rn out m p p n nx
theorem LH.app {out:List UInt8} {tab:Tab} (h:LH out tab) (xs:List UInt8):LH (out++xs) tab:=fun n p hp=>by
 obtain ⟨h1,h2,m,nx,h3⟩:=h n p hp
 exact ⟨by rw [List.length_append]; omega,h2,m,nx,h3.app xs⟩
end Go.Proofs.YtdppgaphcmhffaaGreatDoor.V
namespace Go.Proofs.YtdppgaphcmhffaaGreatDoor.V
open Go
attribute [local irreducible] go bt goD opK ag bx aF aH bC

theorem qx {b:Nat}:(⟨some b,some b⟩:Ef).and ⟨none,some b⟩=⟨some b,some b⟩:=by simp [Ef.and,eD]
theorem rm {b n:Nat} {o:Option Nat} (h:low n o=none) (hb:b < n):eD (some b) o=some b:=by
 cases o with
 | none=>rfl
 | some x =>
  rw [oE] at h
  show some (min b x)=some b
  congr 1; omega
theorem Eb {b n:Nat} {e:Ef} (h:clean n e) (hb:b < n):(⟨some b,some b⟩:Ef).and e=⟨some b,some b⟩:=by
 unfold Ef.and
 rw [rm h.1 hb,rm h.2 hb]
theorem Ru {b n:Nat} {e:Ef} (h:clean n e) (hb:b < n):e.and ⟨some b,some b⟩=⟨some b,some b⟩:=by
 unfold Ef.and
 simp only [pV e.es,pV e.ws]
 rw [rm h.1 hb,rm h.2 hb]
theorem jV {n b:Nat} {v:AV} {H:Hp} (hb:b < n):leave n v H ⟨some b,some b⟩=(v,H,⟨some b,some b⟩):=by
 have:=JA (n:=n) (v:=v) (H:=H) (e:=⟨some b,some b⟩) (dP hb)
 rw [this]
 have h:low n (some b)=some b:=dP hb
 simp [h]

structure Wd where
 t:List UInt8
 q:Bool
 ln:Int
 cl:Int
def Wd.cells (w:Wd):List AV:=[.str w.t,.bool w.q,.int .i64 w.ln,.int .i64 w.cl]
def cA (ws:List Wd):List AV:=ws.flatMap Wd.cells
theorem mY (ws:List Wd):(cA ws).length=ws.length*4:=by
 induction ws with
 | nil=>rfl
 | cons w ws ih =>
  have e:cA (w::ws)=w.cells++cA ws:=rfl
  rw [e,List.length_append,ih,List.length_cons]; simp [Wd.cells]; omega
def Wv (H:Hp) (v:AV) (ws:List Wd):Prop:=(v=.aI∧ws=[]) ∨
 (∃ b k pre fz st,v=.slice b (k*4) ws.length (.op k)∧pre.length=k*4∧H[b]?=some (.cells (pre++cA ws) 63 (.op fz st))) ∨
 ∃ b,v=.slice b 0 0 (.op 0)∧H[b]?=some .void∧ws=[]
theorem Wv.old {H:Hp} {v:AV} {ws:List Wd} (h:Wv H v ws) (l:Hp):Wv (H++l) v ws:=by
 obtain h | ⟨b,k,pre,fz,st,h1,h2,h3⟩ | ⟨b,h1,h2,h3⟩:=h
 ·exact .inl h
 ·exact .inr (.inl ⟨b,k,pre,fz,st,h1,h2,ah h3⟩)
 ·exact .inr (.inr ⟨b,h1,ah h2,h3⟩)
theorem Wv.set {H:Hp} {v:AV} {ws:List Wd} (h:Wv H v ws) {rb:Nat} {c:List AV} {e:TypeId} {x:bp} (hb:H[rb]?=some (.cells c e .rw)):Wv (H.set rb x) v ws:=by
 obtain h | ⟨b,k,pre,fz,st,h1,h2,h3⟩ | ⟨b,h1,h2,h3⟩:=h
 ·exact .inl h
 ·have hne:rb≠b:=by
   rintro rfl
   rw [hb] at h3; injection h3 with h3; injection h3 with _ _ h3; cases h3
  exact .inr (.inl ⟨b,k,pre,fz,st,h1,h2,by rw [List.getElem?_set_ne hne]; exact h3⟩)
 ·have hne:rb≠b:=by
   rintro rfl
   rw [hb] at h2; cases h2
  exact .inr (.inr ⟨b,h1,by rw [List.getElem?_set_ne hne]; exact h2,h3⟩)
theorem Wv.len {H:Hp} {v:AV} {ws:List Wd} (h:Wv H v ws) (H':Hp):bY Tryz.prog 59 v H'=some (.int .i64 ws.length):=by
 obtain ⟨rfl,rfl⟩ | ⟨b,k,pre,fz,st,rfl,_,_⟩ | ⟨b,rfl,_,rfl⟩:=h
 ·simp only [bY,jD]; rfl
 ·simp only [bY,jD]
 ·simp only [bY,jD]; rfl
theorem Wv.scl {H:Hp} {v:AV} {ws:List Wd} (h:Wv H v ws):cK v=true∧bH v=[v]:=by
 obtain ⟨rfl,_⟩ | ⟨b,k,pre,fz,st,rfl,_⟩ | ⟨b,rfl,_⟩:=h <;> exact ⟨rfl,rfl⟩
theorem Wv.hd {H:Hp} {v:AV} {w:Wd} {ws:List Wd} (h:Wv H v (w::ws)):∃ b q row e k,aN Tryz.prog 59 v (.int .i64 0)=some (.ptr b q)∧H[b]?=some (.cells row e k)∧ldC q 1 false (.cells row e k)=some (.str w.t)∧ldC (q+1) 1 false (.cells row e k)=some (.bool w.q):=by
 obtain ⟨_,h⟩ | ⟨b,k,pre,fz,st,rfl,h2,h3⟩ | ⟨b,_,_,h⟩:=h
 ·cases h
 ·have e:cA (w::ws)=.str w.t::.bool w.q::.int .i64 w.ln::.int .i64 w.cl::cA ws:=rfl
  refine ⟨b,k*4,_,_,_,?_,h3,?_,?_⟩
  ·simp only [aN,jD]
   rw [if_pos ⟨by decide,by simp only [List.length_cons]; omega⟩]
   simp
  ·rw [sE,e,List.getElem?_append_right (by omega),h2,Nat.sub_self]; rfl
  ·rw [sE,e,List.getElem?_append_right (by omega),h2,Nat.add_sub_cancel_left]; rfl
 ·cases h
theorem Wv.tl {H:Hp} {v:AV} {w:Wd} {ws:List Wd} (h:Wv H v (w::ws)):∃ v' L,(∀ kk,slK Tryz.prog 59 v (some (.int .i64 1)) none none H kk=kk (v',H++L,z0))∧Wv (H++L) v' ws∧(L=[]∨L=[.void])∧flat v'=false:=by
 obtain ⟨_,h⟩ | ⟨b,k,pre,fz,st,rfl,h2,h3⟩ | ⟨b,_,_,h⟩:=h
 ·cases h
 ·have e:cA (w::ws)=w.cells++cA ws:=rfl
  have hl:(pre++cA (w::ws)).length=k*4+(ws.length+1)*4:=by rw [List.length_append,h2,mY]; rfl
  have hrule:∀ kk,slK Tryz.prog 59 (.slice b (k*4) (ws.length+1) (.op k)) (some (.int .i64 1)) none none H kk=cz (.bool (decide (1=0∨1 < ws.length+1))) true (kk (.slice b ((k+1)*4) ws.length (.op (k+1)),H,z0)) (1=ws.length+1∧kk (.slice H.length 0 0 (.op 0),H++[.void],z0)):=by
   intro kk
   rw [rX (by rw [jD]; rfl),jD,aD,h3,aD,zD,if_pos ⟨rfl,by decide,rfl⟩,aD,D5,hl,Nat.add_sub_cancel_left,Nat.mul_div_cancel _ (by decide)]
   simp only [ED]
   have q1:((0:Int)≤1∧(1:Int)≤((ws.length+1:Nat):Int))=True:=eq_true ⟨by decide,by omega⟩
   have e1:(1:Int).toNat=1:=rfl
   rw [q1,true_and,e1,show k*4+1*4=(k+1)*4 by omega,Nat.add_sub_cancel]
  cases ws with
  | cons x xs =>
   refine ⟨.slice b ((k+1)*4) (xs.length+1) (.op (k+1)),[],fun kk=>?_,?_,.inl rfl,rfl⟩
   ·have:=hrule kk
    rw [List.length_cons] at this ⊢
    rw [List.length_cons,this,decide_eq_true (by right; omega),cV,List.append_nil]
   ·rw [List.append_nil]
    exact .inr (.inl ⟨b,k+1,pre++w.cells,fz,st,rfl,by simp [h2,Wd.cells]; omega,by rw [List.append_assoc,← e]; exact h3⟩)
  | nil =>
   refine ⟨.slice H.length 0 0 (.op 0),[.void],fun kk=>?_,.inr (.inr ⟨H.length,rfl,by rw [dg]; rfl,rfl⟩),.inr rfl,rfl⟩
   have:=hrule kk
   have e0:([w]:List Wd).length=([]:List Wd).length+1:=rfl
   rw [e0,this]
   have d0:decide ((1:Nat)=0∨1 < ([]:List Wd).length+1)=false:=by decide
   rw [d0,cn]
   simp
 ·cases h

theorem uj:∀ (ws:List Wd) (i:Nat) (w:Wd),ws[i]?=some w→((cA ws).drop (i*4)).take 4=w.cells∧i*4+4≤(cA ws).length
 | [],i,w,h=>by simp at h
 | x::ws,0,w,h=>by
  simp only [List.getElem?_cons_zero,Option.some.injEq] at h
  subst h
  exact ⟨rfl,by rw [mY,List.length_cons]; omega⟩
 | x::ws,i+1,w,h=>by
  obtain ⟨h1,h2⟩:=uj ws i w (by simpa using h)
  have e:cA (x::ws)=x.cells++cA ws:=rfl
  have e2:(i+1)*4=x.cells.length+i*4:=by simp [Wd.cells]; omega
  refine ⟨?_,by rw [mY] at h2 ⊢; simp; omega⟩
  rw [e,e2,← List.drop_drop,List.drop_left]; exact h1
theorem Wv.at {H:Hp} {v:AV} {ws:List Wd} (h:Wv H v ws) {i:Nat} {w:Wd} (hi:ws[i]?=some w):∃ b q row e k,aN Tryz.prog 59 v (.int .i64 (i:Nat))=some (.ptr b q)∧H[b]?=some (.cells row e k)∧ldC q 4 true (.cells row e k)=some (.agg w.cells):=by
 have hlt:=(List.getElem?_eq_some_iff.1 hi).1
 obtain ⟨_,rfl⟩ | ⟨b,k,pre,fz,st,rfl,h2,h3⟩ | ⟨b,_,_,rfl⟩:=h
 ·simp at hlt
 ·obtain ⟨h4,h5⟩:=uj ws i w hi
  refine ⟨b,k*4+i*4,_,_,_,?_,h3,?_⟩
  ·simp only [aN,jD]
   rw [if_pos ⟨by omega,by omega⟩]
   simp
  ·unfold ldC
   simp only [if_true]
   rw [if_pos (by rw [List.length_append,h2]; omega),← List.drop_drop,← h2,List.drop_left,h4]
 ·simp at hlt
def WdC (v:AV) (o:List UInt8) (d:Dt) (k:Nat):List AV:=[v,.str o,.str d.raw,.str d.host,.str d.bW,.int .u32 d.n0,.int .u32 d.n1,.int .u32 d.n2,.int .u32 d.n3,.int .u32 d.n4,.int .i64 k]
section
variable {v:AV} {o:List UInt8} {d:Dt} {k:Nat} {e:TypeId} {kd:Kd}
theorem WdC.l0:ldC 0 1 false (.cells (WdC v o d k) e kd)=some v:=rfl
theorem WdC.l1:ldC 1 1 false (.cells (WdC v o d k) e kd)=some (.str o):=rfl
theorem WdC.l2:ldC 2 1 false (.cells (WdC v o d k) e kd)=some (.str d.raw):=rfl
theorem WdC.ld:ldC 2 8 true (.cells (WdC v o d k) e kd)=some (.agg d.cells):=rfl
theorem WdC.len:(WdC v o d k).length=11:=rfl
theorem WdC.s0 {x:AV}:splice (WdC v o d k) 0 [x]=WdC x o d k:=rfl
theorem WdC.s2 {x:List UInt8}:splice (WdC v o d k) 2 [.str x]=WdC v o { d with raw:=x } k:=rfl
theorem WdC.s3 {x:List UInt8}:splice (WdC v o d k) 3 [.str x]=WdC v o { d with host:=x } k:=rfl
theorem WdC.s4 {x:List UInt8}:splice (WdC v o d k) 4 [.str x]=WdC v o { d with bW:=x } k:=rfl
theorem WdC.s10 {x:Nat}:splice (WdC v o d k) 10 [.int .i64 x]=WdC v o d x:=rfl
theorem WdC.sN {j:Nat} {x:Int} (hj:j < 5):splice (WdC v o d k) (5+j) [.int .u32 x]=WdC v o (d.IJ j x) k:=by
 have:j=0∨j=1∨j=2∨j=3∨j=4:=by omega
 rcases this with rfl | rfl | rfl | rfl | rfl <;> rfl
end
theorem Eh (H) (rb:Nat) (v:AV) (o:List UInt8) (d:Dt) (j:Nat) (w:Wd) (ws:List Wd) (hq:w.q=false) (hb:H[rb]?=some (.cells (WdC v o d j) 144 .rw)) (hv:Wv H v (w::ws)) :
  ∃ v' L,Wv (H++L) v' ws∧∀ k,ag Tryz.prog 111 [.ptr rb 0] H k=k (.str w.t,H.set rb (.cells (WdC v' o d j) 144 .rw)++L,⟨some rb,some rb⟩):=by
 obtain ⟨v',L,hsl,hv',hL,hfl⟩:=hv.tl
 obtain ⟨b,q,row,e,kd,hi,hg,hl1,hl2⟩:=hv.hd
 refine ⟨v',L,hv',fun k=>?_⟩
 obtain ⟨hsc,hvc⟩:=hv'.scl
 have hlt:=ai hb
 have hlen:=hv.len
 have hgL:(H++L)[rb]?=some (.cells (WdC v o d j) 144 .rw):=ah hb
 have hsL:∀ y,(H++L).set rb y=H.set rb y++L:=fun y=>List.set_append_left _ _ hlt
 have hlv:∀ (x:AV) (H':Hp),leave H.length x H' ⟨some rb,some rb⟩=(x,H',⟨some rb,some rb⟩):=fun x H'=>jV hlt
 refine ak ?_ k
 refine aa (n:=36) (rs:=[.tmp 2]) Tryz.func111 rfl rfl rfl ?_
 intro σ hl ha
 have h0:=ha 0 (by simp)
 clear ha
 simp only [Option.getD_some,List.getElem?_cons_zero,List.getElem?_cons_succ] at h0
 rw [hq] at hl2
 have hz:(((ws.length+1:Nat):Int) == 0)=false:=by rw [beq_eq_false_iff_ne]; omega
 simp only [go_sem,simprocAttr,hl,h0,hb,WdC.l0,WdC.len,WdC.s0,hlen,hz,hi,hg,hl1,hl2,hsl,hgL,hsc,hvc,hfl,hsL,hlv,bK]
theorem Te.set {H:Hp} (h:Te H) {rb:Nat} {v:AV} {o:List UInt8} {d:Dt} {j:Nat} {x:bp} (hb:H[rb]?=some (.cells (WdC v o d j) 144 .rw)):Te (H.set rb x):=by
 obtain ⟨⟨e,k,u,b,h1⟩,⟨e',k',u',b',h2⟩⟩:=h
 have g1:rb≠4:=by rintro rfl; rw [hb] at h1; simp [WdC] at h1
 have g2:rb≠5:=by rintro rfl; rw [hb] at h2; simp [WdC] at h2
 exact ⟨⟨e,k,u,b,by rw [List.getElem?_set_ne g1]; exact h1⟩,⟨e',k',u',b',by rw [List.getElem?_set_ne g2]; exact h2⟩⟩
section
variable (H:Hp) (rb:Nat) (v:AV) (o:List UInt8) (d:Dt) (j:Nat) (w:Wd) (ws:List Wd) (hq:w.q=false) (hb:H[rb]?=some (.cells (WdC v o d j) 144 .rw)) (hv:Wv H v (w::ws)) (hw:w.t.length≤1048576)
include hq hb hv hw
theorem LI (n:List UInt8) (ho:o.length≤1048576) (hn:dI w.t o=(n,0)) (h64:w.t≠[64]) :
  ∃ v' L,Wv (H++L) v' ws∧∀ k,ag Tryz.prog 114 [.ptr rb 0] H k=k (.str n,H.set rb (.cells (WdC v' o d j) 144 .rw)++L,⟨some rb,some rb⟩):=by
 obtain ⟨v',L,hv',hnx⟩:=Eh H rb v o d j w ws hq hb hv
 refine ⟨v',L,hv',fun k=>?_⟩
 have hlt:=ai hb
 have hg:∀ y,(H.set rb y++L)[rb]?=some y:=fun y=>ah (by rw [List.getElem?_set_self hlt])
 have hlv:∀ (x:AV) (H':Hp),leave H.length x H' ⟨some rb,some rb⟩=(x,H',⟨some rb,some rb⟩):=fun x H'=>jV hlt
 have hp:=fun H' k=>sv w.t o H' k hw ho
 rw [hn] at hp
 have hp:∀ H' k,ag Tryz.prog 73 [.str w.t,.str o] H' k=k (.tuple [.str n,.int .i64 0],H',z0):=hp
 have h0':(w.t == [64])=false:=by rw [beq_eq_false_iff_ne]; exact h64
 refine ak ?_ k
 refine aa (n:=27) (rs:=[.tmp 2]) Tryz.func114 rfl rfl rfl ?_
 intro σ hl ha
 have h0:=ha 0 (by simp)
 clear ha
 simp only [Option.getD_some,List.getElem?_cons_zero,List.getElem?_cons_succ] at h0
 simp only [go_sem,simprocAttr,hl,h0,hnx,h0',hg,WdC.l1,hp,hlv]
theorem LJ (n:List UInt8) (ho:o.length≤1048576) (hn:dI w.t o=(n,0)) (h64:w.t≠[64]) :
  ∃ v' L,Wv (H++L) v' ws∧∀ k,ag Tryz.prog 80 [.ptr rb 0] H k=k (.tuple [],H.set rb (.cells (WdC v' o { d with host:=n } j) 144 .rw)++L,⟨some rb,some rb⟩):=by
 obtain ⟨v',L,hv',hnx⟩:=LI H rb v o d j w ws hq hb hv hw n ho hn h64
 refine ⟨v',L,hv',fun k=>?_⟩
 have hlt:=ai hb
 have hg:∀ y,(H.set rb y++L)[rb]?=some y:=fun y=>ah (by rw [List.getElem?_set_self hlt])
 have hs:∀ y z,(H.set rb y++L).set rb z=H.set rb z++L:=fun y z=>by rw [List.set_append_left _ _ (by simpa using hlt),List.set_set]
 have hlv:∀ (x:AV) (H':Hp),leave H.length x H' ⟨some rb,some rb⟩=(x,H',⟨some rb,some rb⟩):=fun x H'=>jV hlt
 refine ak ?_ k
 refine aa (n:=8) (rs:=[]) Tryz.func80 rfl rfl rfl ?_
 intro σ hl ha
 have h0:=ha 0 (by simp)
 clear ha
 simp only [Option.getD_some,List.getElem?_cons_zero,List.getElem?_cons_succ] at h0
 simp only [go_sem,simprocAttr,hl,h0,hnx,hg,hs,WdC.len,WdC.s3,qx,hlv]
end
end Go.Proofs.YtdppgaphcmhffaaGreatDoor.V
namespace Go.Proofs.YtdppgaphcmhffaaGreatDoor.V
open Go

def wG (c:UInt8):Bool:=c == 32 || c == 9 || c == 13
def sM (c:UInt8):Bool:=wG c || c == 10 || c == 59 || c == 40 || c == 41 || c == 34
def dZ:List UInt8→List UInt8 × List UInt8
 | []=>([],[])
 | c::r =>
  if sM c then ([],c::r)
  else if c=92 then
   match r with
   | []=>([c],[])
   | d::r'=>if d=10 then (c::(dZ (d::r')).1,(dZ (d::r')).2) else (c::d::(dZ r').1,(dZ r').2)
  else (c::(dZ r).1,(dZ r).2)
def ku:List UInt8→Option (List UInt8 × List UInt8)
 | []=>none
 | c::r =>
  if c=10 then none
  else if c=34 then some ([],r)
  else if c=92 then
   match r with
   | []=>none
   | d::r'=>if d=10 then none else (ku r').map fun x=>(c::d::x.1,x.2)
  else (ku r).map fun x=>(c::x.1,x.2)
def vU:List UInt8→List UInt8
 | []=>[]
 | c::r=>if c=10 then c::r else vU r

structure En where
 bl:Bool
 ln:Nat
 ws:List Wd

inductive TR where
 | bad (ln cl e:Nat)
 | ok (es:List En)

def shut (cur:Option En) (out:List En):List En :=
 match cur with
 | some x=>if x.ws=[] then out else out++[x]
 | none=>out

def rdT:Nat→List UInt8→Nat→Nat→List (Nat × Nat)→Option En→List En→TR
 | _,[],_,_,op,cur,out =>
  match op with
  | (l,c)::_=>.bad l c 81
  | []=>.ok (shut cur out)
 | 0,_::_,_,_,_,_,_=>.ok []
 | n+1,c::r,ln,cl,op,cur,out =>
  let x:=cur.getD ⟨wG c,ln,[]⟩
  if wG c then rdT n r ln (cl+1) op (some x) out
  else if c=10 then (if op=[] then rdT n r (ln+1) 1 op none (shut (some x) out) else rdT n r (ln+1) 1 op (some x) out)
  else if c=59 then rdT n (vU r) ln (cl+1+(r.length - (vU r).length)) op (some x) out
  else if c=40 then rdT n r ln (cl+1) (op++[(ln,cl)]) (some x) out
  else if c=41 then (if op=[] then .bad ln cl 81 else rdT n r ln (cl+1) op.dropLast (some x) out)
  else if c=34 then
   match ku r with
   | none=>.bad ln cl 80
   | some q=>rdT n q.2 ln (cl+2+q.1.length) op (some { x with ws:=x.ws++[⟨q.1,true,ln,cl⟩] }) out
  else rdT n (dZ (c::r)).2 ln (cl+(dZ (c::r)).1.length) op (some { x with ws:=x.ws++[⟨(dZ (c::r)).1,false,ln,cl⟩] }) out

def ni (t:List UInt8):TR:=rdT t.length t 1 1 [] none []
def tk (r:List UInt8) (ln cl:Nat) (op:List (Nat × Nat)) (cur:Option En) (out:List En):TR:=rdT r.length r ln cl op cur out
section
variable (c:UInt8) (r:List UInt8) (ln cl:Nat) (op:List (Nat × Nat)) (cur:Option En) (out:List En)
end
end Go.Proofs.YtdppgaphcmhffaaGreatDoor.V
namespace Go.Proofs.YtdppgaphcmhffaaGreatDoor.V
open Go
attribute [local irreducible] go bt goD opK ag bx aF aH bC fO

section
variable {P:Program} {Q:Ex→St→Prop} {k:List It}
theorem sK {l:Nat} {B X:Code} (I:Nat→St→Prop) (n:Nat) {s:St} (h0:I n s) (hf:findLabel B l=some X)
  (round:∀ n σ H e,I n ⟨σ,H,e⟩→(∀ m s',m < n→I m s'→fO P Q l (.inScope B::k) s')→go P Q (.code X::.inScope B::k) ⟨σ,H,e⟩):fO P Q l (.inScope B::k) s:=by
 induction n using Nat.strongRecOn generalizing s with
 | _ n ih =>
  obtain ⟨σ,H,e⟩:=s
  rw [dG,hf,dX]
  exact round n σ H e h0 (fun m s' hm hi=>ih m hm hi)
theorem mV {l:Nat} {B X:Code} {σ:List AV} {H:Hp} {e:Ef} (hf:findLabel B l=some (.seq .skip X)):go P Q (.code (.label l)::.code X::.inScope B::k) ⟨σ,H,e⟩=fO P Q l (.inScope B::k) ⟨σ,H,e⟩:=by
 rw [dG,hf,dX,nD,go_skip,sV]
end

def TkC (T:List UInt8) (i ln bg:Nat) (vo:AV) (bl:Bool) (el:Nat) (vw ve:AV) (ins:Bool):List AV:=[.str T,.int .i64 i,.int .i64 ln,.int .i64 bg,vo,.bool bl,.int .i64 el,vw,ve,.bool ins]
section
variable {T:List UInt8} {i ln bg:Nat} {vo:AV} {bl:Bool} {el:Nat} {vw ve:AV} {ins:Bool} {e:TypeId} {kd:Kd}
theorem TkC.l0:ldC 0 1 false (.cells (TkC T i ln bg vo bl el vw ve ins) e kd)=some (.str T):=rfl
theorem TkC.l1:ldC 1 1 false (.cells (TkC T i ln bg vo bl el vw ve ins) e kd)=some (.int .i64 i):=rfl
theorem TkC.l2:ldC 2 1 false (.cells (TkC T i ln bg vo bl el vw ve ins) e kd)=some (.int .i64 ln):=rfl
theorem TkC.l3:ldC 3 1 false (.cells (TkC T i ln bg vo bl el vw ve ins) e kd)=some (.int .i64 bg):=rfl
theorem TkC.l4:ldC 4 1 false (.cells (TkC T i ln bg vo bl el vw ve ins) e kd)=some vo:=rfl
theorem TkC.l5:ldC 5 3 true (.cells (TkC T i ln bg vo bl el vw ve ins) e kd)=some (.agg [.bool bl,.int .i64 el,vw]):=rfl
theorem TkC.l7:ldC 7 1 false (.cells (TkC T i ln bg vo bl el vw ve ins) e kd)=some vw:=rfl
theorem TkC.l8:ldC 8 1 false (.cells (TkC T i ln bg vo bl el vw ve ins) e kd)=some ve:=rfl
theorem TkC.l9:ldC 9 1 false (.cells (TkC T i ln bg vo bl el vw ve ins) e kd)=some (.bool ins):=rfl
theorem TkC.len:(TkC T i ln bg vo bl el vw ve ins).length=10:=rfl
theorem TkC.s1 {x:Nat}:splice (TkC T i ln bg vo bl el vw ve ins) 1 [.int .i64 x]=TkC T x ln bg vo bl el vw ve ins:=rfl
theorem TkC.s2 {x:Nat}:splice (TkC T i ln bg vo bl el vw ve ins) 2 [.int .i64 x]=TkC T i x bg vo bl el vw ve ins:=rfl
theorem TkC.s3 {x:Nat}:splice (TkC T i ln bg vo bl el vw ve ins) 3 [.int .i64 x]=TkC T i ln x vo bl el vw ve ins:=rfl
theorem TkC.s4 {x:AV}:splice (TkC T i ln bg vo bl el vw ve ins) 4 [x]=TkC T i ln bg x bl el vw ve ins:=rfl
theorem TkC.s5 {x:Bool} {y:Nat} {z:AV}:splice (TkC T i ln bg vo bl el vw ve ins) 5 [.bool x,.int .i64 y,z]=TkC T i ln bg vo x y z ve ins:=rfl
theorem TkC.s7 {x:AV}:splice (TkC T i ln bg vo bl el vw ve ins) 7 [x]=TkC T i ln bg vo bl el x ve ins:=rfl
theorem TkC.s8 {x:AV}:splice (TkC T i ln bg vo bl el vw ve ins) 8 [x]=TkC T i ln bg vo bl el vw x ins:=rfl
theorem TkC.s9 {x:Bool}:splice (TkC T i ln bg vo bl el vw ve ins) 9 [.bool x]=TkC T i ln bg vo bl el vw ve x:=rfl
end

theorem pG (c:UInt8) (H k):ag Tryz.prog 66 [.int .u8 c.toNat] H k=k (.bool (wG c),H,z0):=by
 refine ak ?_ k
 refine aa (n:=13) (rs:=[.tmp 2]) Tryz.func66 rfl rfl rfl ?_
 intro σ hl ha
 have h0:=ha 0 (by simp)
 clear ha
 simp only [Option.getD_some,List.getElem?_cons_zero] at h0
 have e1:((c.toNat:Int) == 32)=(c == 32):=by rw [show (32:Int)=(((32:UInt8).toNat:Nat):Int) from rfl,vt]; exact (Bool.beq_eq_decide_eq c 32).symm
 have e2:((c.toNat:Int) == 9)=(c == 9):=by rw [show (9:Int)=(((9:UInt8).toNat:Nat):Int) from rfl,vt]; exact (Bool.beq_eq_decide_eq c 9).symm
 have e3:((c.toNat:Int) == 13)=(c == 13):=by rw [show (13:Int)=(((13:UInt8).toNat:Nat):Int) from rfl,vt]; exact (Bool.beq_eq_decide_eq c 13).symm
 unfold wG
 cases h1:c == 32 <;> cases h2:c == 9 <;> cases h3:c == 13 <;> rw [h1] at e1 <;> rw [h2] at e2 <;> rw [h3] at e3 <;> simp only [go_sem,simprocAttr,hl,h0,e1,e2,e3]

theorem rT (H:Hp) (rb:Nat) (T:List UInt8) (i ln bg:Nat) (vo:AV) (bl:Bool) (el:Nat) (vw ve:AV) (ins:Bool) (hb:H[rb]?=some (.cells (TkC T i ln bg vo bl el vw ve ins) 93 .rw)) (f:Nat) (hf:bg≤f) (hf2:f < 1000000000) (k) :
  ag Tryz.prog 68 [.ptr rb 0,.int .i64 f] H k=k (.agg [.int .i64 ln,.int .i64 (f - bg+1:Nat)],H,z0):=by
 have hlt:=ai hb
 refine ak ?_ k
 refine aa (n:=17) (rs:=[.cell 4 38]) Tryz.func68 rfl rfl rfl ?_
 intro σ hl ha
 have h0:=ha 0 (by simp)
 have h1:=ha 1 (by simp)
 clear ha
 simp only [Option.getD_some,List.getElem?_cons_zero,List.getElem?_cons_succ] at h0 h1
 simp only [go_sem,simprocAttr,hl,h0,h1]
 refine ay au (by kernel_rfl) ?_
 have hg:∀ x,(H++[x])[rb]?=some (.cells (TkC T i ln bg vo bl el vw ve ins) 93 .rw):=fun x=>ah hb
 have w1:IntKind.i64.wrap ((f:Int) - (bg:Int))=((f - bg:Nat):Int):=by rw [wrap_i64 (by omega)]; omega
 have w2:=aS (show f - bg < 9223372036854775807 by omega)
 have hbd:∀ x y,bq Tryz.prog 38 [(0,.int .i64 x),(1,.int .i64 y)]=some (.agg [.int .i64 x,.int .i64 y]):=by
  intro x y
  simp only [bq,rL,jM,jd,Option.bind_some,fM]
  rfl
 simp only [go_sem,simprocAttr,hl,h0,h1,hg,TkC.l2,TkC.l3,w1,w2,hbd]
 exact (by kernel_rfl:bN _ _ _=true)

def Sto (b:Nat) (e:Ef):Prop:=∃ x,e.es=some x∧x≤b
theorem Sto.r {b:Nat} {e:Ef} (h:Sto b e) (f:Ef):Sto b (f.and e):=by
 obtain ⟨x,h1,h2⟩:=h
 cases hf:f.es with
 | none=>exact ⟨x,by simp [Ef.and,eD,hf,h1],h2⟩
 | some y=>exact ⟨min y x,by simp [Ef.and,eD,hf,h1],by omega⟩
theorem Sto.l {b:Nat} {e:Ef} (h:Sto b e) (f:Ef):Sto b (e.and f):=by
 obtain ⟨x,h1,h2⟩:=h
 cases hf:f.es with
 | none=>exact ⟨x,by simp [Ef.and,eD,hf,h1],h2⟩
 | some y=>exact ⟨min x y,by simp [Ef.and,eD,hf,h1],by omega⟩
theorem Sto.this {b:Nat} {w:Option Nat}:Sto b ⟨some b,w⟩:=⟨b,rfl,Nat.le_refl _⟩
theorem Sto.low {b n:Nat} {e:Ef} (h:Sto b e) (hb:b < n):Sto b ⟨low n e.es,low n e.ws⟩:=by
 obtain ⟨x,h1,h2⟩:=h
 refine ⟨x,?_,h2⟩
 rw [h1]
 unfold V.low
 exact if_neg (by omega)
theorem Sto.leave {b n:Nat} {v:AV} {H:Hp} {e:Ef} (h:Sto b e) (hb:b < n):leave n v H e=(v,H,⟨V.low n e.es,V.low n e.ws⟩):=by
 obtain ⟨x,h1,h2⟩:=h
 unfold V.leave
 rw [if_neg]
 rintro ⟨_,h⟩
 rw [h1] at h
 simp [V.low] at h
 omega
theorem sD {n:Nat} {v:AV} {H:Hp} {e:Ef} (h:H.length≤n):leave n v H e=(v,H,⟨low n e.es,low n e.ws⟩):=by
 unfold leave
 congr 2
 split
 ·rw [List.take_of_length_le h]
 ·rfl
theorem pY {n b:Nat} {v:AV} {H:Hp} {e1:Ef} (hb:b < n):∃ e',leave n v H (e1.and ⟨some b,some b⟩)=(v,H,e')∧(∀ m,clean m (e1.and ⟨some b,some b⟩)→clean m e')∧Sto b e' :=
 ⟨_,(Sto.this.r e1).leave hb,fun m h=>eH h,(Sto.this.r e1).low hb⟩

def bkT (n:Nat) (v:AV) (m:Nat):Prop:=∃ k,v=.slice (n+m) 0 k (.op 0)
def lC (T0:List UInt8) (f t:Nat) (q:Bool) (ln bg:Nat):Wd:=⟨if q then (T0.drop (f+1)).take (t - 1 - (f+1)) else (T0.drop f).take (t - f),q,(ln:Nat),((f - bg+1:Nat):Int)⟩
theorem Lf (s:List UInt8) (q:Bool) (a b:Int):bq Tryz.prog 63 [(0,.str s),(1,.bool q),(2,.int .i64 a),(3,.int .i64 b)]=some (.agg (Wd.cells ⟨s,q,a,b⟩)):=by
 simp only [bq,Ik,rI,rP,Option.bind_some,fM]
 rfl
theorem tG (w:Wd) (H:Hp):aO Tryz.prog 59 1 [(0,.agg w.cells)] H=some (.slice H.length 0 1 (.ex 1),H++[.cells w.cells 63 .rw]):=by
 simp only [aO,jD,rI,Option.bind_some]
 rfl
theorem nS (L:List Wd) (w:Wd):cA (L++[w])=cA L++w.cells:=by simp [cA]

theorem vJ (H T:Hp) (j:Nat) (T0:List UInt8) (i ln bg:Nat) (vo:AV) (bl:Bool) (el:Nat) (vw ve:AV) (ins:Bool) (ws:List Wd) (hb:T[j]?=some (.cells (TkC T0 i ln bg vo bl el vw ve ins) 93 .rw))
  (hw:bZ H.length T vw 63 4 ws.length (cA ws)) (f t:Nat) (q:Bool) (hbf:bg≤f) (hft:f≤t) (hq:q=true→f+2≤t) (ht:t≤T0.length) (hT:T0.length≤262144) (hws:ws.length≤262144) :
  ∃ b:AV × Hp × Ef,(b.2.1[j]?=some (.cells (TkC T0 i ln bg vo bl el b.1 ve ins) 93 .rw)∧bZ H.length b.2.1 b.1 63 4 (ws.length+1) (cA (ws++[lC T0 f t q ln bg]))∧clean H.length b.2.2∧Sto (H.length+j) b.2.2∧(∀ m,bkT H.length b.1 m→T.length≤m) ∧
   (∀ (x:Nat) y,x≠j→¬ bkT H.length vw x→T[x]?=some y→b.2.1[x]?=some y))∧∀ k,ag Tryz.prog 69 [.ptr (H.length+j) 0,.int .i64 f,.int .i64 t,.bool q] (H++T) k=k (.tuple [],H++b.2.1,b.2.2):=by
 have hlt:=ai hb
 have hb':(H++T)[H.length+j]?=some (.cells (TkC T0 i ln bg vo bl el vw ve ins) 93 .rw):=by rw [bX]; exact hb
 have hsp:=fun k=>rT (H++T) (H.length+j) T0 i ln bg vo bl el vw ve ins hb' f hbf (by omega) k
 refine cI (fun b:AV × Hp × Ef=>_) (fun b=>(.tuple [],H++b.2.1,b.2.2)) ?_
 refine aa (n:=49) (rs:=[]) Tryz.func69 rfl rfl rfl ?_
 intro σ hl ha
 have h0:=ha 0 (by simp)
 have h1:=ha 1 (by simp)
 have h2:=ha 2 (by simp)
 have h3:=ha 3 (by simp)
 clear ha
 simp only [Option.getD_some,List.getElem?_cons_zero,List.getElem?_cons_succ] at h0 h1 h2 h3
 simp only [go_sem,simprocAttr,hl,h0,h1,hsp]
 refine AD au (by kernel_rfl) ?_
 have g1:∀ x,(T++[x])[j]?=some (.cells (TkC T0 i ln bg vo bl el vw ve ins) 93 .rw):=fun x=>ah hb
 have g2:∀ x y,(T++[x,y])[j]?=some (.cells (TkC T0 i ln bg vo bl el vw ve ins) 93 .rw):=fun x y=>ah hb
 have n1:∀ x y,(T++[x,y])[T.length]?=some x:=fun x y=>by simp
 have n2:∀ x y,(T++[x,y])[T.length+1]?=some y:=fun x y=>by simp
 simp only [go_sem,simprocAttr,hl,h0,h1,h2,h3,g1,g2,n1,n2,TkC.l0,Lf]
 refine ⟨ht,hft,rfl,⟨Nat.le_refl _,rfl⟩,(by kernel_rfl:bN _ _ _=true),?_⟩
 have hmj:∀ m n,vw=.slice (H.length+m) 0 n (.op 0)→j≠m:=by
  rintro m n e rfl
  rcases hw with ⟨h,_⟩ | ⟨_,_,m',e',hm'⟩
  ·rw [h] at e; cases e
  ·rw [e'] at e
   have:m'=j:=by injection e; omega
   rw [this,hb] at hm'
   simp at hm'
 have hwsc:=hw.scl
 have hwv:bH vw=[vw]:=by rcases hw with ⟨rfl,_⟩ | ⟨_,_,m',rfl,_⟩ <;> rfl
 have hrd:∀ w:Wd,rdC 0 4 (.cells w.cells 63 .rw)=some w.cells:=fun _=>rfl
 have hld:∀ w:Wd,ldC 0 4 true (.cells w.cells 63 .rw)=some (.agg w.cells):=fun _=>rfl
 have hz0:∀ w:Wd,splice [.str [],.bool false,.int .i64 0,.int .i64 0] 0 w.cells=w.cells:=fun _=>rfl
 have hfl:∀ w:Wd,bK w.cells=true:=fun _=>rfl
 have g3:∀ x y z,(T++[x,y,z])[j]?=some (.cells (TkC T0 i ln bg vo bl el vw ve ins) 93 .rw):=fun x y z=>ah hb
 have n3:∀ x y z,(T++[x,y,z])[T.length+1]?=some y:=fun x y z=>by simp
 have n4:∀ x y z,(T++[x,y,z])[T.length+2]?=some z:=fun x y z=>by simp
 cases q
 ·obtain ⟨w,hwd⟩:∃ w,w=lC T0 f t false ln bg:=⟨_,rfl⟩
  have hwd':(⟨(T0.drop f).take (t - f),false,(ln:Nat),((f - bg+1:Nat):Int)⟩:Wd)=w:=by rw [hwd]; simp [lC]
  rw [hwd',hz0,hfl,if_pos rfl]
  simp only [go_sem,simprocAttr,hl]
  refine ay au (by kernel_rfl) ?_
  obtain ⟨T2,e2,happ,hlen2,hcl2,hkp,hnew,hG⟩:=(hw.more [.cells [.int .i64 (ln:Nat),.int .i64 (f - bg+1:Nat)] 38 .rw,.cells w.cells 63 .rw,.cells w.cells 63 .rw]).qw (P:=Tryz.prog) (b:=40) (by decide) Bi w.cells 1 (by decide) rfl rfl (by simp only [fits,decide_eq_true_eq]; omega)
  rw [← nS] at hnew hG
  have hkj:=hkp j _ (ah hb) hmj
  have q1:∀ (v:AV) (e:Ef) (A B C:bp),quiet (v,H++(T++[A,B,C]),e) (H++(T++[A,B]))=false:=by intro v e A B C; simp [quiet]
  have q2:∀ (v:AV) (e:Ef) (A B C:bp),quiet (v,H++T2,e) (H++(T++[A,B,C]))=false:=by intro v e A B C; simp only [List.length_append,List.length_cons,List.length_nil] at hlen2; simp [quiet]; omega
  simp only [go_sem,simprocAttr,hl,h0,h1,h2,h3,g1,g2,g3,n1,n2,n3,n4,TkC.l7,TkC.len,TkC.s7,hwv,hwsc,hld,hrd,tG,happ,hkj,q1,q2,List.append_assoc,List.cons_append,List.nil_append]
  refine ⟨by rcases uw 8 e2 with h | h <;> rw [h] <;> kernel_rfl,?_⟩
  obtain ⟨e',hlv,hce,hsto⟩:=pY (n:=H.length+T.length) (b:=H.length+j) (v:=.tuple []) (H:=H++List.set T2 j (.cells (TkC T0 i ln bg vo bl el (.slice (H.length+(T.length+3)) 0 (ws.length+1) (.op 0)) ve ins) 93 .rw)) (e1:=((⟨none,some (H.length+T.length)⟩:Ef).and ⟨none,some (H.length+(T.length+1))⟩).and e2) (by omega)
  refine ⟨(.slice (H.length+(T.length+3)) 0 (ws.length+1) (.op 0),_,e'),⟨?_,?_,hce H.length ?_,hsto,fun m h=>(by obtain ⟨q,h⟩:=h; injection h with h1; omega),fun x y hx hnb hy=>?_⟩,hlv⟩
  ·exact List.getElem?_set_self (ai hkj)
  ·rw [← hwd]
   have:=hG.set (x:=.cells (TkC T0 i ln bg vo bl el (.slice (H.length+(T.length+3)) 0 (ws.length+1) (.op 0)) ve ins) 93 .rw) hkj
   simpa only [List.length_append,List.length_cons,List.length_nil] using this
  ·simp only [aV,b7,lV,hcl2,and_true]; omega
  ·rw [List.getElem?_set_ne (Ne.symm hx)]
   exact hkp x y (ah hy) (fun m n e=>by rintro rfl; exact hnb ⟨n,e⟩)
 ·obtain ⟨w,hwd⟩:∃ w,w=lC T0 f t true ln bg:=⟨_,rfl⟩
  have hwd':(⟨(T0.drop (f+1)).take (t - 1 - (f+1)),true,(ln:Nat),((f - bg+1:Nat):Int)⟩:Wd)=w:=by rw [hwd]; simp [lC]
  have hq':=hq rfl
  have wa:=aS (show f < 9223372036854775807 by omega)
  have wb:IntKind.i64.wrap ((t:Int) - 1)=((t - 1:Nat):Int):=by rw [wrap_i64 (by omega)]; omega
  have hs1:splice (Wd.cells ⟨(T0.drop f).take (t - f),true,(ln:Nat),((f - bg+1:Nat):Int)⟩) 0 [.str ((T0.drop (f+1)).take (t - 1 - (f+1)))]=w.cells:=by rw [← hwd']; rfl
  have hlen4:∀ w:Wd,w.cells.length=4:=fun _=>rfl
  have hset:∀ x y z,(T++[x,y]).set (T.length+1) z=T++[x,z]:=fun x y z=>by rw [List.set_append_right _ _ (by omega)]; simp
  rw [hz0,hfl,if_pos rfl]
  simp only [go_sem,simprocAttr,hl,h0,h1,h2,g1,g2,n1,n2,TkC.l0,wa,wb,hs1,hlen4,hset]
  refine ⟨by omega,by omega,?_⟩
  refine ay au (by kernel_rfl) ?_
  obtain ⟨T2,e2,happ,hlen2,hcl2,hkp,hnew,hG⟩:=(hw.more [.cells [.int .i64 (ln:Nat),.int .i64 (f - bg+1:Nat)] 38 .rw,.cells w.cells 63 .rw,.cells w.cells 63 .rw]).qw (P:=Tryz.prog) (b:=40) (by decide) Bi w.cells 1 (by decide) rfl rfl (by simp only [fits,decide_eq_true_eq]; omega)
  rw [← nS] at hnew hG
  have hkj:=hkp j _ (ah hb) hmj
  have q1:∀ (v:AV) (e:Ef) (A B C:bp),quiet (v,H++(T++[A,B,C]),e) (H++(T++[A,B]))=false:=by intro v e A B C; simp [quiet]
  have q2:∀ (v:AV) (e:Ef) (A B C:bp),quiet (v,H++T2,e) (H++(T++[A,B,C]))=false:=by intro v e A B C; simp only [List.length_append,List.length_cons,List.length_nil] at hlen2; simp [quiet]; omega
  simp only [go_sem,simprocAttr,hl,h0,h1,h2,h3,g1,g2,g3,n1,n2,n3,n4,TkC.l7,TkC.len,TkC.s7,hwv,hwsc,hld,hrd,tG,happ,hkj,q1,q2,List.append_assoc,List.cons_append,List.nil_append]
  refine ⟨by rcases uw 8 e2 with h | h <;> rw [h] <;> kernel_rfl,?_⟩
  obtain ⟨e',hlv,hce,hsto⟩:=pY (n:=H.length+T.length) (b:=H.length+j) (v:=.tuple []) (H:=H++List.set T2 j (.cells (TkC T0 i ln bg vo bl el (.slice (H.length+(T.length+3)) 0 (ws.length+1) (.op 0)) ve ins) 93 .rw)) (e1:=(((⟨none,some (H.length+T.length)⟩:Ef).and ⟨none,some (H.length+(T.length+1))⟩).and ⟨none,some (H.length+(T.length+1))⟩).and e2) (by omega)
  refine ⟨(.slice (H.length+(T.length+3)) 0 (ws.length+1) (.op 0),_,e'),⟨?_,?_,hce H.length ?_,hsto,fun m h=>(by obtain ⟨q,h⟩:=h; injection h with h1; omega),fun x y hx hnb hy=>?_⟩,hlv⟩
  ·exact List.getElem?_set_self (ai hkj)
  ·rw [← hwd]
   have:=hG.set (x:=.cells (TkC T0 i ln bg vo bl el (.slice (H.length+(T.length+3)) 0 (ws.length+1) (.op 0)) ve ins) 93 .rw) hkj
   simpa only [List.length_append,List.length_cons,List.length_nil] using this
  ·simp only [aV,b7,lV,hcl2,and_true]; omega
  ·rw [List.getElem?_set_ne (Ne.symm hx)]
   exact hkp x y (ah hy) (fun m n e=>by rintro rfl; exact hnb ⟨n,e⟩)

def spC (op:List (Nat × Nat)):List AV:=op.flatMap fun x=>[.int .i64 x.1,.int .i64 x.2]
theorem kj (op:List (Nat × Nat)):(spC op).length=op.length*2:=by
 induction op with
 | nil=>rfl
 | cons x l ih=>simp only [spC,List.flatMap_cons,List.length_append,List.length_cons,List.length_nil] at ih ⊢; omega
theorem ri (a b:List (Nat × Nat)):spC (a++b)=spC a++spC b:=by simp [spC]

def enC (es:List (En × AV)):List AV:=es.flatMap fun x=>[.bool x.1.bl,.int .i64 (x.1.ln:Nat),x.2]
theorem Ff (es:List (En × AV)):(enC es).length=es.length*3:=by
 induction es with
 | nil=>rfl
 | cons x l ih=>simp only [enC,List.flatMap_cons,List.length_append,List.length_cons,List.length_nil] at ih ⊢; omega
theorem N8 (a b:List (En × AV)):enC (a++b)=enC a++enC b:=by simp [enC]
def Eo (H T:Hp) (ve:AV) (es:List (En × AV)):Prop:=bZ H.length T ve 68 3 es.length (enC es)∧∀ x ∈ es,x.1.ws≠[]∧bZ H.length T x.2 63 4 x.1.ws.length (cA x.1.ws)
theorem Ho (b:Bool) (l:Nat) (v:AV) (hv:cK v=true) (H:Hp):aO Tryz.prog 54 1 [(0,.agg [.bool b,.int .i64 l,v])] H=some (.slice H.length 0 1 (.ex 1),H++[.cells [.bool b,.int .i64 l,v] 68 .rw]):=by
 simp only [aO,rK,rH,Option.bind_some]
 rfl
theorem bZ.T5 {n:Nat} {T:Hp} {v:AV} {ws:List Wd} (h:bZ n T v 63 4 ws.length (cA ws)) (H':Hp):bY Tryz.prog 59 v H'=some (.int .i64 ws.length):=by
 obtain ⟨rfl,_,h3⟩ | ⟨_,_,m,rfl,_⟩:=h <;> simp only [bY,jD]
 rw [h3]; rfl
theorem bZ.vc {n:Nat} {T:Hp} {v:AV} {e z len:Nat} {cs:List AV} (h:bZ n T v e z len cs):bH v=[v]:=by
 obtain ⟨rfl,_⟩ | ⟨_,_,m,rfl,_⟩:=h <;> rfl
theorem bZ.ne {n:Nat} {T:Hp} {v:AV} {e z len:Nat} {cs:List AV} (h:bZ n T v e z len cs) {m:Nat} {c:List AV} {e':TypeId} {k:Kd} (hm:T[m]?=some (.cells c e' k)) (he:e'≠e):¬ bkT n v m:=by
 rintro ⟨q,rfl⟩
 obtain ⟨h,_⟩ | ⟨_,_,m',h,hm'⟩:=h
 ·cases h
 ·have:m=m':=by injection h; omega
  rw [this,hm'] at hm
  simp at hm
  exact he hm.2.1.symm
theorem bZ.nb {n:Nat} {T:Hp} {v:AV} {e z len:Nat} {cs:List AV} (h:bZ n T v e z len cs) {e2 z2 l2:Nat} {v2:AV} {c2:List AV} (h2:bZ n T v2 e2 z2 l2 c2) (he:e2≠e) {m:Nat} (hm:bkT n v2 m):¬ bkT n v m:=by
 obtain ⟨q,rfl⟩:=hm
 obtain ⟨h',_⟩ | ⟨_,_,m',h',hm'⟩:=h2
 ·cases h'
 ·have:m=m':=by injection h'; omega
  subst this
  exact h.ne hm' he
theorem bZ.nrw {n:Nat} {T:Hp} {v:AV} {e z len:Nat} {cs:List AV} (h:bZ n T v e z len cs) {m:Nat} {c:List AV} {e':TypeId} (hm:T[m]?=some (.cells c e' .rw)):¬ bkT n v m:=by
 rintro ⟨q,rfl⟩
 obtain ⟨h,_⟩ | ⟨_,_,m',h,hm'⟩:=h
 ·cases h
 ·have:m=m':=by injection h; omega
  rw [this,hm'] at hm
  simp at hm
theorem bZ.fr {n:Nat} {T T':Hp} {v:AV} {e z len:Nat} {cs:List AV} (h:bZ n T v e z len cs) (hk:∀ m y,bkT n v m→T[m]?=some y→T'[m]?=some y):bZ n T' v e z len cs:=by
 obtain h | ⟨h1,h2,m,rfl,hm⟩:=h
 ·exact .inl h
 ·exact .inr ⟨h1,h2,m,rfl,hk m _ ⟨_,rfl⟩ hm⟩

theorem uu (H T:Hp) (j:Nat) (T0:List UInt8) (i ln bg:Nat) (vo:AV) (bl:Bool) (el:Nat) (vw ve:AV) (ins:Bool) (ws:List Wd) (es:List (En × AV)) (hb:T[j]?=some (.cells (TkC T0 i ln bg vo bl el vw ve ins) 93 .rw))
  (hw:bZ H.length T vw 63 4 ws.length (cA ws)) (hE:Eo H T ve es) (hes:es.length≤262144) :
  ∃ b:AV × Hp × Ef,(b.2.1[j]?=some (.cells (TkC T0 i ln bg vo false 0 .aI b.1 false) 93 .rw)∧Eo H b.2.1 b.1 (if ws=[] then es else es++[(⟨bl,el,ws⟩,vw)])∧clean H.length b.2.2∧((ws=[]∧b.2.1.length≤T.length)∨Sto (H.length+j) b.2.2) ∧
   (∀ (x:Nat) y,x≠j→¬ bkT H.length ve x→T[x]?=some y→b.2.1[x]?=some y))∧∀ k,ag Tryz.prog 70 [.ptr (H.length+j) 0] (H++T) k=k (.tuple [],H++b.2.1,b.2.2):=by
 have hlt:=ai hb
 have hlen:=hw.T5
 have hbz:bq Tryz.prog 68 []=some (.agg [.bool false,.int .i64 0,.aI]):=by kernel_rfl
 have hs5:∀ (vo:AV) (bl:Bool) (el:Nat) (vw ve:AV) (ins:Bool),splice (TkC T0 i ln bg vo bl el vw ve ins) 5 [.bool false,.int .i64 0,.aI]=TkC T0 i ln bg vo false 0 .aI ve ins:=fun _ _ _ _ _ _=>rfl
 refine cI (fun b:AV × Hp × Ef=>_) (fun b=>(.tuple [],H++b.2.1,b.2.2)) ?_
 refine aa (n:=29) (rs:=[]) Tryz.func70 rfl rfl rfl ?_
 intro σ hl ha
 have h0:=ha 0 (by simp)
 clear ha
 simp only [Option.getD_some,List.getElem?_cons_zero,List.getElem?_cons_succ] at h0
 by_cases hws:ws=[]
 ·subst hws
  have hd0:decide ((([]:List Wd).length:Int) > 0)=false:=by simp
  have hg2:∀ y,(T.set j y)[j]?=some y:=fun y=>List.getElem?_set_self hlt
  simp only [go_sem,simprocAttr,hl,h0,hb,TkC.l7,hlen,hd0,hbz,hs5,TkC.len,TkC.s9,hg2,List.set_set]
  have hcl:clean H.length (⟨none,some (H.length+j)⟩:Ef):=by simp [clean,low]
  refine ⟨(ve,T.set j (.cells (TkC T0 i ln bg vo false 0 .aI ve false) 93 .rw),_),⟨hg2 _,⟨hE.1.set hb,fun x hx=>⟨(hE.2 x hx).1,(hE.2 x hx).2.set hb⟩⟩,eH (n:=H.length) (m:=H.length+T.length) (e:=(⟨none,some (H.length+j)⟩:Ef)) hcl,.inl (by simp),fun x y hx _ hy=>?_⟩,?_⟩
  ·rw [List.getElem?_set_ne (Ne.symm hx)]; exact hy
  ·unfold leave
   congr 2
   split
   ·rw [List.take_of_length_le (by simp)]
   ·rfl
 ·have hd1:decide ((ws.length:Int) > 0)=true:=by have:0 < ws.length:=List.length_pos_iff.2 hws; simp; omega
  have hwsc:=hw.scl
  obtain ⟨x,hx⟩:∃ x:List AV,x=[.bool bl,.int .i64 el,vw]:=⟨_,rfl⟩
  have hl5:ldC 5 3 true (.cells (TkC T0 i ln bg vo bl el vw ve ins) 93 .rw)=some (.agg x):=by rw [hx]; rfl
  have hbs:∀ H,aO Tryz.prog 54 1 [(0,.agg x)] H=some (.slice H.length 0 1 (.ex 1),H++[.cells x 68 .rw]):=by rw [hx]; exact Ho bl el vw hwsc
  have hrd:rdC 0 3 (.cells x 68 .rw)=some x:=by rw [hx]; rfl
  have n1:∀ y,(T++[y])[T.length]?=some y:=fun y=>by simp
  have g1:∀ y,(T++[y])[j]?=some (.cells (TkC T0 i ln bg vo bl el vw ve ins) 93 .rw):=fun y=>ah hb
  obtain ⟨T2,e2,happ,hlen2,hcl2,hkp,hnew,hG⟩:=(hE.1.more [.cells x 68 .rw]).qw (P:=Tryz.prog) (b:=40) (by decide) Hz x 1 (by decide) (by rw [hx]; rfl) (by rw [hx]; simp only [List.all_cons,hwsc,List.all_nil,Bool.and_true]; rfl) (by simp only [fits,decide_eq_true_eq]; omega)
  have hmj:∀ m n,ve=.slice (H.length+m) 0 n (.op 0)→j≠m:=by
   rintro m n e rfl
   exact hE.1.ne hb (by decide) ⟨n,e⟩
  have hkj:=hkp j _ (ah hb) hmj
  have q1:∀ (v:AV) (e:Ef) (A:bp),quiet (v,H++(T++[A]),e) (H++T)=false:=by intro v e A; simp [quiet]
  have q2:∀ (v:AV) (e:Ef) (A:bp),quiet (v,H++T2,e) (H++(T++[A]))=false:=by intro v e A; simp only [List.length_append,List.length_cons,List.length_nil] at hlen2; simp [quiet]; omega
  have hvv:=hE.1.vc
  have hg2:∀ y,(T2.set j y)[j]?=some y:=fun y=>List.getElem?_set_self (ai hkj)
  simp only [go_sem,simprocAttr,hl,h0,hb,TkC.l7,hlen,hd1]
  refine ay au (by kernel_rfl) ?_
  simp only [go_sem,simprocAttr,hl,h0,hb,TkC.l8,hl5,hvv,hbs,hrd,n1,g1,happ,hkj,q1,q2,TkC.len,TkC.s8,List.append_assoc,List.cons_append,List.nil_append,hg2,hbz,hs5,TkC.s9,List.set_set]
  refine ⟨by rcases uw 10 e2 with h | h <;> rw [h] <;> kernel_rfl,?_⟩
  obtain ⟨y,hy⟩:∃ y:bp,y=.cells (TkC T0 i ln bg vo false 0 .aI (.slice (H.length+(T.length+1)) 0 (es.length+1) (.op 0)) false) 93 .rw:=⟨_,rfl⟩
  obtain ⟨e',hlv,hce,hsto⟩:=pY (n:=H.length+T.length) (b:=H.length+j) (v:=.tuple []) (H:=H++List.set T2 j y) (e1:=e2) (by omega)
  have hnn:(⟨none,some (H.length+j)⟩:Ef).and ⟨none,some (H.length+j)⟩=⟨none,some (H.length+j)⟩:=by simp [Ef.and,eD]
  rw [Ef.and_assoc,Ef.and_assoc,hnn,qx,← hy,hlv]
  have kp:∀ (v:AV) (ws:List Wd),bZ H.length T v 63 4 ws.length (cA ws)→bZ H.length (T2.set j y) v 63 4 ws.length (cA ws):=by
   intro v ws h
   refine h.fr (fun m z hm hz=>?_)
   have hne:j≠m:=fun hjm=>h.ne (hjm ▸ hb) (by decide) hm
   rw [List.getElem?_set_ne hne]
   exact hkp m z (ah hz) (fun m' n e=>by rintro rfl; exact hE.1.nb h (by decide) hm ⟨n,e⟩)
  refine ⟨(.slice (H.length+(T.length+1)) 0 (es.length+1) (.op 0),T2.set j y,e'),⟨?_,⟨?_,?_⟩,hce H.length ?_,.inr hsto,fun x z hxj hnb hz=>?_⟩,rfl⟩
  ·rw [hy]; exact hg2 _
  ·have hen:enC [((⟨bl,el,ws⟩:En),vw)]=x:=by rw [hx]; rfl
   rw [if_neg hws,N8,List.length_append,List.length_singleton,hen]
   have:=hG.set (x:=y) hkj
   simpa only [List.length_append,List.length_cons,List.length_nil,Nat.zero_add] using this
  ·rw [if_neg hws]
   intro x hx
   rcases List.mem_append.1 hx with hx | hx
   ·exact ⟨(hE.2 x hx).1,kp _ _ (hE.2 x hx).2⟩
   ·rw [List.mem_singleton.1 hx]
    exact ⟨hws,kp _ _ hw⟩
  ·simp only [aV,lV,hcl2,true_and]; omega
  ·show (T2.set j y)[x]?=some z
   rw [List.getElem?_set_ne (Ne.symm hxj)]
   exact hkp x z (ah hz) (fun m n e=>by rintro rfl; exact hnb ⟨n,e⟩)

def Oo (n:Nat) (T:Hp) (v:AV) (op:List (Nat × Nat)):Prop:=(v=.aI∧op=[])∨∃ m r,v=.slice (n+m) 0 op.length (.op 0)∧T[m]?=some (.cells (spC op++spC r) 38 (.op 0 false))∧0 < op.length+r.length
theorem Oo.len {n:Nat} {T:Hp} {v:AV} {op:List (Nat × Nat)} (h:Oo n T v op) (H':Hp):bY Tryz.prog 91 v H'=some (.int .i64 op.length):=by
 obtain ⟨rfl,rfl⟩ | ⟨m,r,rfl,_⟩:=h <;> simp only [bY,pF]
 rfl
theorem Oo.scl {n:Nat} {T:Hp} {v:AV} {op:List (Nat × Nat)} (h:Oo n T v op):cK v=true∧bH v=[v]:=by
 obtain ⟨rfl,rfl⟩ | ⟨m,r,rfl,_⟩:=h <;> exact ⟨rfl,rfl⟩
theorem Oo.ne {n:Nat} {T:Hp} {v:AV} {op:List (Nat × Nat)} (h:Oo n T v op) {m:Nat} {c:List AV} {e':TypeId} {k:Kd} (hm:T[m]?=some (.cells c e' k)) (he:e'≠38):¬ bkT n v m:=by
 rintro ⟨q,rfl⟩
 obtain ⟨h,_⟩ | ⟨m',r,h,hm',_⟩:=h
 ·cases h
 ·have:m=m':=by injection h; omega
  rw [this,hm'] at hm
  simp at hm
  exact he hm.2.1.symm
theorem Oo.fr {n:Nat} {T T':Hp} {v:AV} {op:List (Nat × Nat)} (h:Oo n T v op) (hk:∀ m y,bkT n v m→T[m]?=some y→T'[m]?=some y):Oo n T' v op:=by
 obtain h | ⟨m,r,rfl,hm,hr⟩:=h
 ·exact .inl h
 ·exact .inr ⟨m,r,rfl,hk m _ ⟨_,rfl⟩ hm,hr⟩
theorem Oo.nb {n:Nat} {T:Hp} {v:AV} {op:List (Nat × Nat)} (h:Oo n T v op) {e z len:Nat} {v2:AV} {c2:List AV} (h2:bZ n T v2 e z len c2) (he:e≠38) {m:Nat} (hm:bkT n v m):¬ bkT n v2 m:=by
 intro hm2
 obtain ⟨q,rfl⟩:=hm2
 obtain ⟨h',_⟩ | ⟨_,_,m',h',hm'⟩:=h2
 ·cases h'
 ·have:m=m':=by injection h'; omega
  subst this
  exact h.ne hm' he hm

theorem FK (H T:Hp) (j:Nat) (T0:List UInt8) (i ln bg:Nat) (vo:AV) (bl:Bool) (el:Nat) (vw ve:AV) (ins:Bool) (op:List (Nat × Nat)) (ws:List Wd) (es:List (En × AV)) (hb:T[j]?=some (.cells (TkC T0 i ln bg vo bl el vw ve ins) 93 .rw))
  (hO:Oo H.length T vo op) (hw:bZ H.length T vw 63 4 ws.length (cA ws)) (hE:Eo H T ve es) (hes:es.length≤262144) (hln:ln≤262144) :
  ∃ b:AV × Hp × Ef,((if op=[] then b.2.1[j]?=some (.cells (TkC T0 i (ln+1) i vo false 0 .aI b.1 false) 93 .rw)∧Eo H b.2.1 b.1 (if ws=[] then es else es++[(⟨bl,el,ws⟩,vw)]) else b.2.1[j]?=some (.cells (TkC T0 i (ln+1) i vo bl el vw ve ins) 93 .rw)∧b.1=ve∧Eo H b.2.1 ve es)∧clean H.length b.2.2∧(((ws=[]∨op≠[])∧b.2.1.length≤T.length)∨Sto (H.length+j) b.2.2) ∧
   (∀ (x:Nat) y,x≠j→¬ bkT H.length ve x→T[x]?=some y→b.2.1[x]?=some y))∧∀ k,ag Tryz.prog 67 [.ptr (H.length+j) 0] (H++T) k=k (.tuple [],H++b.2.1,b.2.2):=by
 have hlt:=ai hb
 have hlen:=hO.len
 obtain ⟨T1,hT1⟩:∃ T1,T1=T.set j (.cells (TkC T0 i (ln+1) i vo bl el vw ve ins) 93 .rw):=⟨_,rfl⟩
 have hg2:∀ y,(T.set j y)[j]?=some y:=fun y=>List.getElem?_set_self hlt
 have hb1:T1[j]?=some (.cells (TkC T0 i (ln+1) i vo bl el vw ve ins) 93 .rw):=by rw [hT1]; exact hg2 _
 have w1:=aS (show ln < 9223372036854775807 by omega)
 refine cI (fun b:AV × Hp × Ef=>_) (fun b=>(.tuple [],H++b.2.1,b.2.2)) ?_
 refine aa (n:=24) (rs:=[]) Tryz.func67 rfl rfl rfl ?_
 intro σ hl ha
 have h0:=ha 0 (by simp)
 clear ha
 simp only [Option.getD_some,List.getElem?_cons_zero,List.getElem?_cons_succ] at h0
 by_cases hop:op=[]
 ·obtain ⟨b,⟨c1,c2,c3,c5,c4⟩,hc⟩:=uu H T1 j T0 i (ln+1) i vo bl el vw ve ins ws es hb1 (hT1 ▸ hw.set hb) (hT1 ▸ ⟨hE.1.set hb,fun x hx=>⟨(hE.2 x hx).1,(hE.2 x hx).2.set hb⟩⟩) hes
  subst hop
  have hz:((([]:List (Nat × Nat)).length:Int) == 0)=true:=rfl
  simp only [go_sem,simprocAttr,hl,h0,hb,TkC.l1,TkC.l2,TkC.l4,hlen,hz,TkC.len,TkC.s2,TkC.s3,hg2,hb1,List.set_set,w1,← hT1,hc]
  have hcl:clean H.length (⟨none,some (H.length+j)⟩:Ef):=by simp [clean,low]
  have hT1l:T1.length=T.length:=by rw [hT1]; simp
  have hlv:leave (H.length+T.length) (.tuple []) (H++b.2.1) ((⟨none,some (H.length+j)⟩:Ef).and b.2.2)=(.tuple [],H++b.2.1,⟨low (H.length+T.length) ((⟨none,some (H.length+j)⟩:Ef).and b.2.2).es,low (H.length+T.length) ((⟨none,some (H.length+j)⟩:Ef).and b.2.2).ws⟩):=by
   rcases c5 with h | h
   ·exact sD (by rw [List.length_append]; omega)
   ·exact (h.r _).leave (by omega)
  refine ⟨(b.1,b.2.1,⟨low (H.length+T.length) ((⟨none,some (H.length+j)⟩:Ef).and b.2.2).es,low (H.length+T.length) ((⟨none,some (H.length+j)⟩:Ef).and b.2.2).ws⟩),⟨⟨c1,c2⟩,eH (aV.2 ⟨hcl,c3⟩),?_,fun x y hx hnb hy=>?_⟩,hlv⟩
  ·rcases c5 with h | h
   ·exact .inl ⟨.inl h.1,by show b.2.1.length≤T.length; omega⟩
   ·exact .inr ((h.r _).low (by omega))
  ·exact c4 x y hx hnb (by rw [hT1,List.getElem?_set_ne (Ne.symm hx)]; exact hy)
 ·have hz:((op.length:Int) == 0)=false:=by have:=List.length_pos_iff.2 hop; rw [beq_eq_false_iff_ne]; omega
  simp only [go_sem,simprocAttr,hl,h0,hb,TkC.l1,TkC.l2,TkC.l4,hlen,hz,TkC.len,TkC.s2,TkC.s3,hg2,hb1,List.set_set,w1,← hT1]
  have hcl:clean H.length (⟨none,some (H.length+j)⟩:Ef):=by simp [clean,low]
  have hT1l:T1.length=T.length:=by rw [hT1]; simp
  refine ⟨(ve,T1,_),⟨by rw [if_neg hop]; exact ⟨hb1,rfl,by show Eo H T1 ve es; rw [hT1]; exact ⟨hE.1.set hb,fun x hx=>⟨(hE.2 x hx).1,(hE.2 x hx).2.set hb⟩⟩⟩,eH hcl,.inl ⟨.inr hop,by show T1.length≤T.length; omega⟩,fun x y hx hnb hy=>?_⟩,sD (by rw [List.length_append]; omega)⟩
  show T1[x]?=some y
  rw [hT1,List.getElem?_set_ne (Ne.symm hx)]; exact hy
theorem Oo.pop {H T:Hp} {v:AV} {op:List (Nat × Nat)} (h:Oo H.length T v op) (hne:op≠[]):∃ v',(∀ kk,slK Tryz.prog 91 v none (some (.int .i64 (op.length - 1:Nat))) none (H++T) kk=kk (v',H++T,z0))∧Oo H.length T v' op.dropLast∧flat v'=false∧(∀ m,bkT H.length v' m→bkT H.length v m):=by
 obtain ⟨_,rfl⟩ | ⟨m,r,rfl,hm,hr⟩:=h
 ·exact absurd rfl hne
 ·have hpos:=List.length_pos_iff.2 hne
  refine ⟨.slice (H.length+m) 0 (op.length - 1) (.op 0),fun kk=>?_,.inr ⟨m,op.getLast hne::r,by rw [List.length_dropLast],?_,by simp; omega⟩,rfl,?_⟩
  ·rw [rX (by rw [pF]; rfl),pF,aD,bX,hm,aD,zD,if_pos ⟨rfl,by decide,rfl⟩,aD,K1]
   have hl:((spC op++spC r).length - 0) / 2=op.length+r.length:=by rw [List.length_append,kj,kj]; omega
   rw [hl]
   have q1:((0:Int)≤((op.length - 1:Nat):Int)∧((op.length - 1:Nat):Int)≤((op.length+r.length:Nat):Int))=True:=eq_true ⟨by omega,by omega⟩
   have d0:decide ((0:Nat)=0∨0 < op.length+r.length)=true:=decide_eq_true (.inl rfl)
   rw [q1,true_and,d0,cV]
   simp only [ED]
   simp
  ·rw [hm]
   congr 2
   have e:spC op=spC op.dropLast++spC [op.getLast hne]:=by rw [← ri,List.dropLast_concat_getLast hne]
   rw [e,List.append_assoc,← ri,List.singleton_append]
  ·rintro x ⟨q,h⟩
   injection h with h1
   exact ⟨_,by rw [show m=x by omega]⟩

theorem Oo.app {H T:Hp} {v:AV} {op:List (Nat × Nat)} (h:Oo H.length T v op) (x:Nat × Nat) (hf:fits (op.length+1) 16=true) :
  ∃ v' T2 e2,(∀ kk,aF (c9 Tryz.prog (.slice 38 2 16) v ([.int .i64 x.1,.int .i64 x.2],1) (H++T)) kk=kk (v',H++T2,e2))∧T.length≤T2.length∧clean H.length e2∧(∀ (i:Nat) y,¬ bkT H.length v i→T[i]?=some y→T2[i]?=some y)∧Oo H.length T2 v' (op++[x])∧flat v'=false∧(∀ w,quiet (w,H++T2,e2) (H++T)=false)∧(∀ i,bkT H.length v' i→bkT H.length v i∨T.length≤i):=by
 have zk:=Hw
 obtain ⟨rfl,rfl⟩ | ⟨m,r,rfl,hm,hr⟩:=h
 ·refine ⟨.slice (H.length+T.length) 0 1 (.op 0),T++[.cells [.int .i64 x.1,.int .i64 x.2] 38 (.op 0 false)],z0,fun kk=>?_,by simp,by simp [clean,z0,low],fun i y _ hy=>ah hy,.inr ⟨T.length,[],rfl,by simp [spC],by simp⟩,rfl,fun w=>by simp [quiet],?_⟩
  ·rw [dS (by decide) zk]
   have hd:decide ((1:Nat)=0)=false:=by decide
   have hf:fits 1 16=true:=by simpa using hf
   simp only [hd,cn,hf,true_and,List.length_append,List.append_assoc]
  ·rintro i ⟨q,h⟩
   injection h with h1
   exact .inr (by omega)
 ·have hlt:=ai hm
  have hg:(H++T)[H.length+m]?=some (.cells (spC op++spC r) 38 (.op 0 false)):=by rw [bX,hm]
  have hlen:(spC op++spC r).length=(op.length+r.length)*2:=by rw [List.length_append,kj,kj]; omega
  cases r with
  | nil =>
   refine ⟨.slice (H.length+T.length) 0 (op.length+1) (.op 0),T.set m .dead++[.cells (spC op++[.int .i64 x.1,.int .i64 x.2]) 38 (.op 0 false)],⟨none,some (H.length+m)⟩,fun kk=>?_,by simp,by simp [clean,low],fun i y hi hy=>?_,.inr ⟨T.length,[],by simp,?_,by simp⟩,rfl,fun w=>by simp [quiet],?_⟩
   ·rw [eC (by decide) zk,hg,aD,hU]
    have hd:decide (0+(op.length+1)*2≤(spC op++spC []).length)=false:=by rw [hlen]; simp
    have hk:((spC op++spC []).drop 0).take (op.length*2)=spC op:=by
     have:spC []=[]:=rfl
     rw [this,List.append_nil,List.drop_zero,← kj,List.take_length]
    have hle:0+op.length*2≤(spC op++spC []).length:=by rw [hlen]; simp
    have hsc:([.int .i64 x.1,.int .i64 x.2]:List AV).all cK=true:=rfl
    simp only [hd,cn,hk,hf,hle,hsc]
    simp [gz]
   ·exact ah (by rw [List.getElem?_set_ne (by rintro rfl; exact hi ⟨_,rfl⟩)]; exact hy)
   ·rw [List.getElem?_append_right (by simp),ri]; simp [spC]
   ·rintro i ⟨q,h⟩
    injection h with h1
    exact .inr (by omega)
  | cons y r =>
   refine ⟨.slice (H.length+m) 0 (op.length+1) (.op 0),T.set m (.cells (spC (op++[x])++spC r) 38 (.op 0 false)),⟨none,some (H.length+m)⟩,fun kk=>?_,by simp,by simp [clean,low],fun i z hi hz=>?_,.inr ⟨m,r,by simp,List.getElem?_set_self hlt,by simp; omega⟩,rfl,fun w=>by simp [quiet],?_⟩
   ·rw [eC (by decide) zk,hg,aD,hU]
    have hd:decide (0+(op.length+1)*2≤(spC op++spC (y::r)).length)=true:=by rw [hlen]; simp; omega
    have hle:0+op.length*2≤(spC op++spC (y::r)).length:=by rw [hlen]; simp; omega
    have hsp:splice (spC op++spC (y::r)) (0+op.length*2) [.int .i64 x.1,.int .i64 x.2]=spC (op++[x])++spC r:=by
     unfold splice
     have e1:(spC op++spC (y::r)).take (0+op.length*2)=spC op:=by rw [Nat.zero_add,← kj,List.take_left]
     have e2:(spC op++spC (y::r)).drop (0+op.length*2+([.int .i64 x.1,.int .i64 x.2]:List AV).length)=spC r:=by
      rw [← List.drop_drop,Nat.zero_add,← kj,List.drop_left]; rfl
     rw [e1,e2,ri]; rfl
    have hwr:wr (H++T) (H.length+m) (0+op.length*2) [.int .i64 x.1,.int .i64 x.2]=some (H++T.set m (.cells (spC (op++[x])++spC r) 38 (.op 0 false)),⟨none,some (H.length+m)⟩):=by
     unfold wr
     rw [hg]
     simp only []
     rw [if_pos ⟨by rw [hlen]; simp; omega,by simp [gE],rfl⟩,hsp,gz]
     rfl
    simp only [hd,cV,hwr,aD,hle]
    simp
   ·rw [List.getElem?_set_ne (by rintro rfl; exact hi ⟨_,rfl⟩)]; exact hz
   ·rintro i ⟨q,h⟩
    injection h with h1
    exact .inl ⟨_,by rw [show m=i by omega]⟩
theorem Oo.nrw {n:Nat} {T:Hp} {v:AV} {op:List (Nat × Nat)} (h:Oo n T v op) {m:Nat} {c:List AV} {e':TypeId} (hm:T[m]?=some (.cells c e' .rw)):¬ bkT n v m:=by
 rintro ⟨q,rfl⟩
 obtain ⟨h,_⟩ | ⟨m',r,h,hm',_⟩:=h
 ·cases h
 ·have:m=m':=by injection h; omega
  rw [this,hm'] at hm
  simp at hm
theorem Eo.fr {H T T':Hp} {v:AV} {es:List (En × AV)} (h:Eo H T v es) (hk:∀ m y,(bkT H.length v m∨∃ x ∈ es,bkT H.length x.2 m)→T[m]?=some y→T'[m]?=some y):Eo H T' v es :=
 ⟨h.1.fr (fun m y hm hy=>hk m y (.inl hm) hy),fun x hx=>⟨(h.2 x hx).1,(h.2 x hx).2.fr (fun m y hm hy=>hk m y (.inr ⟨x,hx,hm⟩) hy)⟩⟩
theorem Hj (a b:Int) (H:Hp):aO Tryz.prog 91 1 [(0,.agg [.int .i64 a,.int .i64 b])] H=some (.slice H.length 0 1 (.ex 1),H++[.cells [.int .i64 a,.int .i64 b] 38 .rw]):=by
 simp only [aO,pF,jM,Option.bind_some]
 rfl

theorem jj {t:List UInt8} {a:Nat} {c:UInt8} (h:t[a]?=some c):t.drop a=c::t.drop (a+1):=by
 have hl:=(List.getElem?_eq_some_iff.1 h).1
 rw [List.drop_eq_getElem_cons hl]; congr 1; rw [List.getElem?_eq_getElem hl] at h; exact Option.some.inj h
theorem pI {t:List UInt8} {i a:Nat} {c:UInt8} (hi:i≤a) (h:t[a]?=some c):(t.drop i).take (a+1 - i)=(t.drop i).take (a - i)++[c]:=by
 rw [show a+1 - i=(a - i)+1 by omega,List.take_add_one,List.getElem?_drop,show i+(a - i)=a by omega,h]; rfl
theorem uG (c:UInt8) (r:List UInt8):ku (c::r)=if c=10 then none else if c=34 then some ([],r) else if c=92 then (match r with
   | []=>none
   | d::r'=>if d=10 then none else (ku r').map fun x=>(c::d::x.1,x.2)) else (ku r).map fun x=>(c::x.1,x.2):=by
 conv=>lhs; rw [ku.eq_def]
 first | done | rfl
theorem Jb (r:List UInt8):ku (10::r)=none:=by rw [uG,if_pos rfl]
theorem OR:ku []=none:=by rw [ku.eq_def]
def QuA (t:List UInt8) (i a:Nat):Prop:=ku (t.drop i)=(ku (t.drop a)).map fun x=>((t.drop i).take (a - i)++x.1,x.2)
theorem QuA.refl (t:List UInt8) (i:Nat):QuA t i i:=by
 unfold QuA
 cases ku (t.drop i) <;> simp
theorem QuA.one {t:List UInt8} {i a:Nat} {c:UInt8} (h:QuA t i a) (hi:i≤a) (hc:t[a]?=some c) (h10:c≠10) (h34:c≠34) (hb:c=92→t[a+1]?=none∨t[a+1]?=some 10):QuA t i (a+1):=by
 unfold QuA at h ⊢
 rw [h,pI hi hc,jj hc]
 by_cases c92:c=92
 ·subst c92
  rcases hb rfl with h' | h'
  ·have:t.drop (a+1)=[]:=List.drop_eq_nil_of_le (by have:=List.getElem?_eq_none_iff.1 h'; omega)
   rw [this,uG,if_neg (by decide),if_neg (by decide),if_pos rfl,OR]; rfl
  ·rw [jj h',Jb,uG,if_neg (by decide),if_neg (by decide),if_pos rfl]; rfl
 ·rw [uG,if_neg h10,if_neg h34,if_neg c92]
  cases ku (t.drop (a+1)) <;> simp
theorem QuA.two {t:List UInt8} {i a:Nat} {d:UInt8} (h:QuA t i a) (hi:i≤a) (hc:t[a]?=some 92) (hd:t[a+1]?=some d) (h10:d≠10):QuA t i (a+2):=by
 unfold QuA at h ⊢
 rw [h,pI (by omega) hd,pI hi hc,jj hc,jj hd]
 have:ku (92::d::t.drop (a+1+1))=(ku (t.drop (a+1+1))).map fun x=>(92::d::x.1,x.2):=by
  rw [uG,if_neg (by decide),if_neg (by decide),if_pos rfl]
  simp only [if_neg h10]
 rw [this]
 cases ku (t.drop (a+1+1)) <;> simp
theorem QuA.bad {t:List UInt8} {i a:Nat} (h:QuA t i a) (hb:t[a]?=none∨t[a]?=some 10):ku (t.drop i)=none:=by
 unfold QuA at h
 rw [h]
 rcases hb with h' | h'
 ·have:t.drop a=[]:=List.drop_eq_nil_of_le (by have:=List.getElem?_eq_none_iff.1 h'; omega)
  rw [this,OR]; rfl
 ·rw [jj h',Jb]; rfl
theorem QuA.fin {t:List UInt8} {i a:Nat} (h:QuA t i a) (hb:t[a]?=some 34):ku (t.drop i)=some ((t.drop i).take (a - i),t.drop (a+1)):=by
 unfold QuA at h
 rw [h,jj hb]
 rw [uG,if_neg (by decide),if_pos rfl]
 simp

theorem D7 (c:UInt8) (r:List UInt8):dZ (c::r)=if sM c then ([],c::r) else if c=92 then (match r with
   | []=>([c],[])
   | d::r'=>if d=10 then (c::(dZ (d::r')).1,(dZ (d::r')).2) else (c::d::(dZ r').1,(dZ r').2)) else (c::(dZ r).1,(dZ r).2):=by
 conv=>lhs; rw [dZ.eq_def]
 first | done | rfl
theorem Lg:dZ []=([],[]):=by rw [dZ.eq_def]
def BaA (t:List UInt8) (i a:Nat):Prop:=dZ (t.drop i)=((t.drop i).take (a - i)++(dZ (t.drop a)).1,(dZ (t.drop a)).2)
theorem BaA.refl (t:List UInt8) (i:Nat):BaA t i i:=by unfold BaA; simp
theorem BaA.one {t:List UInt8} {i a:Nat} {c:UInt8} (h:BaA t i a) (hi:i≤a) (hc:t[a]?=some c) (hs:sM c=false) (hb:c=92→t[a+1]?=none∨t[a+1]?=some 10):BaA t i (a+1):=by
 unfold BaA at h ⊢
 have e:dZ (t.drop a)=(c::(dZ (t.drop (a+1))).1,(dZ (t.drop (a+1))).2):=by
  rw [jj hc,D7,hs,if_neg (by decide)]
  by_cases c92:c=92
  ·rw [if_pos c92]
   rcases hb c92 with h' | h'
   ·have:t.drop (a+1)=[]:=List.drop_eq_nil_of_le (by have:=List.getElem?_eq_none_iff.1 h'; omega)
    rw [this,Lg]
   ·rw [jj h']; rfl
  ·rw [if_neg c92]
 rw [h,pI hi hc,e]
 simp
theorem BaA.two {t:List UInt8} {i a:Nat} {d:UInt8} (h:BaA t i a) (hi:i≤a) (hc:t[a]?=some 92) (hd:t[a+1]?=some d) (h10:d≠10):BaA t i (a+2):=by
 unfold BaA at h ⊢
 have e:dZ (t.drop a)=(92::d::(dZ (t.drop (a+1+1))).1,(dZ (t.drop (a+1+1))).2):=by
  rw [jj hc,jj hd,D7,show sM 92=false from rfl,if_neg (by decide),if_pos rfl]
  simp only [if_neg h10]
 rw [h,pI (by omega) hd,pI hi hc,e]
 simp
theorem BaA.fin {t:List UInt8} {i a:Nat} (h:BaA t i a) (hb:t[a]?=none∨∃ c,t[a]?=some c∧sM c=true):dZ (t.drop i)=((t.drop i).take (a - i),t.drop a):=by
 unfold BaA at h
 rw [h]
 rcases hb with h' | ⟨c,h',hs⟩
 ·have:t.drop a=[]:=List.drop_eq_nil_of_le (List.getElem?_eq_none_iff.1 h')
  rw [this,Lg]; simp
 ·rw [jj h',D7,hs,if_pos rfl]; simp
end Go.Proofs.YtdppgaphcmhffaaGreatDoor.V
