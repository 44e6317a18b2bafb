/- Joined by mkclaim.py: VIn VDraw VDrawb VDrawc VDrawd VCode VCall VFun VGo. No conditions. -/
import Derived.Test.YtdppgaphcmhffaaGreatDoorJ0
import Derived.Orders
import Derived.LoopNIn
import Derived.RecoverIn
set_option linter.unusedSimpArgs false
set_option linter.unusedVariables false
set_option maxRecDepth 100000
namespace Go.Proofs.YtdppgaphcmhffaaGreatDoor.V
open Go

def Fr (ro:Option Nat):Fence:={ Fence.wide with round:=ro }
theorem nN {ro:Option Nat} {n:Nat} {P:Program} {f:FuncId} {args:Array Value} {w:World} {R:Ending→World→Prop} (h:Calls P f args w R):CallsIn (Fr ro) n P f args w R :=
 (callsIn_wide (n:=n)).2 h
theorem FZ {ro:Option Nat} {n:Nat} {P:Program} {row:String} {args:Array Value} {w:World} {R:Value→World→Prop} (h:Rows P row args w R):RowsIn (Fr ro) n P row args w R:=by
 intro c cs _
 obtain ⟨v,w',r,s⟩:=h c cs
 exact ⟨v,w',r,stepsIn_wide.2 s⟩

theorem wS {P:Program} {C:bL} {σ:List AV} {H:Hp} {op:Op} {q:AV × Hp × Ef} (h:bu P C σ H op=some q):∀ c,op≠.defer c:=by
 rintro c rfl
 simp [bu] at h

theorem rF {ro:Option Nat} {n:Nat} {P:Program} {o:Oper} {a:Act} {w:World} {K:Act→World→Prop} {Q:Exit→Act→World→Prop} (hd:∀ c,o.op≠.defer c) (h:o.wp P a w K Q):o.wpIn (Fr ro) n P a w K Q:=by
 refine ⟨fun f _=>trivial,?_⟩
 rw [Oper.semAt_eq _ _ _ hd]
 unfold Oper.wp at h
 generalize (execOp a.eval o).run P w=r at h
 cases r with
 | ok x w' =>
  cases x <;> simp only [Oper.upon] at h <;> simp only [Oper.uponIn] <;>
   first
    | exact h
    | exact ⟨fun h=>by simp [Fr,Fence.wide] at h,nN h⟩
    | exact ⟨fun h=>by simp [Fr,Fence.wide] at h,FZ h⟩
    | exact h.elim
 | halt x w'=>cases x <;> simp only [Oper.upon] at h <;> simp only [Oper.uponIn] <;> first | exact h | exact h.elim

section
variable {P:Program} {g:Gh} {μ:Mu} {H:Hp} {w:World} {a:Act} {σ:List AV} {C:bL}

def Ec (P:Program) (g:Gh) (μ:Mu) (H:Hp) (w:World) (a:Act) (o:Oper) (r:AV × Hp × Ef):Prop :=
 ∀ ro n K Q,(∀ μ' v' w',Ok P g μ H r μ' v' w'→K (a.put o.dst v') w')→o.wpIn (Fr ro) n P a w K Q

theorem qG (hC:cJ P C) (h:aY P g μ H w) (hσ:aA μ σ=some a.tmps.toList) {o:Oper} {r:AV × Hp × Ef} (hr:bu P C σ H o.op=some r):Ec P g μ H w a o r:=by
 intro ro n K Q hK
 have hd:=wS hr
 cases hy:JM P σ o.op with
 | false=>exact rF hd (Si hC h hσ hy hr K Q hK)
 | true =>
  unfold JM at hy
  split at hy
  ·rename_i c ho
   split at hy
   ·rename_i f hcal
    split at hy
    ·rename_i b hf
     rw [ho] at hr
     simp only [bu,dz,hcal,hf,Option.bind_some,Option.bind_eq_some_iff] at hr
     obtain ⟨az,has,hr⟩:=hr
     have hfc:=bE h hσ hf
     have hac:=jB h hσ has
     simp only [aB,Option.map_eq_some_iff] at hfc
     obtain ⟨l,hl,hev⟩:=hfc
     obtain ⟨rec,hrec,hlen,hround⟩:=hC.yl b az H r hr g μ w _ l h hac hl
     refine ⟨fun f _=>trivial,?_⟩
     rw [Oper.semAt_eq _ _ _ hd]
     have hrun:(execOp a.eval o).run P w=.ok (.round l.blk rec.fn ((rec.params.zip (c.args.toList.map a.eval).toArray).foldl (fun t (p,v)=>t.setIfInBounds p v) rec.tmps) rec.assign rec.body) w:=by
      unfold execOp
      simp only [ho,resolve,hcal,Deferred.ofValue,← hev,Sem.run_bind,Sem.run_pure,Result.andThen_ok,invoke]
      have hy:=run_yield (P:=P) (args:=(c.args.toList.map a.eval).toArray) hrec (by simpa using hlen)
      rw [← hy]
      congr 2
      apply Array.ext'
      simp
     rw [hrun]
     simp only [Oper.uponIn]
     refine ⟨fun h=>by simp [Fr,Fence.wide] at h,?_⟩
     have:=hround (n - 1)
     refine RoundIn.mono (F:=Fr ro) this ?_
     rintro e w' ⟨μ',v',rfl,hok⟩
     exact hK _ _ _ hok
    ·cases hy
   ·cases hy
  ·cases hy
end

theorem Ec.ex {P : Program} {g : Gh} {μ : Mu} {H : Hp} {w : World} {a : Act} {o : Oper} {r : AV × Hp × Ef} (h : Ec P g μ H w a o r) : ∃ μ' v' w', Ok P g μ H r μ' v' w' := by
  have hw := h none 0 (fun _ _ => ∃ μ' v' w', Ok P g μ H r μ' v' w') (fun _ _ _ => False) (fun μ' v' w' hok => ⟨μ', v', w', hok⟩)
  have hw := hw.2
  generalize (o.semAt (Fr none).round a.eval).run P w = q at hw
  cases q with
  | ok x w1 =>
    cases x <;> simp only [Oper.uponIn] at hw
    all_goals first
      | exact hw
      | exact hw.elim
      | (obtain ⟨_, hw⟩ := hw
         obtain ⟨e, w', fr, hR, _⟩ := hw.2 [] (room_wide _)
         cases e with
         | returned v => exact hR
         | panicked ch => exact hR.elim
         | outgrown => obtain ⟨_, _, hf⟩ := hR; exact hf.elim)
      | (obtain ⟨_, hw⟩ := hw
         obtain ⟨v, w', hR, _⟩ := hw default [] (room_wide _)
         exact hR)
      | (obtain ⟨_, hw⟩ := hw
         obtain ⟨e, w', hR, _⟩ := hw.2 default [] (room_wide _)
         cases e with
         | returned v => exact hR
         | panicked ch => exact hR.elim
         | outgrown => obtain ⟨_, _, hf⟩ := hR; exact hf.elim)
  | halt x w1 => cases x <;> simp only [Oper.uponIn] at hw

structure GLe (g g':Gh):Prop where
 z:∀ k,g.Z k→g'.Z k∧g'.W.heap[k]?=g.W.heap[k]?
 os:g'.W.os=g.W.os
 tape:g'.W.tape=g.W.tape
 output:g'.W.output=g.W.output
 size:g.W.heap.size≤g'.W.heap.size
 b:g'.B=g.B
 x:g'.X=g.X
theorem GLe.refl (g:Gh):GLe g g:=⟨fun _ h=>⟨h,rfl⟩,rfl,rfl,rfl,Nat.le_refl _,rfl,rfl⟩
theorem GLe.trans {a b c:Gh} (h:GLe a b) (k:GLe b c):GLe a c :=
 ⟨fun i hi=>⟨(k.z i (h.z i hi).1).1,(k.z i (h.z i hi).1).2.trans (h.z i hi).2⟩,k.os.trans h.os,k.tape.trans h.tape,k.output.trans h.output,Nat.le_trans h.size k.size,k.b.trans h.b,k.x.trans h.x⟩
theorem aY.weaken {P:Program} {g g':Gh} {μ:Mu} {H:Hp} {w:World} (h:aY P g' μ H w) (hg:GLe g g'):aY P g μ H w where
 dom:=h.dom
 eK:=h.eK
 lt:=h.lt
 blk:=h.blk
 sep:=h.sep
 own:=fun b l x e f hw hz=>h.own b l x e f hw (hg.z _ hz).1
 old:=fun k hk=>⟨(h.old k (hg.z k hk).1).1,(h.old k (hg.z k hk).1).2.trans (hg.z k hk).2⟩
 os:=h.os.trans hg.os
 tape:=h.tape.trans hg.tape
 output:=h.output.trans hg.output
 size:=Nat.le_trans hg.size h.size
theorem aY.onX {P:Program} {g:Gh} {μ:Mu} {H:Hp} {w:World} (h:aY P g μ H w) (X:List Deferred × Bool):aY P (g.on X) μ H w:=⟨h.dom,h.eK,h.lt,h.blk,h.sep,h.own,h.old,h.os,h.tape,h.output,h.size⟩
theorem aY.PD {P:Program} {g:Gh} {μ:Mu} {H:Hp} {w:World} {X:List Deferred × Bool} (h:aY P (g.on X) μ H w):aY P g μ H w:=⟨h.dom,h.eK,h.lt,h.blk,h.sep,h.own,h.old,h.os,h.tape,h.output,h.size⟩
theorem aY.Ji {P:Program} {g:Gh} {μ:Mu} {H:Hp} {w:World} (h:aY P g μ H w):aY P g.base μ H w:=h.onX _
theorem aY.rq {P:Program} {g:Gh} {μ:Mu} {H:Hp} {w:World} (h:aY P g.base μ H w):aY P g μ H w:=h.PD

def Marks (g:Gh) (ds:List Deferred):Prop :=
 (∀ k,g.B k→g.Z k)∧∃ Ds:List Nat,ds=Ds.map (fun D=>{ target:=.collected D,args:=#[] })++g.X.1∧Ds.Nodup∧(∀ D ∈ Ds,¬ g.B D∧g.Z D∧g.W.heap[D]?=some (.deferred (some [])))∧(g.X.2=true→Ds=[])
theorem Marks.on (g:Gh) (X:List Deferred × Bool):Marks (g.on X) X.1:=⟨fun _ h=>h,[],rfl,List.nodup_nil,fun _ h=>(by cases h),fun _=>rfl⟩
theorem Marks.nil (g:Gh):Marks g.base []:=Marks.on g ([],false)
theorem Marks.grow {g g':Gh} {ds:List Deferred} (h:Marks g ds) (hg:GLe g g'):Marks g' ds:=by
 obtain ⟨h0,Ds,h1,h2,h3,h4⟩:=h
 refine ⟨fun k hk=>(hg.z k (h0 k (hg.b ▸ hk))).1,Ds,by rw [hg.x]; exact h1,h2,fun D hD=>?_,by rw [hg.x]; exact h4⟩
 obtain ⟨a,b,c⟩:=h3 D hD
 exact ⟨fun e=>a (hg.b ▸ e),(hg.z D b).1,(hg.z D b).2.trans c⟩

theorem mO.alive {P:Program} {μ:Mu} {w:World} {l:Loc} {x:bp} (h:mO P μ w l x) (hx:live x=true) (ds:Option (List Deferred)):w.heap[l.blk]?≠some (.deferred ds):=by
 intro hd
 cases x with
 | cells c e k=>obtain ⟨cc,fr,vs,h1,_⟩:=h; rw [h1] at hd; cases hd
 | map es=>obtain ⟨ms,ck,h1,_⟩:=h; rw [h1] at hd; cases hd
 | iter s p=>rw [h.1] at hd; cases hd
 | loop σ ps az bd md=>obtain ⟨r,h1,_⟩:=h; rw [h1] at hd; cases hd
 | ghost=>cases hx
 | dead=>cases hx
 | void=>cases hx
theorem aY.mark {P:Program} {g:Gh} {μ:Mu} {H:Hp} {w:World} (h:aY P g μ H w) (o:Obj):aY P ⟨fun k=>g.Z k∨k=w.heap.size,w.alloc o,g.B,g.X⟩ μ H (w.alloc o) where
 dom:=h.dom
 eK:=h.eK
 lt:=fun b l e=>by have:=h.lt b l e; simp; omega
 blk:=fun b l x e f=>(h.blk b l x e f).mono (Le.refl μ) (fun _=>Go.RowKit.Below.heap_alloc w o _ (h.lt b l e))
 sep:=h.sep
 own:=fun b l x e f hw hz=>by
  rcases hz with hz | hz
  ·exact h.own b l x e f hw hz
  ·have:=h.lt b l e; omega
 old:=fun k hk=>by
  refine ⟨?_,rfl⟩
  rcases hk with hk | hk
  ·have:=(h.old k hk).1; simp; omega
  ·simp; omega
 os:=rfl
 tape:=rfl
 output:=rfl
 size:=Nat.le_refl _
theorem GLe.mark {P:Program} {g:Gh} {μ:Mu} {H:Hp} {w:World} (h:aY P g μ H w) (o:Obj):GLe g ⟨fun k=>g.Z k∨k=w.heap.size,w.alloc o,g.B,g.X⟩ :=
 ⟨fun k hk=>⟨.inl hk,(Go.RowKit.Below.heap_alloc w o k (h.old k hk).1).trans (h.old k hk).2⟩,h.os,h.tape,h.output,by have:=h.size; simp; omega,rfl,rfl⟩
theorem aY.take {P:Program} {g:Gh} {μ:Mu} {H:Hp} {w:World} (h:aY P g μ H w) {D:Nat} {ds:Option (List Deferred)} (hD:w.heap[D]?=some (.deferred ds)) (hz:¬ g.Z D) (o:Obj):aY P g μ H (w.putObj D o) where
 dom:=h.dom
 eK:=h.eK
 lt:=fun b l e=>by simpa using h.lt b l e
 blk:=fun b l x e f=>(h.blk b l x e f).mono (Le.refl μ) (fun hl=>World.putObj_heap_other (fun eq=>(h.blk b l x e f).alive hl ds (eq ▸ hD)))
 sep:=h.sep
 own:=h.own
 old:=fun k hk=>⟨by simpa using (h.old k hk).1,(World.putObj_heap_other (fun eq:k=D=>hz (eq ▸ hk))).trans (h.old k hk).2⟩
 os:=h.os
 tape:=h.tape
 output:=h.output
 size:=by simpa using h.size
theorem aY.hold {P:Program} {g:Gh} {μ:Mu} {H:Hp} {w:World} (h:aY P g μ H w) {k:Nat} (hk:k < w.heap.size) (hn:∀ b l x,μ b=some l→H[b]?=some x→wrt x=true→l.blk≠k):aY P ⟨fun j=>g.Z j∨j=k,w,g.B,g.X⟩ μ H w where
 dom:=h.dom
 eK:=h.eK
 lt:=h.lt
 blk:=h.blk
 sep:=h.sep
 own:=fun b l x e f hw hz=>by
  rcases hz with hz | hz
  ·exact h.own b l x e f hw hz
  ·exact hn b l x e f hw hz
 old:=fun j hj=>by
  refine ⟨?_,rfl⟩
  rcases hj with hj | hj
  ·exact (h.old j hj).1
  ·omega
 os:=rfl
 tape:=rfl
 output:=rfl
 size:=Nat.le_refl _
theorem GLe.hold {P:Program} {g:Gh} {μ:Mu} {H:Hp} {w:World} (h:aY P g μ H w) (k:Nat):GLe g ⟨fun j=>g.Z j∨j=k,w,g.B,g.X⟩ :=
 ⟨fun j hj=>⟨.inl hj,(h.old j hj).2⟩,h.os,h.tape,h.output,h.size,rfl,rfl⟩

def kO (g:Gh) (ro:Option Nat):Prop:=(∀ l,ro=some l→g.Z l∧∃ r,g.W.heap[l]?=some (.loop r))∧(ro=none→g.X.2=false)
theorem kO.none (g:Gh) (h:g.X.2=false):kO g none:=⟨fun _ h=>(by cases h),fun _=>h⟩
theorem kO.grow {g g':Gh} {ro:Option Nat} (h:kO g ro) (hg:GLe g g'):kO g' ro:=⟨fun l e=>by
 obtain ⟨a,r,b⟩:=h.1 l e
 exact ⟨(hg.z l a).1,r,(hg.z l a).2.trans b⟩,fun e=>by rw [hg.x]; exact h.2 e⟩
theorem oC:∀ (ops:List Oper) (acc:List Nat),∃ r,masks ops acc=acc++r∧r.length=ops.length
 | [],acc=>⟨[],by simp [masks],rfl⟩
 | o::ops,acc=>by
  obtain ⟨r,hr,hl⟩:=oC ops (acc++[o.after.toList.foldl (fun s e=>if Region.binds .any e=true then s ||| (2 ^ e.on ||| (acc[e.on]?).getD 0) else s) 0])
  exact ⟨_::r,by rw [masks,hr,List.append_assoc]; rfl,by simp [hl]⟩

def mg (ops:List Oper) (D:Nat→Bool):Prop:=∀ i o,ops[i]?=some o→D i=true→∀ e ∈ o.after.toList,Region.binds .any e=true→D e.on=true

theorem Ke (es:List Edge) (acc:List Nat) (j:Nat):∀ s:Nat,(es.foldl (fun s e=>if Region.binds .any e=true then s ||| (2 ^ e.on ||| (acc[e.on]?).getD 0) else s) s).testBit j=true →
  s.testBit j=true∨∃ e ∈ es,Region.binds .any e=true∧(e.on=j∨((acc[e.on]?).getD 0).testBit j=true):=by
 induction es with
 | nil=>intro s h; exact .inl h
 | cons e es ih =>
  intro s h
  rw [List.foldl_cons] at h
  rcases ih _ h with h | ⟨e',he',hb,hh⟩
  ·by_cases hb:Region.binds .any e=true
   ·rw [if_pos hb,Nat.testBit_or,Nat.testBit_or,Bool.or_eq_true,Bool.or_eq_true] at h
    rcases h with h | h | h
    ·exact .inl h
    ·rw [Nat.testBit_two_pow] at h
     simp at h
     exact .inr ⟨e,by simp,hb,.inl h⟩
    ·exact .inr ⟨e,by simp,hb,.inr h⟩
   ·rw [if_neg hb] at h
    exact .inl h
  ·exact .inr ⟨e',by simp [he'],hb,hh⟩

theorem qN (all:List Oper) (D:Nat→Bool) (hD:mg all D):∀ (ops:List Oper) (acc:List Nat),(∀ k,ops[k]?=all[acc.length+k]?) →
  (∀ i j,i < acc.length→((acc[i]?).getD 0).testBit j=true→D i=true→D j=true)→∀ i j,(((masks ops acc)[i]?).getD 0).testBit j=true→D i=true→D j=true
 | [],acc,_,hacc,i,j,h,hi=>by
  rw [masks] at h
  by_cases hl:i < acc.length
  ·exact hacc i j hl h hi
  ·rw [List.getElem?_eq_none (by omega)] at h
   simp at h
 | o::ops,acc,hops,hacc,i,j,h,hi=>by
  rw [masks] at h
  refine qN all D hD ops _ (fun k=>?_) (fun i j hl hb hi=>?_) i j h hi
  ·have:=hops (k+1)
   simpa [Nat.add_assoc,Nat.add_comm 1 k] using this
  ·rw [List.length_append,List.length_singleton] at hl
   by_cases hl':i < acc.length
   ·rw [List.getElem?_append_left hl'] at hb
    exact hacc i j hl' hb hi
   ·have:i=acc.length:=by omega
    subst this
    rw [List.getElem?_append_right (Nat.le_refl _)] at hb
    simp only [Nat.sub_self,List.getElem?_cons_zero,Option.getD_some] at hb
    have ho:all[acc.length]?=some o:=by have:=hops 0; simpa using this.symm
    rcases Ke _ _ _ _ hb with hb | ⟨e,he,hbe,hh⟩
    ·simp at hb
    ·have hde:=hD _ o ho hi e he hbe
     rcases hh with rfl | hh
     ·exact hde
     ·by_cases hle:e.on < acc.length
      ·exact hacc e.on j hle hh hde
      ·rw [List.getElem?_eq_none (by omega)] at hh
       simp at hh

theorem iZ {ops:List Oper} {D:Nat→Bool} (hD:mg ops D) {i j:Nat} (h:anc (masks ops []) j i=true) (hi:D i=true):D j=true :=
 qN ops D hD ops [] (fun k=>by simp) (fun i j hl=>by simp at hl) i j h hi

theorem tL {ops:List Oper} {D:Nat→Bool} (hD:mg ops D) {i j:Nat} {o:Oper} (ho:ops[i]?=some o) (hr:∀ e ∈ o.after.toList,Region.binds .any e=true→D e.on=true) (h:anc (masks ops []) j i=true) (hij:j≠i):D j=true:=by
 have:=iZ (D:=fun k=>D k || k == i) (fun k o' ho' hk e he hb=>by
  simp only [Bool.or_eq_true,beq_iff_eq] at hk ⊢
  rcases hk with hk | rfl
  ·exact .inl (hD k o' ho' hk e he hb)
  ·rw [ho] at ho'; cases ho'
   exact .inl (hr e he hb)) h (by simp)
 simpa [hij] using this

theorem Bh {ops:List Oper} {i j:Nat} {o:Oper} (ho:ops[i]?=some o) (hf:bA o=true):anc (masks ops []) j i=false:=by
 cases h:anc (masks ops []) j i with
 | false=>rfl
 | true =>
  have hemp:o.after.toList=[]:=by
   unfold bA at hf
   split at hf
   ·simp only [Bool.and_eq_true,List.isEmpty_iff] at hf
    exact hf.1
   ·cases hf
  by_cases hij:j=i
  ·subst hij
   have:=iZ (D:=fun k=>decide (k < j)) (ops:=ops) (i:=j) (j:=j)
   exfalso
   -- no edge: the mask is nought
   have h0:∀ (l:List Oper) (acc:List Nat),l[j - acc.length]?=some o→acc.length≤j→(((masks l acc)[j]?).getD 0).testBit j=false:=by
    intro l
    induction l with
    | nil=>intro acc hl; simp at hl
    | cons x l ih =>
     intro acc hl hle
     rw [masks]
     by_cases hj:j=acc.length
     ·rw [hj] at hl
      simp at hl
      subst hl
      obtain ⟨r,hr,_⟩:=oC l (acc++[x.after.toList.foldl (fun s e=>if Region.binds .any e=true then s ||| (2 ^ e.on ||| (acc[e.on]?).getD 0) else s) 0])
      rw [hr,List.append_assoc,List.getElem?_append_right (by omega),hj]
      simp [hemp]
     ·refine ih _ ?_ (by simp; omega)
      rw [show j - acc.length=(j - (acc++[x.after.toList.foldl (fun s e=>if Region.binds .any e=true then s ||| (2 ^ e.on ||| (acc[e.on]?).getD 0) else s) 0]).length)+1 by simp; omega] at hl
      simpa using hl
   have:=h0 ops [] (by simpa using ho) (Nat.zero_le _)
   unfold anc at h
   rw [this] at h
   cases h
  ·have:=tL (D:=fun _=>false) (fun _ _ _ hk=>by cases hk) ho (fun e he=>by rw [hemp] at he; cases he) h hij
   cases this

structure Rec where
 i:Nat
 o:Oper
 v:AV
 eff:Bool
 H:Hp
 ef:Ef
 wr:Option Nat

def wrB (P:Program) (σ:List AV):Op→Option Nat
 | .store _ x _=>match aG P σ x with
  | some (.ptr b _)=>some b
  | _=>none
 | _=>none
inductive Tr (P:Program) (C:bL) (ops:List Oper):St→List Rec→St→Prop
 | nil (s:St):Tr P C ops s [] s
 | run {s s':St} {i:Nat} {o:Oper} {q:AV × Hp × Ef} {rs:List Rec}:cj ops s.σ o=true→bu P C s.σ s.H o.op=some q→Inv s.H.length s.H q.2.1 q.2.2→s.H.length≤q.2.1.length →
   Tr P C ops ⟨put s.σ o.dst q.1,q.2.1,s.ef.and q.2.2⟩ rs s'→Tr P C ops s (⟨i,o,q.1,!(bA o || quiet q s.H),q.2.1,q.2.2,wrB P s.σ o.op⟩::rs) s'
 | skip {s s':St} {i:Nat} {o:Oper} {rs:List Rec}:cj ops s.σ o=false→Tr P C ops ⟨put s.σ o.dst bw,s.H,s.ef⟩ rs s'→Tr P C ops s (⟨i,o,bw,false,s.H,z0,none⟩::rs) s'

structure gr (P:Program) (g:Gh) (μ:Mu) (s:St) (w:World) (a:Act):Prop where
 rel:aY P g μ s.H w
 tm:aA μ s.σ=some a.tmps.toList
 df:Marks g a.defers

theorem je {μ:Mu} {σ:List AV} {a:Act} {v:AV} {v':Value} (dst:Option Tmp) (h:aA μ σ=some a.tmps.toList) (hv:aB μ v=some v'):aA μ (put σ dst v)=some (a.put dst v').tmps.toList:=by
 cases dst with
 | none=>exact h
 | some d =>
  have:=j5 d h hv
  simpa [put,Act.put] using this
theorem put_defers (a:Act) (dst:Option Tmp) (v:Value):(a.put dst v).defers=a.defers:=by cases dst <;> rfl

theorem gr.step {P:Program} {g:Gh} {μ μ':Mu} {s:St} {w w':World} {a:Act} {r:AV × Hp × Ef} {v':Value} (h:gr P g μ s w a) (dst:Option Tmp) (k:Ok P g μ s.H r μ' v' w') (e:Ef):gr P g μ' ⟨put s.σ dst r.1,r.2.1,e⟩ w' (a.put dst v') :=
 ⟨k.rel,je dst (cN k.le _ h.tm) k.val,by rw [put_defers]; exact h.df⟩

theorem gr.undef {P:Program} {g:Gh} {μ:Mu} {s:St} {w:World} {a:Act} (h:gr P g μ s w a) (dst:Option Tmp) (e:Ef):gr P g μ ⟨put s.σ dst bw,s.H,e⟩ w (a.put dst undef) :=
 ⟨h.rel,je dst h.tm rfl,by rw [put_defers]; exact h.df⟩

theorem DN {P:Program} {C:bL} (hC:cJ P C) {ops:List Oper}:∀ (l:List (Nat × Oper)) {s s':St} {nK:List Nat},evD P C ops l s=some (s',nK)→∀ {g:Gh} {μ:Mu} {w:World} {a:Act},gr P g μ s w a →
  ∃ rs,Tr P C ops s rs s'∧rs.map (fun r=>(r.i,r.o))=l∧nK=(rs.filter (·.eff)).map (fun r=>tg r.i r.ef)
 | [],s,s',nK,h,g,μ,w,a,hr=>by
  simp only [evD,Option.some.injEq,Prod.mk.injEq] at h
  obtain ⟨rfl,rfl⟩:=h
  exact ⟨[],.nil _,rfl,rfl⟩
 | (i,o)::l,s,s',nK,h,g,μ,w,a,hr=>by
  simp only [evD] at h
  split at h
  ·rename_i hw
   simp only [Option.bind_eq_some_iff,Option.map_eq_some_iff] at h
   obtain ⟨q,hq,⟨s1,e1⟩,h1,h⟩:=h
   simp only [Prod.mk.injEq] at h
   obtain ⟨rfl,rfl⟩:=h
   obtain ⟨μ',v',w',hok⟩:=(qG hC hr.rel hr.tm hq).ex
   obtain ⟨rs,t1,t2,t3⟩:=DN hC l h1 (hr.step o.dst hok _)
   refine ⟨_::rs,.run (i:=i) hw hq hok.inv hok.len t1,by simp [t2],?_⟩
   subst t3
   cases hb:(bA o || quiet q s.H) <;> simp [hb]
  ·rename_i hw
   obtain ⟨rs,t1,t2,t3⟩:=DN hC l h (hr.undef o.dst s.ef)
   exact ⟨_::rs,.skip (i:=i) (by simpa using hw) t1,by simp [t2],by simp [t3]⟩

def fD (D:Nat→Bool) (σ:List AV) (rs:List Rec):List AV:=rs.foldl (fun σ r=>if D r.i=true then put σ r.o.dst r.v else σ) σ
def hp (D:Nat→Bool) (X:Hp) (rs:List Rec):Hp:=rs.foldl (fun X r=>if D r.i=true∧r.eff=true then r.H else X) X
def efs (D:Nat→Bool) (e:Ef) (rs:List Rec):Ef:=rs.foldl (fun e r=>if D r.i=true∧r.eff=true then e.and r.ef else e) e

theorem EJ (σ:List AV) (d:Option Tmp) (v:AV):(put σ d v).length=σ.length:=by cases d <;> simp [put]
theorem Qw (D:Nat→Bool) (rs:List Rec):∀ σ,(fD D σ rs).length=σ.length:=by
 induction rs with
 | nil=>intro σ; rfl
 | cons r rs ih =>
  intro σ
  show (fD D (if D r.i=true then put σ r.o.dst r.v else σ) rs).length=_
  rw [ih]
  split
  ·exact EJ _ _ _
  ·rfl

theorem mQ {σ:List AV} {d:Option Tmp} {v:AV} {t:Nat} (h:d≠some t):(put σ d v)[t]?=σ[t]?:=by
 cases d with
 | none=>rfl
 | some d=>simp only [put]; rw [List.getElem?_set_ne]; rintro rfl; exact h rfl

theorem eI {D:Nat→Bool} {t:Nat}:∀ (rs:List Rec) (σ:List AV),(∀ r ∈ rs,D r.i=true→r.o.dst≠some t)→(fD D σ rs)[t]?=σ[t]?
 | [],σ,_=>rfl
 | r::rs,σ,h=>by
  show (fD D (if D r.i=true then put σ r.o.dst r.v else σ) rs)[t]?=_
  rw [eI rs _ (fun r' hr'=>h r' (by simp [hr']))]
  split
  ·rename_i hd
   exact mQ (h r (by simp) hd)
  ·rfl

theorem ju {D:Nat→Bool} {t:Nat}:∀ (rs:List Rec) (σ:List AV) (r:Rec),r ∈ rs→D r.i=true→r.o.dst=some t→(∀ r' ∈ rs,r'.o.dst=some t→r'=r)→(fD D σ rs)[t]?=if t < σ.length then some r.v else none
 | [],_,_,h,_,_,_=>by cases h
 | r0::rs,σ,r,h,hd,ht,hu=>by
  show (fD D (if D r0.i=true then put σ r0.o.dst r0.v else σ) rs)[t]?=_
  by_cases hin:r ∈ rs
  ·rw [ju rs _ r hin hd ht (fun r' hr'=>hu r' (by simp [hr']))]
   split <;> simp [EJ]
  ·have h0:r0=r:=by
    rcases List.mem_cons.1 h with h | h
    ·exact h.symm
    ·exact absurd h hin
   subst h0
   rw [if_pos hd,eI]
   ·rw [ht]
    simp only [put,List.getElem?_set_self']
    by_cases hl:t < σ.length
    ·simp [hl]
    ·simp [hl]
   ·intro r' hr' _ he
    have:=hu r' (by simp [hr']) he
    subst this
    exact hin hr'

theorem fG {D:Nat→Bool}:∀ (rs:List Rec) (X:Hp),(∀ r ∈ rs,r.eff=true→D r.i=false)→hp D X rs=X
 | [],_,_=>rfl
 | r::rs,X,h=>by
  show hp D (if D r.i=true∧r.eff=true then r.H else X) rs=X
  rw [if_neg (by rintro ⟨h1,h2⟩; rw [h r (by simp) h2] at h1; cases h1)]
  exact fG rs X (fun r' hr'=>h r' (by simp [hr']))
theorem jf {D D':Nat→Bool}:∀ (rs:List Rec) (X:Hp),(∀ r ∈ rs,r.eff=true→D r.i=D' r.i)→hp D X rs=hp D' X rs
 | [],_,_=>rfl
 | r::rs,X,h=>by
  show hp D (if D r.i=true∧r.eff=true then r.H else X) rs=hp D' (if D' r.i=true∧r.eff=true then r.H else X) rs
  by_cases he:r.eff=true
  ·rw [h r (by simp) he]; exact jf rs _ (fun r' hr'=>h r' (by simp [hr']))
  ·simp only [he,and_false,if_false,Bool.false_eq_true]; exact jf rs _ (fun r' hr'=>h r' (by simp [hr']))
theorem iU (D:Nat→Bool) (X:Hp) (a b:List Rec):hp D X (a++b)=hp D (hp D X a) b:=by simp [hp]
theorem cT (D:Nat→Bool) (X:Hp) (r:Rec) (rs:List Rec):hp D X (r::rs)=hp D (if D r.i=true∧r.eff=true then r.H else X) rs:=rfl
theorem oS {D:Nat→Bool}:∀ (rs:List Rec) (e:Ef),(∀ r ∈ rs,r.eff=true→D r.i=false)→efs D e rs=e
 | [],_,_=>rfl
 | r::rs,e,h=>by
  show efs D (if D r.i=true∧r.eff=true then e.and r.ef else e) rs=e
  rw [if_neg (by rintro ⟨h1,h2⟩; rw [h r (by simp) h2] at h1; cases h1)]
  exact oS rs e (fun r' hr'=>h r' (by simp [hr']))
theorem j4 {D D':Nat→Bool}:∀ (rs:List Rec) (e:Ef),(∀ r ∈ rs,r.eff=true→D r.i=D' r.i)→efs D e rs=efs D' e rs
 | [],_,_=>rfl
 | r::rs,e,h=>by
  show efs D (if D r.i=true∧r.eff=true then e.and r.ef else e) rs=efs D' (if D' r.i=true∧r.eff=true then e.and r.ef else e) rs
  by_cases he:r.eff=true
  ·rw [h r (by simp) he]; exact j4 rs _ (fun r' hr'=>h r' (by simp [hr']))
  ·simp only [he,and_false,if_false,Bool.false_eq_true]; exact j4 rs _ (fun r' hr'=>h r' (by simp [hr']))
theorem j3 (D:Nat→Bool) (e:Ef) (r:Rec) (rs:List Rec):efs D e (r::rs)=efs D (if D r.i=true∧r.eff=true then e.and r.ef else e) rs:=rfl
theorem tn (D:Nat→Bool) (e:Ef) (a b:List Rec):efs D e (a++b)=efs D (efs D e a) b:=by simp [efs]

theorem fc {q:AV × Hp × Ef} {H:Hp} (h:quiet q H=true) (hi:Inv H.length H q.2.1 q.2.2):q.2.1=H∧q.2.2=z0:=by
 unfold quiet at h
 simp only [Bool.and_eq_true,Option.isNone_iff_eq_none,beq_iff_eq] at h
 obtain ⟨⟨h1,h2⟩,h3⟩:=h
 constructor
 ·apply List.ext_getElem?
  intro b
  by_cases hb:b < H.length
  ·exact hi.wi b hb (fun e he=>by rw [h2] at he; cases he)
  ·rw [List.getElem?_eq_none (by omega),List.getElem?_eq_none (by omega)]
 ·cases hq:q.2.2 with
  | mk es ws =>
   rw [hq] at h1 h2
   simp only at h1 h2
   subst h1; subst h2; rfl

theorem Ef.fC (e:Ef):e.and z0=e:=by
 cases e with
 | mk a b=>cases a <;> cases b <;> rfl
theorem Ef.j7 (e:Ef):z0.and e=e:=by
 cases e with
 | mk a b=>cases a <;> cases b <;> rfl
theorem BO (a b c:Option Nat):eD (eD a b) c=eD a (eD b c):=by
 cases a <;> cases b <;> cases c <;> simp [eD,Nat.min_assoc]
theorem Ef.and_assoc (a b c:Ef):(a.and b).and c=a.and (b.and c):=by
 simp [Ef.and,BO]

theorem Tr.split {P:Program} {C:bL} {ops:List Oper}:∀ {pre:List Rec} {s s':St} {post:List Rec},Tr P C ops s (pre++post) s'→∃ m,Tr P C ops s pre m∧Tr P C ops m post s'
 | [],s,s',post,h=>⟨s,.nil s,h⟩
 | r::pre,s,s',post,h=>by
  cases h with
  | run h1 h2 h3 h4 h5 =>
   obtain ⟨m,m1,m2⟩:=Tr.split h5
   exact ⟨m,.run h1 h2 h3 h4 m1,m2⟩
  | skip h1 h2 =>
   obtain ⟨m,m1,m2⟩:=Tr.split h2
   exact ⟨m,.skip h1 m1,m2⟩

theorem Tr.frame {P:Program} {C:bL} {ops:List Oper}:∀ {rs:List Rec} {s s':St},Tr P C ops s rs s'→s'.σ=fD (fun _=>true) s.σ rs
 | [],s,s',h=>by cases h; rfl
 | r::rs,s,s',h=>by
  cases h with
  | run h1 h2 h3 h4 h5=>exact h5.frame
  | skip h1 h2=>exact h2.frame

theorem Tr.heap {P:Program} {C:bL} {ops:List Oper}:∀ {rs:List Rec} {s s':St},Tr P C ops s rs s'→(∀ r ∈ rs,bA r.o=false)→s'.H=hp (fun _=>true) s.H rs∧s'.ef=s.ef.and (efs (fun _=>true) z0 rs)
 | [],s,s',h,_=>by cases h; exact ⟨rfl,(Ef.fC _).symm⟩
 | r::rs,s,s',h,hf=>by
  have key:∀ (rs:List Rec) (e f:Ef),efs (fun _=>true) (e.and f) rs=e.and (efs (fun _=>true) f rs):=by
   intro rs
   induction rs with
   | nil=>intro e f; rfl
   | cons r rs ih =>
    intro e f
    rw [j3,j3]
    by_cases he:r.eff=true
    ·simp only [he,and_self,if_true,Ef.and_assoc]; exact ih _ _
    ·simp only [he,and_false,if_false,Bool.false_eq_true]; exact ih _ _
  cases h with
  | @run _ _ i o q _ h1 h2 h3 h4 h5 =>
   obtain ⟨k1,k2⟩:=h5.heap (fun r hr=>hf r (by simp [hr]))
   have hfo:bA o=false:=hf _ List.mem_cons_self
   by_cases hq:quiet q s.H=true
   ·obtain ⟨e1,e2⟩:=fc hq h3
    constructor
    ·rw [k1,cT]
     simp [hfo,hq,e1]
    ·rw [k2,j3]
     simp [hfo,hq,e2,Ef.fC]
   ·have hq':quiet q s.H=false:=by simpa using hq
    constructor
    ·rw [k1,cT]
     simp [hfo,hq']
    ·rw [k2,j3]
     simp only [hfo,hq',Bool.or_self,Bool.not_false,and_self,if_true,Ef.j7]
     rw [Ef.and_assoc,← key,Ef.fC]
  | skip h1 h2 =>
   obtain ⟨k1,k2⟩:=h2.heap (fun r hr=>hf r (by simp [hr]))
   constructor
   ·rw [k1]
    rfl
   ·rw [k2]
    rfl
section
variable {P:Program} {C:bL} {σ σ':List AV} {H:Hp}

theorem iR:∀ {xs:List Operand},(∀ x ∈ xs,aG P σ x=aG P σ' x)→bO P σ xs=bO P σ' xs
 | [],_=>rfl
 | x::xs,h=>by
  have ih:=iR (xs:=xs) (fun y hy=>h y (List.mem_cons_of_mem _ hy))
  simp only [bO,h x (by simp),ih]
theorem jK:∀ {xs:List (Nat × Operand)},(∀ x ∈ xs,aG P σ x.2=aG P σ' x.2)→fI P σ xs=fI P σ' xs
 | [],_=>rfl
 | (i,x)::xs,h=>by
  have ih:=jK (xs:=xs) (fun y hy=>h y (List.mem_cons_of_mem _ hy))
  simp only [fI,h (i,x) (by simp),ih]
theorem lQ {x:Option Operand} (h:∀ y,x=some y→aG P σ y=aG P σ' y):jZ P σ x=jZ P σ' x:=by
 cases x with
 | none=>rfl
 | some y=>simp only [jZ,h y rfl]

theorem wV {c:Call} (h:∀ x ∈ c.operands,aG P σ x=aG P σ' x):dz P C σ H c=dz P C σ' H c:=by
 have ha:bO P σ c.args.toList=bO P σ' c.args.toList:=iR (fun x hx=>h x (by simp only [Call.operands,Array.mem_append]; right; simpa using hx))
 unfold dz
 split
 ·rename_i f hf
  rw [h f (by simp [Call.operands,hf]),ha]
 ·rw [ha]
 ·rfl

theorem DJ {op:Op} (h:∀ x ∈ op.operands,aG P σ x=aG P σ' x):bu P C σ H op=bu P C σ' H op:=by
 cases op with
 | move x=>simp only [bu,h x (by simp [Op.operands])]
 | assign x=>simp only [bu,h x (by simp [Op.operands])]
 | pick c a b=>simp only [bu,h c (by simp [Op.operands]),h a (by simp [Op.operands]),h b (by simp [Op.operands])]
 | alloc e=>simp only [bu]
 | box e x=>simp only [bu,h x (by simp [Op.operands])]
 | build t ps=>simp only [bu]; rw [jK (fun x hx=>h x.2 (by simp only [Op.operands,List.mem_toArray,List.mem_map]; exact ⟨x,hx,rfl⟩))]
 | buildSlice t n ps=>simp only [bu]; rw [jK (fun x hx=>h x.2 (by simp only [Op.operands,List.mem_toArray,List.mem_map]; exact ⟨x,hx,rfl⟩))]
 | load t x=>simp only [bu,h x (by simp [Op.operands])]
 | store t x y=>simp only [bu,h x (by simp [Op.operands]),h y (by simp [Op.operands])]
 | nilCheck x=>simp only [bu,h x (by simp [Op.operands])]
 | binOp o t x y u=>simp only [bu,h x (by simp [Op.operands]),h y (by simp [Op.operands])]
 | unOp o t x=>simp only [bu,h x (by simp [Op.operands])]
 | convert s d x=>simp only [bu,h x (by simp [Op.operands])]
 | makeInterface t x=>simp only [bu,h x (by simp [Op.operands])]
 | makeFunc fn f c =>
  simp only [bu]
  rw [iR (xs:=f.toList) (fun x hx=>h x (by simp only [Op.operands,Array.mem_append]; left; simpa using hx)),iR (xs:=c.toList) (fun x hx=>h x (by simp only [Op.operands,Array.mem_append]; right; simpa using hx))]
 | makeMap t r =>
  cases r with
  | none=>simp only [bu]
  | some x=>simp only [bu,h x (by simp [Op.operands])]
 | makeSlice t l c=>simp only [bu,h l (by simp [Op.operands]),h c (by simp [Op.operands])]
 | slice t x lo hi mx =>
  simp only [bu]
  rw [h x (by simp [Op.operands]),lQ (x:=lo) (fun y hy=>h y (by simp [Op.operands,hy])),lQ (x:=hi) (fun y hy=>h y (by simp [Op.operands,hy])),lQ (x:=mx) (fun y hy=>h y (by simp [Op.operands,hy]))]
 | fieldAddr t x f=>simp only [bu,h x (by simp [Op.operands])]
 | field t x f=>simp only [bu,h x (by simp [Op.operands])]
 | indexAddr t x i=>simp only [bu,h x (by simp [Op.operands]),h i (by simp [Op.operands])]
 | index t x i=>simp only [bu,h x (by simp [Op.operands]),h i (by simp [Op.operands])]
 | lookup t x i ok=>simp only [bu,h x (by simp [Op.operands]),h i (by simp [Op.operands])]
 | mapUpdate t m k v=>simp only [bu,h m (by simp [Op.operands]),h k (by simp [Op.operands]),h v (by simp [Op.operands])]
 | insert t m k v=>simp only [bu,h m (by simp [Op.operands]),h k (by simp [Op.operands]),h v (by simp [Op.operands])]
 | range t x=>simp only [bu,h x (by simp [Op.operands])]
 | next it b=>cases b <;> simp only [bu,h it (by simp [Op.operands])]
 | extract x i=>simp only [bu,h x (by simp [Op.operands])]
 | typeAssert x xt t ok=>cases ok <;> simp only [bu,h x (by simp [Op.operands])]
 | call c=>simp only [bu]; exact wV (fun x hx=>h x hx)
 | _=>rfl

theorem AX {x:Operand} (h:∀ t,x=.tmp t→σ[t]?=σ'[t]?):aG P σ x=aG P σ' x:=by
 cases x with
 | tmp t=>simp only [aG,h t rfl]
 | _=>rfl

theorem u5 {op:Op} (hp:jG op=true) {q:AV × Hp × Ef} (h:bu P C σ H op=some q):q=(q.1,H,z0)∧∀ H':Hp,bu P C σ H' op=some (q.1,H',z0):=by
 have hret:∀ {v:Option AV} {q:AV × Hp × Ef},ret H v=some q→q=(q.1,H,z0)∧∀ H':Hp,ret H' v=some (q.1,H',z0):=by
  intro v q hv
  obtain ⟨u,rfl,rfl⟩:=bQ hv
  exact ⟨rfl,fun _=>rfl⟩
 cases op <;> simp only [jG] at hp <;> first | (cases hp; done) | skip
 case move x=>exact hret h
 case assign x=>exact hret h
 case pick c a b =>
  simp only [bu,Option.bind_eq_some_iff] at h ⊢
  obtain ⟨cv,hc,h⟩:=h
  split at h
  ·obtain ⟨h1,h2⟩:=hret h
   exact ⟨h1,fun H'=>⟨_,hc,h2 H'⟩⟩
  ·cases h
 case build t ps =>
  simp only [bu,Option.bind_eq_some_iff] at h ⊢
  obtain ⟨cv,hc,h⟩:=h
  obtain ⟨h1,h2⟩:=hret h
  exact ⟨h1,fun H'=>⟨_,hc,h2 H'⟩⟩
 case nilCheck x =>
  simp only [bu,Option.bind_eq_some_iff] at h ⊢
  obtain ⟨cv,hc,h⟩:=h
  split at h
  ·cases h; exact ⟨rfl,fun H'=>⟨_,hc,rfl⟩⟩
  ·cases h; exact ⟨rfl,fun H'=>⟨_,hc,rfl⟩⟩
  ·cases h
 case binOp o t x y u =>
  simp only [bu,Option.bind_eq_some_iff] at h ⊢
  obtain ⟨xv,hx,yv,hy,h⟩:=h
  split at h
  ·split at h
   ·rename_i hcst
    split at h
    ·obtain ⟨h1,h2⟩:=hret h
     exact ⟨h1,fun H'=>⟨_,hx,_,hy,by simp only [hcst,if_true]; exact h2 H'⟩⟩
    ·obtain ⟨h1,h2⟩:=hret h
     exact ⟨h1,fun H'=>⟨_,hx,_,hy,by simp only [hcst,if_true]; exact h2 H'⟩⟩
    ·cases h
   ·cases h
  ·rename_i hne
   obtain ⟨h1,h2⟩:=hret h
   refine ⟨h1,fun H'=>⟨_,hx,_,hy,?_⟩⟩
   have:=h2 H'
   split
   ·exact (hne rfl rfl).elim
   ·exact this
 case unOp o t x =>
  simp only [bu,Option.bind_eq_some_iff] at h ⊢
  obtain ⟨cv,hc,h⟩:=h
  obtain ⟨h1,h2⟩:=hret h
  exact ⟨h1,fun H'=>⟨_,hc,h2 H'⟩⟩
 case makeInterface t x =>
  simp only [bu,Option.bind_eq_some_iff] at h ⊢
  obtain ⟨cv,hc,h⟩:=h
  split at h
  ·cases h
  ·rename_i s hs hne
   obtain ⟨h1,h2⟩:=hret h
   refine ⟨h1,fun H'=>⟨_,hc,?_⟩⟩
   exact h2 H'
  ·cases h
 case makeFunc fn f c =>
  simp only [bu,Option.bind_eq_some_iff] at h ⊢
  obtain ⟨xv,hx,yv,hy,h⟩:=h
  obtain ⟨h1,h2⟩:=hret h
  exact ⟨h1,fun H'=>⟨_,hx,_,hy,h2 H'⟩⟩
 case fieldAddr t x f =>
  simp only [bu,Option.bind_eq_some_iff] at h ⊢
  obtain ⟨cv,hc,h⟩:=h
  split at h
  ·simp only [Option.bind_eq_some_iff] at h
   obtain ⟨y,hy,h⟩:=h
   split at h
   ·cases h
   ·rename_i hz
    cases h
    exact ⟨rfl,fun H'=>⟨_,hc,by simp only [hy,Option.bind_some,hz,if_false]⟩⟩
  ·cases h
 case field t x f =>
  simp only [bu,Option.bind_eq_some_iff] at h ⊢
  obtain ⟨cv,hc,h⟩:=h
  split at h
  ·simp only [Option.bind_eq_some_iff] at h
   obtain ⟨y,hy,h⟩:=h
   obtain ⟨h1,h2⟩:=hret h
   exact ⟨h1,fun H'=>⟨_,hc,by simp only [hy,Option.bind_some]; exact h2 H'⟩⟩
  ·cases h
 case indexAddr t x i =>
  simp only [bu,Option.bind_eq_some_iff] at h ⊢
  obtain ⟨xv,hx,yv,hy,h⟩:=h
  obtain ⟨h1,h2⟩:=hret h
  exact ⟨h1,fun H'=>⟨_,hx,_,hy,h2 H'⟩⟩
 case index t x i =>
  simp only [bu,Option.bind_eq_some_iff] at h ⊢
  obtain ⟨xv,hx,yv,hy,h⟩:=h
  obtain ⟨h1,h2⟩:=hret h
  exact ⟨h1,fun H'=>⟨_,hx,_,hy,h2 H'⟩⟩
 case extract x i =>
  simp only [bu,Option.bind_eq_some_iff] at h ⊢
  obtain ⟨cv,hc,h⟩:=h
  split at h
  ·obtain ⟨h1,h2⟩:=hret h
   exact ⟨h1,fun H'=>⟨_,hc,h2 H'⟩⟩
  ·cases h
 case typeAssert x xt t ok =>
  cases ok
  ·simp only [bu] at h; cases h
  ·simp only [bu,Option.bind_eq_some_iff] at h ⊢
   obtain ⟨cv,hc,h⟩:=h
   obtain ⟨h1,h2⟩:=hret h
   exact ⟨h1,fun H'=>⟨_,hc,h2 H'⟩⟩
end

theorem DK {P:Program} {t:TypeId} {x:AV} {H:Hp} {u:AV} (X:Hp) (h:bY P t x H=some u):bY P t x (H++X)=some u:=by
 unfold bY at h ⊢
 split at h <;> try (first | exact h | cases h)
 rename_i r ht
 try rw [ht]
 cases hb:H[r]? with
 | none=>rw [hb] at h; cases h
 | some y=>rw [hb] at h; rw [List.getElem?_append_left (List.getElem?_eq_some_iff.1 hb).1,hb]; exact h
theorem DL {P:Program} {t:TypeId} {x:AV} {H:Hp} {u:AV} (X:Hp) (h:bY P t x (H++X)=some u) (hx:∀ r,x=.map r→r < H.length):bY P t x H=some u:=by
 unfold bY at h ⊢
 split at h <;> try (first | exact h | cases h)
 rename_i r ht
 try rw [ht]
 rw [List.getElem?_append_left (hx r rfl)] at h
 exact h
theorem AQ {P:Program} {t:TypeId} {b o:Nat} {H:Hp} {u:AV} (X:Hp) (hu:ec P H t b o=some u):ec P (H++X) t b o=some u:=by
 have hrd:∀ n x,rd H b o n=some x→rd (H++X) b o n=some x:=by
  intro n x hx
  unfold rd at hx ⊢
  cases hb:H[b]? with
  | none=>rw [hb] at hx; cases hx
  | some y=>rw [hb] at hx; rw [List.getElem?_append_left (List.getElem?_eq_some_iff.1 hb).1,hb]; exact hx
 unfold ec at hu ⊢
 split at hu
 ·rename_i ht
  try rw [ht]
  simp only [Option.bind_eq_some_iff,Option.map_eq_some_iff] at hu ⊢
  obtain ⟨n,hn,x,hx,he⟩:=hu
  exact ⟨n,hn,x,hrd _ _ hx,he⟩
 ·rename_i ht
  try rw [ht]
  simp only [Option.bind_eq_some_iff] at hu ⊢
  obtain ⟨x,hx,he⟩:=hu
  exact ⟨x,hrd _ _ hx,he⟩
 ·cases hu
theorem AR {P:Program} {t:TypeId} {b o:Nat} {H:Hp} {u:AV} (X:Hp) (hu:ec P (H++X) t b o=some u) (hlt:b < H.length):ec P H t b o=some u:=by
 have hrd:∀ n,rd (H++X) b o n=rd H b o n:=by
  intro n
  unfold rd
  rw [List.getElem?_append_left hlt]
 unfold ec at hu ⊢
 simpa only [hrd] using hu

theorem mF {P:Program} {C:bL} {σ:List AV} {H:Hp} {op:Op} (hp:gS op=true) {q:AV × Hp × Ef} (h:bu P C σ H op=some q):q=(q.1,H,z0)∧∀ X:Hp,bu P C σ (H++X) op=some (q.1,H++X,z0):=by
 cases op <;> simp only [gS] at hp <;> first | (cases hp; done) | skip
 case load t a =>
  simp only [bu,Option.bind_eq_some_iff] at h ⊢
  obtain ⟨av,ha,h⟩:=h
  split at h
  ·rename_i b o
   obtain ⟨u,hu,rfl⟩:=bQ h
   refine ⟨rfl,fun X=>⟨_,ha,?_⟩⟩
   simp only [AQ X hu]; rfl
  ·cases h
 case call c =>
  split at hp
  ·rename_i hc
   simp only [bu,dz,hc,Option.bind_eq_some_iff] at h ⊢
   obtain ⟨az,has,h⟩:=h
   split at h <;> first | contradiction | skip
   rename_i x t ts ht hts
   obtain ⟨u,hu,rfl⟩:=bQ h
   refine ⟨rfl,fun X=>⟨_,has,?_⟩⟩
   simp only [hts,DK X hu]; rfl
  ·cases hp
theorem GU {P:Program} {C:bL} {μ:Mu} {σ:List AV} {H:Hp} {op:Op} (hp:gS op=true) {q:AV × Hp × Ef} {X:Hp} (h:bu P C σ (H++X) op=some q)
  (hv:∀ x ∈ op.operands,∀ v,aG P σ x=some v→∃ u,aB μ v=some u) (hd:∀ b l,μ b=some l→b < H.length):bu P C σ H op=some (q.1,H,z0):=by
 cases op <;> simp only [gS] at hp <;> first | (cases hp; done) | skip
 case load t a =>
  simp only [bu,Option.bind_eq_some_iff] at h ⊢
  obtain ⟨av,ha,h⟩:=h
  obtain ⟨u',hu'⟩:=hv a (by simp [Op.operands]) av ha
  split at h
  ·rename_i b o
   simp only [aB,Option.map_eq_some_iff] at hu'
   obtain ⟨l,hl,_⟩:=hu'
   obtain ⟨u,hu,rfl⟩:=bQ h
   refine ⟨_,ha,?_⟩
   simp only [AR X hu (hd b l hl)]; rfl
  ·cases h
 case call c =>
  split at hp
  ·rename_i hc
   simp only [bu,dz,hc,Option.bind_eq_some_iff] at h ⊢
   obtain ⟨az,has,h⟩:=h
   split at h <;> first | contradiction | skip
   rename_i x t ts ht hts
   obtain ⟨u,hu,rfl⟩:=bQ h
   refine ⟨_,has,?_⟩
   have hx:∀ r,x=.map r→r < H.length:=by
    rintro r rfl
    cases hcl:c.args.toList with
    | nil=>rw [hcl] at has; simp [bO] at has
    | cons y ys =>
     rw [hcl] at has
     simp only [bO,Option.bind_eq_some_iff,Option.map_eq_some_iff] at has
     obtain ⟨v,hvv,l,hl,he⟩:=has
     injection he with he1 he2
     subst he1
     obtain ⟨u',hu'⟩:=hv y (by
      simp only [Op.operands,Call.operands,Array.mem_append]
      have:y ∈ c.args:=by rw [← Array.mem_toList_iff,hcl]; simp
      simp [hc,this]) _ hvv
     simp only [aB,Option.map_eq_some_iff] at hu'
     obtain ⟨l',hl',_⟩:=hu'
     exact hd r l' hl'
   simp only [hts,DL X hu hx]; rfl
  ·cases hp

theorem GV {P:Program} {t:TypeId} {b o:Nat} {H H':Hp} (h:H'[b]?=H[b]?):ec P H' t b o=ec P H t b o:=by
 have hrd:∀ n,rd H' b o n=rd H b o n:=by
  intro n
  unfold rd
  rw [h]
 unfold ec
 simp only [hrd]
theorem N5 {P:Program} {C:bL} {σ:List AV} {H:Hp} {t:TypeId} {x:Operand} {q:AV × Hp × Ef} (h:bu P C σ H (.load t x)=some q):∃ b o,aG P σ x=some (.ptr b o)∧ec P H t b o=some q.1∧q=(q.1,H,z0)∧∀ H':Hp,H'[b]?=H[b]?→bu P C σ H' (.load t x)=some (q.1,H',z0):=by
 simp only [bu,Option.bind_eq_some_iff] at h ⊢
 obtain ⟨av,ha,h⟩:=h
 split at h
 ·rename_i b o
  obtain ⟨u,hu,rfl⟩:=bQ h
  refine ⟨b,o,ha,hu,rfl,fun H' hH=>⟨_,ha,?_⟩⟩
  simp only [GV hH,hu]; rfl
 ·cases h
theorem Bv {P:Program} {C:bL} {σ:List AV} {H:Hp} {op:Op} {q:AV × Hp × Ef} {c:Nat} (h:bu P C σ H op=some q) (hc:wrB P σ op=some c):∀ b,b≠c→q.2.1[b]?=H[b]?:=by
 intro b hb
 cases op <;> simp only [wrB] at hc <;> first | (cases hc; done) | skip
 rename_i t x y
 split at hc
 ·rename_i b0 o0 hx
  cases hc
  simp only [bu,hx,Option.bind_some,Option.bind_eq_some_iff] at h
  obtain ⟨v,hv,h⟩:=h
  simp only [jv] at h
  split at h
  ·split at h
   ·rw [Option.map_eq_some_iff] at h
    obtain ⟨r,hr,rfl⟩:=h
    unfold wr at hr
    split at hr
    ·split at hr
     ·cases hr
      simp only [List.getElem?_set_ne (Ne.symm hb)]
     ·cases hr
    ·cases hr
   ·cases h
  ·cases h
 ·cases hc
theorem Inv.grown {n:Nat} {H:Hp} {H':Hp} (h:Inv n H H' z0) (hn:n=H.length) (hl:H.length≤H'.length):∃ X,H'=H++X:=by
 refine ⟨H'.drop H.length,?_⟩
 subst hn
 apply List.ext_getElem?
 intro b
 by_cases hb:b < H.length
 ·rw [List.getElem?_append_left hb]
  exact h.wi b hb (fun e he=>by cases he)
 ·rw [List.getElem?_append_right (by omega),List.getElem?_drop]
  congr 1; omega

theorem A6 {μ:Mu} {x:AV} {b:Bool} (h:aB μ x=some (.bool b)):x=.bool b:=by
 cases x <;> simp [aB,Option.bind_eq_some_iff] at h
 subst h; rfl

theorem pq {ops:Array Oper} {μ:Mu} {σ:List AV} {a:Act} (hσ:aA μ σ=some a.tmps.toList) (o:Oper):Region.wanted o (yielded ops a.tmps)=cj ops.toList σ o:=by
 unfold Region.wanted cj
 cases hg:o.guard with
 | none=>rfl
 | some jw =>
  obtain ⟨j,want⟩:=jw
  simp only [yielded,Array.getElem?_toList]
  cases hd:(ops[j]?).bind (·.dst) with
  | none=>simp
  | some d =>
   simp only [Option.bind_some]
   have hc:=gX hσ d
   rw [Array.getElem?_toList] at hc
   rw [hc]
   cases hs:σ[d]? with
   | none=>simp
   | some v =>
    simp only [Option.bind_some]
    by_cases hb:∃ b,v=.bool b
    ·obtain ⟨b,rfl⟩:=hb
     simp [aB]
    ·have:∀ b,aB μ v≠some (.bool b):=fun b hcb=>hb ⟨b,A6 hcb⟩
     have hr:(match (some v:Option AV) with | some (.bool b)=>b == want | _=>false)=false:=by
      cases v <;> first | (exact absurd ⟨_,rfl⟩ hb) | rfl
     cases hcv:aB μ v with
     | none=>simp only [reduceCtorEq,beq_iff_eq]; cases v <;> first | (exact absurd ⟨_,rfl⟩ hb) | rfl
     | some x =>
      have hx:∀ b,x≠.bool b:=fun b e=>this b (by rw [hcv,e])
      cases x <;> first | (exact absurd rfl (hx _)) | (cases v <;> first | (exact absurd ⟨_,rfl⟩ hb) | rfl)

theorem tO {ops:List Oper} {σ σ':List AV} {o:Oper} (h:∀ t ∈ pS ops o,σ[t]?=σ'[t]?):cj ops σ o=cj ops σ' o:=by
 unfold cj
 cases hg:o.guard with
 | none=>rfl
 | some jw =>
  obtain ⟨j,want⟩:=jw
  simp only
  cases hd:(ops[j]?).bind (·.dst) with
  | none=>rfl
  | some d =>
   simp only
   rw [h d (by simp [pS,hg,hd])]

theorem aY.newAt {P:Program} {g:Gh} {μ:Mu} {H:Hp} {w:World} (h:aY P g μ H w) (o:Obj) {b:Nat} {x:bp} (hb:H[b]?=some x) (hm:μ b=none)
  (hx:mO P μ (w.alloc o) ⟨w.heap.size,0,0⟩ x):aY P g (upd μ b ⟨w.heap.size,0,0⟩) H (w.alloc o):=by
 have hle:Le μ (upd μ b ⟨w.heap.size,0,0⟩):=by
  intro c l e
  rw [bf]
  ·exact e
  ·rintro rfl; rw [hm] at e; cases e
 exact {
  dom:=fun c l e=>by
   by_cases hc:c=b
   ·subst hc; exact (List.getElem?_eq_some_iff.1 hb).1
   ·rw [bf _ _ hc] at e; exact h.dom c l e
  eK:=fun i hi=>by
   obtain ⟨c,hc⟩:=h.eK i hi
   exact ⟨c,hle _ _ hc⟩
  lt:=fun c l e=>by
   by_cases hc:c=b
   ·subst hc; rw [bI] at e; cases e; simp
   ·rw [bf _ _ hc] at e
    have:=h.lt c l e
    simp; omega
  blk:=fun c l y e f=>by
   by_cases hc:c=b
   ·subst hc
    rw [bI] at e; rw [hb] at f
    cases e; cases f
    exact hx.mono hle (fun _=>rfl)
   ·rw [bf _ _ hc] at e
    exact (h.blk c l y e f).mono hle (fun _=>Go.RowKit.Below.heap_alloc w o _ (h.lt c l e))
  sep:=fun c c' l l' y y' hne e e' f f' hw hl=>by
   by_cases hc:c=b <;> by_cases hc':c'=b
   ·omega
   ·subst hc
    rw [bI] at e; cases e
    rw [bf _ _ hc'] at e'
    have:=h.lt _ _ e'
    simp only; omega
   ·subst hc'
    rw [bI] at e'; cases e'
    rw [bf _ _ hc] at e
    have:=h.lt _ _ e
    simp only; omega
   ·rw [bf _ _ hc] at e
    rw [bf _ _ hc'] at e'
    exact h.sep c c' l l' y y' hne e e' f f' hw hl
  own:=fun c l y e f hw=>by
   by_cases hc:c=b
   ·subst hc
    rw [bI] at e; cases e
    intro hz
    have:=(h.old _ hz).1
    simp only at this
    omega
   ·rw [bf _ _ hc] at e
    exact h.own c l y e f hw
  old:=fun k hk=>by
   have:=h.old k hk
   exact ⟨by simp; omega,(Go.RowKit.Below.heap_alloc w o k this.1).trans this.2⟩
  os:=h.os
  tape:=h.tape
  output:=h.output
  size:=by have:=h.size; simp; omega }

theorem aY.extend {P:Program} {g:Gh} {μ:Mu} {H:Hp} {w:World} (h:aY P g μ H w) (X:Hp):aY P g μ (H++X) w:=by
 have hget:∀ {b l x},μ b=some l→(H++X)[b]?=some x→H[b]?=some x:=by
  intro b l x e f
  rwa [List.getElem?_append_left (h.dom b l e)] at f
 exact {
  dom:=fun b l e=>by have:=h.dom b l e; simp; omega
  eK:=h.eK
  lt:=h.lt
  blk:=fun b l x e f=>h.blk b l x e (hget e f)
  sep:=fun b b' l l' x x' hne e e' f f'=>h.sep b b' l l' x x' hne e e' (hget e f) (hget e' f')
  own:=fun b l x e f=>h.own b l x e (hget e f)
  old:=h.old
  os:=h.os
  tape:=h.tape
  output:=h.output
  size:=h.size }

theorem Inv.extend {n:Nat} {H:Hp} (hn:n≤H.length) (X:Hp) (e:Ef):Inv n H (H++X) e :=
 ⟨fun b hb _ x' hx'=>by
  rw [List.getElem?_append_left (by omega)] at hx'
  exact ⟨x',hx',fun _ hv=>.inl hv⟩,fun b hb _=>List.getElem?_append_left (by omega)⟩
theorem EN (ops:List Oper) {i:Nat} {o:Oper} (h:(i,o) ∈ num ops):ops[i]?=some o:=by
 simp only [num,List.mem_map,Prod.mk.injEq,Prod.exists] at h
 obtain ⟨o',i',h,rfl,rfl⟩:=h
 have:=List.mem_zipIdx h
 simp only [Nat.zero_add] at this
 obtain ⟨_,h2,h3⟩:=this
 rw [List.getElem?_eq_getElem (by omega)]
 simp [h3]
theorem mu (ops:List Oper) {i:Nat} {o:Oper} (h:ops[i]?=some o):(i,o) ∈ num ops:=by
 simp only [num,List.mem_map,Prod.mk.injEq,Prod.exists]
 refine ⟨o,i,?_,rfl,rfl⟩
 rw [List.mem_zipIdx_iff_getElem?]
 exact h
theorem so (ops:List Oper):(num ops).Pairwise (fun x y=>x.1 < y.1):=by
 have:∀ (l:List Oper) (k:Nat),((l.zipIdx k).map fun (o,i)=>(i,o)).Pairwise (fun x y=>x.1 < y.1):=by
  intro l
  induction l with
  | nil=>intro k; simp
  | cons o l ih =>
   intro k
   rw [List.zipIdx_cons,List.map_cons,List.pairwise_cons]
   refine ⟨?_,ih (k+1)⟩
   intro p hp
   simp only [List.mem_map,Prod.exists] at hp
   obtain ⟨o',i',h,rfl⟩:=hp
   have:=List.mem_zipIdx h
   simp only; omega
 exact this ops 0

theorem Tr.fq {P:Program} {C:bL} {ops:List Oper}:∀ {rs:List Rec} {s s':St},Tr P C ops s rs s'→(∀ r ∈ rs,bA r.o=true) →
  ∃ zs:List (List AV × TypeId),s'.H=s.H++zs.map (fun z=>bp.cells z.1 z.2 .rw)∧s'.ef=s.ef∧zs.length=rs.length ∧
   ∀ (k:Nat) (r:Rec),rs[k]?=some r→∃ z:List AV × TypeId,zs[k]?=some z∧r.o.op=.alloc z.2∧cB P z.2=some z.1∧r.v=.ptr (s.H.length+k) 0
 | [],s,s',h,_=>by
  cases h
  exact ⟨[],by simp,rfl,rfl,fun k r h=>by simp at h⟩
 | r::rs,s,s',h,hf=>by
  have hfr:=hf r (by simp)
  cases h with
  | @run _ _ i o q _ h1 h2 h3 h4 h5 =>
   have hfo:bA o=true:=hfr
   unfold bA at hfo
   split at hfo
   ·rename_i e he
    rw [he] at h2
    simp only [bu,Option.map_eq_some_iff] at h2
    obtain ⟨z,hz,rfl⟩:=h2
    obtain ⟨zs,k1,k2,k3,k4⟩:=h5.fq (fun r' hr'=>hf r' (by simp [hr']))
    refine ⟨(z,e)::zs,?_,?_,by simp [k3],?_⟩
    ·rw [k1]; simp
    ·rw [k2]; exact Ef.fC _
    ·intro k r' hk
     cases k with
     | zero =>
      simp only [List.getElem?_cons_zero,Option.some.injEq] at hk
      subst hk
      exact ⟨(z,e),rfl,he,hz,rfl⟩
     | succ k =>
      simp only [List.getElem?_cons_succ] at hk
      obtain ⟨y,y1,y2,y3,y4⟩:=k4 k r' hk
      refine ⟨y,by simpa using y1,y2,y3,?_⟩
      rw [y4]
      simp only [List.length_append,List.length_singleton]
      congr 1
      omega
   ·cases hfo
  | @skip _ _ i o _ h1 h2 =>
   have hfo:bA o=true:=hfr
   unfold bA at hfo
   split at hfo
   ·simp only [Bool.and_eq_true,Option.isNone_iff_eq_none] at hfo
    unfold cj at h1
    rw [hfo.2] at h1
    cases h1
   ·cases hfo

structure qy (P:Program) (C:bL) (l:List Oper) (s sm s':St) (fr ot:List Rec):Prop where
 tr1:Tr P C l s fr sm
 tr2:Tr P C l sm ot s'
 free:∀ r ∈ fr,bA r.o=true
 tQ:∀ r ∈ ot,bA r.o=false
 at_:∀ r ∈ fr++ot,l[r.i]?=some r.o
 Up:∀ i o,l[i]?=some o→∃ r ∈ fr++ot,r.i=i
 uniq:∀ r ∈ fr++ot,∀ r' ∈ fr++ot,r.i=r'.i→r=r'
 ord:ot.Pairwise (fun x y=>x.i < y.i)
 dst:∀ r ∈ fr++ot,∀ r' ∈ fr++ot,∀ t,r.o.dst=some t→r'.o.dst=some t→r=r'
 Td:∀ i o,l[i]?=some o→∀ e ∈ o.after.toList,Region.binds .any e=true→e.on < i
 reads:∀ r ∈ fr++ot,∀ t ∈ pS l r.o,∀ r' ∈ fr++ot,r'.o.dst=some t→r'.i=r.i∨(r'.i < r.i∧anc (masks l []) r'.i r.i=true)∨(r.i < r'.i∧anc (masks l []) r.i r'.i=true)
 nK:∀ e ∈ ot,e.eff=true→∀ r ∈ fr++ot,r.i=e.i∨jG r.o.op=true∨(r.i < e.i∧anc (masks l []) r.i e.i=true)∨(e.i < r.i∧anc (masks l []) e.i r.i=true)∨(gS r.o.op=true∧e.ef=z0)∨apS l s'.σ (e.i,r.i)

theorem kP {α β:Type} [DecidableEq β] (f:α→Option β):∀ (l:List α),(l.filterMap f).Nodup→∀ (i j:Nat) (x y:α) (b:β),l[i]?=some x→l[j]?=some y→f x=some b→f y=some b→i=j
 | [],_,i,j,x,y,b,h,_,_,_=>by simp at h
 | a::l,hn,i,j,x,y,b,hi,hj,hx,hy=>by
  have hn':(l.filterMap f).Nodup:=by
   rw [List.filterMap_cons] at hn
   split at hn
   ·exact hn
   ·exact (List.nodup_cons.1 hn).2
  cases i with
  | zero =>
   cases j with
   | zero=>rfl
   | succ j =>
    simp only [List.getElem?_cons_zero,Option.some.injEq] at hi
    simp only [List.getElem?_cons_succ] at hj
    subst hi
    rw [List.filterMap_cons,hx] at hn
    exact absurd (List.mem_filterMap.2 ⟨y,List.mem_of_getElem? hj,hy⟩) (List.nodup_cons.1 hn).1
  | succ i =>
   cases j with
   | zero =>
    simp only [List.getElem?_cons_zero,Option.some.injEq] at hj
    simp only [List.getElem?_cons_succ] at hi
    subst hj
    rw [List.filterMap_cons,hy] at hn
    exact absurd (List.mem_filterMap.2 ⟨x,List.mem_of_getElem? hi,hx⟩) (List.nodup_cons.1 hn).1
   | succ j =>
    simp only [List.getElem?_cons_succ] at hi hj
    rw [kP f l hn' i j x y b hi hj hx hy]

theorem EC (i:Nat) (e:Ef):tg i e / 2=i:=by
 unfold tg; split <;> omega
theorem Ir {i:Nat} {e:Ef} (h:tg i e % 2=1):e=z0:=by
 unfold tg at h
 split at h
 ·rename_i hc
  obtain ⟨a,b⟩:=e
  simp only [Bool.and_eq_true,Option.isNone_iff_eq_none] at hc
  obtain ⟨rfl,rfl⟩:=hc
  rfl
 ·omega
theorem MO {P:Program} {C:bL} (hC:cJ P C) {l:List Oper} {s s':St} (h:qg P C l s=some s') {g:Gh} {μ:Mu} {w:World} {a:Act} (hr:gr P g μ s w a):∃ sm fr ot,qy P C l s sm s' fr ot:=by
 unfold qg at h
 simp only [Option.bind_eq_some_iff] at h
 obtain ⟨⟨s1,nK⟩,hD,h⟩:=h
 split at h
 ·rename_i hok
  obtain ⟨hst,hef⟩:=hok
  cases h
  obtain ⟨rs,t1,t2,t3⟩:=DN hC _ hD hr
  -- the two parts
  unfold order at t2
  obtain ⟨fr,ot,rfl,hfr,hot⟩:=List.map_eq_append_iff.1 t2
  obtain ⟨sm,tr1,tr2⟩:=t1.split
  have hfree:∀ r ∈ fr,bA r.o=true:=by
   intro r hrm
   have:(r.i,r.o) ∈ (num l).filter (fun p=>bA p.2):=by rw [← hfr]; exact List.mem_map.2 ⟨r,hrm,rfl⟩
   exact (List.mem_filter.1 this).2
  have hnonf:∀ r ∈ ot,bA r.o=false:=by
   intro r hrm
   have:(r.i,r.o) ∈ (num l).filter (fun p=>!bA p.2):=by rw [← hot]; exact List.mem_map.2 ⟨r,hrm,rfl⟩
   simpa using (List.mem_filter.1 this).2
  have hat:∀ r ∈ fr++ot,l[r.i]?=some r.o:=by
   intro r hrm
   rcases List.mem_append.1 hrm with hrm | hrm
   ·have:(r.i,r.o) ∈ (num l).filter (fun p=>bA p.2):=by rw [← hfr]; exact List.mem_map.2 ⟨r,hrm,rfl⟩
    exact EN l (List.mem_filter.1 this).1
   ·have:(r.i,r.o) ∈ (num l).filter (fun p=>!bA p.2):=by rw [← hot]; exact List.mem_map.2 ⟨r,hrm,rfl⟩
    exact EN l (List.mem_filter.1 this).1
  have hsf:(fr.map fun r=>(r.i,r.o)).Pairwise (fun x y=>x.1 < y.1):=by rw [hfr]; exact (so l).filter _
  have hso:(ot.map fun r=>(r.i,r.o)).Pairwise (fun x y=>x.1 < y.1):=by rw [hot]; exact (so l).filter _
  have hsf':fr.Pairwise (fun x y=>x.i < y.i):=by rw [List.pairwise_map] at hsf; exact hsf
  have hso':ot.Pairwise (fun x y=>x.i < y.i):=by rw [List.pairwise_map] at hso; exact hso
  have huniq1:∀ {q:List Rec},q.Pairwise (fun x y=>x.i < y.i)→∀ r ∈ q,∀ r' ∈ q,r.i=r'.i→r=r':=by
   intro q hq
   induction q with
   | nil=>intro r hr; cases hr
   | cons x q ih =>
    rw [List.pairwise_cons] at hq
    intro r hr r' hr' he
    rcases List.mem_cons.1 hr with h1 | h1 <;> rcases List.mem_cons.1 hr' with h2 | h2
    ·rw [h1,h2]
    ·subst h1; have:=hq.1 r' h2; omega
    ·subst h2; have:=hq.1 r h1; omega
    ·exact ih hq.2 r h1 r' h2 he
  have huniq:∀ r ∈ fr++ot,∀ r' ∈ fr++ot,r.i=r'.i→r=r':=by
   intro r hr r' hr' he
   have e1:=hat r hr
   have e2:=hat r' hr'
   rw [he,e2] at e1
   have heq:r'.o=r.o:=Option.some.inj e1
   rcases List.mem_append.1 hr with hr1 | hr1 <;> rcases List.mem_append.1 hr' with hr2 | hr2
   ·exact huniq1 hsf' r hr1 r' hr2 he
   ·have h1:=hfree r hr1; have h2:=hnonf r' hr2; rw [← heq,h2] at h1; cases h1
   ·have h1:=hfree r' hr2; have h2:=hnonf r hr1; rw [heq,h2] at h1; cases h1
   ·exact huniq1 hso' r hr1 r' hr2 he
  unfold nk at hst
  simp only [Bool.and_eq_true,decide_eq_true_eq,List.all_eq_true] at hst
  obtain ⟨hnd,hst⟩:=hst
  refine ⟨sm,fr,ot,tr1,tr2,hfree,hnonf,hat,?_,huniq,hso',?_,?_,?_,?_⟩
  ·intro i o ho
   have hm:=mu l ho
   by_cases hf:bA o=true
   ·have:(i,o) ∈ fr.map fun r=>(r.i,r.o):=by rw [hfr]; exact List.mem_filter.2 ⟨hm,hf⟩
    obtain ⟨r,hr,he⟩:=List.mem_map.1 this
    cases he
    exact ⟨r,List.mem_append_left _ hr,rfl⟩
   ·have:(i,o) ∈ ot.map fun r=>(r.i,r.o):=by rw [hot]; exact List.mem_filter.2 ⟨hm,by simpa using hf⟩
    obtain ⟨r,hr,he⟩:=List.mem_map.1 this
    cases he
    exact ⟨r,List.mem_append_right _ hr,rfl⟩
  ·intro r hr r' hr' t ht ht'
   exact huniq r hr r' hr' (kP _ l hnd r.i r'.i r.o r'.o t (hat r hr) (hat r' hr') ht ht')
  ·intro i o ho e he hb
   have:=(hst (i,o) (mu l ho)).1 e he
   simpa [hb] using this
  ·intro r hr t ht r' hr' hd
   have:=(hst (r.i,r.o) (mu l (hat r hr))).2 t ht (r'.i,r'.o) (mu l (hat r' hr'))
   simp only [Bool.or_eq_true,bne_iff_ne,ne_eq,beq_iff_eq,Bool.and_eq_true,decide_eq_true_eq] at this
   rcases this with ((h1 | h1) | h1) | h1
   ·exact absurd hd h1
   ·exact .inl h1
   ·exact .inr (.inl h1)
   ·exact .inr (.inr h1)
  ·intro e he heff r hr
   have hmem:tg e.i e.ef ∈ nK:=by
    rw [t3]
    exact List.mem_map.2 ⟨e,List.mem_filter.2 ⟨List.mem_append_right _ he,heff⟩,rfl⟩
   rcases hef with hef | ⟨bad,hef,hap⟩
   ·unfold bN at hef
    simp only [List.all_eq_true] at hef
    have:=hef _ hmem (r.i,r.o) (mu l (hat r hr))
    rw [EC] at this
    simp only [Bool.or_eq_true,beq_iff_eq,Bool.and_eq_true,decide_eq_true_eq] at this
    rcases this with (((h1 | h1) | h1) | h1) | h1
    ·exact .inl h1
    ·exact .inr (.inl h1)
    ·exact .inr (.inr (.inl h1))
    ·exact .inr (.inr (.inr (.inl h1)))
    ·exact .inr (.inr (.inr (.inr (.inl ⟨h1.1,Ir h1.2⟩))))
   ·unfold KD at hef
    simp only [List.all_eq_true] at hef
    have:=hef _ hmem (r.i,r.o) (mu l (hat r hr))
    rw [EC] at this
    simp only [Bool.or_eq_true,beq_iff_eq,Bool.and_eq_true,decide_eq_true_eq,List.contains_iff_mem] at this
    rcases this with ((((h1 | h1) | h1) | h1) | h1) | h1
    ·exact .inl h1
    ·exact .inr (.inl h1)
    ·exact .inr (.inr (.inl h1))
    ·exact .inr (.inr (.inr (.inl h1)))
    ·exact .inr (.inr (.inr (.inr (.inl ⟨h1.1,Ir h1.2⟩))))
    ·exact .inr (.inr (.inr (.inr (.inr (hap _ h1)))))
 ·cases h
def dn (listed:Array Bool):Nat→Bool:=fun i=>listed.getD i false

structure DI (P:Program) (g:Gh) (μ0:Mu) (l:List Oper) (s sm:St) (fr ot:List Rec) (listed:Array Bool) (μ:Mu) (a:Act) (w:World):Prop where
 sz:listed.size=l.length
 cl:mg l (dn listed)
 tm:aA μ (fD (dn listed) s.σ (fr++ot))=some a.tmps.toList
 df:Marks g a.defers
 rel:aY P g μ (hp (dn listed) sm.H ot) w
 le:Le μ0 μ
 dom:∀ b,b < s.H.length→μ b=μ0 b
 fre:∀ (k:Nat) (r:Rec),fr[k]?=some r→dn listed r.i=false→μ (s.H.length+k)=none
 inv:Inv s.H.length s.H (hp (dn listed) sm.H ot) (efs (dn listed) z0 ot)
 len:sm.H.length≤(hp (dn listed) sm.H ot).length

theorem DO {listed:Array Bool} {i:Nat} (h:i < listed.size) (j:Nat):dn (listed.setIfInBounds i true) j=if j=i then true else dn listed j:=by
 unfold dn
 simp only [Array.getD_eq_getD_getElem?,Array.getElem?_setIfInBounds]
 by_cases hj:i=j
 ·subst hj; simp [h]
 ·simp [hj,Ne.symm hj]

theorem mD (D:Nat→Bool) (σ:List AV) (a b:List Rec):fD D σ (a++b)=fD D (fD D σ a) b:=by simp [fD]

theorem Qx {D D':Nat→Bool} {rs:List Rec} {σ:List AV} {r:Rec} (hr:r ∈ rs) (hu:∀ x ∈ rs,∀ y ∈ rs,x.i=y.i→x=y) (hd:∀ x ∈ rs,∀ y ∈ rs,∀ t,x.o.dst=some t→y.o.dst=some t→x=y)
  (h0:D r.i=false) (h1:∀ j,D' j=if j=r.i then true else D j):fD D' σ rs=put (fD D σ rs) r.o.dst r.v:=by
 have hDr:D' r.i=true:=by rw [h1]; simp
 apply List.ext_getElem?
 intro t
 by_cases ht:r.o.dst=some t
 ·rw [ju rs σ r hr hDr ht (fun r' hr' he=>hd r' hr' r hr t he ht),ht]
  simp only [put,List.getElem?_set_self']
  rw [← Qw D rs σ]
  by_cases hl:t < (fD D σ rs).length
  ·simp [hl]
  ·simp [hl]
 ·rw [mQ ht]
  by_cases hex:∃ r' ∈ rs,r'.o.dst=some t
  ·obtain ⟨r',hr',ht'⟩:=hex
   have hne:r'.i≠r.i:=by
    intro e
    have:=hu r' hr' r hr e
    subst this
    exact ht ht'
   have he:D' r'.i=D r'.i:=by rw [h1]; simp [hne]
   cases hDr':D r'.i with
   | true =>
    rw [ju rs σ r' hr' (by rw [he]; exact hDr') ht' (fun x hx hxe=>hd x hx r' hr' t hxe ht'),ju rs σ r' hr' hDr' ht' (fun x hx hxe=>hd x hx r' hr' t hxe ht')]
   | false =>
    rw [eI,eI]
    ·intro x hx hDx hxe
     have:=hd x hx r' hr' t hxe ht'
     subst this; rw [hDr'] at hDx; cases hDx
    ·intro x hx hDx hxe
     have:=hd x hx r' hr' t hxe ht'
     subst this; rw [he,hDr'] at hDx; cases hDx
  ·rw [eI,eI]
   ·intro x hx _ hxe; exact hex ⟨x,hx,hxe⟩
   ·intro x hx _ hxe; exact hex ⟨x,hx,hxe⟩

section
variable {P:Program} {C:bL} {l:List Oper} {s sm s':St} {fr ot:List Rec} {g:Gh} {μ0:Mu}

theorem qy.Ka (pl:qy P C l s sm s' fr ot) {D:Nat→Bool} (hcl:mg l D) {pre post:List Rec} {r:Rec} (hs:ot=pre++r::post) {m:St} (hm:Tr P C l sm pre m)
  (hr:∀ e ∈ r.o.after.toList,Region.binds .any e=true→D e.on=true) (h0:D r.i=false):∀ t ∈ pS l r.o,(fD D s.σ (fr++ot))[t]?=m.σ[t]?:=by
 intro t ht
 have hrot:r ∈ ot:=by rw [hs]; simp
 have hrin:r ∈ fr++ot:=List.mem_append_right _ hrot
 have hmσ:m.σ=fD (fun _=>true) s.σ (fr++pre):=by rw [mD,← pl.tr1.frame]; exact hm.frame
 have hlr:=pl.at_ r hrin
 have hord:=pl.ord
 rw [hs,List.pairwise_append,List.pairwise_cons] at hord
 have hpre:∀ x ∈ pre,x.i < r.i:=fun x hx=>hord.2.2 x hx r (by simp)
 have hpost:∀ x ∈ post,r.i < x.i:=hord.2.1.1
 have hsub:∀ x ∈ fr++pre,x ∈ fr++ot:=by
  intro x hx
  rcases List.mem_append.1 hx with hx | hx
  ·exact List.mem_append_left _ hx
  ·exact List.mem_append_right _ (by rw [hs]; exact List.mem_append_left _ hx)
 rw [hmσ]
 by_cases hex:∃ r' ∈ fr++ot,r'.o.dst=some t
 ·obtain ⟨r',hr',ht'⟩:=hex
  have huq:∀ x ∈ fr++ot,x.o.dst=some t→x=r':=fun x hx hxe=>pl.dst x hx r' hr' t hxe ht'
  rcases pl.reads r hrin t ht r' hr' ht' with he | ⟨h1,h2⟩ | ⟨h1,h2⟩
  ·have:=pl.uniq r' hr' r hrin he
   subst this
   rw [eI,eI]
   ·intro x hx _ hxe
    have:=huq x (hsub x hx) hxe
    subst this
    rcases List.mem_append.1 hx with hx | hx
    ·have h3:=pl.free _ hx; have h4:=pl.tQ _ hrot; rw [h4] at h3; cases h3
    ·have:=hpre _ hx; omega
   ·intro x hx hDx hxe
    have:=huq x hx hxe
    subst this
    rw [h0] at hDx; cases hDx
  ·have hD:=tL hcl hlr hr h2 (by omega)
   rw [ju _ _ r' hr' hD ht' huq]
   have hin:r' ∈ fr++pre:=by
    rcases List.mem_append.1 hr' with hx | hx
    ·exact List.mem_append_left _ hx
    ·rw [hs] at hx
     rcases List.mem_append.1 hx with hx | hx
     ·exact List.mem_append_right _ hx
     ·rcases List.mem_cons.1 hx with hx | hx
      ·subst hx; omega
      ·have:=hpost _ hx; omega
   rw [ju _ _ r' hin rfl ht' (fun x hx hxe=>huq x (hsub x hx) hxe)]
  ·have hD:D r'.i=false:=by
    cases hDr:D r'.i with
    | false=>rfl
    | true=>have:=iZ hcl h2 hDr; rw [h0] at this; cases this
   rw [eI,eI]
   ·intro x hx _ hxe
    have:=huq x (hsub x hx) hxe
    subst this
    rcases List.mem_append.1 hx with hx | hx
    ·have:=Bh (j:=r.i) (pl.at_ x hr') (pl.free x hx)
     rw [this] at h2; cases h2
    ·have:=hpre _ hx; omega
   ·intro x hx hDx hxe
    have:=huq x hx hxe
    subst this
    rw [hD] at hDx; cases hDx
 ·rw [eI,eI]
  ·intro x hx _ hxe; exact hex ⟨x,hsub x hx,hxe⟩
  ·intro x hx _ hxe; exact hex ⟨x,hx,hxe⟩

theorem qy.around (pl:qy P C l s sm s' fr ot) {D:Nat→Bool} (hcl:mg l D) {pre post:List Rec} {r:Rec} (hs:ot=pre++r::post)
  (hr:∀ e ∈ r.o.after.toList,Region.binds .any e=true→D e.on=true) (h0:D r.i=false) (hp:jG r.o.op=false) :
  (∀ x ∈ pre,x.eff=true→D x.i=true∨(gS r.o.op=true∧(x.ef=z0∨apS l s'.σ (x.i,r.i))))∧∀ x ∈ post,x.eff=true→D x.i=false∨(gS r.o.op=true∧(x.ef=z0∨apS l s'.σ (x.i,r.i))):=by
 have hrot:r ∈ ot:=by rw [hs]; simp
 have hrin:r ∈ fr++ot:=List.mem_append_right _ hrot
 have hlr:=pl.at_ r hrin
 have hord:=pl.ord
 have hml:∀ x:Rec,apS l s'.σ (x.i,r.i)→gS r.o.op=true:=by
  rintro x ⟨oi,oj,c,a,b,o,b',o',t,t',v,h1,h2,h3,h4,_⟩
  have h2:l[r.i]?=some oj:=h2
  rw [hlr] at h2
  cases h2
  rw [h4]; rfl
 rw [hs,List.pairwise_append,List.pairwise_cons] at hord
 constructor
 ·intro x hx he
  have hlt:x.i < r.i:=hord.2.2 x hx r (by simp)
  rcases pl.nK x (by rw [hs]; exact List.mem_append_left _ hx) he r hrin with h1 | h1 | h1 | h1 | h1 | h1
  ·omega
  ·rw [hp] at h1; cases h1
  ·omega
  ·exact .inl (tL hcl hlr hr h1.2 (by omega))
  ·exact .inr ⟨h1.1,.inl h1.2⟩
  ·exact .inr ⟨hml x h1,.inr h1⟩
 ·intro x hx he
  have hlt:r.i < x.i:=hord.2.1.1 x hx
  rcases pl.nK x (by rw [hs]; simp [hx]) he r hrin with h1 | h1 | h1 | h1 | h1 | h1
  ·omega
  ·rw [hp] at h1; cases h1
  ·cases hD:D x.i with
   | false=>exact .inl rfl
   | true=>have:=iZ hcl h1.2 hD; rw [h0] at this; cases this
  ·omega
  ·exact .inr ⟨h1.1,.inl h1.2⟩
  ·exact .inr ⟨hml x h1,.inr h1⟩

theorem Tr.calm {P:Program} {C:bL} {ops:List Oper}:∀ {rs:List Rec} {s s':St},Tr P C ops s rs s'→∀ r ∈ rs,jG r.o.op=true∨gS r.o.op=true→r.eff=false
 | [],s,s',h,r,hr,_=>by cases hr
 | r0::rs,s,s',h,r,hr,hq=>by
  cases h with
  | @run _ _ i o q _ h1 h2 h3 h4 h5 =>
   rcases List.mem_cons.1 hr with rfl | hr
   ·have:q=(q.1,s.H,z0):=by
     rcases hq with hq | hq
     ·exact (u5 hq h2).1
     ·exact (mF hq h2).1
    have:quiet q s.H=true:=by rw [this]; simp [quiet,z0]
    simp [this]
   ·exact h5.calm r hr hq
  | @skip _ _ i o _ h1 h2 =>
   rcases List.mem_cons.1 hr with rfl | hr
   ·rfl
   ·exact h2.calm r hr hq

theorem kC {P:Program} {C:bL} {ops:List Oper} {D:Nat→Bool}:∀ {rs:List Rec} {s s':St},Tr P C ops s rs s'→(∀ r ∈ rs,bA r.o=false)→(∀ r ∈ rs,r.eff=true→D r.i=true→r.ef=z0) →
  rs.Pairwise (fun x y=>x.eff=true→y.eff=true→D y.i=true→D x.i=true)→∃ X,hp D s.H rs=s.H++X
 | [],s,s',h,_,_,_=>⟨[],by simp [hp]⟩
 | r::rs,s,s',h,hf,hg,hpw=>by
  rw [List.pairwise_cons] at hpw
  by_cases hd:r.eff=true∧D r.i=false
  ·refine ⟨[],?_⟩
   rw [cT,if_neg (by rw [hd.2]; rintro ⟨h1,_⟩; cases h1),List.append_nil]
   refine fG rs _ (fun x hx he=>?_)
   cases hDx:D x.i with
   | false=>rfl
   | true=>have:=hpw.1 x hx hd.1 he hDx; rw [hd.2] at this; cases this
  ·cases h with
   | @run _ _ i o q _ h1 h2 h3 h4 h5 =>
    obtain ⟨X,hX⟩:=kC (D:=D) h5 (fun r hr=>hf r (by simp [hr])) (fun r hr=>hg r (by simp [hr])) hpw.2
    by_cases he:(!(bA o || quiet q s.H))=true
    ·have hDi:D i=true:=by
      cases hDi:D i with
      | true=>rfl
      | false=>exact absurd ⟨he,hDi⟩ hd
     have hz:q.2.2=z0:=hg _ List.mem_cons_self he hDi
     rw [hz] at h3
     obtain ⟨Y,hY⟩:=h3.grown rfl h4
     refine ⟨Y++X,?_⟩
     rw [cT,if_pos ⟨hDi,he⟩]
     show hp D q.2.1 rs=_
     have hX':hp D q.2.1 rs=q.2.1++X:=hX
     rw [hX',hY,List.append_assoc]
    ·have hfo:bA o=false:=hf _ List.mem_cons_self
     have hq:quiet q s.H=true:=by simpa [hfo] using he
     obtain ⟨e1,e2⟩:=fc hq h3
     refine ⟨X,?_⟩
     rw [cT,if_neg (by rintro ⟨_,h⟩; exact he h)]
     have hX':hp D q.2.1 rs=q.2.1++X:=hX
     rw [e1] at hX'
     exact hX'
   | @skip _ _ i o _ h1 h2 =>
    obtain ⟨X,hX⟩:=kC (D:=D) h2 (fun r hr=>hf r (by simp [hr])) (fun r hr=>hg r (by simp [hr])) hpw.2
    exact ⟨X,by rw [cT,if_neg (by rintro ⟨_,h⟩; cases h)]; exact hX⟩

theorem p7 {P:Program} {C:bL} {ops:List Oper} {D:Nat→Bool}:∀ {rs:List Rec} {s s':St},Tr P C ops s rs s'→(∀ r ∈ rs,bA r.o=false)→(∀ r ∈ rs,r.eff=true→D r.i=false→r.ef=z0) →
  rs.Pairwise (fun x y=>x.eff=true→y.eff=true→D y.i=true→D x.i=true)→∃ X,s'.H=hp D s.H rs++X
 | [],s,s',h,_,_,_=>by cases h; exact ⟨[],by simp [hp]⟩
 | r::rs,s,s',h,hf,hg,hpw=>by
  have hheap:=(h.heap hf).1
  rw [List.pairwise_cons] at hpw
  by_cases hd:r.eff=true∧D r.i=false
  ·have hnone:∀ x ∈ rs,x.eff=true→D x.i=false:=by
    intro x hx he
    cases hDx:D x.i with
    | false=>rfl
    | true=>have:=hpw.1 x hx hd.1 he hDx; rw [hd.2] at this; cases this
   have e1:hp D s.H (r::rs)=s.H:=by
    rw [cT,if_neg (by rw [hd.2]; rintro ⟨h1,_⟩; cases h1)]
    exact fG rs _ hnone
   rw [e1,hheap]
   refine kC (D:=fun _=>true) h hf (fun x hx he _=>?_) ?_
   ·rcases List.mem_cons.1 hx with rfl | hx'
    ·exact hg _ (by simp) hd.1 hd.2
    ·exact hg _ (by simp [hx']) he (hnone x hx' he)
   ·exact List.pairwise_of_forall (fun _ _ _ _ _=>rfl)
  ·cases h with
   | @run _ _ i o q _ h1 h2 h3 h4 h5 =>
    obtain ⟨X,hX⟩:=p7 (D:=D) h5 (fun r hr=>hf r (by simp [hr])) (fun r hr=>hg r (by simp [hr])) hpw.2
    refine ⟨X,?_⟩
    rw [hX,cT]
    by_cases he:(!(bA o || quiet q s.H))=true
    ·have hDi:D i=true:=by
      cases hDi:D i with
      | true=>rfl
      | false=>exact absurd ⟨he,hDi⟩ hd
     rw [if_pos ⟨hDi,he⟩]
    ·have hfo:bA o=false:=hf _ List.mem_cons_self
     have hq:quiet q s.H=true:=by simpa [hfo] using he
     obtain ⟨e1,e2⟩:=fc hq h3
     rw [if_neg (by rintro ⟨_,h⟩; exact he h)]
     simp only [e1]
   | @skip _ _ i o _ h1 h2 =>
    obtain ⟨X,hX⟩:=p7 (D:=D) h2 (fun r hr=>hf r (by simp [hr])) (fun r hr=>hg r (by simp [hr])) hpw.2
    exact ⟨X,by rw [hX,cT,if_neg (by rintro ⟨_,h⟩; cases h)]⟩

theorem qy.chain (pl:qy P C l s sm s' fr ot) {D:Nat→Bool} (hcl:mg l D):ot.Pairwise (fun x y=>x.eff=true→y.eff=true→D y.i=true→D x.i=true):=by
 have hcalm:=pl.tr2.calm
 refine List.Pairwise.imp_of_mem (fun {x y} hx hy hlt he1 he2 hD=>?_) pl.ord
 rcases pl.nK y hy he2 x (List.mem_append_right _ hx) with h1 | h1 | h1 | h1 | h1 | h1
 ·omega
 ·have:=hcalm x hx (.inl h1); rw [he1] at this; cases this
 ·exact iZ hcl h1.2 hD
 ·omega
 ·have:=hcalm x hx (.inr h1.1); rw [he1] at this; cases this
 ·obtain ⟨oi,oj,c,a,b,o,b',o',t,t',v,_,h2,_,h4,_⟩:=h1
  have h2:l[x.i]?=some oj:=h2
  rw [pl.at_ x (List.mem_append_right _ hx)] at h2
  cases h2
  have:=hcalm x hx (.inr (by rw [h4]; rfl)); rw [he1] at this; cases this

theorem qy.final (pl:qy P C l s sm s' fr ot) {pre post:List Rec} {r:Rec} (hs:ot=pre++r::post) {m:St} (hm:Tr P C l sm pre m) {t:Tmp} (hlate:∀ k x,l[k]?=some x→x.dst=some t→k < r.i):s'.σ[t]?=m.σ[t]?:=by
 have hmσ:m.σ=fD (fun _=>true) s.σ (fr++pre):=by rw [mD,← pl.tr1.frame]; exact hm.frame
 have hsσ:s'.σ=fD (fun _=>true) s.σ (fr++ot):=by rw [mD,← pl.tr1.frame]; exact pl.tr2.frame
 have hord:=pl.ord
 rw [hs,List.pairwise_append,List.pairwise_cons] at hord
 have hpost:∀ x ∈ post,r.i < x.i:=hord.2.1.1
 have hsub:∀ x ∈ fr++pre,x ∈ fr++ot:=by
  intro x hx
  rcases List.mem_append.1 hx with hx | hx
  ·exact List.mem_append_left _ hx
  ·exact List.mem_append_right _ (by rw [hs]; exact List.mem_append_left _ hx)
 rw [hmσ,hsσ]
 by_cases hex:∃ r' ∈ fr++ot,r'.o.dst=some t
 ·obtain ⟨r',hr',ht'⟩:=hex
  have huq:∀ x ∈ fr++ot,x.o.dst=some t→x=r':=fun x hx hxe=>pl.dst x hx r' hr' t hxe ht'
  have hlt:=hlate _ _ (pl.at_ r' hr') ht'
  have hin:r' ∈ fr++pre:=by
   rcases List.mem_append.1 hr' with hx | hx
   ·exact List.mem_append_left _ hx
   ·rw [hs] at hx
    rcases List.mem_append.1 hx with hx | hx
    ·exact List.mem_append_right _ hx
    ·rcases List.mem_cons.1 hx with hx | hx
     ·subst hx; omega
     ·have:=hpost _ hx; omega
  rw [ju _ _ r' hr' rfl ht' huq,ju _ _ r' hin rfl ht' (fun x hx hxe=>huq x (hsub x hx) hxe)]
 ·rw [eI,eI]
  ·intro x hx _ hxe; exact hex ⟨x,hsub x hx,hxe⟩
  ·intro x hx _ hxe; exact hex ⟨x,hx,hxe⟩
theorem qy.wrote (pl:qy P C l s sm s' fr ot) {x:Rec} (hx:x ∈ ot) (he:x.eff=true) {t:TypeId} {c b o:Nat} {v:Operand} (ho:x.o.op=.store t (.tmp c) v) (hc:s'.σ[c]?=some (.ptr b o)) (hlate:∀ k y,l[k]?=some y→y.dst=some c→k < x.i):x.wr=some b:=by
 obtain ⟨pre,post,hs⟩:=List.append_of_mem hx
 have htr:=pl.tr2
 rw [hs] at htr
 obtain ⟨m,hm,htr2⟩:=htr.split
 have hf:=pl.final hs hm (t:=c) hlate
 cases htr2 with
 | @run _ _ i o' q _ h1 h2 h3 h4 h5 =>
  have ho:o'.op=.store t (.tmp c) v:=ho
  show wrB P m.σ o'.op=some b
  rw [ho]
  simp only [wrB,aG,← hf,hc]
  rfl
 | @skip _ _ i o' _ h1 h2=>cases he

def Kb (b:Nat) (r:Rec):Prop:=r.ef=z0∨∃ c,r.wr=some c∧c≠b
theorem Kb.step {P:Program} {C:bL} {σ:List AV} {H:Hp} {o:Oper} {q:AV × Hp × Ef} {i:Nat} {f:Bool} {b:Nat} (h:Kb b ⟨i,o,q.1,f,q.2.1,q.2.2,wrB P σ o.op⟩) (h2:bu P C σ H o.op=some q) (h3:Inv H.length H q.2.1 q.2.2) {y:bp} (hy:H[b]?=some y):q.2.1[b]?=some y:=by
 rcases h with h | ⟨c,hc,hne⟩
 ·have h:q.2.2=z0:=h
  rw [h] at h3
  rw [h3.wi b (List.getElem?_eq_some_iff.1 hy).1 (fun e he=>by cases he)]; exact hy
 ·rw [Bv h2 hc b (Ne.symm hne)]; exact hy
theorem mA {P:Program} {C:bL} {ops:List Oper} {D:Nat→Bool} {b:Nat}:∀ {rs:List Rec} {s s':St},Tr P C ops s rs s'→(∀ r ∈ rs,bA r.o=false)→(∀ r ∈ rs,r.eff=true→D r.i=true→Kb b r) →
  rs.Pairwise (fun x y=>x.eff=true→y.eff=true→D y.i=true→D x.i=true)→∀ y,s.H[b]?=some y→(hp D s.H rs)[b]?=some y
 | [],s,s',h,_,_,_,y,hy=>hy
 | r::rs,s,s',h,hf,hg,hpw,y,hy=>by
  rw [List.pairwise_cons] at hpw
  by_cases hd:r.eff=true∧D r.i=false
  ·rw [cT,if_neg (by rw [hd.2]; rintro ⟨h1,_⟩; cases h1)]
   rw [fG rs _ (fun x hx he=>?_)]
   ·exact hy
   ·cases hDx:D x.i with
    | false=>rfl
    | true=>have:=hpw.1 x hx hd.1 he hDx; rw [hd.2] at this; cases this
  ·cases h with
   | @run _ _ i o q _ h1 h2 h3 h4 h5 =>
    have ih:=mA (D:=D) (b:=b) h5 (fun r hr=>hf r (by simp [hr])) (fun r hr=>hg r (by simp [hr])) hpw.2
    by_cases he:(!(bA o || quiet q s.H))=true
    ·have hDi:D i=true:=by
      cases hDi:D i with
      | true=>rfl
      | false=>exact absurd ⟨he,hDi⟩ hd
     rw [cT,if_pos ⟨hDi,he⟩]
     exact ih y ((hg _ List.mem_cons_self he hDi).step h2 h3 hy)
    ·have hfo:bA o=false:=hf _ List.mem_cons_self
     have hq:quiet q s.H=true:=by simpa [hfo] using he
     obtain ⟨e1,e2⟩:=fc hq h3
     rw [cT,if_neg (by rintro ⟨_,h⟩; exact he h)]
     have ih':=ih y (by show q.2.1[b]?=_; rw [e1]; exact hy)
     have ih'':(hp D q.2.1 rs)[b]?=some y:=ih'
     rw [e1] at ih''
     exact ih''
   | @skip _ _ i o _ h1 h2 =>
    rw [cT,if_neg (by rintro ⟨_,h⟩; cases h)]
    exact mA (D:=D) h2 (fun r hr=>hf r (by simp [hr])) (fun r hr=>hg r (by simp [hr])) hpw.2 y hy
theorem sJ {P:Program} {C:bL} {ops:List Oper} {D:Nat→Bool} {b:Nat}:∀ {rs:List Rec} {s s':St},Tr P C ops s rs s'→(∀ r ∈ rs,bA r.o=false)→(∀ r ∈ rs,r.eff=true→D r.i=false→Kb b r) →
  rs.Pairwise (fun x y=>x.eff=true→y.eff=true→D y.i=true→D x.i=true)→∀ y,(hp D s.H rs)[b]?=some y→s'.H[b]?=some y
 | [],s,s',h,_,_,_,y,hy=>by cases h; exact hy
 | r::rs,s,s',h,hf,hg,hpw,y,hy=>by
  have hheap:=(h.heap hf).1
  rw [List.pairwise_cons] at hpw
  by_cases hd:r.eff=true∧D r.i=false
  ·have hnone:∀ x ∈ rs,x.eff=true→D x.i=false:=by
    intro x hx he
    cases hDx:D x.i with
    | false=>rfl
    | true=>have:=hpw.1 x hx hd.1 he hDx; rw [hd.2] at this; cases this
   have e1:hp D s.H (r::rs)=s.H:=by
    rw [cT,if_neg (by rw [hd.2]; rintro ⟨h1,_⟩; cases h1)]
    exact fG rs _ hnone
   rw [e1] at hy
   rw [hheap]
   refine mA (D:=fun _=>true) h hf (fun x hx he _=>?_) (List.pairwise_of_forall (fun _ _ _ _ _=>rfl)) y hy
   rcases List.mem_cons.1 hx with rfl | hx'
   ·exact hg _ (by simp) hd.1 hd.2
   ·exact hg _ (by simp [hx']) he (hnone x hx' he)
  ·cases h with
   | @run _ _ i o q _ h1 h2 h3 h4 h5 =>
    refine sJ (D:=D) (b:=b) h5 (fun r hr=>hf r (by simp [hr])) (fun r hr=>hg r (by simp [hr])) hpw.2 y ?_
    rw [cT] at hy
    by_cases he:(!(bA o || quiet q s.H))=true
    ·have hDi:D i=true:=by
      cases hDi:D i with
      | true=>rfl
      | false=>exact absurd ⟨he,hDi⟩ hd
     rw [if_pos ⟨hDi,he⟩] at hy
     exact hy
    ·have hfo:bA o=false:=hf _ List.mem_cons_self
     have hq:quiet q s.H=true:=by simpa [hfo] using he
     obtain ⟨e1,e2⟩:=fc hq h3
     rw [if_neg (by rintro ⟨_,h⟩; exact he h)] at hy
     show (hp D q.2.1 rs)[b]?=_
     rw [e1]; exact hy
   | @skip _ _ i o _ h1 h2 =>
    rw [cT,if_neg (by rintro ⟨_,h⟩; cases h)] at hy
    exact sJ (D:=D) h2 (fun r hr=>hf r (by simp [hr])) (fun r hr=>hg r (by simp [hr])) hpw.2 y hy

theorem pn {ro:Option Nat} {n:Nat} {P:Program} {ops:Array Oper} {Q:Exit→Act→World→Prop} {i:Nat} {o:Oper} {K:Act→World→Prop} {a:Act} {w:World} (ho:ops[i]?=some o)
  (h1:Region.wanted o (yielded ops a.tmps)=true→o.wpIn (Fr ro) n P a w K Q) (h2:Region.wanted o (yielded ops a.tmps)=false→K (a.put o.dst undef) w):wpOpIn (Fr ro) n P ops Q i K a w:=by
 unfold wpOpIn
 rw [ho]
 simp only
 by_cases h:Region.wanted o (yielded ops a.tmps)=true
 ·rw [if_pos h]; exact h1 h
 ·rw [if_neg h]; exact ⟨fun _ _=>trivial,h2 (by simpa using h)⟩

theorem DI.step {ro:Option Nat} {n:Nat} (hC:cJ P C) {ops:Array Oper} (hl:l=ops.toList) (pl:qy P C l s sm s' fr ot) {listed:Array Bool} {μ:Mu} {a:Act} {w:World} (di:DI P g μ0 l s sm fr ot listed μ a w)
  {Q:Exit→Act→World→Prop} {K:Act→World→Prop} {i:Nat} {o:Oper} (ho:l[i]?=some o) (h0:dn listed i=false) (hr:∀ e ∈ o.after.toList,Region.binds .any e=true→dn listed e.on=true)
  (hK:∀ μ' a' w',DI P g μ0 l s sm fr ot (listed.setIfInBounds i true) μ' a' w'→K a' w'):wpOpIn (Fr ro) n P ops Q i K a w:=by
 have hi:i < listed.size:=by rw [di.sz]; exact (List.getElem?_eq_some_iff.1 ho).1
 have hD':=DO hi
 obtain ⟨r,hrin,hri⟩:=pl.Up i o ho
 subst hri
 have hro:r.o=o:=by have:=pl.at_ r hrin; rw [ho] at this; exact (Option.some.inj this).symm
 subst hro
 have hoa:ops[r.i]?=some r.o:=by rw [← Array.getElem?_toList,← hl]; exact ho
 have hcl':mg l (dn (listed.setIfInBounds r.i true)):=by
  intro k o' hk hd e he hb
  rw [hD'] at hd ⊢
  by_cases hkr:k=r.i
  ·subst hkr
   rw [ho] at hk; cases hk
   rw [hr e he hb]; simp
  ·rw [if_neg hkr] at hd
   rw [di.cl k o' hk hd e he hb]; simp
 have hfa:∀ σ,fD (dn (listed.setIfInBounds r.i true)) σ (fr++ot)=put (fD (dn listed) σ (fr++ot)) r.o.dst r.v:=fun σ=>Qx hrin pl.uniq pl.dst h0 hD'
 have hkeep:r.eff=false∨r ∈ fr→hp (dn (listed.setIfInBounds r.i true)) sm.H ot=hp (dn listed) sm.H ot∧efs (dn (listed.setIfInBounds r.i true)) z0 ot=efs (dn listed) z0 ot:=by
  intro hq
  have:∀ x ∈ ot,x.eff=true→dn (listed.setIfInBounds r.i true) x.i=dn listed x.i:=by
   intro x hx he
   rw [hD']
   have hne:x.i≠r.i:=by
    intro e
    have hxr:=pl.uniq x (List.mem_append_right _ hx) r hrin e
    subst hxr
    rcases hq with hq | hq
    ·rw [he] at hq; cases hq
    ·have h1:=pl.free x hq; have h2:=pl.tQ x hx; rw [h1] at h2; cases h2
   simp [hne]
  exact ⟨jf ot _ this,j4 ot _ this⟩
 rcases List.mem_append.1 hrin with hrf | hrot
 ·-- a free allocation
  obtain ⟨k,hk,hkr⟩:=List.mem_iff_getElem.1 hrf
  have hkr':fr[k]?=some r:=by rw [List.getElem?_eq_getElem hk,hkr]
  obtain ⟨zs,z1,z2,z3,z4⟩:=pl.tr1.fq pl.free
  obtain ⟨z,hz,hop,hzero,hv⟩:=z4 k r hkr'
  have hX:hp (dn listed) sm.H ot=sm.H:=by
   refine fG ot _ (fun x hx he=>?_)
   cases hD:dn listed x.i with
   | false=>rfl
   | true =>
    rcases pl.nK x hx he r hrin with h1 | h1 | h1 | h1 | h1 | h1
    rotate_right
    ·obtain ⟨oi,oj,c,a,b,o,b',o',t,t',v,_,h2,_,h4,_⟩:=h1
     have h2:l[r.i]?=some oj:=h2
     rw [ho] at h2
     cases h2
     rw [hop] at h4; cases h4
    ·have:=pl.uniq r hrin x (List.mem_append_right _ hx) h1
     subst this
     have h1:=pl.free r hrf; have h2:=pl.tQ r hx; rw [h1] at h2; cases h2
    ·rw [hop] at h1; simp [jG] at h1
    ·have:=iZ di.cl h1.2 hD; rw [h0] at this; cases this
    ·have:=Bh (j:=x.i) ho (pl.free r hrf); rw [this] at h1; cases h1.2
    ·rw [hop] at h1; simp [gS] at h1
  have hblk:sm.H[s.H.length+k]?=some (.cells z.1 z.2 .rw):=by
   rw [z1,List.getElem?_append_right (by omega)]
   simp [hz]
  have hmk:=di.fre k r hkr' h0
  have hw:Region.wanted r.o (yielded ops a.tmps)=true:=by
   have hf:=pl.free r hrf
   unfold bA at hf
   rw [hop] at hf
   simp only [Bool.and_eq_true,Option.isNone_iff_eq_none] at hf
   simp [Region.wanted,hf.2]
  refine pn hoa (fun _=>?_) (fun h=>by rw [hw] at h; cases h)
  obtain ⟨zv,e1,e2⟩:=qZ (w:=w) (μ:=μ) hzero
  have hrel:=di.rel
  rw [hX] at hrel
  have hzl:z.1.length=zv.cells.size:=by rw [← Array.length_toList]; exact (aX e2).symm
  have hnew:=hrel.newAt (.cells zv.cells z.2) hblk hmk ⟨zv.cells,(0,0),_,heap_alloc_new w _,e2,by simp [hzl],fun j v hv=>by simpa using hv,rfl,hzl.symm,rfl⟩
  refine rF (by rw [hop]; intro c h; cases h) ?_
  unfold Oper.wp
  have hrun:(execOp a.eval r.o).run P w=.ok (.value (.pointer (some ⟨w.heap.size,0,none⟩))) (w.alloc (.cells zv.cells z.2)):=by
   unfold execOp
   simp only [hop]
   simp [Instr.alloc,e1,newVar,newRow]
  rw [hrun]
  have hle:Le μ (upd μ (s.H.length+k) ⟨w.heap.size,0,0⟩):=by
   intro c q e
   rw [bf]
   ·exact e
   ·rintro rfl; rw [hmk] at e; cases e
  refine hK (upd μ (s.H.length+k) ⟨w.heap.size,0,0⟩) _ _ ⟨by simpa using di.sz,hcl',?_,by rw [put_defers]; exact di.df,?_,di.le.trans hle,?_,?_,?_,?_⟩
  ·rw [hfa]
   refine je _ (cN hle _ di.tm) ?_
   rw [hv]
   simp [aB,bI]
  ·rw [(hkeep (.inr hrf)).1,hX]
   exact hnew
  ·intro b hb
   rw [bf _ _ (by omega)]
   exact di.dom b hb
  ·intro k' r' hk' hd'
   rw [hD'] at hd'
   have hne:k'≠k:=by
    rintro rfl
    rw [hkr'] at hk'; cases hk'
    simp at hd'
   rw [bf _ _ (by omega)]
   refine di.fre k' r' hk' ?_
   split at hd'
   ·cases hd'
   ·exact hd'
  ·rw [(hkeep (.inr hrf)).1,(hkeep (.inr hrf)).2]; exact di.inv
  ·rw [(hkeep (.inr hrf)).1]; exact di.len
 ·-- any other
  have hnf:=pl.tQ r hrot
  obtain ⟨pre,post,hs⟩:=List.append_of_mem hrot
  have htr:=pl.tr2
  rw [hs] at htr
  obtain ⟨m,hm,htr2⟩:=htr.split
  have hfe:=pl.Ka di.cl hs hm hr h0
  have hwc:Region.wanted r.o (yielded ops a.tmps)=cj l m.σ r.o:=by
   rw [pq di.tm r.o,← hl]
   exact tO hfe
  have hargs:∀ x ∈ r.o.op.operands,aG P (fD (dn listed) s.σ (fr++ot)) x=aG P m.σ x:=by
   intro x hx
   refine AX (fun t ht=>hfe t ?_)
   subst ht
   simp only [pS,List.mem_append,List.mem_filterMap]
   exact .inl ⟨_,by simpa using hx,rfl⟩
  have hmheap:=(hm.heap (fun x hx=>pl.tQ x (by rw [hs]; exact List.mem_append_left _ hx))).1
  cases htr2 with
  | @skip _ _ i' o' _ h1 h2 =>
   refine pn hoa (fun h=>by rw [hwc] at h; rw [h1] at h; cases h) (fun _=>?_)
   have hk:=hkeep (.inl rfl)
   refine hK μ _ _ ⟨by simpa using di.sz,hcl',?_,by rw [put_defers]; exact di.df,by rw [hk.1]; exact di.rel,di.le,di.dom,?_,by rw [hk.1,hk.2]; exact di.inv,by rw [hk.1]; exact di.len⟩
   ·rw [hfa]; exact je _ di.tm rfl
   ·intro k' r' hk' hd'
    refine di.fre k' r' hk' ?_
    rw [hD'] at hd'
    split at hd'
    ·cases hd'
    ·exact hd'
  | @run _ _ i' o' q _ h1 h2 h3 h4 h5 =>
   refine pn hoa (fun _=>?_) (fun h=>by rw [hwc] at h; rw [h1] at h; cases h)
   have h2':bu P C (fD (dn listed) s.σ (fr++ot)) m.H o'.op=some q:=by rw [DJ hargs]; exact h2
   -- what is left to show, once the operation has been done
   have fin:∀ {X':Hp} {e':Ef},hp (dn (listed.setIfInBounds i' true)) sm.H ot=X'→efs (dn (listed.setIfInBounds i' true)) z0 ot=(efs (dn listed) z0 ot).and e' →
     ∀ μ' v' w',Ok P g μ (hp (dn listed) sm.H ot) (q.1,X',e') μ' v' w'→K (a.put o'.dst v') w':=by
    intro X' e' hX' hE' μ' v' w' hok
    refine hK μ' _ _ ⟨by simpa using di.sz,hcl',?_,by rw [put_defers]; exact di.df,by rw [hX']; exact hok.rel,di.le.trans hok.le,?_,?_,?_,?_⟩
    ·rw [hfa]; exact je _ (cN hok.le _ di.tm) hok.val
    ·intro b hb
     have hls:s.H.length≤sm.H.length:=by
      obtain ⟨zs,z1,_⟩:=pl.tr1.fq pl.free
      rw [z1]; simp
     have:=di.len
     rw [hok.dom b (by omega)]
     exact di.dom b hb
    ·intro k' r' hk' hd'
     have hkl:s.H.length+k' < sm.H.length:=by
      obtain ⟨zs,z1,_,z3,_⟩:=pl.tr1.fq pl.free
      have:k' < fr.length:=(List.getElem?_eq_some_iff.1 hk').1
      rw [z1]; simp; omega
     have:=di.len
     rw [hok.dom _ (by omega)]
     refine di.fre k' r' hk' ?_
     rw [hD'] at hd'
     split at hd'
     ·cases hd'
     ·exact hd'
    ·rw [hX',hE']
     have hls:s.H.length≤sm.H.length:=by
      obtain ⟨zs,z1,_⟩:=pl.tr1.fq pl.free
      rw [z1]; simp
     exact di.inv.trans hok.inv (Nat.le_trans hls di.len)
    ·rw [hX']
     exact Nat.le_trans di.len hok.len
   by_cases hp':jG o'.op=true
   ·obtain ⟨hq,hall⟩:=u5 hp' h2'
    have hqz:quiet q m.H=true:=by rw [hq]; simp [quiet,z0]
    have hk:=hkeep (.inl (by simp [hqz]))
    have hok:=qG hC di.rel di.tm (hall (hp (dn listed) sm.H ot))
    exact hok ro n K Q (fin hk.1 (by rw [hk.2,Ef.fC]))
   ·have hp0:jG o'.op=false:=by simpa using hp'
    obtain ⟨ar1',ar2'⟩:=pl.around di.cl hs hr h0 hp0
    by_cases hmo:gS o'.op=true
    ·by_cases hld:∃ t a,o'.op=.load t (.tmp a)
     ·obtain ⟨tl,al,hld⟩:=hld
      have hh0:dn listed i'=false:=h0
      have hch:=pl.chain di.cl
      rw [hs,List.pairwise_append,List.pairwise_cons] at hch
      have hqz:quiet q m.H=true:=by rw [(mF hmo h2).1]; simp [quiet,z0]
      obtain ⟨e1,e2⟩:=fc hqz h3
      have h2l:=h2'
      rw [hld] at h2l
      obtain ⟨b,ob,g1,g2,g3,g4⟩:=N5 h2l
      have hma:m.σ[al]?=some (.ptr b ob):=by
       have:=hargs (.tmp al) (by rw [hld]; simp [Op.operands])
       rw [g1] at this
       have h:some (AV.ptr b ob)=some ((m.σ[al]?).getD bw):=this
       cases hx:m.σ[al]? with
       | none=>rw [hx] at h; cases h
       | some z=>rw [hx] at h; rw [Option.some.inj h]; rfl
      have hkb:∀ x ∈ ot,x.eff=true→(x.ef=z0∨apS l s'.σ (x.i,i'))→Kb b x:=by
       intro x hx he hz
       rcases hz with hz | ⟨oi,oj,c,a,bs,o,b',o',t,t',v,k1,k2,k3,k4,k5,k6,k7,k8,k9⟩
       ·exact .inl hz
       ·have k1:l[x.i]?=some oi:=k1
        rw [pl.at_ x (List.mem_append_right _ hx)] at k1
        cases k1
        have k2:l[i']?=some oj:=k2
        rw [ho] at k2
        cases k2
        rw [hld] at k4
        cases k4
        have hf:=pl.final hs hm (t:=al) k9
        rw [k6,hma] at hf
        cases hf
        exact .inr ⟨bs,pl.wrote hx he k3 k5 k8,k7⟩
      have hby:∃ y,m.H[b]?=some y:=by
       cases hb:m.H[b]? with
       | some y=>exact ⟨y,rfl⟩
       | none =>
        exfalso
        obtain ⟨u,hu⟩:∃ u,μ b=some u:=by
         have hv:=bE di.rel di.tm (x:=.tmp al) g1
         simp only [aB,Option.map_eq_some_iff] at hv
         obtain ⟨lc,hl,_⟩:=hv
         exact ⟨lc,hl⟩
        have hlt:=di.rel.dom b u hu
        have hrd:∀ n,rd m.H b ob n=none:=fun n=>by unfold rd; rw [hb]
        unfold ec at g2
        simp only [hrd] at g2
        split at g2 <;> simp at g2
      obtain ⟨y,hy⟩:=hby
      have hag:(hp (dn listed) sm.H ot)[b]?=m.H[b]?:=by
       by_cases hall:∀ x ∈ pre,x.eff=true→dn listed x.i=true
       ·have hk:=mA (D:=dn listed) (b:=b) h5 (fun x hx=>pl.tQ x (by rw [hs]; simp [hx])) (fun x hx he hD=>by
         rcases ar2' x hx he with h1 | h1
         ·rw [hD] at h1; cases h1
         ·exact hkb x (by rw [hs]; simp [hx]) he h1.2) hch.2.1.2 y (by show q.2.1[b]?=_; rw [e1]; exact hy)
        have hk:(hp (dn listed) q.2.1 post)[b]?=some y:=hk
        rw [e1] at hk
        rw [hy,hs,iU,cT]
        rw [jf (D':=fun _=>true) pre sm.H (fun x hx he=>hall x hx he),← hmheap]
        simp only [hh0,Bool.false_eq_true,false_and,if_false]
        exact hk
       ·obtain ⟨x0,hx0,he0,hd0⟩:∃ x ∈ pre,x.eff=true∧dn listed x.i=false:=by
         apply Classical.byContradiction
         intro hno
         refine hall (fun x hx he=>?_)
         cases hD:dn listed x.i with
         | true=>rfl
         | false=>exact absurd ⟨x,hx,he,hD⟩ hno
        have hpn:∀ x ∈ post,x.eff=true→dn listed x.i=false:=by
         intro x hx he
         cases hD:dn listed x.i with
         | false=>rfl
         | true=>have:=hch.2.2 x0 hx0 x (by simp [hx]) he0 he hD; rw [hd0] at this; cases this
        have hXm:hp (dn listed) sm.H ot=hp (dn listed) sm.H pre:=by
         rw [hs,iU,cT]
         simp only [hh0,Bool.false_eq_true,false_and,if_false]
         rw [fG post _ hpn]
        have hk:=sJ (D:=dn listed) (b:=b) hm (fun x hx=>pl.tQ x (by rw [hs]; exact List.mem_append_left _ hx)) (fun x hx he hD=>by
         rcases ar1' x hx he with h1 | h1
         ·rw [hD] at h1; cases h1
         ·exact hkb x (by rw [hs]; simp [hx]) he h1.2) hch.1
        rw [hXm]
        have hlt:b < (hp (dn listed) sm.H pre).length:=by
         rw [← hXm]
         obtain ⟨v',hv⟩:∃ v',aB μ (.ptr b ob)=some v':=⟨_,bE di.rel di.tm (x:=.tmp al) g1⟩
         simp only [aB,Option.map_eq_some_iff] at hv
         obtain ⟨lc,hl,_⟩:=hv
         exact di.rel.dom b lc hl
        obtain ⟨z,hz⟩:∃ z,(hp (dn listed) sm.H pre)[b]?=some z:=⟨_,List.getElem?_eq_getElem hlt⟩
        rw [hz,hk z hz]
      have h2m:=g4 _ hag
      rw [← hld] at h2m
      have hok:=qG hC di.rel di.tm (o:=o') h2m
      have hk:=hkeep (.inl (by simp [hqz]))
      exact hok ro n K Q (fun μ' v' w' hok'=>fin (X':=hp (dn listed) sm.H ot) (e':=z0) hk.1 (by rw [hk.2,Ef.fC]) μ' v' w' hok')
     have hna:∀ x:Rec,¬ apS l s'.σ (x.i,i'):=by
      rintro x ⟨oi,oj,c,a,bs,o,b',o',t,t',v,k1,k2,k3,k4,_⟩
      have k2:l[i']?=some oj:=k2
      rw [ho] at k2
      cases k2
      exact hld ⟨t',a,k4⟩
     ·have hh0:dn listed i'=false:=h0
      have hch:=pl.chain di.cl
      rw [hs,List.pairwise_append,List.pairwise_cons] at hch
      have hqz:quiet q m.H=true:=by rw [(mF hmo h2).1]; simp [quiet,z0]
      obtain ⟨e1,e2⟩:=fc hqz h3
      by_cases hall:∀ x ∈ pre,x.eff=true→dn listed x.i=true
      ·obtain ⟨X,hX⟩:=kC (D:=dn listed) h5 (fun x hx=>pl.tQ x (by rw [hs]; simp [hx])) (fun x hx he hD=>by
        rcases ar2' x hx he with h1 | h1
        ·rw [hD] at h1; cases h1
        ·exact h1.2.resolve_right (hna x)) hch.2.1.2
       have hXm:hp (dn listed) sm.H ot=m.H++X:=by
        rw [hmheap,hs,iU,cT]
        rw [jf (D':=fun _=>true) pre sm.H (fun x hx he=>hall x hx he),← hmheap]
        simp only [hh0,Bool.false_eq_true,false_and,if_false]
        have hX':hp (dn listed) q.2.1 post=q.2.1++X:=hX
        rw [e1] at hX'
        exact hX'
       have h2m:=(mF hmo h2').2 X
       rw [← hXm] at h2m
       have hok:=qG hC di.rel di.tm (o:=o') h2m
       have hk:=hkeep (.inl (by simp [hqz]))
       exact hok ro n K Q (fun μ' v' w' hok'=>fin (X':=hp (dn listed) sm.H ot) (e':=z0) hk.1 (by rw [hk.2,Ef.fC]) μ' v' w' hok')
      ·-- something ahead of it that lays blocks has not been done
       obtain ⟨x0,hx0,he0,hd0⟩:∃ x ∈ pre,x.eff=true∧dn listed x.i=false:=by
        apply Classical.byContradiction
        intro hno
        refine hall (fun x hx he=>?_)
        cases hD:dn listed x.i with
        | true=>rfl
        | false=>exact absurd ⟨x,hx,he,hD⟩ hno
       have hpn:∀ x ∈ post,x.eff=true→dn listed x.i=false:=by
        intro x hx he
        cases hD:dn listed x.i with
        | false=>rfl
        | true=>have:=hch.2.2 x0 hx0 x (by simp [hx]) he0 he hD; rw [hd0] at this; cases this
       obtain ⟨X,hX⟩:=p7 (D:=dn listed) hm (fun x hx=>pl.tQ x (by rw [hs]; exact List.mem_append_left _ hx)) (fun x hx he hD=>by
        rcases ar1' x hx he with h1 | h1
        ·rw [hD] at h1; cases h1
        ·exact h1.2.resolve_right (hna x)) hch.1
       have hXm:m.H=hp (dn listed) sm.H ot++X:=by
        rw [hX,hs,iU,cT]
        simp only [hh0,Bool.false_eq_true,false_and,if_false]
        rw [fG post _ hpn]
       rw [hXm] at h2'
       have h2m:=GU hmo h2' (fun x _ v hv=>⟨_,bE di.rel di.tm hv⟩) di.rel.dom
       have hok:=qG hC di.rel di.tm (o:=o') h2m
       have hk:=hkeep (.inl (by simp [hqz]))
       exact hok ro n K Q (fun μ' v' w' hok'=>fin (X':=hp (dn listed) sm.H ot) (e':=z0) hk.1 (by rw [hk.2,Ef.fC]) μ' v' w' hok')
    have ar1:∀ x ∈ pre,x.eff=true→dn listed x.i=true:=fun x hx he=>(ar1' x hx he).resolve_right (fun h=>hmo h.1)
    have ar2:∀ x ∈ post,x.eff=true→dn listed x.i=false:=fun x hx he=>(ar2' x hx he).resolve_right (fun h=>hmo h.1)
    have hXm:hp (dn listed) sm.H ot=m.H:=by
     rw [hmheap,hs,iU,cT]
     rw [jf (D':=fun _=>true) pre sm.H (fun x hx he=>ar1 x hx he)]
     have h0':dn listed i'=false:=h0
     simp only [h0',Bool.false_eq_true,false_and,if_false]
     exact fG post _ ar2
    have hok:=qG hC di.rel di.tm (o:=o') (by rw [hXm]; exact h2')
    by_cases hqz:quiet q m.H=true
    ·obtain ⟨q1,q2⟩:=fc hqz h3
     have hk:=hkeep (.inl (by simp [hqz]))
     refine hok ro n K Q (fun μ' v' w' hok'=>fin (X':=q.2.1) (e':=q.2.2) (by rw [hk.1,hXm,q1]) (by rw [hk.2,q2,Ef.fC]) μ' v' w' hok')
    ·have hqf:quiet q m.H=false:=by simpa using hqz
     have heff:(!(bA o' || quiet q m.H))=true:=by
      have:bA o'=false:=hnf
      rw [this,hqf]; rfl
     have hpre':∀ x ∈ pre,x.eff=true→dn (listed.setIfInBounds i' true) x.i=dn listed x.i:=by
      intro x hx he
      rw [hD',ar1 x hx he]; simp
     have hpost':∀ x ∈ post,x.eff=true→dn (listed.setIfInBounds i' true) x.i=false:=by
      intro x hx he
      rw [hD',ar2 x hx he]
      have hord:=pl.ord
      rw [hs,List.pairwise_append,List.pairwise_cons] at hord
      have:=hord.2.1.1 x hx
      simp only at this
      simp; omega
     have h0':dn listed i'=false:=h0
     have hDi:dn (listed.setIfInBounds i' true) i'=true:=by rw [hD']; simp
     refine hok ro n K Q (fun μ' v' w' hok'=>fin (X':=q.2.1) (e':=q.2.2) ?_ ?_ μ' v' w' hok')
     ·rw [hs,iU,cT]
      simp only [hDi,heff,and_self,if_true]
      exact fG post _ hpost'
     ·rw [hs,tn,j3,tn,j3]
      simp only [hDi,heff,and_self,if_true,h0',Bool.false_eq_true,false_and,if_false]
      rw [oS post _ hpost',oS post _ ar2,j4 pre z0 hpre']
end
theorem vg {α:Type} {p q:α→Bool}:∀ {l:List α},(∀ x ∈ l,q x=true→p x=true)→(∃ x ∈ l,p x=true∧q x=false)→l.countP q < l.countP p
 | [],_,⟨x,hx,_⟩=>by cases hx
 | a::l,h,⟨x,hx,h1,h2⟩=>by
  have hle:l.countP q≤l.countP p:=List.countP_mono_left (fun y hy=>h y (by simp [hy]))
  rcases List.mem_cons.1 hx with rfl | hx
  ·rw [List.countP_cons,List.countP_cons,h1,h2]
   simp only [Bool.false_eq_true,if_false,if_true]; omega
  ·have ih:=vg (fun y hy=>h y (by simp [hy])) ⟨x,hx,h1,h2⟩
   rw [List.countP_cons,List.countP_cons]
   by_cases hq:q a=true
   ·rw [hq,h a (by simp) hq]; simpa using ih
   ·simp only [hq,Bool.false_eq_true,if_false,Nat.add_zero]; omega

theorem pR {ops:Array Oper} {listed:Array Bool} (hs:listed.size=ops.size) {j:Nat}:j ∈ Region.ready .any ops listed↔dn listed j=false∧∃ o,ops.toList[j]?=some o∧∀ e ∈ o.after.toList,Region.binds .any e=true→dn listed e.on=true:=by
 rw [mem_ready]
 have key:∀ o,ops[j]?=some o→(listed.getD j true=false↔dn listed j=false):=by
  intro o ho
  have hlt:j < ops.size:=(Array.getElem?_eq_some_iff.1 ho).1
  unfold dn
  simp only [Array.getD_eq_getD_getElem?]
  rw [Array.getElem?_eq_getElem (by omega)]
  simp
 constructor
 ·rintro ⟨h1,o,ho,h2⟩
  exact ⟨(key o ho).1 h1,o,by rw [Array.getElem?_toList]; exact ho,fun e he hb=>h2 e (by simpa using he) hb⟩
 ·rintro ⟨h1,o,ho,h2⟩
  rw [Array.getElem?_toList] at ho
  exact ⟨(key o ho).2 h1,o,ho,fun e he hb=>h2 e (by simpa using he) hb⟩

section
variable {P:Program} {C:bL} {l:List Oper} {s sm s':St} {fr ot:List Rec} {g:Gh} {μ0:Mu}

def mc (s s':St):Prop:=s.H.length≤s'.H.length∧∃ e,s'.ef=s.ef.and e∧Inv s.H.length s.H s'.H e

def mX (P:Program) (g:Gh) (μ:Mu) (s s':St) (Q:Act→World→Prop):Prop :=
 ∀ g' μ' a' w',GLe g g'→Le μ μ'→(∀ b,b < s.H.length→μ' b=μ b)→gr P g' μ' s' w' a'→mc s s'→Q a' w'

theorem Rt {ro:Option Nat} {m:Nat} (hC:cJ P C) {ops:Array Oper} (hl:l=ops.toList) (pl:qy P C l s sm s' fr ot) {Q:Exit→Act→World→Prop} (hQ:mX P g μ0 s s' (Q .normal)) :
  ∀ (fuel:Nat) {listed:Array Bool} {μ:Mu} {a:Act} {w:World},DI P g μ0 l s sm fr ot listed μ a w→(List.range ops.size).countP (fun i=>!dn listed i)≤fuel→wpAnyIn (Fr ro) m P .any ops Q fuel listed a w:=by
 have done:∀ {listed:Array Bool} {μ:Mu} {a:Act} {w:World},DI P g μ0 l s sm fr ot listed μ a w→(∀ i,i < ops.size→dn listed i=true)→Q .normal a w:=by
  intro listed μ a w di hall
  have hlen:l.length=ops.size:=by rw [hl]; simp
  have hD:∀ r ∈ fr++ot,dn listed r.i=true:=by
   intro r hr
   refine hall r.i ?_
   have:=(List.getElem?_eq_some_iff.1 (pl.at_ r hr)).1
   omega
  have hf:fD (dn listed) s.σ (fr++ot)=s'.σ:=by
   rw [pl.tr2.frame,pl.tr1.frame,← mD]
   have:∀ (rs:List Rec) (σ:List AV),(∀ r ∈ rs,dn listed r.i=true)→fD (dn listed) σ rs=fD (fun _=>true) σ rs:=by
    intro rs
    induction rs with
    | nil=>intro σ _; rfl
    | cons r rs ih =>
     intro σ h
     show fD (dn listed) (if dn listed r.i=true then put σ r.o.dst r.v else σ) rs=fD (fun _=>true) (if true=true then put σ r.o.dst r.v else σ) rs
     rw [h r (by simp)]
     exact ih _ (fun r' hr'=>h r' (by simp [hr']))
   exact this _ _ hD
  have hh:=pl.tr2.heap pl.tQ
  have hX:hp (dn listed) sm.H ot=s'.H:=by
   rw [hh.1]
   exact jf ot _ (fun r hr _=>hD r (List.mem_append_right _ hr))
  have hE:efs (dn listed) z0 ot=efs (fun _=>true) z0 ot:=j4 ot _ (fun r hr _=>hD r (List.mem_append_right _ hr))
  obtain ⟨zs,z1,z2,_⟩:=pl.tr1.fq pl.free
  refine hQ g μ a w (GLe.refl g) di.le di.dom ⟨by rw [← hX]; exact di.rel,by rw [← hf]; exact di.tm,di.df⟩ ⟨?_,efs (fun _=>true) z0 ot,?_,?_⟩
  ·rw [← hX]
   have h2:s.H.length≤sm.H.length:=by rw [z1]; simp
   exact Nat.le_trans h2 di.len
  ·rw [hh.2,z2]
  ·rw [← hX,← hE]; exact di.inv
 intro fuel
 induction fuel with
 | zero =>
  intro listed μ a w di hc
  have hall:∀ i,i < ops.size→dn listed i=true:=by
   intro i hi
   have h0:(List.range ops.size).countP (fun i=>!dn listed i)=0:=by omega
   rw [List.countP_eq_zero] at h0
   have:=h0 i (by simpa using hi)
   simpa using this
  refine ⟨?_,done di hall⟩
  have hsz:listed.size=ops.size:=by rw [di.sz,hl]; simp
  apply List.eq_nil_iff_forall_not_mem.2
  intro i hi
  rw [pR hsz] at hi
  obtain ⟨h1,o,ho,_⟩:=hi
  have:=hall i (by have:=(List.getElem?_eq_some_iff.1 ho).1; simpa using this)
  rw [h1] at this; cases this
 | succ fuel ih =>
  intro listed μ a w di hc
  have hsz:listed.size=ops.size:=by rw [di.sz,hl]; simp
  constructor
  ·intro hready
   refine done di (fun i hi=>?_)
   -- the least that is left would be ready
   cases hd:dn listed i with
   | true=>rfl
   | false =>
    exfalso
    have key:∀ n,∀ j,j≤n→j < ops.size→dn listed j=true:=by
     intro n
     induction n using Nat.strongRecOn with
     | _ n ihn =>
      intro j hj hjs
      cases hd0:dn listed j with
      | true=>rfl
      | false =>
       exfalso
       have:j ∈ Region.ready .any ops listed:=by
        rw [pR hsz]
        refine ⟨hd0,ops[j],by rw [Array.getElem?_toList,Array.getElem?_eq_getElem hjs],fun e he hb=>?_⟩
        have hlt:=pl.Td j ops[j] (by rw [hl,Array.getElem?_toList,Array.getElem?_eq_getElem hjs]) e he hb
        exact ihn e.on (by omega) e.on (Nat.le_refl _) (by omega)
       rw [hready] at this; cases this
    have:=key i i (Nat.le_refl _) hi
    rw [hd] at this; cases this
  ·intro i hi
   rw [pR hsz] at hi
   obtain ⟨hd,o,ho,hi3⟩:=hi
   have hi1:i < ops.size:=by have:=(List.getElem?_eq_some_iff.1 ho).1; simpa using this
   rw [← hl] at ho
   refine di.step hC hl pl ho hd (fun e he hb=>hi3 e he hb) (fun μ' a' w' di'=>ih di' ?_)
   ·have hlt:=vg (p:=fun j=>!dn listed j) (q:=fun j=>!dn (listed.setIfInBounds i true) j) (l:=List.range ops.size) (fun x _ hx=>by
      rw [DO (by omega)] at hx
      split at hx
      ·cases hx
      ·exact hx) ⟨i,by simpa using hi1,by simp [hd],by rw [DO (by omega)]; simp⟩
    omega
end
section
variable {P:Program} {C:bL} {g:Gh}

theorem mc.refl (s:St):mc s s:=⟨Nat.le_refl _,z0,(Ef.fC _).symm,Inv.refl _ _ _⟩
theorem mc.trans {a b c:St} (h:mc a b) (k:mc b c):mc a c:=by
 obtain ⟨h1,e,h2,h3⟩:=h
 obtain ⟨k1,f,k2,k3⟩:=k
 exact ⟨Nat.le_trans h1 k1,e.and f,by rw [k2,h2,Ef.and_assoc],h3.trans k3 h1⟩

theorem mX.trans {μ:Mu} {s s1 s2:St} {Q:Act→World→Prop} (h:mX P g μ s s2 Q) {g1:Gh} {μ1:Mu} (hg:GLe g g1) (hle:Le μ μ1) (hd:∀ b,b < s.H.length→μ1 b=μ b) (hi:mc s s1):mX P g1 μ1 s1 s2 Q:=by
 intro g' μ' a' w' l0 l1 l2 l3 l4
 refine h g' μ' a' w' (hg.trans l0) (hle.trans l1) (fun b hb=>?_) l3 (hi.trans l4)
 rw [l2 b (Nat.lt_of_lt_of_le hb hi.1),hd b hb]

theorem mX.refl {μ:Mu} {s:St} {Q:Act→World→Prop} {a:Act} {w:World} (h:mX P g μ s s Q) (hr:gr P g μ s w a):Q a w:=h g μ a w (GLe.refl g) (Le.refl μ) (fun _ _=>rfl) hr (mc.refl s)

def Ex.to:Ex→Exit
 | .normal=>.normal
 | .exit id=>.exit id
 | .goto l=>.goto l
 | .ret=>.ret
 | .pan=>.normal
def Sj (v:Value):Exit:=.panic [{ v:=v,recovered:=false }]
def Ends (P:Program) (g:Gh) (μ:Mu) (ex:Ex) (s:St) (w:World) (a:Act) (x:Exit):Prop :=
 (ex≠.pan∧x=ex.to∧gr P g μ s w a)∨(ex=.pan∧∃ v σ v',s.σ=v::σ∧aB μ v=some v'∧x=Sj v'∧gr P g μ ⟨σ,s.H,s.ef⟩ w a)
def eR (P:Program) (g:Gh) (μ:Mu) (s s':St) (ex:Ex) (Q:Exit→Act→World→Prop):Prop :=
 ∀ g' μ' a' w' x,GLe g g'→Le μ μ'→(∀ b,b < s.H.length→μ' b=μ b)→Ends P g' μ' ex s' w' a' x→mc s s'→Q x a' w'
theorem eR.of {μ:Mu} {s s':St} {ex:Ex} {Q:Exit→Act→World→Prop} (hx:ex≠.pan) (h:eR P g μ s s' ex Q):mX P g μ s s' (Q ex.to) :=
 fun g' μ' a' w' l0 l1 l2 l3 l4=>h g' μ' a' w' _ l0 l1 l2 (.inl ⟨hx,rfl,l3⟩) l4
theorem eR.trans {μ:Mu} {s s1 s2:St} {ex:Ex} {Q:Exit→Act→World→Prop} (h:eR P g μ s s2 ex Q) {g1:Gh} {μ1:Mu} (hg:GLe g g1) (hle:Le μ μ1) (hd:∀ b,b < s.H.length→μ1 b=μ b) (hi:mc s s1):eR P g1 μ1 s1 s2 ex Q:=by
 intro g' μ' a' w' x l0 l1 l2 l3 l4
 refine h g' μ' a' w' x (hg.trans l0) (hle.trans l1) (fun b hb=>?_) l3 (hi.trans l4)
 rw [l2 b (Nat.lt_of_lt_of_le hb hi.1),hd b hb]
theorem eR.refl {μ:Mu} {s:St} {ex:Ex} {Q:Exit→Act→World→Prop} {w:World} {a:Act} (hx:ex≠.pan) (h:eR P g μ s s ex Q) (hr:gr P g μ s w a):Q ex.to a w :=
 (h.of hx).refl hr
theorem Ends.then {μ:Mu} {s:St} {ex:Ex} {w:World} {a:Act} {x:Exit} (h:Ends P g μ ex s w a x) (hn:ex≠.normal) (f:Act→World→Prop) (Q:Exit→Act→World→Prop):Exit.then f Q x=Q x:=by
 rcases h with ⟨h1,rfl,_⟩ | ⟨_,v,σ,v',_,_,rfl,_⟩
 ·cases ex <;> first | (exact absurd rfl hn) | (exact absurd rfl h1) | rfl
 ·rfl

theorem mc.Jj {μ μ':Mu} {s:St} {r:AV × Hp × Ef} {v':Value} {w':World} (h:Ok P g μ s.H r μ' v' w') (σ:List AV):mc s ⟨σ,r.2.1,s.ef.and r.2.2⟩:=⟨h.len,r.2.2,rfl,h.inv⟩

theorem sn {ro:Option Nat} {m:Nat} (hC:cJ P C) {ops:Array Oper}:∀ (l:List Oper) {s s':St},gO P C ops.toList l s=some s'→∀ {μ:Mu} {w:World} {a:Act} {Q:Exit→Act→World→Prop},gr P g μ s w a→mX P g μ s s' (Q .normal)→wpListIn (Fr ro) m P ops Q l a w
 | [],s,s',h,μ,w,a,Q,hr,hQ=>by
  simp only [gO] at h
  cases h
  exact hQ.refl hr
 | o::l,s,s',h,μ,w,a,Q,hr,hQ=>by
  simp only [gO] at h
  have hw:=pq hr.tm o (ops:=ops)
  unfold wpListIn
  split at h
  ·rename_i hwa
   simp only [Option.bind_eq_some_iff] at h
   obtain ⟨r,hr1,h⟩:=h
   rw [if_pos (by rw [hw]; exact hwa)]
   refine qG hC hr.rel hr.tm hr1 ro m _ _ (fun μ' v' w' hok=>?_)
   exact sn hC l h (hr.step o.dst hok _) (hQ.trans (GLe.refl g) hok.le hok.dom (mc.Jj hok _))
  ·rename_i hwa
   rw [if_neg (by rw [hw]; exact hwa)]
   refine ⟨fun _ _=>trivial,?_⟩
   refine sn hC l h (hr.undef o.dst s.ef) (hQ.trans (GLe.refl g) (Le.refl μ) (fun _ _=>rfl) ⟨Nat.le_refl _,z0,(Ef.fC _).symm,Inv.refl _ _ _⟩)

theorem F2 {ro:Option Nat} {m:Nat} (hC:cJ P C) {ops:Array Oper} {id:Nat} {d:Bool} {s s':St} (h:ez P C ops.toList d s=some s') {μ:Mu} {w:World} {a:Act} {Q:Exit→Act→World→Prop} (hr:gr P g μ s w a) (hQ:mX P g μ s s' (Q .normal)) :
  (Code.region id ops d).wpIn (Fr ro) m P Q a w:=by
 unfold ez at h
 cases d with
 | false=>exact wpIn_region_list (sn hC ops.toList h hr hQ)
 | true =>
  simp only [if_true] at h
  split at h
  ·rename_i hm
   have hr':gr P g μ s { w with drawn:=w.drawn+1 } a:=⟨hr.rel.congr rfl rfl rfl rfl,hr.tm,hr.df⟩
   obtain ⟨sm,fr,ot,pl⟩:=MO hC h hr'
   have hdn:∀ i,dn (Array.replicate ops.size false) i=false:=by
    intro i
    unfold dn
    simp only [Array.getD_eq_getD_getElem?,Array.getElem?_replicate]
    split <;> rfl
   refine wpIn_region_any hm (Rt hC rfl pl hQ ops.size (μ:=μ) ⟨by simp,?_,?_,hr.df,?_,Le.refl μ,fun _ _=>rfl,?_,?_,?_⟩ ?_)
   ·intro i o _ hd
    rw [hdn] at hd; cases hd
   ·have:fD (dn (Array.replicate ops.size false)) s.σ (fr++ot)=s.σ:=by
     apply List.ext_getElem?
     intro t
     exact eI _ _ (fun r _ hd=>by rw [hdn] at hd; cases hd)
    rw [this]; exact hr.tm
   ·rw [fG ot _ (fun r _ _=>hdn _)]
    obtain ⟨zs,z1,_⟩:=pl.tr1.fq pl.free
    rw [z1]
    exact hr'.rel.extend _
   ·intro k r hk _
    cases he:μ (s.H.length+k) with
    | none=>rfl
    | some l=>have:=hr.rel.dom _ _ he; omega
   ·rw [fG ot _ (fun r _ _=>hdn _),oS ot _ (fun r _ _=>hdn _)]
    obtain ⟨zs,z1,_⟩:=pl.tr1.fq pl.free
    rw [z1]
    exact Inv.extend (Nat.le_refl _) _ _
   ·rw [fG ot _ (fun r _ _=>hdn _)]; exact Nat.le_refl _
   ·have:=List.countP_le_length (p:=fun i=>!dn (Array.replicate ops.size false) i) (l:=List.range ops.size)
    simpa using this
  ·cases h

structure gI (P:Program) (C':bL):Prop where
 fn:∀ f args H r,f < P.funcs.size→C' f args H=some r→∀ (g:Gh) (μ:Mu) (w:World) (vs:List Value),aY P g μ H w→aA μ args=some vs →
  Calls P f vs.toArray w (fun e w'=>∃ μ' v',e=.panicked [{ v:=v',recovered:=false }]∧Ok P g μ H r μ' v' w')

theorem PB {C':bL} (hP:gI P C') {μ:Mu} {H:Hp} {σ:List AV} {w:World} {a:Act} (h:aY P g μ H w) (hσ:aA μ σ=some a.tmps.toList) {o:Oper} {r:AV × Hp × Ef} (hr:dU P C' σ H o.op=some r) (ro:Option Nat) (n:Nat) (K:Act→World→Prop) (Q:Exit→Act→World→Prop)
  (hQ:∀ μ' v' w',Ok P g μ H r μ' v' w'→Q (Sj v') a w'):o.wpIn (Fr ro) n P a w K Q:=by
 have hd:∀ c,o.op≠.defer c:=by
  intro c hc
  rw [hc] at hr
  simp [dU] at hr
 refine ⟨fun f _=>trivial,?_⟩
 rw [Oper.semAt_eq _ _ _ hd]
 unfold dU at hr
 split at hr
 ·rename_i x ho
  simp only [Option.bind_eq_some_iff] at hr
  obtain ⟨v,hv,hr⟩:=hr
  have hx:=bE h hσ hv
  split at hr
  ·rename_i t u
   cases hr
   have hx0:=hx
   simp only [aB,Option.map_eq_some_iff] at hx0
   obtain ⟨u',hu,hx'⟩:=hx0
   have hrun:(execOp a.eval o).run P w=.halt (.panic (a.eval x)) w:=by
    unfold execOp
    simp only [ho,Instr.panic,← hx']
    rfl
   rw [hrun]
   exact hQ μ (a.eval x) w ⟨Le.refl μ,h,hx,Nat.le_refl _,Inv.refl _ _ _,fun _ _=>rfl⟩
  ·cases hr
 ·rename_i c ho
  split at hr
  ·rename_i f hcal
   simp only [Option.bind_eq_some_iff] at hr
   obtain ⟨fv,hf,az,has,hr⟩:=hr
   have hfc:=bE h hσ hf
   have hac:=jB h hσ has
   split at hr
   ·rename_i gg first captured
    split at hr
    ·rename_i hb
     simp only [aB,Option.bind_eq_some_iff,Option.map_eq_some_iff] at hfc
     obtain ⟨fs,hfs,cs,hcs,hev⟩:=hfc
     have hargs:=aL (aL hfs hac) hcs
     have hlt:gg < P.funcs.size:=by
      unfold aj at hb
      split at hb
      ·rename_i fn hfn; exact (Array.getElem?_eq_some_iff.1 hfn).1
      ·cases hb
     have hcall:=hP.fn _ _ _ _ hlt hr g μ w _ h hargs
     have hrun:(execOp a.eval o).run P w=.ok (.enter gg (fs++c.args.toList.map a.eval++cs).toArray) w:=by
      unfold aj at hb
      split at hb
      ·rename_i fn hfn
       simp only [Bool.and_eq_true,Bool.not_eq_true',beq_eq_false_iff_ne] at hb
       unfold execOp
       simp only [ho,resolve,hcal,Deferred.ofValue,← hev,Sem.run_bind,Sem.run_pure,Result.andThen_ok,invoke,callFunc,run_program,hfn]
       rw [if_neg (by simpa using hb.1.2),if_neg (by cases hbb:fn.body <;> simp [hbb] at hb ⊢)]
       simp only [Sem.run_pure]
       congr 2
       apply Array.ext'
       simp
      ·cases hb
     rw [hrun]
     refine ⟨fun h=>by simp [Fr,Fence.wide] at h,nN (hcall.mono ?_)⟩
     rintro e w' ⟨μ',v',rfl,hok⟩
     exact hQ _ _ _ hok
    ·cases hr
   ·cases hr
  ·cases hr
 ·cases hr

theorem rj {C':bL} {ro:Option Nat} {m:Nat} (hC:cJ P C) (hP:gI P C') {ops:Array Oper}:∀ (l:List Oper) {s s':St},eO P C C' ops.toList l s=some s'→∀ {μ:Mu} {w:World} {a:Act} {Q:Exit→Act→World→Prop},gr P g μ s w a→eR P g μ s s' .pan Q→wpListIn (Fr ro) m P ops Q l a w
 | [],s,s',h,μ,w,a,Q,hr,hQ=>by simp only [eO] at h; cases h
 | o::l,s,s',h,μ,w,a,Q,hr,hQ=>by
  simp only [eO] at h
  have hw:=pq hr.tm o (ops:=ops)
  unfold wpListIn
  split at h
  ·rename_i hwa
   rw [if_pos (by rw [hw]; exact hwa)]
   split at h
   ·rename_i r hr1
    simp only [Option.some.injEq] at h
    subst h
    refine PB hP hr.rel hr.tm hr1 ro m _ _ (fun μ' v' w' hok=>?_)
    exact hQ g μ' a w' _ (GLe.refl g) hok.le hok.dom (.inr ⟨rfl,r.1,s.σ,v',rfl,hok.val,rfl,⟨hok.rel,cN hok.le _ hr.tm,hr.df⟩⟩) (mc.Jj hok _)
   ·simp only [Option.bind_eq_some_iff] at h
    obtain ⟨r,hr1,h⟩:=h
    refine qG hC hr.rel hr.tm hr1 ro m _ _ (fun μ' v' w' hok=>?_)
    exact rj hC hP l h (hr.step o.dst hok _) (hQ.trans (GLe.refl g) hok.le hok.dom (mc.Jj hok _))
  ·rename_i hwa
   rw [if_neg (by rw [hw]; exact hwa)]
   refine ⟨fun _ _=>trivial,?_⟩
   refine rj hC hP l h (hr.undef o.dst s.ef) (hQ.trans (GLe.refl g) (Le.refl μ) (fun _ _=>rfl) ⟨Nat.le_refl _,z0,(Ef.fC _).symm,Inv.refl _ _ _⟩)

theorem Pr {C':bL} {ro:Option Nat} {m:Nat} (hC:cJ P C) (hP:gI P C') {ops:Array Oper} {id:Nat} {d:Bool} {s s':St} {ex:Ex} (h:kQ P C C' ops.toList d s=some (ex,s')) {μ:Mu} {w:World} {a:Act} {Q:Exit→Act→World→Prop} (hr:gr P g μ s w a) (hQ:eR P g μ s s' ex Q) :
  (Code.region id ops d).wpIn (Fr ro) m P Q a w:=by
 unfold kQ at h
 split at h
 ·rename_i s1 h1
  cases h
  exact F2 hC h1 hr (hQ.of (by decide))
 ·split at h
  ·cases h
  ·rename_i hd
   have hd':d=false:=by simpa using hd
   subst hd'
   simp only [Option.map_eq_some_iff,Prod.mk.injEq] at h
   obtain ⟨s1,h1,rfl,rfl⟩:=h
   exact wpIn_region_list (rj hC hP ops.toList h1 hr hQ)

theorem E2 {ro:Option Nat} {m:Nat} {step:St→Rc} {c:Code} {ok:Gh→Prop} (hgrow:∀ {g g':Gh},ok g→GLe g g'→ok g') (hstep:∀ {s s':St} {ex:Ex},step s=some (ex,s')→∀ {g:Gh},ok g→∀ {μ:Mu} {w:World} {a:Act} {Q:Exit→Act→World→Prop},gr P g μ s w a→eR P g μ s s' ex Q→c.wpIn (Fr ro) m P Q a w) :
  ∀ (n:Nat) {s s':St} {ex:Ex},iter step n s=some (ex,s')→∀ {g:Gh},ok g→∀ {μ:Mu} {w:World} {a:Act} {Q:Exit→Act→World→Prop},gr P g μ s w a→eR P g μ s s' ex Q→Code.roundsIn (Fr ro) m P c Q n a w
 | 0,s,s',ex,h,g,hg,μ,w,a,Q,hr,hQ=>by simp [iter] at h
 | n+1,s,s',ex,h,g,hg,μ,w,a,Q,hr,hQ=>by
  simp only [iter] at h
  rw [roundsIn_succ]
  split at h
  ·rename_i s1 h1
   refine hstep h1 hg (Q:=Exit.then (Code.roundsIn (Fr ro) m P c Q n) Q) hr ?_
   intro g' μ' a' w' x l0 l1 l2 l3 l4
   rcases l3 with ⟨_,rfl,l3⟩ | ⟨e,_⟩
   ·exact E2 hgrow hstep n h (hgrow hg l0) l3 (hQ.trans l0 l1 l2 l4)
   ·cases e
  ·rename_i hne
   have hn:ex≠.normal:=by
    rintro rfl
    exact hne _ h
   refine hstep h hg hr ?_
   intro g' μ' a' w' x l0 l1 l2 l3 l4
   rw [l3.then hn]
   exact hQ g' μ' a' w' x l0 l1 l2 l3 l4

theorem AP {f:Operand} {ps:List Tmp} {az bd:Code} {s s':St} {ex:Ex} (h:kE P C f ps az bd s=some (ex,s')):ex≠.pan:=by
 unfold kE at h
 split at h
 ·split at h
  ·simp only [Option.bind_eq_some_iff] at h
   obtain ⟨r,_,h⟩:=h
   split at h
   ·cases h; decide
   ·split at h
    ·cases h
    ·rename_i hp
     cases h; exact hp
   ·cases h
  ·cases h
 ·cases h
theorem Gf {ro:Option Nat} {m:Nat} (hC:cJ P C) {f:Operand} {ps:Array Tmp} {az bd:Code} {s s':St} {ex:Ex} (h:kE P C f ps.toList az bd s=some (ex,s')) (hro:kO g ro) {μ:Mu} {w:World} {a:Act} {Q:Exit→Act→World→Prop} (hr:gr P g μ s w a) (hQ:eR P g μ s s' ex Q) (hxp:ex≠.pan) :
  (Code.rangeFunc f ps az bd).wpIn (Fr ro) m P Q a w:=by
 refine wpIn_rangeFunc ?_
 intro fn _
 unfold kE at h
 split at h
 ·rename_i gg first captured hf
  have hfc:=bE hr.rel hr.tm hf
  simp only [aB,Option.bind_eq_some_iff,Option.map_eq_some_iff] at hfc
  obtain ⟨fs,hfs,cs,hcs,hev⟩:=hfc
  split at h
  ·rename_i hb
   simp only [Option.bind_eq_some_iff] at h
   obtain ⟨r,hcall,h⟩:=h
   -- the record is laid
   have lay:∃ (W0:World) (mark:List Deferred) (g1:Gh) (D:Nat),(Instr.enterLoop fn a.tmps ps az bd (Fr ro).round).run P w=.ok (W0.heap.size,mark) (W0.alloc (.loop { state:=.ready,pending:=none,fn,tmps:=a.tmps,params:=ps,assign:=az,body:=bd,defers:=D })) ∧
     aY P g1 μ s.H W0∧GLe g g1∧Marks g1 (mark++a.defers):=by
    cases ro with
    | none =>
     refine ⟨w.alloc (.deferred (some [])),[{ target:=.collected w.heap.size,args:=#[] }],_,w.heap.size,?_,hr.rel.mark _,GLe.mark hr.rel _,?_⟩
     ·have:=run_enterLoop_outer (P:=P) (w:=w) fn a.tmps ps az bd
      rw [World.size_alloc]
      exact this
     ·obtain ⟨h0,Ds,h1,h2,h3,h4⟩:=hr.df
      refine ⟨fun k hk=>.inl (h0 k hk),w.heap.size::Ds,by rw [h1]; rfl,?_,?_,fun hb=>by have:=hro.2 rfl; rw [this] at hb; cases hb⟩
      ·refine List.nodup_cons.2 ⟨fun hm=>?_,h2⟩
       have:=(hr.rel.old _ (h3 _ hm).2.1).1
       omega
      ·intro D hD
       rcases List.mem_cons.1 hD with rfl | hD
       ·refine ⟨fun hB=>?_,.inr rfl,World.alloc_heap_new w _⟩
        have:=(hr.rel.old _ (h0 _ hB)).1
        omega
       ·obtain ⟨x,y,z⟩:=h3 D hD
        exact ⟨x,.inl y,(Go.RowKit.Below.heap_alloc w _ D (hr.rel.old D y).1).trans ((hr.rel.old D y).2.trans z)⟩
    | some l0 =>
     obtain ⟨hz,r0,hr0⟩:=hro.1 l0 rfl
     exact ⟨w,[],g,r0.defers,run_enterLoop_inner ((hr.rel.old l0 hz).2.trans hr0) _ _ _ _ _,hr.rel,GLe.refl g,hr.df⟩
   obtain ⟨W0,mark,g1,D,he,hrel0,hg1,hmk⟩:=lay
   obtain ⟨rec,hrec⟩:∃ rec:Loop,rec={ state:=.ready,pending:=none,fn,tmps:=a.tmps,params:=ps,assign:=az,body:=bd,defers:=D }:=⟨_,rfl⟩
   rw [← hrec] at he
   have hrel1:aY P g1 (upd μ s.H.length ⟨W0.heap.size,0,0⟩) (s.H++[.loop s.σ ps.toList az bd .ready]) (W0.alloc (.loop rec)) :=
    hrel0.new (.loop rec) _ 0 ⟨rec,World.alloc_heap_new W0 _,by rw [hrec]; exact hr.tm,by rw [hrec],by rw [hrec],by rw [hrec],by rw [hrec]; rfl,by rw [hrec]; rfl⟩
   have hle1:=hrel0.dD ⟨W0.heap.size,0,0⟩
   have hargs:aA (upd μ s.H.length ⟨W0.heap.size,0,0⟩) (first++[.yld s.H.length]++captured)=some (fs++[.func (.yield W0.heap.size) #[] #[]]++cs) :=
    aL (aL (cN hle1 _ hfs) (by simp only [aA,aB,bI]; rfl)) (cN hle1 _ hcs)
   have hlt:gg < P.funcs.size:=by
    unfold aj at hb
    split at hb
    ·rename_i fn hfn; exact (Array.getElem?_eq_some_iff.1 hfn).1
    ·cases hb
   have hcalls:=hC.fn _ _ _ _ hlt hcall g1 _ _ _ hrel1 hargs
   refine ⟨W0.heap.size,mark,_,{ target:=.fn (.func gg) cs.toArray,args:=fs.toArray++#[.func (.yield W0.heap.size) #[] #[]] },W0.alloc (.loop rec),gg,(fs++[Value.func (.yield W0.heap.size) #[] #[]]++cs).toArray,W0.alloc (.loop rec),he,?_,fun _ _=>trivial,?_,fun h=>by simp [Fr,Fence.wide] at h,?_⟩
   ·simp only [resolve,← hev,Deferred.ofValue]
    simp [go_sem,Act.eval]
   ·unfold aj at hb
    split at hb
    ·rename_i fn hfn
     simp only [Bool.and_eq_true,Bool.not_eq_true',beq_eq_false_iff_ne] at hb
     simp only [invoke,callFunc,Sem.run_bind,run_program,Result.andThen_ok,hfn]
     rw [if_neg (by simpa using hb.1.2),if_neg (by cases hbb:fn.body <;> simp [hbb] at hb ⊢)]
     simp only [Sem.run_pure]
     congr 2
     apply Array.ext'
     simp
    ·cases hb
   ·refine nN (hcalls.mono ?_)
    rintro e w' ⟨μ',v',rfl,hok⟩
    have hμ:μ' s.H.length=some ⟨W0.heap.size,0,0⟩:=hok.le _ _ (bI _ _ _)
    -- the pending jump
    have fin:∀ σ' ps' as' bd' md (e:Ex),r.2.1[s.H.length]?=some (.loop σ' ps' as' bd' md)→md.st≠.busy→(e=.normal→md.pe=none)→ex=e→s'=⟨s.σ,r.2.1.set s.H.length .dead,s.ef.and (r.2.2.and ⟨none,some s.H.length⟩)⟩ →
      ∃ w4,(Instr.endLoop W0.heap.size).run P w'=.ok md.pe w4∧Q e.to { a with defers:=mark++a.defers } w4:=by
     intro σ' ps' as' bd' md e hblk hst hpe hex hs'
     subst hex hs'
     obtain ⟨rc,k1,k2,k3,k4,k5,k6,k7⟩:=hok.rel.blk _ _ _ hμ hblk
     have hend:(Instr.endLoop W0.heap.size).run P w'=.ok md.pe (w'.putObj W0.heap.size (.loop { rc with state:=.exhausted })):=by
      rw [← k7]
      exact run_endLoop (P:=P) k1 (by rw [k6]; exact hst)
     refine ⟨_,hend,?_⟩
     have hw:wrt (.loop σ' ps' as' bd' md)=true:=by cases md <;> first | rfl | exact absurd rfl hst
     have hrel4:=hok.rel.change hμ hblk hw (x':=.dead) (w':=w'.putObj W0.heap.size (.loop { rc with state:=.exhausted })) (fun k hk=>World.putObj_heap_other hk) (by simp) rfl rfl rfl trivial
     refine hQ.of hxp g1 μ' _ _ hg1 (hle1.trans hok.le) (fun b hb=>?_) ⟨hrel4,cN (hle1.trans hok.le) _ hr.tm,hmk⟩ ?_
     ·rw [hok.dom b (by simp; omega),eS b hb]
     ·have hi:=hok.inv
      have hl:=hok.len
      simp only [List.length_append,List.length_singleton] at hl hi
      refine ⟨by simp; omega,_,rfl,?_⟩
      have i1:Inv s.H.length s.H (s.H++[.loop s.σ ps.toList az bd .ready]) z0:=Inv.snoc
      have i2:=i1.trans hi (by omega)
      rw [Ef.j7] at i2
      exact i2.trans (Inv.set (n:=s.H.length) (e:=⟨none,some s.H.length⟩) hblk (y:=.dead) (.inr (by simp [cont])) rfl) (Nat.le_refl _)
    split at h
    ·rename_i σ' ps' as' bd' hblk
     simp only [Option.some.injEq,Prod.mk.injEq] at h
     obtain ⟨w4,e1,e2⟩:=fin _ _ _ _ _ .normal hblk (by simp [Md.st]) (fun _=>rfl) h.1.symm h.2.symm
     exact ⟨none,w4,e1,e2⟩
    ·rename_i σ' ps' as' bd' e hblk
     split at h
     ·cases h
     rename_i hep
     simp only [Option.some.injEq,Prod.mk.injEq] at h
     obtain ⟨w4,e1,e2⟩:=fin _ _ _ _ _ e hblk (by simp [Md.st]) (fun he=>by subst he; rfl) h.1.symm h.2.symm
     refine ⟨_,w4,e1,?_⟩
     cases e with
     | normal=>exact e2
     | exit id=>exact wpIn_exit e2
     | goto l=>exact wpIn_goto e2
     | ret=>exact wpIn_ret e2
     | pan=>exact absurd rfl hep
    ·cases h
  ·cases h
 ·cases h

def Exit.lab (c:Code) (J:Code→Act→World→Prop) (Q:Exit→Act→World→Prop):Exit→Act→World→Prop
 | .goto l,a,w=>match findLabel c l with
  | some r=>J r a w
  | none=>Q (.goto l) a w
 | e,a,w=>Q e a w
def iL (F:Fence) (n:Nat) (P:Program) (c:Code) (Q:Exit→Act→World→Prop):Nat→Exit→Act→World→Prop
 | 0=>Exit.lab c (fun _ _ _=>False) Q
 | m+1=>Exit.lab c (fun r=>r.wpIn F n P (iL F n P c Q m)) Q
theorem oh {F:Fence} {n:Nat} {P:Program} {c:Code} {Q:Exit→Act→World→Prop} {m:Nat} {x:Exit} {a:Act} {w:World} (h:∀ l,x=.goto l→findLabel c l=none) (hq:Q x a w):iL F n P c Q m x a w:=by
 cases m <;> cases x <;> first | exact hq | (rename_i l; simp only [iL,Exit.lab,h l rfl]; exact hq)

theorem yJ {P:Program} {b:Frame} {a:Act} {k:List Item} {cs:List Frame} {w:World} {c:Code}:step P (lone (b.atR a (.code (.scope c)::k)) cs w)=.next (lone (b.atR a (.code c::.inScope c::k)) cs w) :=
 step_lone_go (by simp [stepG,stepG.exec,Frame.atR])
theorem mP {P:Program} {b:Frame} {a:Act} {k:List Item} {cs:List Frame} {w:World} {c:Code}:step P (lone (b.atR a (.inScope c::k)) cs w)=.next (lone (b.atR a k) cs w) :=
 step_lone_go (by simp [stepG,stepG.exec,Frame.atR])

theorem Bj {F:Fence} {n:Nat} {P:Program} {Q:Exit→Act→World→Prop} {a:Act} {w:World} {c:Code} (m:Nat) (h:c.wpIn F n P (iL F n P c Q m) a w):(Code.scope c).wpIn F n P Q a w:=by
 intro b k cs hro hb hr
 have key:∀ m (c0:Code) a w,c0.wpIn F n P (iL F n P c Q m) a w→∃ e a' w',Q e a' w'∧ArrivesIn (Machine.fenced P F) P (lone (b.atR a (.code c0::.inScope c::k)) cs w) b k cs e a' w':=by
  intro m
  induction m with
  | zero =>
   intro c0 a w h
   obtain ⟨e,a₁,w₁,hq,harr⟩:=h b (.inScope c::k) cs hro hb hr
   cases e with
   | normal=>exact ⟨.normal,a₁,w₁,hq,StepsIn.trans harr (.one (fenced_calm hb hr rfl) mP)⟩
   | exit id=>exact ⟨_,a₁,w₁,hq,fun k' hk=>harr.1 k' (by simpa [exitTo] using hk),fun hr' hk=>harr.2 hr' (by simpa [exitTo] using hk)⟩
   | goto l =>
    simp only [iL,Exit.lab] at hq
    split at hq
    ·exact hq.elim
    ·rename_i hf
     exact ⟨_,a₁,w₁,hq,fun k' hk=>harr.1 k' (by simpa [gotoIn,hf] using hk),fun hr' hk=>harr.2 hr' (by simpa [gotoIn,hf] using hk)⟩
   | ret=>exact ⟨_,a₁,w₁,hq,harr⟩
   | panic ch=>exact ⟨_,a₁,w₁,hq,harr⟩
   | outgrown=>exact ⟨_,a₁,w₁,hq,harr⟩
  | succ m ih =>
   intro c0 a w h
   obtain ⟨e,a₁,w₁,hq,harr⟩:=h b (.inScope c::k) cs hro hb hr
   cases e with
   | normal=>exact ⟨.normal,a₁,w₁,hq,StepsIn.trans harr (.one (fenced_calm hb hr rfl) mP)⟩
   | exit id=>exact ⟨_,a₁,w₁,hq,fun k' hk=>harr.1 k' (by simpa [exitTo] using hk),fun hr' hk=>harr.2 hr' (by simpa [exitTo] using hk)⟩
   | goto l =>
    simp only [iL,Exit.lab] at hq
    split at hq
    ·rename_i r hf
     obtain ⟨e₂,a₂,w₂,hq₂,harr₂⟩:=ih r a₁ w₁ hq
     exact ⟨e₂,a₂,w₂,hq₂,.of_steps (harr.1 _ (by simp [gotoIn,hf])) harr₂⟩
    ·rename_i hf
     exact ⟨_,a₁,w₁,hq,fun k' hk=>harr.1 k' (by simpa [gotoIn,hf] using hk),fun hr' hk=>harr.2 hr' (by simpa [gotoIn,hf] using hk)⟩
   | ret=>exact ⟨_,a₁,w₁,hq,harr⟩
   | panic ch=>exact ⟨_,a₁,w₁,hq,harr⟩
   | outgrown=>exact ⟨_,a₁,w₁,hq,harr⟩
 obtain ⟨e,a',w',hq,harr⟩:=key m c a w h
 exact ⟨e,a',w',hq,.of_steps (.one (fenced_calm hb hr rfl) yJ) harr⟩

theorem tR:∀ {c r:Code} {l:Nat},findLabel c l=some r→cD c=true→cD r=true:=by
 intro c
 induction c with
 | seq x y ihx ihy =>
  intro r l h hn
  simp only [cD,Bool.and_eq_true] at hn
  simp only [findLabel] at h
  split at h
  ·rename_i r' hr
   cases h
   simp only [cD,ihx hr hn.1,hn.2,Bool.and_self]
  ·exact ihy h hn.2
 | label l' =>
  intro r l h hn
  simp only [findLabel] at h
  split at h
  ·cases h; rfl
  ·cases h
 | _=>intro r l h; simp [findLabel] at h

theorem kH {C':bL} {ro:Option Nat} {m:Nat} (hC:cJ P C) (hP:gI P C') (n:Nat):∀ (c:Code) {s s':St} {ex:Ex},aK P C C' n c s=some (ex,s')→∀ {g:Gh},(cD c=true∨kO g ro)→∀ {μ:Mu} {w:World} {a:Act} {Q:Exit→Act→World→Prop},gr P g μ s w a→eR P g μ s s' ex Q→c.wpIn (Fr ro) m P Q a w:=by
 intro c
 induction c using A7 with
 | skip=>intro s s' ex h g hg μ w a Q hr hQ; simp only [aK] at h; cases h; exact wpIn_skip (hQ.refl (by decide) hr)
 | region id ops d =>
  intro s s' ex h g hg μ w a Q hr hQ
  simp only [aK] at h
  exact Pr hC hP h hr hQ
 | seq x y ihx ihy =>
  intro s s' ex h g hg μ w a Q hr hQ
  simp only [aK] at h
  simp only [cD,Bool.and_eq_true] at hg
  apply wpIn_seq
  split at h
  ·rename_i s1 h1
   refine ihx h1 (hg.imp_left And.left) hr ?_
   intro g' μ' a' w' x l0 l1 l2 l3 l4
   rcases l3 with ⟨_,rfl,l3⟩ | ⟨e,_⟩
   ·exact ihy h (hg.imp And.right (fun k=>k.grow l0)) l3 (hQ.trans l0 l1 l2 l4)
   ·cases e
  ·rename_i hne
   have hn:ex≠.normal:=by
    rintro rfl
    exact hne _ h
   refine ihx h (hg.imp_left And.left) hr ?_
   intro g' μ' a' w' x l0 l1 l2 l3 l4
   rw [l3.then hn]
   exact hQ g' μ' a' w' x l0 l1 l2 l3 l4
 | cond c x y ihx ihy =>
  intro s s' ex h g hg μ w a Q hr hQ
  simp only [aK] at h
  simp only [cD,Bool.and_eq_true] at hg
  split at h
  ·rename_i hc
   have:=bE hr.rel hr.tm hc
   exact wpIn_cond_true (Option.some.inj this).symm (ihx h (hg.imp_left And.left) hr hQ)
  ·rename_i hc
   have:=bE hr.rel hr.tm hc
   exact wpIn_cond_false (Option.some.inj this).symm (ihy h (hg.imp_left And.right) hr hQ)
  ·cases h
 | block id c ih =>
  intro s s' ex h g hg μ w a Q hr hQ
  simp only [aK] at h
  simp only [cD] at hg
  apply wpIn_block
  split at h
  ·rename_i i s1 h1
   split at h
   ·rename_i hi
    cases h
    refine ih h1 hg hr ?_
    intro g' μ' a' w' x l0 l1 l2 l3 l4
    rcases l3 with ⟨_,rfl,l3⟩ | ⟨e,_⟩
    ·simp only [Ex.to,Exit.inBlock,hi,if_true]
     exact hQ.of (by decide) g' μ' a' w' l0 l1 l2 l3 l4
    ·cases e
   ·rename_i hi
    cases h
    refine ih h1 hg hr ?_
    intro g' μ' a' w' x l0 l1 l2 l3 l4
    rcases l3 with ⟨_,rfl,l3⟩ | ⟨e,_⟩
    ·simp only [Ex.to,Exit.inBlock,hi,if_false]
     exact hQ.of (by simp) g' μ' a' w' l0 l1 l2 l3 l4
    ·cases e
  ·rename_i hne
   refine ih h hg hr ?_
   intro g' μ' a' w' x l0 l1 l2 l3 l4
   have hq:=hQ g' μ' a' w' x l0 l1 l2 l3 l4
   rcases l3 with ⟨h1,rfl,_⟩ | ⟨_,v,σ,v',_,_,rfl,_⟩
   ·cases ex <;> first | (exact (hne _ _ h).elim) | (exact absurd rfl h1) | exact hq
   ·exact hq
 | loop c ih =>
  intro s s' ex h g hg μ w a Q hr hQ
  simp only [aK] at h
  exact wpIn_loop_rounds n (E2 (ok:=fun g=>cD c=true∨kO g ro) (fun k l=>k.imp_right (fun k=>k.grow l)) (fun h1=>ih h1) n h hg hr hQ)
 | exit id=>intro s s' ex h g hg μ w a Q hr hQ; simp only [aK] at h; cases h; exact wpIn_exit (hQ.refl (by simp) hr)
 | goto l=>intro s s' ex h g hg μ w a Q hr hQ; simp only [aK] at h; cases h; exact wpIn_goto (hQ.refl (by simp) hr)
 | label l=>intro s s' ex h g hg μ w a Q hr hQ; simp only [aK] at h; cases h; exact wpIn_label (hQ.refl (by decide) hr)
 | ret=>intro s s' ex h g hg μ w a Q hr hQ; simp only [aK] at h; cases h; exact wpIn_ret (hQ.refl (by decide) hr)
 | rangeFunc f ps az bd ih1 ih2 =>
  intro s s' ex h g hg μ w a Q hr hQ
  simp only [aK] at h
  rcases hg with hg | hg
  ·simp [cD] at hg
  ·exact Gf hC h hg hr hQ (AP h)
 | scope c ih ihr =>
  intro s s' ex h g hg μ w a Q hr hQ
  rw [iP] at h
  simp only [cD] at hg
  refine Bj n ?_
  have key:∀ (k:Nat) (c0:Code) {s0:St},(∀ {s s':St} {ex:Ex},aK P C C' n c0 s=some (ex,s')→∀ {g:Gh},(cD c0=true∨kO g ro)→∀ {μ:Mu} {w:World} {a:Act} {Q:Exit→Act→World→Prop},gr P g μ s w a→eR P g μ s s' ex Q→c0.wpIn (Fr ro) m P Q a w) →
    bP (fun l s=>(findLabel c l).map fun r=>aK P C C' n r s) k (aK P C C' n c0 s0)=some (ex,s')→∀ {g:Gh},(cD c0=true∨kO g ro)→(cD c=true∨kO g ro)→∀ {μ:Mu} {w:World} {a:Act},gr P g μ s0 w a→eR P g μ s0 s' ex Q→c0.wpIn (Fr ro) m P (iL (Fr ro) m P c Q k) a w:=by
   intro k
   induction k with
   | zero =>
    intro c0 s0 hA h g hg0 hg μ w a hr hQ
    cases hev:aK P C C' n c0 s0 with
    | none=>rw [hev] at h; simp [bP] at h
    | some q =>
     obtain ⟨ex1,s1⟩:=q
     rw [hev] at h
     have h':(∀ l,ex1=.goto l→findLabel c l=none)∧(ex1,s1)=(ex,s'):=by
      cases ex1 with
      | goto l =>
       simp only [bP] at h
       split at h
       ·rename_i h0
        simp only [Option.map_eq_none_iff] at h0
        refine ⟨fun l' e=>?_,Option.some.inj h⟩
        cases e; exact h0
       ·cases h
      | _=>exact ⟨fun l' e=>(by cases e),by simpa [bP] using h⟩
     obtain ⟨hl,h'⟩:=h'
     cases h'
     refine hA hev hg0 hr ?_
     intro g' μ' a' w' x l0 l1 l2 l3 l4
     refine oh (fun l e=>?_) (hQ g' μ' a' w' x l0 l1 l2 l3 l4)
     rcases l3 with ⟨h1,rfl,_⟩ | ⟨_,v,σ,v',_,_,rfl,_⟩
     ·cases ex <;> simp [Ex.to] at e
      subst e; exact hl _ rfl
     ·cases e
   | succ k ihk =>
    intro c0 s0 hA h g hg0 hg μ w a hr hQ
    cases hev:aK P C C' n c0 s0 with
    | none=>rw [hev] at h; simp [bP] at h
    | some q =>
     obtain ⟨ex1,s1⟩:=q
     rw [hev] at h
     have h':(∃ l r,ex1=.goto l∧findLabel c l=some r∧bP (fun l s=>(findLabel c l).map fun r=>aK P C C' n r s) k (aK P C C' n r s1)=some (ex,s'))∨(∀ l,ex1=.goto l→findLabel c l=none)∧(ex1,s1)=(ex,s'):=by
      cases ex1 with
      | goto l =>
       cases hf:findLabel c l with
       | none =>
        simp only [bP,hf,Option.map_none] at h
        refine .inr ⟨fun l' e=>?_,Option.some.inj h⟩
        cases e; exact hf
       | some r =>
        simp only [bP,hf,Option.map_some] at h
        exact .inl ⟨l,r,rfl,hf,h⟩
      | _=>exact .inr ⟨fun l' e=>(by cases e),by simpa [bP] using h⟩
     rcases h' with ⟨l,r,rfl,hf,h'⟩ | ⟨hl,h'⟩
     ·refine hA hev hg0 hr ?_
      intro g' μ' a' w' x l0 l1 l2 l3 l4
      rcases l3 with ⟨h1,rfl,l3⟩ | ⟨e,_⟩
      ·show Exit.lab c (fun r=>r.wpIn (Fr ro) m P (iL (Fr ro) m P c Q k)) Q (.goto l) a' w'
       simp only [Exit.lab,hf]
       have hg':cD c=true∨kO g' ro:=hg.imp_right (fun k=>k.grow l0)
       exact ihk r (ihr l r hf) h' (hg'.imp_left (tR hf)) hg' l3 (hQ.trans l0 l1 l2 l4)
      ·cases e
     ·cases h'
      refine hA hev hg0 hr ?_
      intro g' μ' a' w' x l0 l1 l2 l3 l4
      refine oh (fun l e=>?_) (hQ g' μ' a' w' x l0 l1 l2 l3 l4)
      rcases l3 with ⟨h1,rfl,_⟩ | ⟨_,v,σ,v',_,_,rfl,_⟩
      ·cases ex <;> simp [Ex.to] at e
       subst e; exact hl _ rfl
      ·cases e
  exact key n c ih h hg hg hr hQ
 | refuse why=>intro s s' ex h; simp [aK] at h

def sd (a:Act):ResultVar→Sem Value
 | .tmp t=>pure (a.tmps.getD t undef)
 | .cell x t=>do loadVar t (← asAddr (a.tmps.getD x undef))

theorem BC {μ:Mu} {s:St} {w:World} {a:Act} (hr:aY P g μ s.H w) (ht:aA μ s.σ=some a.tmps.toList):∀ {rs:List ResultVar} {vs:List AV},cS P s rs=some vs →
  ∃ vs',aA μ vs=some vs'∧(rs.mapM (sd a)).run P w=.ok vs' w
 | [],vs,h=>by simp only [cS] at h; cases h; exact ⟨[],rfl,rfl⟩
 | .tmp t::rs,vs,h=>by
  simp only [cS,Option.map_eq_some_iff] at h
  obtain ⟨us,hus,rfl⟩:=h
  obtain ⟨vs',h1,h2⟩:=BC hr ht hus
  have:=bE (P:=P) (x:=.tmp t) hr ht rfl
  refine ⟨a.tmps.getD t undef::vs',?_,?_⟩
  ·simp only [aA,this,h1,Option.bind_some,Option.map_some]; rfl
  ·rw [List.mapM_cons]
   simp only [Sem.run_bind,sd,Sem.run_pure,Result.andThen_ok,h2]
 | .cell x t::rs,vs,h=>by
  simp only [cS] at h
  split at h
  ·rename_i b o hx
   simp only [Option.bind_eq_some_iff,Option.map_eq_some_iff] at h
   obtain ⟨v,hv,us,hus,rfl⟩:=h
   obtain ⟨vs',h1,h2⟩:=BC hr ht hus
   have:=bE (P:=P) (x:=.tmp x) hr ht rfl
   rw [hx] at this
   obtain ⟨l,hl,hxl⟩:=lT this
   obtain ⟨v',e1,e2⟩:=EY hr hl hv
   have hxl':a.tmps.getD x undef=.pointer (some ⟨l.blk,l.base+o,none⟩):=hxl
   refine ⟨v'::vs',?_,?_⟩
   ·simp only [aA,e2,h1,Option.bind_some,Option.map_some]
   ·have e0:(sd a (.cell x t)).run P w=.ok v' w:=by
     simp only [sd,Sem.run_bind,hxl',asAddr,Sem.run_pure,Result.andThen_ok,e1]
    rw [List.mapM_cons]
    simp only [Sem.run_bind,e0,Sem.run_pure,Result.andThen_ok,h2]
  ·cases h

theorem MR {μ:Mu} {vs:List AV} {vs':List Value} (h:aA μ vs=some vs'):aB μ (pack vs)=some (if h:vs'.toArray.size=1 then vs'.toArray[0] else .tuple vs'.toArray):=by
 have hl:=aX h
 match vs,h with
 | [],h=>cases h; rfl
 | [v],h =>
  simp only [aA,Option.bind_eq_some_iff,Option.map_eq_some_iff,Option.some.injEq] at h
  obtain ⟨x,hx,_,rfl,rfl⟩:=h
  simpa [pack] using hx
 | v::u::vs,h =>
  have hs:¬ vs'.toArray.size=1:=by simp only [List.size_toArray]; simp only [List.length_cons] at hl; omega
  rw [dif_neg hs]
  simp [pack,aB,h]

theorem Jv {n:Nat} {e:Option Nat} (h:low n e=none):∀ k,e=some k→n≤k:=by
 intro k hk
 subst hk
 simp only [low] at h
 split at h
 ·assumption
 ·cases h

theorem Inv.low {H H':Hp} {e:Ef} (h:Inv H.length H H' e):Inv H.length H H' ⟨V.low H.length e.es,V.low H.length e.ws⟩:=by
 constructor
 ·intro b hb he
  refine h.ei b hb (fun k hk=>?_)
  by_cases hn:H.length≤k
  ·omega
  ·exact he k (by simp [V.low,hk,hn])
 ·intro b hb he
  refine h.wi b hb (fun k hk=>?_)
  by_cases hn:H.length≤k
  ·omega
  ·exact he k (by simp [V.low,hk,hn])

theorem oI {μ μ':Mu} {H H':Hp} {v:AV} {e:Ef} {v':Value} {w w':World} (h0:aY P g μ H w) (h:Ok P g μ H (v,H',e) μ' v' w'):∃ μ'',Ok P g μ H (leave H.length v H' e) μ'' v' w':=by
 unfold leave
 by_cases hc:flat v=true∧V.low H.length e.es=none
 ·rw [if_pos hc]
  obtain ⟨hf,hlow⟩:=hc
  have hlen:H.length≤H'.length:=h.len
  have htake:∀ b x,(H'.take H.length)[b]?=some x→b < H.length∧H'[b]?=some x:=by
   intro b x hx
   rw [List.getElem?_take] at hx
   split at hx
   ·exact ⟨by assumption,hx⟩
   ·cases hx
  -- what a block holds has its meaning without the new ones
  have hcont:∀ b l x,μ b=some l→H'[b]?=some x→∀ u ∈ cont x,∃ y,aB μ u=some y:=by
   intro b l x hb hx u hu
   have hbl:=h0.dom b l hb
   obtain ⟨x0,hx0,hk⟩:=h.inv.ei b hbl (fun k hk=>Nat.lt_of_lt_of_le hbl (Jv hlow k hk)) x hx
   rcases hk u hu with hm | hm
   ·have:=h0.blk b l x0 hb hx0
    cases x0 with
    | cells c e k =>
     obtain ⟨cc,fr,vs,_,h2,_⟩:=this
     exact mI h2 u hm
    | map es =>
     obtain ⟨ms,ck,_,h2,h3⟩:=this
     simp only [cont,List.mem_append] at hm
     rcases hm with hm | hm
     ·exact mI h2 u hm
     ·exact mI h3 u hm
    | loop σ ps az bd md =>
     obtain ⟨r,_,h2,_⟩:=this
     exact mI h2 u hm
    | _=>simp [cont] at hm
   ·exact jn μ u hm
  have hsame:∀ {cs:List AV} {ys:List Value},(∀ u ∈ cs,∃ y,aB μ u=some y)→aA μ' cs=some ys→aA μ cs=some ys:=by
   intro cs ys hm hy
   obtain ⟨zs,hz⟩:=A5 cs hm
   rw [cN h.le cs hz] at hy
   rw [hz]; exact hy
  refine ⟨μ,Le.refl μ,?_,?_,?_,?_,fun _ _=>rfl⟩
  ·exact {
    dom:=fun b l hb=>by have:=h0.dom b l hb; simp only [List.length_take]; omega
    eK:=h0.eK
    lt:=fun b l hb=>h.rel.lt b l (h.le b l hb)
    blk:=fun b l x hb hx=>by
     obtain ⟨hbl,hx'⟩:=htake b x hx
     have hc:=hcont b l x hb hx'
     have:=h.rel.blk b l x (h.le b l hb) hx'
     cases x with
     | cells c e k =>
      obtain ⟨cc,fr,vs,h1,h2,h3⟩:=this
      exact ⟨cc,fr,vs,h1,hsame hc h2,h3⟩
     | map es =>
      obtain ⟨ms,ck,h1,h2,h3⟩:=this
      exact ⟨ms,ck,h1,hsame (fun u hu=>hc u (List.mem_append_left _ hu)) h2,hsame (fun u hu=>hc u (List.mem_append_right _ hu)) h3⟩
     | iter s p=>exact this
     | loop σ ps az bd md =>
      obtain ⟨r,h1,h2,h3⟩:=this
      exact ⟨r,h1,hsame hc h2,h3⟩
     | ghost=>trivial
     | dead=>trivial
     | void=>trivial
    sep:=fun b b' l l' x x' hne hb hb' hx hx'=>h.rel.sep b b' l l' x x' hne (h.le b l hb) (h.le b' l' hb') (htake b x hx).2 (htake b' x' hx').2
    own:=fun b l x hb hx=>h.rel.own b l x (h.le b l hb) (htake b x hx).2
    old:=h.rel.old
    os:=h.rel.os
    tape:=h.rel.tape
    output:=h.rel.output
    size:=h.rel.size }
  ·rw [qm μ μ' v hf]; exact h.val
  ·simp only [List.length_take]; omega
  ·have hl:=h.inv.low
   constructor
   ·intro b hb he x hx
    exact hl.ei b hb he x (htake b x hx).2
   ·intro b hb he
    rw [List.getElem?_take,if_pos hb]
    exact hl.wi b hb he
 ·rw [if_neg hc]
  exact ⟨μ',h.le,h.rel,h.val,h.len,h.inv.low,h.dom⟩

theorem qE {μ:Mu}:∀ (ps:List Tmp) {σ az:List AV} {ts:Array Value} {vs:List Value},aA μ σ=some ts.toList→aA μ az=some vs →
  aA μ (nu σ ps az)=some ((ps.zip vs).foldl (fun t (p,v)=>t.setIfInBounds p v) ts).toList
 | [],σ,az,ts,vs,h,k=>by cases az <;> exact h
 | p::ps,σ,[],ts,vs,h,k=>by cases k; exact h
 | p::ps,σ,v::az,ts,vs,h,k=>by
  simp only [aA,Option.bind_eq_some_iff,Option.map_eq_some_iff] at k
  obtain ⟨x,hx,xs,hxs,rfl⟩:=k
  simp only [nu,List.zip_cons_cons,List.foldl_cons]
  exact qE ps (by have:=j5 p h hx; simpa using this) hxs

theorem IW {C':bL} (hC:cJ P C) (hP:gI P C') (n b:Nat) (args:List AV) (H:Hp) (r:AV × Hp × Ef) (h:mE P C C' n b args H=some r) (g:Gh) (μ:Mu) (w:World) (vs:List Value) (l:Loc) (hrel:aY P g μ H w) (hargs:aA μ args=some vs) (hl:μ b=some l) :
  ∃ rec:Loop,w.heap[l.blk]?=some (.loop rec)∧vs.length=rec.params.size ∧
   ∀ m,RoundIn Fence.wide m P l.blk rec.fn ((rec.params.zip vs.toArray).foldl (fun t (p,v)=>t.setIfInBounds p v) rec.tmps) rec.assign rec.body w (fun e w'=>∃ μ' v',e=.returned v'∧Ok P g μ H r μ' v' w'):=by
 unfold mE at h
 split at h
 ·rename_i σ ps az bd hb
  obtain ⟨rec,k1,k2,k3,k4,k5,k6,k7⟩:=hrel.blk _ _ _ hl hb
  split at h
  ·rename_i hlen
   obtain ⟨hlen,hnr⟩:=hlen
   refine ⟨rec,k1,by rw [k3]; simp [← hlen,aX hargs],fun m=>?_⟩
   split at h
   ·rename_i s1 hs1
    split at h
    ·rename_i σ' ps' as' bd' hb1
     split at h
     ·rename_i e s2 hs2
      split at h
      ·rename_i σ'' ps'' as'' bd'' hb2
       split at h
       ·cases h
       rename_i hep
       simp only [Option.some.injEq] at h
       subst h
       refine roundIn_of_wpIn (F:=Fence.wide) trivial ?_
       have h0:gr P g.base μ ⟨nu σ ps args,H,z0⟩ w { tmps:=(rec.params.zip vs.toArray).foldl (fun t (p,v)=>t.setIfInBounds p v) rec.tmps,defers:=[] }:=by
        refine ⟨hrel.Ji,?_,Marks.nil g⟩
        have:=qE ps k2 hargs
        rw [this,k3]
        congr 2
        rw [← Array.foldl_toList]
        simp
       rw [k4,k5]
       refine kH (ro:=some l.blk) hC hP n az hs1 (.inl hnr) h0 ?_
       intro g1 μ1 a1 w1 x1 q0 q1 q2 q3 q4
       rcases q3 with ⟨_,rfl,q3⟩ | ⟨e1,_⟩
       rotate_left
       ·cases e1
       have hl1:μ1 b=some l:=q1 _ _ hl
       obtain ⟨rec1,m1,m2,m3,m4,m5,m6,m7⟩:=q3.rel.blk _ _ _ hl1 hb1
       refine ⟨_,run_beginRound m1 m6,?_⟩
       have hlt1:l.blk < w1.heap.size:=q3.rel.lt _ _ hl1
       have hbl1:b < s1.H.length:=q3.rel.dom _ _ hl1
       have r1:aY P g1 μ1 (s1.H.set b (.loop σ' ps' as' bd' .busy)) (w1.putObj l.blk (.loop { rec1 with state:=.busy })) :=
        q3.rel.change hl1 hb1 rfl (fun k hk=>World.putObj_heap_other hk) (by simp) rfl rfl rfl ⟨_,World.putObj_heap_same hlt1,m2,m3,m4,m5,rfl,m7⟩
       have r2:=r1.hold (k:=l.blk) (by simpa using hlt1) (fun b' l' x e f hw eq=>by
        rw [List.getElem?_set] at f
        split at f
        ·cases f; cases hw
        ·rename_i hne
         refine q3.rel.sep b b' l l' _ x hne hl1 e hb1 f rfl ?_ eq.symm
         cases x <;> first | rfl | cases hw)
       have hgl:=GLe.hold r1 l.blk
       have ro2:kO ⟨fun j=>g1.Z j∨j=l.blk,w1.putObj l.blk (.loop { rec1 with state:=.busy }),g1.B,g1.X⟩ (some l.blk):=by
        refine ⟨fun l' e=>?_,fun e=>by cases e⟩
        cases e
        exact ⟨.inr rfl,_,World.putObj_heap_same hlt1⟩
       refine kH (ro:=some l.blk) hC hP n bd hs2 (.inr ro2) (s:=⟨s1.σ,s1.H.set b (.loop σ' ps' as' bd' .busy),s1.ef.and ⟨none,some b⟩⟩) ⟨r2,q3.tm,q3.df.grow hgl⟩ ?_
       intro g3 μ3 a3 w3 x3 p0 p1 p2 p3 p4
       rcases p3 with ⟨_,rfl,p3⟩ | ⟨e1,_⟩
       rotate_left
       ·exact absurd e1 hep
       have hl3:μ3 b=some l:=p1 _ _ hl1
       obtain ⟨rec3,n1,n2,n3,n4,n5,n6,n7⟩:=p3.rel.blk _ _ _ hl3 hb2
       have hlt3:l.blk < w3.heap.size:=p3.rel.lt _ _ hl3
       have hnz:¬ g.Z l.blk:=hrel.own _ _ _ hl hb rfl
       have w3rel:aY P g μ3 s2.H w3:=(((p3.rel.weaken p0).weaken hgl).weaken q0).rq
       have fin:∀ (jump:Option Code),jump=Ex.code e →
         (Instr.endRound l.blk jump).run P w3=.ok (.bool jump.isNone) (w3.putObj l.blk (.loop { rec3 with state:=if jump.isNone then .ready else .done,pending:=jump })) ∧
         ∃ μ' v',(Ending.returned (.bool jump.isNone))=.returned v'∧Ok P g μ H (leave H.length (.bool (decide (e=.normal))) (s2.H.set b (.loop σ'' ps'' as'' bd'' (if e=.normal then .ready else .done e))) (s2.ef.and ⟨none,some b⟩)) μ' v' (w3.putObj l.blk (.loop { rec3 with state:=if jump.isNone then .ready else .done,pending:=jump })):=by
        intro jump hj
        refine ⟨run_endRound jump n1,?_⟩
        have hjn:jump.isNone=decide (e=.normal):=by subst hj; cases e <;> rfl
        have r4:aY P g μ3 (s2.H.set b (.loop σ'' ps'' as'' bd'' (if e=.normal then .ready else .done e))) (w3.putObj l.blk (.loop { rec3 with state:=if jump.isNone then .ready else .done,pending:=jump })):=by
         refine w3rel.change' hl3 hb2 rfl rfl hnz (fun k hk=>World.putObj_heap_other hk) (by simp) rfl rfl rfl ⟨_,World.putObj_heap_same hlt3,n2,n3,n4,n5,?_,?_⟩
         ·subst hj; cases e <;> rfl
         ·subst hj; cases e <;> rfl
        have hok:Ok P g μ H (.bool (decide (e=.normal)),s2.H.set b (.loop σ'' ps'' as'' bd'' (if e=.normal then .ready else .done e)),s2.ef.and ⟨none,some b⟩) μ3 (.bool jump.isNone) (w3.putObj l.blk (.loop { rec3 with state:=if jump.isNone then .ready else .done,pending:=jump })):=by
         refine ⟨q1.trans p1,r4,by rw [hjn]; rfl,?_,?_,fun c hc=>?_⟩
         ·have h1:=q4.1
          have h2:=p4.1
          simp only [List.length_set] at h1 h2 ⊢
          exact Nat.le_trans h1 h2
         ·obtain ⟨h1,e1,he1,i1⟩:=q4
          obtain ⟨h2,e2,he2,i2⟩:=p4
          have i1:Inv H.length H s1.H e1:=i1
          have he1:s1.ef=z0.and e1:=he1
          rw [Ef.j7] at he1
          subst he1
          rw [he2]
          have j1:=i1.trans (Inv.set (n:=s1.H.length) (e:=⟨none,some b⟩) hb1 (y:=.loop σ' ps' as' bd' .busy) (.inr (by
           intro v hv
           exact .inl hv)) rfl) h1
          have j2:=j1.trans i2 (by simpa using h1)
          refine j2.trans (Inv.set (n:=s2.H.length) (e:=⟨none,some b⟩) hb2 (y:=.loop σ'' ps'' as'' bd'' (if e=.normal then .ready else .done e)) (.inr (fun v hv=>.inl hv)) rfl) ?_
          have h2':=h2
          simp only [List.length_set] at h2'
          exact Nat.le_trans h1 h2'
         ·have h1:=q4.1
          rw [p2 c (by simp only [List.length_set]; exact Nat.lt_of_lt_of_le hc h1),q2 c hc]
        obtain ⟨μ'',hok'⟩:=oI hrel hok
        exact ⟨μ'',_,rfl,hok'⟩
       cases e with
       | normal=>obtain ⟨h1,h2⟩:=fin none rfl; exact ⟨_,_,h1,h2⟩
       | exit id=>obtain ⟨h1,h2⟩:=fin (some (.exit id)) rfl; exact ⟨_,_,h1,h2⟩
       | goto t=>obtain ⟨h1,h2⟩:=fin (some (.goto t)) rfl; exact ⟨_,_,h1,h2⟩
       | ret=>obtain ⟨h1,h2⟩:=fin (some .ret) rfl; exact ⟨_,_,h1,h2⟩
       | pan=>exact absurd rfl hep
      ·cases h
     ·cases h
    ·cases h
   ·cases h
  ·cases h
 ·cases h

end
section
variable {P:Program} {C C':bL} {g:Gh}

theorem tN {F:Fence} {n:Nat} {id:Nat} {ops:Array Oper} {o:Oper} {l:List Oper} {az:Array Operand} {ts:Array TypeId} {a:Act} {cs cs':List Frame} {w:World} {v:Value} {Q:Exit→Act→List Frame→World→Prop} (hops:ops.toList=o::l) (ho:o.op=.call ⟨.builtin .recover,az,ts⟩) (hg:o.guard=none)
  (hF:∀ f,F.fn f) (hro:F.round=none) (hrec:(match recoverD cs with | some (v,cs')=>(v,cs') | none=>(Value.nilIface,cs))=(v,cs'))
  (h:wpListIn F n P ops (fun e a' w'=>Q e a' cs' w') l (a.put o.dst v) w):(Code.region id ops false).wpSIn F n P Q a cs w:=by
 intro b k hb hr hFb hroom
 have hsz:ops.size=l.length+1:=by rw [← Array.length_toList,hops]; rfl
 have ho0:ops[0]?=some o:=by rw [← Array.getElem?_toList,hops]; rfl
 have hlen:cs'.length=cs.length:=by
  cases hc:recoverD cs with
  | none=>rw [hc] at hrec; cases hrec; rfl
  | some p=>rw [hc] at hrec; obtain ⟨p1,p2⟩:=p; cases hrec; exact recoverD_length hc
 have hl:wpOpsIn F n P ops (fun e a' w'=>Q e a' cs' w') (List.range' 1 l.length) (a.put o.dst v) w:=by
  rw [wpOpsIn_eq_wpListIn l 1 (fun j=>by rw [← Array.getElem?_toList,hops,Nat.add_comm]; rfl)]
  exact h
 obtain ⟨e,a',w',hq,harr⟩:=wp_opsIn _ _ _ hl b k cs' (hr.trans hro.symm) hFb (hlen ▸ hroom)
 have hrng:List.range ops.size=0::List.range' 1 l.length:=by rw [hsz,List.range_eq_range',List.range'_succ]
 have i0:(lone (b.atR a (.code (.region id ops false)::k)) cs w).fenced P F:=fenced_calm hFb hroom rfl
 have i1:(lone (b.atR a (.inRegion ops (0::List.range' 1 l.length)::k)) cs w).fenced P F:=fenced_oper hFb hroom ho0 (fun f _=>hF f)
 have hw:Region.wanted o (yielded ops a.tmps)=true:=by unfold Region.wanted; rw [hg]
 have hgo:=stepGR_op (P:=P) (b:=b) (k:=k) (cs:=cs) (w:=w) (rest:=List.range' 1 l.length) ho0 hw
 rw [hr,Oper.semAt_none] at hgo
 have hfin:∀ v,(b.atR a (.inRegion ops (0::List.range' 1 l.length)::k)).finish v=b.atR (a.put o.dst v) (.inRegion ops (List.range' 1 l.length)::k):=by
  intro v; rw [Frame.finish_atR,ho0]; rfl
 have hrun:(execOp a.eval o).run P w=.ok .recover w:=by
  unfold execOp
  simp only [ho,resolve,Sem.run_bind,Sem.run_pure,Result.andThen_ok,invoke,builtin]
 have hk:(b.atR a (.inRegion ops (0::List.range' 1 l.length)::k)).kind=.deferred:=hb
 have htr:=tryRecover_deferred hk cs
 have hstep:step P (lone (b.atR a (.inRegion ops (0::List.range' 1 l.length)::k)) cs w)=.next (lone (b.atR (a.put o.dst v) (.inRegion ops (List.range' 1 l.length)::k)) cs' w):=by
  refine step_lone_go ?_
  rw [hgo,← hfin]
  simp only [Frame.atR,hr] at htr ⊢
  cases hc:recoverD cs with
  | none=>rw [hc] at hrec htr; cases hrec; simp [stepG.apply,hrun,htr]
  | some p=>rw [hc] at hrec htr; obtain ⟨p1,p2⟩:=p; cases hrec; simp [stepG.apply,hrun,htr]
 refine ⟨e,a',cs',w',hlen,hq,.of_steps (.head i0 (by rw [stepR_region,hrng]) (.one i1 hstep)) harr⟩

def mode (u:Option Value):FrameMode :=
 match u with
 | none=>.returning
 | some v=>.panicking [{ v:=v,recovered:=false }]

theorem QT (hC:cJ P C) (hP:gI P C') (n:Nat) {d:Dc} {u:Option AV} {H H':Hp} {e:Ef} (h:kR P C C' n d u H=some (H',e)) {μ:Mu} {w:World} {dv:Value} {az:List Value} {uv:Option Value} (hrel:aY P g μ H w) (hd:aB μ d.1=some dv) (ha:aA μ d.2=some az) (hu:∀ v,u=some v→∃ x,aB μ v=some x∧uv=some x) (hu0:u=none→uv=none) :
  ∃ gg cap args0,Deferred.ofValue dv az.toArray=pure { target:=.fn (.func gg) cap,args:=args0 }∧(invoke (.fn (.func gg) cap) args0).run P w=.ok (.enter gg (args0++cap)) w ∧
   CallsDIn Fence.wide 0 P gg (args0++cap) (mode uv) w (fun e1 u' w'=>∃ v μ',e1=.returned v∧settle u'=.returning∧aY P g μ' H' w'∧Le μ μ'∧(∀ b,b < H.length→μ' b=μ b)∧H.length≤H'.length∧Inv H.length H H' e):=by
 unfold kR at h
 split at h
 ·rename_i gg first captured hd1
  split at h
  ·rename_i fn hfn
   split at h
   ·cases h
   rename_i hname
   split at h
   ·rename_i c hb
    split at h
    ·rename_i o l b hcut
     split at h
     ·rename_i hrs0
      simp only [Option.bind_eq_some_iff] at h
      obtain ⟨s1,hs1,h⟩:=h
      split at h
      ·rename_i ex s2 hs2
       split at h
       ·rename_i hex
        obtain ⟨hex,hnr⟩:=hex
        simp only [Option.some.injEq,Prod.mk.injEq] at h
        obtain ⟨rfl,rfl⟩:=h
        rw [hd1] at hd
        simp only [aB,Option.bind_eq_some_iff,Option.map_eq_some_iff] at hd
        obtain ⟨fs,hfs,cs,hcs,rfl⟩:=hd
        have hargs:=aL (aL hfs ha) hcs
        have hal:=aX hargs
        refine ⟨gg,cs.toArray,fs.toArray++az.toArray,rfl,?_,?_⟩
        ·simp only [invoke,callFunc,Sem.run_bind,run_program,Result.andThen_ok,hfn]
         rw [if_neg (by simpa using hname),if_neg (by simp [hb])]
         rfl
        ·have hc:∃ id ops az0 ts,c=.seq (.region id ops false) b∧ops.toList=o::l∧o.op=.call ⟨.builtin .recover,az0,ts⟩∧o.guard=none:=by
          unfold QZ at hcut
          split at hcut
          ·split at hcut
           ·rename_i h1 h2
            cases hcut
            exact ⟨_,_,_,_,rfl,rfl,h1,h2⟩
           ·cases hcut
          ·cases hcut
         obtain ⟨id,ops,az0,ts,rfl,hops,hop,hgd⟩:=hc
         refine callsDIn_of_wpSIn hfn hb trivial ?_
         intro c₀ cs0 hm
         -- what is recovered
         obtain ⟨v,c1,hrec,hset,hval⟩:∃ v c1,(match recoverD (c₀::cs0) with | some (v,cs')=>(v,cs') | none=>(Value.nilIface,c₀::cs0))=(v,{ c₀ with mode:=c1 }::cs0)∧settle c1=.returning∧aB μ (u.getD .de)=some v:=by
          cases hu1:u with
          | none =>
           rw [hu0 hu1] at hm
           refine ⟨.nilIface,.returning,?_,rfl,rfl⟩
           have:recoverD (c₀::cs0)=none:=by simp only [recoverD,hm,mode]
           rw [this]
           have:({ c₀ with mode:=.returning }:Frame)=c₀:=by rw [← show c₀.mode=.returning from hm]
           rw [this]
          | some v0 =>
           obtain ⟨x,hx,hux⟩:=hu _ hu1
           rw [hux] at hm
           refine ⟨x,.panicking [{ v:=x,recovered:=true }],?_,rfl,hx⟩
           have:recoverD (c₀::cs0)=some (x,{ c₀ with mode:=.panicking [{ v:=x,recovered:=true }] }::cs0):=by simp only [recoverD,hm,mode]
           rw [this]
         refine wpSIn_seq (tN hops hop hgd (fun _=>trivial) rfl hrec ?_)
         have hrep:∀ k,aA μ (List.replicate k bw)=some (List.replicate k undef):=by
          intro k
          induction k with
          | zero=>rfl
          | succ k ih=>rw [List.replicate_succ,List.replicate_succ,aA,ih]; rfl
         have hts:=aL hargs (hrep (fn.ntmps - (first++d.2++captured).length))
         have h0:gr P (g.on ([],true)) μ ⟨put (first++d.2++captured++List.replicate (fn.ntmps - (first++d.2++captured).length) bw) o.dst (u.getD .de),H,z0⟩ w
           (({ tmps:=fs.toArray++az.toArray++cs.toArray++Array.replicate (fn.ntmps - (fs.toArray++az.toArray++cs.toArray).size) undef,defers:=[] }:Act).put o.dst v):=by
          refine ⟨hrel.onX _,je o.dst ?_ hval,by rw [put_defers]; exact Marks.on g ([],true)⟩
          rw [hts]
          congr 1
          simp only [List.length_append] at hal
          simp only [List.length_append,List.append_toArray,List.size_toArray,Array.toList_append,Array.toList_replicate,List.append_assoc]
          rw [show first.length+(d.2.length+captured.length)=fs.length+(az.length+cs.length) by omega]
         rw [← hops] at hs1
         refine sn hC (ro:=none) l hs1 h0 ?_
         intro g1 μ1 a1 w1 q0 q1 q2 q3 q4
         show b.wpSIn Fence.wide 0 P _ a1 ({ c₀ with mode:=c1 }::cs0) w1
         refine wpSIn_of_wpIn rfl (kH (ro:=none) hC hP n b hs2 (.inl hnr) q3 ?_)
         intro g2 μ2 a2 w2 x p0 p1 p2 p3 p4
         rcases p3 with ⟨_,rfl,p3⟩ | ⟨e1,_⟩
         rotate_left
         ·subst e1; rcases hex with h | h <;> cases h
         have hx2:g2.X=([],true):=p0.x.trans q0.x
         have hdf:a2.defers=[]:=by
          obtain ⟨_,Ds,d1,_,_,d4⟩:=p3.df
          rw [hx2] at d1 d4
          rw [d4 rfl] at d1
          exact d1
         have hrs:(results fn a2.tmps).run P w2=.ok (.tuple #[]) w2:=by
          have:fn.results=#[]:=by
           apply Array.ext'
           rw [hrs0]
          unfold results
          rw [this,Array.mapM_eq_mapM_toList]
          simp only [Sem.run_bind,Sem.run_map,List.mapM_nil,Sem.run_pure,Result.andThen_ok]
          rfl
         have hfin:bodyPostS P fn c₀ cs0 (fun e1 u' w'=>∃ v μ',e1=.returned v∧settle u'=.returning∧aY P g μ' s2.H w'∧Le μ μ'∧(∀ b,b < H.length→μ' b=μ b)∧H.length≤s2.H.length∧Inv H.length H s2.H s2.ef) .ret a2 ({ c₀ with mode:=c1 }::cs0) w2:=by
          refine ⟨hdf,c1,rfl,_,hrs,_,μ2,rfl,hset,((p3.rel.weaken p0).weaken q0).PD,q1.trans p1,?_,?_,?_⟩
          ·intro b hb'
           have hq4:H.length≤s1.H.length:=q4.1
           rw [p2 b (Nat.lt_of_lt_of_le hb' hq4),q2 b hb']
          ·exact Nat.le_trans q4.1 p4.1
          ·obtain ⟨_,e',he',hi⟩:=q4.trans p4
           rw [he',Ef.j7]
           exact hi
         rcases hex with rfl | rfl
         ·exact hfin
         ·exact hfin
       ·cases h
      ·cases h
     ·cases h
    ·cases h
   ·cases h
  ·cases h
 ·cases h

theorem oH {fn:Func} {tmps:Array Value} {μ:Mu} {H:Hp} {R:Ending→World→Prop} (g:Gh) {rest:List Deferred} {u:FrameMode} (hu:u≠.run) (K:∀ w',aY P g μ H w'→LeavesInM Fence.wide 0 P fn tmps R rest u w') :
  ∀ (Ds:List Nat) (w:World),aY P g μ H w→Ds.Nodup→(∀ D ∈ Ds,¬ g.Z D∧w.heap[D]?=some (.deferred (some []))) →
   LeavesInM Fence.wide 0 P fn tmps R (Ds.map (fun D=>{ target:=.collected D,args:=#[] })++rest) u w
 | [],w,h,_,_=>K w h
 | D::Ds,w,h,hn,hD=>by
  obtain ⟨hz,hd⟩:=hD D (by simp)
  rw [List.nodup_cons] at hn
  refine ⟨hu,.inl ⟨D,_,rfl,run_takeDeferred hd,?_⟩⟩
  refine oH g hu K Ds _ (h.take hd hz _) hn.2 (fun D' hD'=>?_)
  obtain ⟨hz',hd'⟩:=hD D' (by simp [hD'])
  exact ⟨hz',(World.putObj_heap_other (fun e:D'=D=>hn.1 (e ▸ hD'))).trans hd'⟩

theorem I3 {fn:Func} {a:Act} {σ:List AV} {H:Hp} {ef:Ef} {μ:Mu} {rs:List AV} {R:Ending→World→Prop} {w:World} (h:aY P g μ H w) (ht:aA μ σ=some a.tmps.toList) (hrs:cS P ⟨σ,H,ef⟩ fn.results.toList=some rs)
  (hR:∀ v',aB μ (pack rs)=some v'→R (.returned v') w):LeavesInM Fence.wide 0 P fn a.tmps R [] .returning w:=by
 obtain ⟨vs',v1,v2⟩:=BC (s:=⟨σ,H,ef⟩) h ht hrs
 have hres:(results fn a.tmps).run P w=.ok (if h:vs'.toArray.size=1 then vs'.toArray[0] else .tuple vs'.toArray) w:=by
  have e0:results fn a.tmps=(do let vs ← fn.results.mapM (sd a); pure (if h:vs.size=1 then vs[0] else .tuple vs)):=by
   unfold results
   congr 2
  rw [e0,Array.mapM_eq_mapM_toList]
  simp only [Sem.run_bind,Sem.run_map,v2,Result.andThen_ok,Sem.run_pure]
 exact ⟨_,hres,hR _ (MR v1)⟩

def Ed (P:Program) (g:Gh) (μ:Mu) (H:Hp) (t:Bool) (r:AV × Hp × Ef) (e:Ending) (w:World):Prop :=
 ∃ μ' v',e=(if t=true then .returned v' else .panicked [{ v:=v',recovered:=false }])∧Ok P g μ H r μ' v' w

theorem Ky {fn:Func} {H:Hp} {μ:Mu} {w0:World} (h0:aY P g μ H w0) {ex:Ex} {s s0:St} {t:Bool} {r:AV × Hp × Ef} (hs0:s0.H=H∧s0.ef=z0) (h:iI P fn H.length (some (ex,s))=(t,some r)) {g':Gh} {μ':Mu} {a':Act} {w':World} {x:Exit} (l0:GLe g.base g') (l1:Le μ μ') (l2:∀ b,b < H.length→μ' b=μ b) (l3:Ends P g' μ' ex s w' a' x) (l4:mc s0 s) :
  bodyPostM Fence.wide 0 P fn (Ed P g μ H t r) x a' w':=by
 have hinv:H.length≤s.H.length∧Inv H.length H s.H s.ef:=by
  obtain ⟨h1,e',he',hi⟩:=l4
  rw [hs0.1] at h1 hi
  rw [hs0.2,Ef.j7] at he'
  rw [he']
  exact ⟨h1,hi⟩
 rcases l3 with ⟨hp,rfl,l3⟩ | ⟨rfl,v,σ,v',hσ,hv,rfl,l3⟩
 ·simp only [iI] at h
  split at h
  ·rename_i hex
   simp only [Prod.mk.injEq,Option.map_eq_some_iff] at h
   obtain ⟨rfl,rs,hrs,rfl⟩:=h
   have hrel':aY P g μ' s.H w':=(l3.rel.weaken l0).rq
   obtain ⟨_,Ds,d1,d2,d3,_⟩:=l3.df
   have hx:g'.X=([],false):=l0.x
   rw [hx] at d1
   have hend:LeavesInM Fence.wide 0 P fn a'.tmps (Ed P g μ H true (leave H.length (pack rs) s.H s.ef)) a'.defers .returning w':=by
    rw [d1]
    refine oH g (by simp) (fun w2 hr2=>?_) Ds w' hrel' d2 (fun D hD=>?_)
    ·refine I3 hr2 l3.tm hrs (fun v2 hv2=>?_)
     have hok:Ok P g μ H (pack rs,s.H,s.ef) μ' v2 w2:=⟨l1,hr2,hv2,hinv.1,hinv.2,l2⟩
     obtain ⟨μ'',hok'⟩:=oI h0 hok
     exact ⟨μ'',_,rfl,hok'⟩
    ·obtain ⟨x,y,z⟩:=d3 D hD
     rw [l0.b] at x
     exact ⟨x,(l3.rel.old D y).2.trans z⟩
   rcases hex with rfl | rfl
   ·exact hend
   ·exact hend
  ·simp [hp] at h
 ·simp only [iI,hσ] at h
  split at h
  ·rename_i hh; rcases hh with hh | hh <;> cases hh
  ·simp only [if_true,Prod.mk.injEq,Option.some.injEq] at h
   obtain ⟨rfl,rfl⟩:=h
   have hrel':aY P g μ' s.H w':=(l3.rel.weaken l0).rq
   obtain ⟨_,Ds,d1,d2,d3,_⟩:=l3.df
   have hx:g'.X=([],false):=l0.x
   rw [hx] at d1
   show LeavesInM Fence.wide 0 P fn a'.tmps (Ed P g μ H false (leave H.length v s.H s.ef)) a'.defers (.panicking [{ v:=v',recovered:=false }]) w'
   rw [d1]
   refine oH g (by simp) (fun w2 hr2=>?_) Ds w' hrel' d2 (fun D hD=>?_)
   ·have hok:Ok P g μ H (v,s.H,s.ef) μ' v' w2:=⟨l1,hr2,hv,hinv.1,hinv.2,l2⟩
    obtain ⟨μ'',hok'⟩:=oI h0 hok
    exact ⟨μ'',_,rfl,hok'⟩
   ·obtain ⟨x,y,z⟩:=d3 D hD
    rw [l0.b] at x
    exact ⟨x,(l3.rel.old D y).2.trans z⟩

def gP (m:Nat) (P:Program):List Code→(Act→World→Prop)→(Exit→Act→World→Prop)→Act→World→Prop
 | [],K,_,a,w=>K a w
 | c::cs,K,Q,a,w=>match c with
  | .region _ ops false=>wpListIn (Fr none) m P ops (Exit.then (gP m P cs K Q) Q) ops.toList a w
  | c=>c.wpIn (Fr none) m P (Exit.then (gP m P cs K Q) Q) a w
theorem xy {m:Nat} {c:Code} {cs:List Code} {K:Act→World→Prop} {Q:Exit→Act→World→Prop} {a:Act} {w:World} (h:gP m P (c::cs) K Q a w):c.wpIn (Fr none) m P (Exit.then (gP m P cs K Q) Q) a w:=by
 unfold gP at h
 split at h
 ·exact wpIn_region_list h
 ·exact h
theorem Fy {m:Nat} {c:Code} {cs:List Code} {K:Act→World→Prop} {Q:Exit→Act→World→Prop} {a:Act} {w:World} (hn:∀ id ops,c≠.region id ops false) (h:c.wpIn (Fr none) m P (Exit.then (gP m P cs K Q) Q) a w):gP m P (c::cs) K Q a w:=by
 unfold gP
 split
 ·exact absurd rfl (hn _ _)
 ·exact h

theorem u9:∀ (c:Code) {l:List Code} {o:Oper} {b:Code},iS c=some (l,o,b)→o.guard=none:=by
 intro c
 induction c with
 | seq x y ihx ihy =>
  intro l o b h
  have gen:∀ z,(iS y).map (fun r=>(z::r.1,r.2))=some (l,o,b)→o.guard=none:=by
   intro z hz
   simp only [Option.map_eq_some_iff,Prod.mk.injEq] at hz
   obtain ⟨⟨l',o',b'⟩,h1,_,rfl,rfl⟩:=hz
   exact ihy h1
  unfold iS at h
  split at h
  ·rename_i id o0 b0 heq
   cases heq
   split at h
   ·rename_i hd hg
    simp only [Option.some.injEq,Prod.mk.injEq] at h
    obtain ⟨_,rfl,_⟩:=h
    exact hg
   ·exact gen _ h
  ·rename_i id p0 o0 b0 heq
   cases heq
   split at h
   ·rename_i hd hg hp
    simp only [Option.some.injEq,Prod.mk.injEq] at h
    obtain ⟨_,rfl,_⟩:=h
    exact hg
   ·exact gen _ h
  ·rename_i a0 b0 hne heq
   cases heq
   exact gen _ h
  ·cases h
 | _=>intro l o b h; simp [iS] at h

theorem uh {F:Fence} {n:Nat} {o:Oper} {a:Act} {w:World} {K:Act→World→Prop} {Q Q':Exit→Act→World→Prop} (h:∀ e a w,e≠.normal→Q e a w→Q' e a w) (hh:o.wpIn F n P a w K Q):o.wpIn F n P a w K Q':=by
 have hl:LetsOut Q→LetsOut Q':=by
  rintro ⟨a,w,hq⟩
  exact ⟨a,w,h _ _ _ (by simp) hq⟩
 unfold Oper.wpIn at *
 refine ⟨hh.1,?_⟩
 have hh:=hh.2
 generalize (o.semAt F.round a.eval).run P w=r at *
 cases r with
 | ok x w' =>
  cases x <;> simp only [Oper.uponIn] at hh ⊢ <;>
   first
    | exact hh
    | exact ⟨hh.1,CallsIn.mono hh.2 (fun e w'' he=>by cases e <;> first | exact he | exact h _ _ _ (by simp) he | exact hl he)⟩
    | exact ⟨hh.1,RoundIn.mono hh.2 (fun e w'' he=>by cases e <;> first | exact he | exact h _ _ _ (by simp) he | exact hl he)⟩
 | halt x w'=>cases x <;> simp only [Oper.uponIn] at hh ⊢ <;> first | exact hh | exact h _ _ _ (by simp) hh

theorem KH {m:Nat}:∀ (c:Code) {l:List Code} {o:Oper} {b:Code},iS c=some (l,o,b)→o.guard=none→∀ {Q:Exit→Act→World→Prop} {a:Act} {w:World},
  gP m P l (fun a w=>o.wpIn (Fr none) m P a w (fun a w=>b.wpIn (Fr none) m P Q a w) Q) Q a w→c.wpIn (Fr none) m P Q a w:=by
 intro c
 induction c with
 | seq x y ihx ihy =>
  intro l o b h hg Q a w hw
  apply wpIn_seq
  have gen:∀ z,(iS y).map (fun r=>(z::r.1,r.2))=some (l,o,b)→z=x→x.wpIn (Fr none) m P (Exit.then (y.wpIn (Fr none) m P Q) Q) a w:=by
   rintro z hz rfl
   simp only [Option.map_eq_some_iff,Prod.mk.injEq] at hz
   obtain ⟨⟨l',o',b'⟩,h1,rfl,rfl,rfl⟩:=hz
   refine Go.wpIn_mono (xy hw) (fun e a w hq=>?_)
   cases e with
   | normal=>exact ihy h1 hg hq
   | _=>exact hq
  unfold iS at h
  split at h
  ·rename_i id o0 b0 heq
   cases heq
   split at h
   ·rename_i hd
    simp only [Option.some.injEq,Prod.mk.injEq] at h
    obtain ⟨rfl,rfl,rfl⟩:=h
    refine wpIn_region_list ?_
    show wpListIn (Fr none) m P _ _ [o0] a w
    unfold wpListIn
    rw [if_pos (by unfold Region.wanted; rw [hg])]
    exact hw
   ·exact gen _ h rfl
  ·rename_i id p0 o0 b0 heq
   cases heq
   split at h
   ·rename_i hd hg0 hp
    simp only [Option.some.injEq,Prod.mk.injEq] at h
    obtain ⟨rfl,rfl,rfl⟩:=h
    refine wpIn_region_list ?_
    show wpListIn (Fr none) m P _ _ [p0,o0] a w
    have hw:wpListIn (Fr none) m P ⟨[p0]⟩ _ [p0] a w:=hw
    unfold wpListIn at hw ⊢
    rw [if_pos (by unfold Region.wanted; rw [hp])] at hw ⊢
    refine Oper.wpIn_mono (K:=fun a w=>o0.wpIn (Fr none) m P a w (fun a w=>y.wpIn (Fr none) m P Q a w) Q) (fun a w hk=>?_) (uh (fun e a w he hq=>?_) hw)
    ·unfold wpListIn
     rw [if_pos (by unfold Region.wanted; rw [hg])]
     refine Oper.wpIn_mono (fun a w h=>h) (uh (fun e a w he hq=>?_) hk)
     cases e <;> first | exact absurd rfl he | exact hq
    ·cases e <;> first | exact absurd rfl he | exact hq
   ·exact gen _ h rfl
  ·rename_i a0 b0 hne heq
   cases heq
   exact gen _ h rfl
  ·cases h
 | _=>intro l o b h; simp [iS] at h

theorem ME {ro:Option Nat} {m:Nat} (hC:cJ P C) (hP:gI P C') {ops:Array Oper} {s s':St} {ex:Ex} (h:kQ P C C' ops.toList false s=some (ex,s')) {μ:Mu} {w:World} {a:Act} {Q:Exit→Act→World→Prop} (hr:gr P g μ s w a) (hQ:eR P g μ s s' ex Q) :
  wpListIn (Fr ro) m P ops Q ops.toList a w:=by
 unfold kQ at h
 split at h
 ·rename_i s1 h1
  cases h
  exact sn hC ops.toList h1 hr (hQ.of (by decide))
 ·simp only [Bool.false_eq_true,if_false,Option.map_eq_some_iff,Prod.mk.injEq] at h
  obtain ⟨s1,h1,rfl,rfl⟩:=h
  exact rj hC hP ops.toList h1 hr hQ
theorem vS {m:Nat} (hC:cJ P C) (hP:gI P C') (n:Nat):∀ (l:List Code) {s s':St} {ex:Ex},gB P C C' n l s=some (ex,s')→∀ {g:Gh},kO g none→∀ {μ:Mu} {w:World} {a:Act} {K:Act→World→Prop} {Q:Exit→Act→World→Prop},gr P g μ s w a →
  (ex=.normal→mX P g μ s s' K)→(ex≠.normal→eR P g μ s s' ex Q)→gP m P l K Q a w
 | [],s,s',ex,h,g,hg,μ,w,a,K,Q,hr,h1,h2=>by
  simp only [gB,Option.some.injEq,Prod.mk.injEq] at h
  obtain ⟨rfl,rfl⟩:=h
  exact (h1 rfl).refl (Q:=K) (P:=P) (g:=g) (μ:=μ) (s:=s) hr
 | c::cs,s,s',ex,h,g,hg,μ,w,a,K,Q,hr,h1,h2=>by
  simp only [gB] at h
  have key:∀ {s1:St} {ex1:Ex},aK P C C' n c s=some (ex1,s1)→eR P g μ s s1 ex1 (Exit.then (gP m P cs K Q) Q)→gP m P (c::cs) K Q a w:=by
   intro s1 ex1 hs1 hq
   by_cases hn:∃ id ops,c=.region id ops false
   ·obtain ⟨id,ops,rfl⟩:=hn
    show wpListIn (Fr none) m P ops (Exit.then (gP m P cs K Q) Q) ops.toList a w
    simp only [aK] at hs1
    exact ME hC hP hs1 hr hq
   ·exact Fy (fun id ops e=>hn ⟨id,ops,e⟩) (kH (ro:=none) hC hP n c hs1 (.inr hg) hr hq)
  split at h
  ·rename_i s1 hs1
   refine key hs1 ?_
   intro g' μ' a' w' x l0 l1 l2 l3 l4
   rcases l3 with ⟨_,rfl,l3⟩ | ⟨e,_⟩
   ·exact vS hC hP n cs h (hg.grow l0) l3 (fun he=>(h1 he).trans l0 l1 l2 l4) (fun he=>(h2 he).trans l0 l1 l2 l4)
   ·cases e
  ·rename_i hne
   have hn:ex≠.normal:=by
    rintro rfl
    exact hne _ h
   refine key h ?_
   intro g' μ' a' w' x l0 l1 l2 l3 l4
   rw [l3.then hn]
   exact h2 hn g' μ' a' w' x l0 l1 l2 l3 l4

theorem L5 (hC:cJ P C) (hP:gI P C') (n:Nat) {fn:Func} {H:Hp} {μ:Mu} {w0:World} (h0:aY P g μ H w0) {d:Dc} {b:Code} {s:St} {r:AV × Hp × Ef} (h:lP P C C' n fn H.length d b s=some r)
  {g1:Gh} {μ1:Mu} {a1:Act} {w1:World} {Ds:List Nat} {dv:Value} {az:List Value} {d0:Deferred}
  (hd:aB μ1 d.1=some dv) (ha:aA μ1 d.2=some az) (hd0:Deferred.ofValue dv az.toArray=pure d0)
  (l0:GLe g.base g1) (l1:Le μ μ1) (l2:∀ b,b < H.length→μ1 b=μ b) (hrel:aY P g1 μ1 s.H w1) (htm:aA μ1 s.σ=some a1.tmps.toList)
  (hdf:a1.defers=d0::Ds.map (fun D=>{ target:=.collected D,args:=#[] })) (hnd:Ds.Nodup) (hDs:∀ D ∈ Ds,¬ g.Z D∧g1.Z D∧g1.W.heap[D]?=some (.deferred (some [])))
  (hlen:H.length≤s.H.length) (hinv:Inv H.length H s.H s.ef) :
  b.wpIn (Fr none) 0 P (bodyPostM Fence.wide 0 P fn (Ed P g μ H true r)) a1 w1:=by
 have hsr:gr P (g1.on (a1.defers,false)) μ1 s w1 a1:=⟨hrel.onX _,htm,Marks.on g1 (a1.defers,false)⟩
 -- the deferred call, and what comes behind
 have fin:∀ {g2:Gh} {μ2:Mu} {a2:Act} {w2:World} {σ:List AV} {H2:Hp} {ef2:Ef} {q:Hp × Ef} {rs:List AV} {u:Option AV} {uv:Option Value},GLe (g1.on (a1.defers,false)) g2→Le μ1 μ2→(∀ b,b < s.H.length→μ2 b=μ1 b)→gr P g2 μ2 ⟨σ,H2,ef2⟩ w2 a2→s.H.length≤H2.length→Inv H.length H H2 ef2 →
   kR P C C' n d u H2=some q→cS P ⟨σ,q.1,ef2.and q.2⟩ fn.results.toList=some rs→r=leave H.length (pack rs) q.1 (ef2.and q.2)→(∀ v,u=some v→∃ x,aB μ2 v=some x∧uv=some x)→(u=none→uv=none) →
   LeavesInM Fence.wide 0 P fn a2.tmps (Ed P g μ H true r) a2.defers (mode uv) w2:=by
  intro g2 μ2 a2 w2 σ H2 ef2 q rs u uv k0 k1 k2 k3 k4 k5 hq hrs hr hu hu0
  obtain ⟨_,D2,d1,d2,d3,_⟩:=k3.df
  have hx:g2.X=(a1.defers,false):=k0.x
  rw [hx] at d1
  have hrel2:aY P g1 μ2 H2 w2:=(k3.rel.weaken k0).PD
  have hmode:mode uv≠.run:=by unfold mode; split <;> simp
  rw [d1,hdf]
  refine oH g1 hmode (fun w3 hr3=>?_) D2 w2 hrel2 d2 (fun D hD=>?_)
  ·obtain ⟨H4,e4⟩:=q
   obtain ⟨gg,cap,args0,o1,o2,o3⟩:=QT (g:=g1) hC hP n hq hr3 (xj k1 _ hd) (cN k1 _ ha) hu hu0
   have hdd:d0={ target:=.fn (.func gg) cap,args:=args0 }:=by
    have:=hd0.symm.trans o1
    have h2:=congrArg (fun (m:Sem Deferred)=>m.run P w3) this
    simp only [Sem.run_pure] at h2
    cases h2
    rfl
   subst hdd
   refine ⟨hmode,.inr ⟨fun h=>by simp [Fence.wide] at h,.func gg,cap,gg,args0++cap,rfl,o2,fun _ _=>trivial,?_⟩⟩
   refine o3.mono ?_
   rintro e1 u' w4 ⟨v,μ4,rfl,hset,hr4,m1,m2,m3,m4⟩
   show LeavesInM Fence.wide 0 P fn a2.tmps _ _ (settle u') w4
   rw [hset]
   have hrg:aY P g μ4 H4 w4:=(hr4.weaken l0).rq
   have:=oH (P:=P) (fn:=fn) (tmps:=a2.tmps) (R:=Ed P g μ H true r) g (rest:=[]) (u:=.returning) (by simp) (K:=fun w5 hr5=>by
    refine I3 (ef:=ef2.and e4) hr5 (cN m1 _ k3.tm) hrs (fun v2 hv2=>?_)
    have hok:Ok P g μ H (pack rs,H4,ef2.and e4) μ4 v2 w5:=by
     refine ⟨(l1.trans k1).trans m1,hr5,hv2,Nat.le_trans (Nat.le_trans hlen k4) m3,?_,fun b hb=>?_⟩
     ·exact k5.trans m4 (Nat.le_trans hlen k4)
     ·rw [m2 b (Nat.lt_of_lt_of_le hb (Nat.le_trans hlen k4)),k2 b (Nat.lt_of_lt_of_le hb hlen),l2 b hb]
    obtain ⟨μ'',hok'⟩:=oI h0 hok
    subst hr
    exact ⟨μ'',_,rfl,hok'⟩) Ds w4 hrg hnd (fun D hD=>by
     obtain ⟨x,y,z⟩:=hDs D hD
     exact ⟨x,(hr4.old D y).2.trans z⟩)
   simpa using this
  ·obtain ⟨x,y,z⟩:=d3 D hD
   rw [k0.b] at x
   exact ⟨x,(k3.rel.old D y).2.trans z⟩
 unfold lP at h
 split at h
 ·rename_i s2 hs2
  split at h
  ·rename_i v σ hσ
   simp only [Option.bind_eq_some_iff,Option.map_eq_some_iff] at h
   obtain ⟨q,hq,rs,hrs,hr⟩:=h
   refine kH (ro:=none) hC hP n b hs2 (.inr (kO.none _ rfl)) hsr ?_
   intro g2 μ2 a2 w2 x k0 k1 k2 k3 k4
   rcases k3 with ⟨e,_⟩ | ⟨_,v0,σ0,v',hσ0,hv,rfl,k3⟩
   ·exact absurd rfl e
   rw [hσ] at hσ0
   cases hσ0
   obtain ⟨k41,e',he',hi⟩:=k4
   exact fin (u:=some v) (uv:=some v') k0 k1 k2 k3 k41 (by
    show Inv H.length H s2.H s2.ef
    rw [he']
    exact hinv.trans hi hlen) hq hrs hr.symm (fun v1 h1=>by cases h1; exact ⟨v',hv,rfl⟩) (fun h=>by cases h)
  ·cases h
 ·rename_i ex s2 hne hs2
  split at h
  ·rename_i hex
   simp only [Option.bind_eq_some_iff,Option.map_eq_some_iff] at h
   obtain ⟨q,hq,rs,hrs,hr⟩:=h
   refine kH (ro:=none) hC hP n b hs2 (.inr (kO.none _ rfl)) hsr ?_
   intro g2 μ2 a2 w2 x k0 k1 k2 k3 k4
   rcases k3 with ⟨_,rfl,k3⟩ | ⟨e,_⟩
   rotate_left
   ·subst e; rcases hex with h | h <;> cases h
   obtain ⟨k41,e',he',hi⟩:=k4
   have:=fin (u:=none) (uv:=none) (σ:=s2.σ) (H2:=s2.H) (ef2:=s2.ef) k0 k1 k2 k3 k41 (by
    rw [he']
    exact hinv.trans hi hlen) hq hrs hr.symm (fun v1 h1=>by cases h1) (fun _=>rfl)
   rcases hex with rfl | rfl
   ·exact this
   ·exact this
  ·cases h
 ·cases h

theorem Fo (hC:cJ P C) (hP:gI P C') (n:Nat) {f:FuncId} {fn:Func} {c:Code} {args:List AV} {H:Hp} {t:Bool} {r:AV × Hp × Ef} (hfn:P.funcs[f]?=some fn) (hb:fn.body=some c)
  (h:iE P C C' n fn c ⟨args++List.replicate (fn.ntmps - args.length) bw,H,z0⟩=(t,some r)) (g:Gh) (μ:Mu) (w:World) (vs:List Value) (hrel:aY P g μ H w) (hargs:aA μ args=some vs):Calls P f vs.toArray w (Ed P g μ H t r):=by
 have hal:=aX hargs
 refine (callsIn_wide (n:=0)).1 (callsIn_of_wp_marks hfn hb trivial ?_)
 have h0:gr P g.base μ ⟨args++List.replicate (fn.ntmps - args.length) bw,H,z0⟩ w { tmps:=vs.toArray++Array.replicate (fn.ntmps - vs.toArray.size) undef,defers:=[] }:=by
  refine ⟨hrel.Ji,?_,Marks.nil g⟩
  have hrep:∀ k,aA μ (List.replicate k bw)=some (List.replicate k undef):=by
   intro k
   induction k with
   | zero=>rfl
   | succ k ih=>rw [List.replicate_succ,List.replicate_succ,aA,ih]; rfl
  have:=aL hargs (hrep (fn.ntmps - args.length))
  simpa [hal] using this
 unfold iE at h
 split at h
 ·cases hev:aK P C C' n c ⟨args++List.replicate (fn.ntmps - args.length) bw,H,z0⟩ with
  | none=>rw [hev] at h; simp [iI] at h
  | some q =>
   obtain ⟨ex,s⟩:=q
   rw [hev] at h
   refine kH (ro:=none) hC hP n c hev (.inr (kO.none _ rfl)) h0 ?_
   intro g' μ' a' w' x l0 l1 l2 l3 l4
   exact Ky hrel ⟨rfl,rfl⟩ h l0 l1 l2 l3 l4
 ·rename_i l o b hcut
  split at h
  ·rename_i s1 hs1
   have hgd:=u9 c hcut
   split at h
   ·rename_i k hop
    split at h
    ·rename_i fo hcal
     simp only [Prod.mk.injEq,Option.bind_eq_some_iff] at h
     obtain ⟨rfl,fv,hf,az,has,h⟩:=h
     refine KH c hcut hgd (vS hC hP n l hs1 (kO.none _ rfl) h0 (fun _=>?_) (fun e=>absurd rfl e))
     intro g1 μ1 a1 w1 l0 l1 l2 l3 l4
     have hfc:=bE l3.rel l3.tm hf
     have hac:=jB l3.rel l3.tm has
     obtain ⟨_,Ds,d1,d2,d3,_⟩:=l3.df
     have hx:g1.X=([],false):=l0.x
     rw [hx,List.append_nil] at d1
     -- what is deferred is a function's value
     obtain ⟨d0,hd0⟩:∃ d0,Deferred.ofValue (a1.eval fo) (k.args.toList.map a1.eval).toArray=pure d0:=by
      have:∃ gg first captured,fv=.func (.func gg) first captured:=by
       unfold lP at h
       have key:∀ {u:Option AV} {H2:Hp} {q:Hp × Ef},kR P C C' n (fv,az) u H2=some q→∃ gg first captured,fv=.func (.func gg) first captured:=by
        intro u H2 q hq
        unfold kR at hq
        split at hq
        ·rename_i gg first captured heq; exact ⟨gg,first,captured,heq⟩
        ·cases hq
       split at h
       ·split at h
        ·simp only [Option.bind_eq_some_iff] at h
         obtain ⟨q,hq,_⟩:=h
         exact key hq
        ·cases h
       ·split at h
        ·simp only [Option.bind_eq_some_iff] at h
         obtain ⟨q,hq,_⟩:=h
         exact key hq
        ·cases h
       ·cases h
      obtain ⟨gg,first,captured,rfl⟩:=this
      simp only [aB,Option.bind_eq_some_iff,Option.map_eq_some_iff] at hfc
      obtain ⟨fs,_,cs,_,hev⟩:=hfc
      rw [← hev]
      exact ⟨_,rfl⟩
     refine ⟨fun f _=>trivial,?_⟩
     have hrun:(o.semAt (Fr none).round a1.eval).run P w1=.ok (.defer d0) w1:=by
      show (o.semAt none a1.eval).run P w1=_
      rw [Oper.semAt_none]
      unfold execOp
      have e1:(k.args.map a1.eval)=(k.args.toList.map a1.eval).toArray:=by
       apply Array.ext'
       simp
      simp only [hop,resolve,hcal,e1,hd0,Sem.run_bind,Sem.run_pure,Result.andThen_ok]
     rw [hrun,Oper.uponIn_defer]
     obtain ⟨h41,e',he',hi⟩:=l4
     refine L5 (Ds:=Ds) hC hP n hrel h (dv:=a1.eval fo) (az:=k.args.toList.map a1.eval) (d0:=d0) hfc hac hd0 l0 l1 l2 l3.rel ?_ ?_ d2 ?_ h41 ?_
     ·exact je o.dst (a:={ a1 with defers:=d0::a1.defers }) l3.tm rfl
     ·rw [put_defers,d1]
     ·intro D hD
      obtain ⟨x,y,z⟩:=d3 D hD
      rw [l0.b] at x
      exact ⟨x,y,z⟩
     ·show Inv H.length H s1.H s1.ef
      rw [he',Ef.j7]
      exact hi
    ·simp at h
   ·simp at h
  ·rename_i q hne
   cases hev:gB P C C' n l ⟨args++List.replicate (fn.ntmps - args.length) bw,H,z0⟩ with
   | none=>rw [hev] at h; simp [iI] at h
   | some q0 =>
    obtain ⟨ex,s⟩:=q0
    rw [hev] at h
    have hn:ex≠.normal:=by
     rintro rfl
     exact hne _ hev
    refine KH c hcut (u9 c hcut) (vS hC hP n l hev (kO.none _ rfl) h0 (fun e=>absurd e hn) (fun _=>?_))
    intro g' μ' a' w' x l0 l1 l2 l3 l4
    exact Ky hrel ⟨rfl,rfl⟩ h l0 l1 l2 l3 l4

theorem Qk (hC:cJ P C) (hP:gI P C') (n:Nat):cJ P (gu P C C' n false):=by
 constructor
 ·intro f args H r hlt h g μ w vs hrel hargs
  unfold gu at h
  split at h
  ·rename_i fn hfn
   split at h
   ·rename_i c hb
    split at h
    rename_i t q hq
    split at h
    ·cases h
    ·rename_i ht
     subst h
     refine (Fo hC hP n hfn hb hq g μ w vs hrel hargs).mono ?_
     rintro e w' ⟨μ',v',rfl,hok⟩
     have:t=true:=by simpa using ht
     subst this
     exact ⟨μ',v',rfl,hok⟩
   ·cases h
  ·rename_i hf
   have:P.funcs[f]?≠none:=by simp [hlt]
   exact absurd hf this
 ·intro b args H r h g μ w vs l hrel hargs hl
  have hf:P.funcs[P.funcs.size+b]?=none:=by simp
  unfold gu at h
  rw [hf] at h
  simp only [Nat.add_sub_cancel_left,Bool.false_eq_true,if_false] at h
  exact IW hC hP n b args H r h g μ w vs l hrel hargs hl

theorem NS (hC:cJ P C) (hP:gI P C') (n:Nat):gI P (gu P C C' n true):=by
 constructor
 intro f args H r hlt h g μ w vs hrel hargs
 unfold gu at h
 split at h
 ·rename_i fn hfn
  split at h
  ·rename_i c hb
   split at h
   rename_i t q hq
   split at h
   ·cases h
   ·rename_i ht
    subst h
    refine (Fo hC hP n hfn hb hq g μ w vs hrel hargs).mono ?_
    rintro e w' ⟨μ',v',rfl,hok⟩
    have:t=false:=by simpa using ht
    subst this
    exact ⟨μ',v',rfl,hok⟩
  ·cases h
 ·simp at h

theorem oO (P:Program):∀ n,cJ P (oP P n).1∧gI P (oP P n).2
 | 0=>⟨⟨fun f args H r _ h=>by simp [oP] at h,fun b args H r h=>by simp [oP] at h⟩,⟨fun f args H r _ h=>by simp [oP] at h⟩⟩
 | n+1=>⟨Qk (oO P n).1 (oO P n).2 (n+1),NS (oO P n).1 (oO P n).2 (n+1)⟩
theorem Qy (P:Program) (n:Nat):cJ P (evN P n):=(oO P n).1
end
def CLe (C C':bL):Prop:=∀ f a H r,C f a H=some r→C' f a H=some r

section
variable {P:Program} {C C':bL}

theorem AU (h:CLe C C') {σ:List AV} {H:Hp} {c:Call} {r:AV × Hp × Ef} (hr:dz P C σ H c=some r):dz P C' σ H c=some r:=by
 unfold dz at hr ⊢
 split at hr
 ·simp only [Option.bind_eq_some_iff] at hr ⊢
  obtain ⟨f,hf,az,has,hr⟩:=hr
  refine ⟨f,hf,az,has,?_⟩
  split at hr
  ·split at hr
   ·rename_i hb; simp only [hb,if_true]; exact h _ _ _ _ hr
   ·rename_i hb; rw [if_neg hb]; exact hr
  ·exact h _ _ _ _ hr
  ·cases hr
 ·exact hr
 ·exact hr

theorem iW (h:CLe C C') {σ:List AV} {H:Hp} {op:Op} {r:AV × Hp × Ef} (hr:bu P C σ H op=some r):bu P C' σ H op=some r:=by
 cases op
 case call c=>exact AU h hr
 case makeMap t x=>cases x <;> exact hr
 case next it b=>cases b <;> exact hr
 case typeAssert x xt t ok=>cases ok <;> exact hr
 all_goals exact hr

theorem gV (h:CLe C C') {ops:List Oper}:∀ {l:List Oper} {s s':St},gO P C ops l s=some s'→gO P C' ops l s=some s'
 | [],_,_,hr=>hr
 | o::l,s,s',hr=>by
  simp only [gO] at hr ⊢
  split at hr
  ·rename_i hw
   simp only [hw,if_true]
   simp only [Option.bind_eq_some_iff] at hr ⊢
   obtain ⟨q,hq,hr⟩:=hr
   exact ⟨q,iW h hq,gV h hr⟩
  ·rename_i hw
   simp only [hw,if_false,Bool.false_eq_true]
   exact gV h hr

theorem oQ (h:CLe C C') {ops:List Oper}:∀ {l:List (Nat × Oper)} {s:St} {q:St × List Nat},evD P C ops l s=some q→evD P C' ops l s=some q
 | [],_,_,hr=>hr
 | (i,o)::l,s,q,hr=>by
  simp only [evD] at hr ⊢
  split at hr
  ·rename_i hw
   simp only [hw,if_true]
   simp only [Option.bind_eq_some_iff,Option.map_eq_some_iff] at hr ⊢
   obtain ⟨r,hr1,q1,hq1,hr⟩:=hr
   exact ⟨r,iW h hr1,q1,oQ h hq1,hr⟩
  ·rename_i hw
   simp only [hw,if_false,Bool.false_eq_true]
   exact oQ h hr

theorem tX (h:CLe C C') {ops:List Oper} {d:Bool} {s s':St} (hr:ez P C ops d s=some s'):ez P C' ops d s=some s':=by
 unfold ez at hr ⊢
 cases d with
 | false=>exact gV h hr
 | true =>
  simp only [if_true] at hr ⊢
  split at hr
  ·rename_i hm
   simp only [hm,if_true]
   unfold qg at hr ⊢
   simp only [Option.bind_eq_some_iff] at hr ⊢
   obtain ⟨q,hq,hr⟩:=hr
   exact ⟨q,oQ h hq,hr⟩
  ·cases hr

def qz (C' C:bL):Prop:=∀ f a H r,C' f a H=some r→C f a H=none

theorem wR (h:CLe C C') {σ:List AV} {H:Hp} {op:Op} {r:AV × Hp × Ef} (hr:dU P C σ H op=some r):dU P C' σ H op=some r:=by
 unfold dU at hr ⊢
 split at hr
 ·exact hr
 ·split at hr
  ·simp only [Option.bind_eq_some_iff] at hr ⊢
   obtain ⟨f,hf,az,has,hr⟩:=hr
   refine ⟨f,hf,az,has,?_⟩
   split at hr
   ·split at hr
    ·rename_i hb; simp only [hb,if_true]; exact h _ _ _ _ hr
    ·cases hr
   ·cases hr
  ·cases hr
 ·cases hr

theorem kF (hx:qz C' C) {σ:List AV} {H:Hp} {op:Op} {r:AV × Hp × Ef} (hr:dU P C' σ H op=some r):bu P C σ H op=none:=by
 unfold dU at hr
 split at hr
 ·rfl
 ·rename_i c
  split at hr
  ·rename_i f hf
   simp only [Option.bind_eq_some_iff] at hr
   obtain ⟨fv,hfv,az,has,hr⟩:=hr
   split at hr
   ·split at hr
    ·rename_i hb
     simp only [bu,dz,hf,hfv,has,Option.bind_some,hb,if_true]
     exact hx _ _ _ _ hr
    ·cases hr
   ·cases hr
  ·cases hr
 ·cases hr

variable {D D':bL}
theorem jy (h:CLe C D) (h':CLe C' D') (hx:qz D' D) {ops:List Oper}:∀ {l:List Oper} {s s':St},eO P C C' ops l s=some s'→eO P D D' ops l s=some s'
 | [],_,_,hr=>hr
 | o::l,s,s',hr=>by
  simp only [eO] at hr ⊢
  split at hr
  ·rename_i hw
   rw [if_pos hw]
   split at hr
   ·rename_i r h1
    rw [wR h' h1]
    exact hr
   ·simp only [Option.bind_eq_some_iff] at hr
    obtain ⟨q,hq,hr⟩:=hr
    have h2:=iW h hq
    have h3:dU P D' s.σ s.H o.op=none:=by
     cases hp:dU P D' s.σ s.H o.op with
     | none=>rfl
     | some r=>rw [kF hx hp] at h2; cases h2
    rw [h3]
    simp only [Option.bind_eq_some_iff]
    exact ⟨q,h2,jy h h' hx hr⟩
  ·rename_i hw
   rw [if_neg hw]
   exact jy h h' hx hr

theorem jx (hx:qz C' C) {ops:List Oper}:∀ {l:List Oper} {s s':St},eO P C C' ops l s=some s'→gO P C ops l s=none
 | [],_,_,hr=>by simp [eO] at hr
 | o::l,s,s',hr=>by
  simp only [eO] at hr
  simp only [gO]
  split at hr
  ·rename_i hw
   rw [if_pos hw]
   split at hr
   ·rename_i r h1
    rw [kF hx h1]
    rfl
   ·simp only [Option.bind_eq_some_iff] at hr
    obtain ⟨q,hq,hr⟩:=hr
    rw [hq,Option.bind_some]
    exact jx hx hr
  ·rename_i hw
   rw [if_neg hw]
   exact jx hx hr

theorem DH (h:CLe C D) (h':CLe C' D') (hx:qz D' D) {ops:List Oper} {d:Bool} {s:St} {r:Ex × St} (hr:kQ P C C' ops d s=some r):kQ P D D' ops d s=some r:=by
 unfold kQ at hr ⊢
 split at hr
 ·rename_i s1 h1
  rw [tX h h1]
  exact hr
 ·split at hr
  ·cases hr
  ·rename_i hd
   simp only [Option.map_eq_some_iff] at hr
   obtain ⟨s1,h1,rfl⟩:=hr
   have h2:=jy h h' hx h1
   have hd':d=false:=by simpa using hd
   subst hd'
   have h3:ez P D ops false s=none:=jx hx h2
   rw [h3]
   simp only [Bool.false_eq_true,if_false,h2,Option.map_some]

theorem mB {f f':St→Rc} (h:∀ s r,f s=some r→f' s=some r):∀ {n n':Nat} {s:St} {r:Ex × St},n≤n'→iter f n s=some r→iter f' n' s=some r
 | 0,_,_,_,_,hr=>by simp [iter] at hr
 | n+1,0,_,_,hn,_=>by omega
 | n+1,n'+1,s,r,hn,hr=>by
  simp only [iter] at hr ⊢
  split at hr
  ·rename_i s1 h1
   rw [h _ _ h1]
   exact mB h (by omega) hr
  ·rename_i hne
   rw [h _ _ hr]
   obtain ⟨ex,s'⟩:=r
   cases ex <;> first | (exact (hne _ hr).elim) | rfl

def tI:AV→Option (FuncId × List AV × List AV)
 | .func (.func g) a b=>some (g,a,b)
 | _=>none
def tJ:Option bp→Option Ex
 | some (.loop _ _ _ _ .ready)=>some .normal
 | some (.loop _ _ _ _ (.done e))=>if e=.pan then none else some e
 | _=>none
theorem gU {C:bL} {f:Operand} {ps:List Tmp} {az bd:Code} {s:St}:kE P C f ps az bd s=(aG P s.σ f).bind fun v=>(tI v).bind fun x =>
  if aj P x.1=true then (C x.1 (x.2.1++[.yld s.H.length]++x.2.2) (s.H++[.loop s.σ ps az bd .ready])).bind fun r=>(tJ (r.2.1[s.H.length]?)).map fun ex=>(ex,⟨s.σ,r.2.1.set s.H.length .dead,s.ef.and (r.2.2.and ⟨none,some s.H.length⟩)⟩) else none:=by
 unfold kE
 cases hv:aG P s.σ f with
 | none=>rfl
 | some v =>
  simp only [Option.bind_some]
  unfold tI
  split
  ·rename_i g a b hh
   cases hh
   simp only [Option.bind_some]
   split
   ·congr 1
    funext r
    generalize r.2.1[s.H.length]?=y
    cases y with
    | none=>rfl
    | some x =>
     cases x <;> try rfl
     rename_i md
     cases md <;> try rfl
     rename_i e
     cases e <;> rfl
   ·rfl
  ·rename_i hne
   split
   ·rename_i g a b; exact absurd rfl (hne g a b)
   ·rfl
theorem kn {f f':Nat→St→Option Rc} (hs:∀ l s,(f l s).isSome=(f' l s).isSome) (h:∀ l s r q,f l s=some r→r=some q→f' l s=some (some q)):∀ {n n':Nat} {r r':Rc} {q:Ex × St},n≤n'→(∀ q,r=some q→r'=some q)→bP f n r=some q→bP f' n' r'=some q
 | n,n',none,_,_,_,_,hr=>by simp [bP] at hr
 | n,n',some (.goto l,s),r',q,hn,h1,hr=>by
  rw [h1 _ rfl]
  have hs':=hs l s
  cases hf:f l s with
  | none =>
   rw [hf] at hs'
   have hf':f' l s=none:=by simpa using hs'.symm
   unfold bP at hr ⊢
   simp only [hf,hf'] at hr ⊢
   exact hr
  | some r2 =>
   cases n with
   | zero=>unfold bP at hr; simp [hf] at hr
   | succ n =>
    obtain ⟨n',rfl⟩:∃ k,n'=k+1:=⟨n' - 1,by omega⟩
    unfold bP at hr
    simp only [hf] at hr
    cases r2 with
    | none=>simp [bP] at hr
    | some q2 =>
     have hf':=h l s _ q2 hf rfl
     unfold bP
     simp only [hf']
     exact kn hs h (by omega) (fun q h=>h) hr
 | n,n',some (.normal,s),r',q,hn,h1,hr=>by rw [h1 _ rfl]; simpa [bP] using hr
 | n,n',some (.exit i,s),r',q,hn,h1,hr=>by rw [h1 _ rfl]; simpa [bP] using hr
 | n,n',some (.ret,s),r',q,hn,h1,hr=>by rw [h1 _ rfl]; simpa [bP] using hr
 | n,n',some (.pan,s),r',q,hn,h1,hr=>by rw [h1 _ rfl]; simpa [bP] using hr
theorem ct (h:CLe C D) (h':CLe C' D') (hx:qz D' D) {n n':Nat} (hn:n≤n'):∀ {c:Code} {s:St} {r:Ex × St},aK P C C' n c s=some r→aK P D D' n' c s=some r:=by
 intro c
 induction c using A7 with
 | skip=>intro s r hr; exact hr
 | region id ops d =>
  intro s r hr
  simp only [aK] at hr ⊢
  exact DH h h' hx hr
 | seq x y ihx ihy =>
  intro s r hr
  simp only [aK] at hr ⊢
  split at hr
  ·rename_i s1 h1
   rw [ihx h1]
   exact ihy hr
  ·rename_i hne
   rw [ihx hr]
   obtain ⟨ex,s'⟩:=r
   cases ex <;> first | (exact (hne _ hr).elim) | rfl
 | cond c x y ihx ihy =>
  intro s r hr
  simp only [aK] at hr ⊢
  split at hr
  ·exact ihx hr
  ·exact ihy hr
  ·cases hr
 | block id c ih =>
  intro s r hr
  simp only [aK] at hr ⊢
  split at hr
  ·rename_i i s1 h1
   rw [ih h1]
   exact hr
  ·rename_i hne
   rw [ih hr]
   obtain ⟨ex,s'⟩:=r
   cases ex <;> first | (exact (hne _ _ hr).elim) | rfl
 | loop c ih =>
  intro s r hr
  simp only [aK] at hr ⊢
  exact mB (fun s r=>ih) hn hr
 | rangeFunc f ps az bd ih1 ih2 =>
  intro s r hr
  simp only [aK] at hr ⊢
  rw [gU] at hr ⊢
  simp only [Option.bind_eq_some_iff] at hr ⊢
  obtain ⟨v,hv,x,hx,hr⟩:=hr
  refine ⟨v,hv,x,hx,?_⟩
  split at hr
  ·rename_i hb
   rw [if_pos hb]
   simp only [Option.bind_eq_some_iff] at hr ⊢
   obtain ⟨q,hq,hr⟩:=hr
   exact ⟨q,h _ _ _ _ hq,hr⟩
  ·cases hr
 | scope c ih ihr =>
  intro s r hr
  rw [iP] at hr ⊢
  refine kn (fun l s=>by simp) (fun l s r q h1 h2=>?_) hn (fun q hq=>ih hq) hr
  subst h2
  simp only [Option.map_eq_some_iff] at h1 ⊢
  obtain ⟨r,hr,h1⟩:=h1
  exact ⟨r,hr,ihr l r hr h1⟩
 | _=>intro s r hr; exact hr

theorem wQ (h:CLe C D) (h':CLe C' D') (hx:qz D' D) {n n':Nat} (hn:n≤n') {b:Nat} {args:List AV} {H:Hp} {r:AV × Hp × Ef} (hr:mE P C C' n b args H=some r):mE P D D' n' b args H=some r:=by
 unfold mE at hr ⊢
 split at hr
 ·rename_i σ ps az bd hb
  split at hr
  ·rename_i hl
   rw [if_pos hl]
   split at hr
   ·rename_i s1 h1
    rw [ct h h' hx hn h1]
    split at hr
    ·rename_i σ' ps' as' bd' hb1
     show (match s1.H[b]? with | some (.loop σ' ps' as' bd' .ready)=>_ | _=>none)=_
     rw [hb1]
     split at hr
     ·rename_i e s2 h2
      show (match aK P D D' n' bd ⟨s1.σ,s1.H.set b (.loop σ' ps' as' bd' .busy),s1.ef.and ⟨none,some b⟩⟩ with | some (e,s2)=>_ | none=>none)=_
      rw [ct h h' hx hn h2]
      exact hr
     ·cases hr
    ·cases hr
   ·cases hr
  ·cases hr
 ·cases hr

theorem iq (h:CLe C D) (h':CLe C' D') (hx:qz D' D) {n n':Nat} (hn:n≤n'):∀ {l:List Code} {s:St} {r:Ex × St},gB P C C' n l s=some r→gB P D D' n' l s=some r
 | [],s,r,hr=>hr
 | c::l,s,r,hr=>by
  simp only [gB] at hr ⊢
  split at hr
  ·rename_i s1 h1
   rw [ct h h' hx hn h1]
   exact iq h h' hx hn hr
  ·rename_i hne
   rw [ct h h' hx hn hr]
   obtain ⟨ex,s'⟩:=r
   cases ex <;> first | (exact (hne _ hr).elim) | rfl

theorem nI (h:CLe C D) (h':CLe C' D') (hx:qz D' D) {n n':Nat} (hn:n≤n') {d:Dc} {u:Option AV} {H:Hp} {r:Hp × Ef} (hr:kR P C C' n d u H=some r):kR P D D' n' d u H=some r:=by
 unfold kR at hr ⊢
 split at hr
 ·rename_i gg first captured hd
  split at hr
  ·rename_i fn hfn
   split at hr
   ·cases hr
   rename_i hnm
   split at hr
   ·rename_i c hb
    split at hr
    ·rename_i o l b hc
     split at hr
     ·rename_i hrs
      simp only [Option.bind_eq_some_iff] at hr
      obtain ⟨s1,h1,hr⟩:=hr
      split at hr
      ·rename_i ex s2 h2
       simp only [hd,hfn,hnm,hb,hc,hrs,if_true,Bool.false_eq_true,if_false,gV h h1,Option.bind_some,ct h h' hx hn h2]
       exact hr
      ·cases hr
     ·cases hr
    ·cases hr
   ·cases hr
  ·cases hr
 ·cases hr

theorem AO (h:CLe C D) (h':CLe C' D') (hx:qz D' D) {n n':Nat} (hn:n≤n') {fn:Func} {m:Nat} {d:Dc} {b:Code} {s:St} {r:AV × Hp × Ef} (hr:lP P C C' n fn m d b s=some r):lP P D D' n' fn m d b s=some r:=by
 unfold lP at hr ⊢
 split at hr
 ·rename_i s2 h2
  rw [ct h h' hx hn h2]
  split at hr
  ·rename_i v σ hσ
   simp only [hσ,Option.bind_eq_some_iff] at hr ⊢
   obtain ⟨q,hq,hr⟩:=hr
   exact ⟨q,nI h h' hx hn hq,hr⟩
  ·cases hr
 ·rename_i ex s2 hne h2
  rw [ct h h' hx hn h2]
  split at hr
  ·rename_i hex
   simp only [Option.bind_eq_some_iff] at hr
   obtain ⟨q,hq,hr⟩:=hr
   cases ex <;> first
    | (rcases hex with hh | hh <;> cases hh; done)
    | (simp only [true_or,or_true,if_true,Option.bind_eq_some_iff]; exact ⟨q,nI h h' hx hn hq,hr⟩)
  ·cases hr
 ·cases hr

theorem AW (h:CLe C D) (h':CLe C' D') (hx:qz D' D) {n n':Nat} (hn:n≤n') {fn:Func} {c:Code} {s:St} {t:Bool} {r:AV × Hp × Ef} (hr:iE P C C' n fn c s=(t,some r)):iE P D D' n' fn c s=(t,some r):=by
 unfold iE at hr ⊢
 split at hr
 ·rename_i hcut
  cases hev:aK P C C' n c s with
  | none=>rw [hev] at hr; simp [iI] at hr
  | some q =>
   rw [hev] at hr
   rw [ct h h' hx hn hev]
   exact hr
 ·rename_i l o b hcut
  split at hr
  ·rename_i s1 hs1
   simp only [iq h h' hx hn hs1]
   split at hr
   ·rename_i k hop
    split at hr
    ·rename_i f hcal
     simp only [hop,hcal,Prod.mk.injEq,Option.bind_eq_some_iff] at hr ⊢
     obtain ⟨ht,fv,hf,az,ha,hr⟩:=hr
     exact ⟨ht,fv,hf,az,ha,AO h h' hx hn hr⟩
    ·simp at hr
   ·simp at hr
  ·rename_i q hne
   cases hev:gB P C C' n l s with
   | none=>rw [hev] at hr; simp [iI] at hr
   | some q0 =>
    rw [hev] at hr
    simp only [iq h h' hx hn hev]
    obtain ⟨ex,s'⟩:=q0
    cases ex <;> first | (exact (hne _ hev).elim) | exact hr

theorem tc (h:CLe C D) (h':CLe C' D') (hx:qz D' D) {n n':Nat} (hn:n≤n') (pan:Bool):CLe (gu P C C' n pan) (gu P D D' n' pan):=by
 intro f a H r hr
 unfold gu at hr ⊢
 split at hr
 ·rename_i fn hfn
  split at hr
  ·rename_i c hc
   split at hr
   rename_i t q hq
   split at hr
   ·cases hr
   ·rename_i ht
    subst hr
    simp only [hfn,hc,AW h h' hx hn hq,if_neg ht]
  ·cases hr
 ·split at hr
  ·cases hr
  ·rename_i hp
   simp only [if_neg hp]
   exact wQ h h' hx hn hr

theorem DM (C C':bL) (n:Nat):qz (gu P C C' n true) (gu P C C' n false):=by
 intro f a H r hr
 unfold gu at hr ⊢
 split at hr
 ·rename_i fn hfn
  split at hr
  ·rename_i c hc
   split at hr
   rename_i t q hq
   split at hr
   ·cases hr
   ·rename_i ht
    have:t=false:=by simpa using ht
    subst this
    simp only [hfn,hc,hq,if_true]
  ·cases hr
 ·simp at hr

theorem dF:∀ n,qz (eP P n) (evN P n)
 | 0=>fun f a H r h=>rfl
 | n+1=>DM _ _ _
theorem iX:∀ n,CLe (evN P n) (evN P (n+1))∧CLe (eP P n) (eP P (n+1))
 | 0=>⟨fun f a H r h=>by simp [evN,oP] at h,fun f a H r h=>by simp [eP,oP] at h⟩
 | n+1=>⟨tc (iX n).1 (iX n).2 (dF (n+1)) (Nat.le_succ _) _,tc (iX n).1 (iX n).2 (dF (n+1)) (Nat.le_succ _) _⟩
theorem u6 {n m : Nat} (h : n ≤ m) : CLe (evN P n) (evN P m) ∧ CLe (eP P n) (eP P m) := by
  induction m with
  | zero => have : n = 0 := by omega
            subst this; exact ⟨fun _ _ _ _ h => h, fun _ _ _ _ h => h⟩
  | succ m ih =>
    by_cases hm : n ≤ m
    · exact ⟨fun f a H r hr => (iX m).1 f a H r ((ih hm).1 f a H r hr), fun f a H r hr => (iX m).2 f a H r ((ih hm).2 f a H r hr)⟩
    · have : n = m + 1 := by omega
      subst this; exact ⟨fun _ _ _ _ h => h, fun _ _ _ _ h => h⟩
theorem dw {n m:Nat} (h:n≤m):CLe (evN P n) (evN P m):=(u6 h).1
theorem eA {n m:Nat} (h:n≤m):CLe (eP P n) (eP P m):=(u6 h).2
theorem mW {n m:Nat} (h:n≤m) {c:Code} {s:St} {r:Ex × St} (hr:aK P (evN P n) (eP P n) n c s=some r):aK P (evN P m) (eP P m) m c s=some r :=
 ct (dw h) (eA h) (dF m) h hr
theorem Ks {n m:Nat} {f:FuncId} {a:List AV} {H:Hp} {r q:AV × Hp × Ef} (h:eP P n f a H=some r) (k:evN P m f a H=some q):False:=by
 have h1:=eA (Nat.le_max_left n m) _ _ _ _ h
 have h2:=dw (Nat.le_max_right n m) _ _ _ _ k
 rw [dF _ _ _ _ _ h1] at h2
 cases h2
end

structure Ph {α:Type} (a:α):Type where
 mk ::

section
variable (P:Program)

def ag (f:FuncId) (args:List AV) (H:Hp) (k:AV × Hp × Ef→Prop) (_:Ph k:=⟨⟩):Prop:=∃ n r,evN P n f args H=some r∧k r

def bt (ops:List Oper) (K:St→Prop) (l:List Oper) (s:St) (_:Ph (ops,K,l):=⟨⟩):Prop:=∃ n s',gO P (evN P n) ops l s=some s'∧K s'
def goD (ops:List Oper) (K:St→List Nat→Prop) (l:List (Nat × Oper)) (s:St) (_:Ph (ops,K,l):=⟨⟩):Prop:=∃ n s' es,evD P (evN P n) ops l s=some (s',es)∧K s' es
def goCode (c:Code) (Q:Ex→St→Prop) (s:St):Prop:=∃ n ex s',aK P (evN P n) (eP P n) n c s=some (ex,s')∧Q ex s'

def aF (r:Rs) (k:AV × Hp × Ef→Prop) (_:Ph k:=⟨⟩):Prop :=
 match r with
 | some r=>k r
 | none=>False

def noC:bL:=fun _ _ _=>none
def bC (ops:List Oper) (K:St→Prop) (l:List Oper) (σ:List AV) (e:Ef) (dst:Option Tmp):AV × Hp × Ef→Prop:=fun r=>bt P ops K l ⟨put σ dst r.1,r.2.1,e.and r.2.2⟩
def qJ (ops:List Oper) (K:St→List Nat→Prop) (l:List (Nat × Oper)) (σ:List AV) (H:Hp) (e:Ef) (i:Nat) (o:Oper):AV × Hp × Ef→Prop :=
 fun r=>goD P ops (fun s es=>K s (if bA o || quiet r H then es else tg i r.2.2::es)) l ⟨put σ o.dst r.1,r.2.1,e.and r.2.2⟩

inductive Tg where
 | fn (g:FuncId) (az:List AV)
 | yl (b:Nat) (az:List AV)
def target (σ:List AV) (f:Operand) (args:List Operand):Option Tg :=
 (aG P σ f).bind fun f=>(bO P σ args).bind fun az =>
  match f with
  | .func (.func g) first captured=>some (.fn g (first++az++captured))
  | .yld b=>some (.yl b az)
  | _=>none
def iw (g:FuncId) (az:List AV) (H:Hp) (k:AV × Hp × Ef→Prop) (_:Ph k:=⟨⟩):Prop :=
 if aj P g=true then ag P g az H k else aF (evX P g az H) k
def bx (t:Option Tg) (H:Hp) (k:AV × Hp × Ef→Prop) (_:Ph k:=⟨⟩):Prop :=
 match t with
 | some (.fn g az)=>iw P g az H k
 | some (.yl b az)=>ag P (P.funcs.size+b) az H k
 | none=>False

def opK (σ:List AV) (H:Hp) (op:Op) (k:AV × Hp × Ef→Prop) (_:Ph (op,k):=⟨⟩):Prop :=
 match op with
 | .call c=>match c.callee with
  | .value f=>bx P (target P σ f c.args.toList) H k
  | _=>aF (bu P noC σ H op) k
 | _=>aF (bu P noC σ H op) k
end

section
variable {P:Program}

theorem mq {σ:List AV} {H:Hp} {op:Op} {k:AV × Hp × Ef→Prop}:opK P σ H op k↔∃ n r,bu P (evN P n) σ H op=some r∧k r:=by
 have key:∀ op:Op,(∀ c,op=.call c→∀ f,c.callee≠.value f)→(aF (bu P noC σ H op) k↔∃ n r,bu P (evN P n) σ H op=some r∧k r):=by
  intro op hop
  have same:∀ n,bu P (evN P n) σ H op=bu P noC σ H op:=by
   intro n
   cases op
   case call c =>
    show dz P (evN P n) σ H c=dz P noC σ H c
    unfold dz
    split
    ·rename_i f hf; exact absurd hf (hop c rfl f)
    ·rfl
    ·rfl
   case makeMap t x=>cases x <;> rfl
   case next it b=>cases b <;> rfl
   case typeAssert x xt t ok=>cases ok <;> rfl
   all_goals rfl
  constructor
  ·intro h
   unfold aF at h
   split at h
   ·rename_i r hr; exact ⟨0,r,by rw [same]; exact hr,h⟩
   ·exact h.elim
  ·rintro ⟨n,r,hr,hk⟩
   rw [same] at hr
   rw [hr]; exact hk
 unfold opK
 split
 ·rename_i c
  split
  ·rename_i f hf
   simp only [bu,dz,hf]
   unfold bx target
   constructor
   ·intro h
    split at h
    ·rename_i g az ht
     simp only [Option.bind_eq_some_iff] at ht
     obtain ⟨fv,hfv,av,hav,ht⟩:=ht
     unfold iw at h
     split at ht
     ·simp only [Option.some.injEq,Tg.fn.injEq] at ht
      obtain ⟨rfl,rfl⟩:=ht
      split at h
      ·rename_i hb
       obtain ⟨n,r,hn,hk⟩:=h
       refine ⟨n,r,?_,hk⟩
       rw [hfv,hav]
       simp only [Option.bind_some,hb,if_true]
       exact hn
      ·rename_i hb
       unfold aF at h
       split at h
       ·rename_i r hr
        refine ⟨0,r,?_,h⟩
        rw [hfv,hav]
        simp only [Option.bind_some]
        rw [if_neg hb]
        exact hr
       ·exact h.elim
     ·cases ht
     ·cases ht
    ·rename_i b az ht
     simp only [Option.bind_eq_some_iff] at ht
     obtain ⟨fv,hfv,av,hav,ht⟩:=ht
     split at ht
     ·cases ht
     ·simp only [Option.some.injEq,Tg.yl.injEq] at ht
      obtain ⟨rfl,rfl⟩:=ht
      obtain ⟨n,r,hn,hk⟩:=h
      refine ⟨n,r,?_,hk⟩
      rw [hfv,hav]
      simp only [Option.bind_some]
      exact hn
     ·cases ht
    ·exact h.elim
   ·rintro ⟨n,r,hr,hk⟩
    simp only [Option.bind_eq_some_iff] at hr
    obtain ⟨fv,hfv,av,hav,hr⟩:=hr
    rw [hfv,hav]
    simp only [Option.bind_some]
    split at hr
    ·show iw P _ _ H k
     unfold iw
     split at hr
     ·rename_i hb
      rw [if_pos hb]
      exact ⟨n,r,hr,hk⟩
     ·rename_i hb
      rw [if_neg hb,hr]
      exact hk
    ·exact ⟨n,r,hr,hk⟩
    ·cases hr
  ·rename_i hne
   refine key _ (fun c' hc f hf=>?_)
   cases hc
   exact hne f hf
 ·rename_i hne
  exact key _ (fun c hc=>by subst hc; first | exact (hne _ _ rfl HEq.rfl).elim | exact (hne _ ⟨⟩ rfl HEq.rfl).elim | exact (hne _ rfl).elim)

theorem o8 {f:FuncId} {args:List AV} {H:Hp} {n:Nat} {r:AV × Hp × Ef} (h:evN P n f args H=some r) {k:AV × Hp × Ef→Prop}:ag P f args H k↔k r:=by
 constructor
 ·rintro ⟨m,q,hq,hk⟩
  have h1:=dw (P:=P) (Nat.le_max_left n m) _ _ _ _ h
  have h2:=dw (P:=P) (Nat.le_max_right n m) _ _ _ _ hq
  rw [h1] at h2
  cases h2
  exact hk
 ·intro hk; exact ⟨n,r,h,hk⟩

theorem ak {f:FuncId} {args:List AV} {H:Hp} {r:AV × Hp × Ef} (h:ag P f args H (fun q=>q=r)) (k:AV × Hp × Ef→Prop):ag P f args H k=k r:=by
 obtain ⟨n,q,hq,rfl⟩:=h
 exact propext (o8 hq)

theorem bG {f:FuncId} {args:List AV} {H:Hp} {k k':AV × Hp × Ef→Prop} (h:ag P f args H k) (hk:∀ r,k r→k' r):ag P f args H k' :=
 let ⟨n,r,hn,hr⟩:=h
 ⟨n,r,hn,hk r hr⟩

theorem p9 {ops:List Oper} {K:St→Prop} {σ:List AV} {H:Hp} {e:Ef}:bt P ops K [] ⟨σ,H,e⟩=K ⟨σ,H,e⟩:=by
 apply propext
 constructor
 ·rintro ⟨n,s',h,hk⟩; simp only [gO] at h; cases h; exact hk
 ·intro h; exact ⟨0,_,rfl,h⟩

theorem kD {ops:List Oper} {K:St→Prop} {o:Oper} {l:List Oper} {σ:List AV} {H:Hp} {e:Ef} (hw:cj ops σ o=true) :
  bt P ops K (o::l) ⟨σ,H,e⟩=opK P σ H o.op (bC P ops K l σ e o.dst):=by
 apply propext
 rw [mq]
 constructor
 ·rintro ⟨n,s',h,hk⟩
  simp only [gO,hw,if_true,Option.bind_eq_some_iff] at h
  obtain ⟨r,hr,h⟩:=h
  exact ⟨n,r,hr,n,s',h,hk⟩
 ·rintro ⟨n,r,hr,m,s',h,hk⟩
  refine ⟨max n m,s',?_,hk⟩
  simp only [gO,hw,if_true,Option.bind_eq_some_iff]
  exact ⟨r,iW (dw (Nat.le_max_left n m)) hr,gV (dw (Nat.le_max_right n m)) h⟩

theorem sW {ops:List Oper} {K:St→Prop} {o:Oper} {l:List Oper} {σ:List AV} {H:Hp} {e:Ef} (hw:cj ops σ o=false) :
  bt P ops K (o::l) ⟨σ,H,e⟩=bt P ops K l ⟨put σ o.dst bw,H,e⟩:=by
 apply propext
 constructor
 ·rintro ⟨n,s',h,hk⟩
  simp only [gO,hw,Bool.false_eq_true,if_false] at h
  exact ⟨n,s',h,hk⟩
 ·rintro ⟨n,s',h,hk⟩
  exact ⟨n,s',by simp only [gO,hw,Bool.false_eq_true,if_false]; exact h,hk⟩

theorem wK {ops:List Oper} {K:St→List Nat→Prop} {σ:List AV} {H:Hp} {e:Ef}:goD P ops K [] ⟨σ,H,e⟩=K ⟨σ,H,e⟩ []:=by
 apply propext
 constructor
 ·rintro ⟨n,s',es,h,hk⟩; simp only [evD] at h; cases h; exact hk
 ·intro h; exact ⟨0,_,_,rfl,h⟩

theorem sX {ops:List Oper} {K:St→List Nat→Prop} {i:Nat} {o:Oper} {l:List (Nat × Oper)} {σ:List AV} {H:Hp} {e:Ef} (hw:cj ops σ o=true) :
  goD P ops K ((i,o)::l) ⟨σ,H,e⟩=opK P σ H o.op (qJ P ops K l σ H e i o):=by
 apply propext
 rw [mq]
 constructor
 ·rintro ⟨n,s',es,h,hk⟩
  simp only [evD,hw,if_true,Option.bind_eq_some_iff,Option.map_eq_some_iff,Prod.mk.injEq] at h
  obtain ⟨r,hr,⟨s1,es1⟩,h,rfl,rfl⟩:=h
  exact ⟨n,r,hr,n,_,es1,h,hk⟩
 ·rintro ⟨n,r,hr,m,s',es,h,hk⟩
  refine ⟨max n m,s',_,?_,hk⟩
  simp only [evD,hw,if_true,Option.bind_eq_some_iff,Option.map_eq_some_iff,Prod.mk.injEq]
  exact ⟨r,iW (dw (Nat.le_max_left n m)) hr,(s',es),oQ (dw (Nat.le_max_right n m)) h,rfl,rfl⟩

theorem AF {ops:List Oper} {K:St→List Nat→Prop} {i:Nat} {o:Oper} {l:List (Nat × Oper)} {σ:List AV} {H:Hp} {e:Ef} (hw:cj ops σ o=false) :
  goD P ops K ((i,o)::l) ⟨σ,H,e⟩=goD P ops K l ⟨put σ o.dst bw,H,e⟩:=by
 apply propext
 constructor
 ·rintro ⟨n,s',es,h,hk⟩
  simp only [evD,hw,Bool.false_eq_true,if_false] at h
  exact ⟨n,s',es,h,hk⟩
 ·rintro ⟨n,s',es,h,hk⟩
  exact ⟨n,s',es,by simp only [evD,hw,Bool.false_eq_true,if_false]; exact h,hk⟩

theorem DC {c:Code} {Q:Ex→St→Prop} {s:St} {n:Nat} {ex:Ex} {s':St} (h:aK P (evN P n) (eP P n) n c s=some (ex,s')):goCode P c Q s↔Q ex s':=by
 constructor
 ·rintro ⟨m,ex2,s2,h2,hq⟩
  have h3:=mW (Nat.le_max_left n m) h
  have h4:=mW (Nat.le_max_right n m) h2
  rw [h3] at h4
  cases h4
  exact hq
 ·intro hq; exact ⟨n,ex,s',h,hq⟩

theorem lO {c:Code} {Q Q':Ex→St→Prop} {s:St} (h:goCode P c Q s) (hq:∀ ex s,Q ex s→Q' ex s):goCode P c Q' s :=
 let ⟨n,ex,s',hn,hs⟩:=h
 ⟨n,ex,s',hn,hq _ _ hs⟩

def Iq (P:Program) (c:Code) (Q:Ex→St→Prop):Ex→St→Prop
 | .normal,s=>goCode P c Q s
 | ex,s=>Q ex s
def K5 (id:Nat) (Q:Ex→St→Prop):Ex→St→Prop
 | .exit i,s=>if i=id then Q .normal s else Q (.exit i) s
 | ex,s=>Q ex s

theorem DB {a b:Code} {Q:Ex→St→Prop} {s:St}:goCode P (.seq a b) Q s↔goCode P a (Iq P b Q) s:=by
 constructor
 ·rintro ⟨n,ex,s',h,hq⟩
  simp only [aK] at h
  split at h
  ·rename_i s1 h1
   exact ⟨n,.normal,s1,h1,n,ex,s',h,hq⟩
  ·rename_i hne
   refine ⟨n,ex,s',h,?_⟩
   cases ex <;> first | (exact (hne _ h).elim) | exact hq
 ·rintro ⟨n,ex,s',h,hq⟩
  cases ex with
  | normal =>
   obtain ⟨m,ex2,s2,h2,hq⟩:=hq
   refine ⟨max n m,ex2,s2,?_,hq⟩
   simp only [aK,mW (Nat.le_max_left n m) h]
   exact mW (Nat.le_max_right n m) h2
  | exit i=>exact ⟨n,.exit i,s',by simp only [aK,h],hq⟩
  | goto l=>exact ⟨n,.goto l,s',by simp only [aK,h],hq⟩
  | ret=>exact ⟨n,.ret,s',by simp only [aK,h],hq⟩
  | pan=>exact ⟨n,.pan,s',by simp only [aK,h],hq⟩

theorem wM {id:Nat} {c:Code} {Q:Ex→St→Prop} {s:St}:goCode P (.block id c) Q s↔goCode P c (K5 id Q) s:=by
 constructor
 ·rintro ⟨n,ex,s',h,hq⟩
  simp only [aK] at h
  split at h
  ·rename_i i s1 h1
   refine ⟨n,.exit i,s1,h1,?_⟩
   show (if i=id then Q .normal s1 else Q (.exit i) s1)
   split at h
   ·rename_i hi; cases h; rw [if_pos hi]; exact hq
   ·rename_i hi; cases h; rw [if_neg hi]; exact hq
  ·rename_i hne
   refine ⟨n,ex,s',h,?_⟩
   cases ex <;> first | (exact (hne _ _ h).elim) | exact hq
 ·rintro ⟨n,ex,s',h,hq⟩
  cases ex with
  | exit i =>
   have hq:(if i=id then Q .normal s' else Q (.exit i) s'):=hq
   by_cases hi:i=id
   ·rw [if_pos hi] at hq; exact ⟨n,.normal,s',by simp only [aK,h,hi,if_true],hq⟩
   ·rw [if_neg hi] at hq; exact ⟨n,.exit i,s',by simp only [aK,h,hi,if_false],hq⟩
  | normal=>exact ⟨n,.normal,s',by simp only [aK,h],hq⟩
  | goto l=>exact ⟨n,.goto l,s',by simp only [aK,h],hq⟩
  | ret=>exact ⟨n,.ret,s',by simp only [aK,h],hq⟩
  | pan=>exact ⟨n,.pan,s',by simp only [aK,h],hq⟩

theorem qP {c:Code} {Q:Ex→St→Prop} {s:St}:goCode P (.loop c) Q s↔goCode P c (Iq P (.loop c) Q) s:=by
 constructor
 ·rintro ⟨n,ex,s',h,hq⟩
  simp only [aK] at h
  cases n with
  | zero=>simp [iter] at h
  | succ n =>
   simp only [iter] at h
   split at h
   ·rename_i s1 h1
    refine ⟨n+1,.normal,s1,h1,n+1,ex,s',?_,hq⟩
    simp only [aK]
    exact mB (fun _ _ h=>h) (Nat.le_succ n) h
   ·rename_i hne
    refine ⟨n+1,ex,s',h,?_⟩
    cases ex <;> first | (exact (hne _ h).elim) | exact hq
 ·rintro ⟨n,ex,s',h,hq⟩
  have up:∀ m,n≤m→aK P (evN P m) (eP P m) m c s=some (ex,s'):=fun m hm=>mW hm h
  cases ex with
  | normal =>
   obtain ⟨m,ex2,s2,h2,hq⟩:=hq
   refine ⟨max n m+1,ex2,s2,?_,hq⟩
   simp only [aK,iter,up (max n m+1) (by omega)]
   have h3:=ct (P:=P) (dw (show m≤max n m+1 by omega)) (eA (show m≤max n m+1 by omega)) (dF _) (show m≤max n m by omega) h2
   simp only [aK] at h3
   refine mB (fun s r hr=>?_) (Nat.le_refl _) h3
   exact ct (fun _ _ _ _ h=>h) (fun _ _ _ _ h=>h) (dF _) (Nat.le_succ _) hr
  | exit i=>exact ⟨n+1,.exit i,s',by simp only [aK,iter,up (n+1) (by omega)],hq⟩
  | goto l=>exact ⟨n+1,.goto l,s',by simp only [aK,iter,up (n+1) (by omega)],hq⟩
  | ret=>exact ⟨n+1,.ret,s',by simp only [aK,iter,up (n+1) (by omega)],hq⟩
  | pan=>exact ⟨n+1,.pan,s',by simp only [aK,iter,up (n+1) (by omega)],hq⟩

class Calm (Q:Ex→St→Prop):Prop where
 no:∀ s,¬ Q .pan s
def iD (P:Program) (ops:List Oper) (K KP:St→Prop) (l:List Oper) (s:St) (_:Ph (ops,K,KP,l):=⟨⟩):Prop:=bt P ops K l s∨∃ n s',eO P (evN P n) (eP P n) ops l s=some s'∧KP s'

theorem lN {id:Nat} {ops:Array Oper} {Q:Ex→St→Prop} {s:St}:goCode P (.region id ops false) Q s↔iD P ops.toList (Q .normal) (Q .pan) ops.toList s:=by
 constructor
 ·rintro ⟨n,ex,s',h,hq⟩
  simp only [aK,kQ] at h
  split at h
  ·rename_i s1 h1
   cases h
   exact .inl ⟨n,_,h1,hq⟩
  ·simp only [Bool.false_eq_true,if_false,Option.map_eq_some_iff,Prod.mk.injEq] at h
   obtain ⟨s1,h1,rfl,rfl⟩:=h
   exact .inr ⟨n,s1,h1,hq⟩
 ·rintro (⟨n,s',h,hq⟩ | ⟨n,s',h,hq⟩)
  ·refine ⟨n,.normal,s',?_,hq⟩
   simp only [aK,kQ,ez,Bool.false_eq_true,if_false]
   rw [h]
  ·refine ⟨n,.pan,s',?_,hq⟩
   simp only [aK,kQ,ez,Bool.false_eq_true,if_false]
   rw [jx (dF n) h]
   simp only [h,Option.map_some]

theorem tW {id:Nat} {ops:Array Oper} {Q:Ex→St→Prop} {s:St} (hc:∀ s,¬ Q .pan s):goCode P (.region id ops false) Q s↔bt P ops.toList (Q .normal) ops.toList s:=by
 rw [lN]
 constructor
 ·rintro (h | ⟨n,s',h,hq⟩)
  ·exact h
  ·exact absurd hq (hc _)
 ·exact .inl

def Tf (P:Program) (ops:List Oper) (Q:Ex→St→Prop):St→List Nat→Prop:=fun s es=>okL P ops s.σ es∧Q .normal s

theorem AG {id:Nat} {ops:Array Oper} {Q:Ex→St→Prop} {s:St} (hm:P.follows .mixedOrders=true) (hs:nk ops.toList=true):goCode P (.region id ops true) Q s↔goD P ops.toList (Tf P ops.toList Q) (order ops.toList) s:=by
 have key:∀ n,aK P (evN P n) (eP P n) n (.region id ops true) s=(ez P (evN P n) ops.toList true s).map fun s'=>(.normal,s'):=by
  intro n
  simp only [aK,kQ]
  cases ez P (evN P n) ops.toList true s <;> rfl
 constructor
 ·rintro ⟨n,ex,s',h,hq⟩
  rw [key] at h
  simp only [Option.map_eq_some_iff,Prod.mk.injEq,ez,hm,if_true,qg,Option.bind_eq_some_iff] at h
  obtain ⟨s1,⟨q,hq1,h1⟩,rfl,rfl⟩:=h
  split at h1
  ·rename_i hok
   cases h1
   exact ⟨n,q.1,q.2,hq1,hok.2,hq⟩
  ·cases h1
 ·rintro ⟨n,s',es,h,he,hq⟩
  refine ⟨n,.normal,s',?_,hq⟩
  rw [key]
  simp only [Option.map_eq_some_iff,Prod.mk.injEq,ez,hm,if_true,qg,Option.bind_eq_some_iff]
  exact ⟨s',⟨(s',es),h,by rw [if_pos ⟨hs,he⟩]⟩,trivial,rfl⟩

theorem jX {c:Code} {Q:Ex→St→Prop} {s:St} {ex:Ex} (h:∀ n,aK P (evN P n) (eP P n) n c s=some (ex,s)):goCode P c Q s↔Q ex s:=DC (h 0)

inductive It where
 | code (c:Code)
 | inBlock (id:Nat)
 | inScope (c:Code)

def rZ (P:Program) (c:Code) (Q:Ex→St→Prop) (ex:Ex) (s:St):Prop :=
 ∃ n ex' s',bP (fun l s=>(findLabel c l).map fun r=>aK P (evN P n) (eP P n) n r s) n (some (ex,s))=some (ex',s')∧Q ex' s'
theorem jR {c:Code} {Q:Ex→St→Prop} {ex:Ex} {s:St} (h:∀ l,ex=.goto l→findLabel c l=none):rZ P c Q ex s=Q ex s:=by
 have key:∀ n,bP (fun l s=>(findLabel c l).map fun r=>aK P (evN P n) (eP P n) n r s) n (some (ex,s))=some (ex,s):=by
  intro n
  cases ex with
  | goto l=>unfold bP; simp only [h l rfl,Option.map_none]
  | _=>simp [bP]
 apply propext
 constructor
 ·rintro ⟨n,ex',s',h1,hq⟩
  rw [key] at h1
  cases h1
  exact hq
 ·intro hq; exact ⟨0,ex,s,key 0,hq⟩
theorem nr {c:Code} {n m:Nat} (hn:n≤m) {k k':Nat} (hk:k≤k') {r r':Rc} (hr:∀ q,r=some q→r'=some q) {q:Ex × St} (h:bP (fun l s=>(findLabel c l).map fun r=>aK P (evN P n) (eP P n) n r s) k r=some q) :
  bP (fun l s=>(findLabel c l).map fun r=>aK P (evN P m) (eP P m) m r s) k' r'=some q:=by
 refine kn (fun l s=>by simp) (fun l s r q h1 h2=>?_) hk hr h
 subst h2
 simp only [Option.map_eq_some_iff] at h1 ⊢
 obtain ⟨r,hr,h1⟩:=h1
 exact ⟨r,hr,mW hn h1⟩
theorem yQ {c r:Code} {l:Nat} {Q:Ex→St→Prop} {s:St} (h:findLabel c l=some r):rZ P c Q (.goto l) s=goCode P r (rZ P c Q) s:=by
 apply propext
 constructor
 ·rintro ⟨n,ex',s',h1,hq⟩
  cases n with
  | zero=>simp [bP,h] at h1
  | succ n =>
   unfold bP at h1
   simp only [h,Option.map_some] at h1
   cases hr:aK P (evN P (n+1)) (eP P (n+1)) (n+1) r s with
   | none=>rw [hr] at h1; simp [bP] at h1
   | some q =>
    rw [hr] at h1
    exact ⟨n+1,q.1,q.2,hr,n+1,ex',s',nr (Nat.le_refl _) (Nat.le_succ n) (fun _ h=>h) h1,hq⟩
 ·rintro ⟨n,ex1,s1,h1,m,ex',s',h2,hq⟩
  refine ⟨max n m+1,ex',s',?_,hq⟩
  unfold bP
  simp only [h,Option.map_some]
  exact nr (show m≤max n m+1 by omega) (show m≤max n m by omega) (fun q hq=>by rw [← hq]; exact mW (show n≤max n m+1 by omega) h1) h2
theorem wL {c:Code} {Q:Ex→St→Prop} {s:St}:goCode P (.scope c) Q s↔goCode P c (rZ P c Q) s:=by
 constructor
 ·rintro ⟨n,ex',s',h1,hq⟩
  rw [iP] at h1
  cases hr:aK P (evN P n) (eP P n) n c s with
  | none=>rw [hr] at h1; simp [bP] at h1
  | some q =>
   rw [hr] at h1
   exact ⟨n,q.1,q.2,hr,n,ex',s',h1,hq⟩
 ·rintro ⟨n,ex1,s1,h1,m,ex',s',h2,hq⟩
  refine ⟨max n m,ex',s',?_,hq⟩
  rw [iP]
  exact nr (Nat.le_max_right n m) (Nat.le_max_right n m) (fun q hq=>by rw [← hq]; exact mW (Nat.le_max_left n m) h1) h2

def gD (P:Program) (Q:Ex→St→Prop):List It→Ex→St→Prop
 | []=>Q
 | .code c::k=>Iq P c (gD P Q k)
 | .inBlock id::k=>K5 id (gD P Q k)
 | .inScope c::k=>rZ P c (gD P Q k)

def go (P:Program) (Q:Ex→St→Prop) (k:List It) (s:St) (_:Ph (P,Q,k):=⟨⟩):Prop:=gD P Q k .normal s
def aH (P:Program) (Q:Ex→St→Prop) (id:Nat) (k:List It) (s:St) (_:Ph (P,Q,k):=⟨⟩):Prop:=gD P Q k (.exit id) s

def fO (P:Program) (Q:Ex→St→Prop) (l:Nat) (k:List It) (s:St) (_:Ph (P,Q,k):=⟨⟩):Prop:=gD P Q k (.goto l) s
def B5 (P:Program) (Q:Ex→St→Prop) (l:Nat) (c:Code) (k:List It) (s:St) (r:Option Code) (_:Ph (P,Q,k):=⟨⟩):Prop :=
 match r with
 | some r=>go P Q (.code r::.inScope c::k) s
 | none=>fO P Q l k s

variable {Q:Ex→St→Prop} {k:List It} {σ:List AV} {H:Hp} {e:Ef}

theorem JX {c:Code}:go P Q (.code (.scope c)::k) ⟨σ,H,e⟩=go P Q (.code c::.inScope c::k) ⟨σ,H,e⟩:=propext wL
theorem Dz {c:Code}:go P Q (.inScope c::k) ⟨σ,H,e⟩=go P Q k ⟨σ,H,e⟩:=jR (fun _ h=>by cases h)
theorem tT {id:Nat} {c:Code}:aH P Q id (.inScope c::k) ⟨σ,H,e⟩=aH P Q id k ⟨σ,H,e⟩:=jR (fun _ h=>by cases h)
theorem NH {l:Nat}:go P Q (.code (.goto l)::k) ⟨σ,H,e⟩=fO P Q l k ⟨σ,H,e⟩:=propext (jX (fun _=>rfl))
theorem zH {l:Nat} {c:Code}:fO P Q l (.code c::k) ⟨σ,H,e⟩=fO P Q l k ⟨σ,H,e⟩:=rfl
theorem wC {l id:Nat}:fO P Q l (.inBlock id::k) ⟨σ,H,e⟩=fO P Q l k ⟨σ,H,e⟩:=rfl
theorem dG {l:Nat} {c:Code}:fO P Q l (.inScope c::k) ⟨σ,H,e⟩=B5 P Q l c k ⟨σ,H,e⟩ (findLabel c l):=by
 cases h:findLabel c l with
 | none=>exact jR (fun l' e=>by cases e; exact h)
 | some r=>exact yQ h
theorem dX {l:Nat} {c r:Code}:B5 P Q l c k ⟨σ,H,e⟩ (some r)=go P Q (.code r::.inScope c::k) ⟨σ,H,e⟩:=rfl
theorem qO {l:Nat} {c:Code}:B5 P Q l c k ⟨σ,H,e⟩ none=fO P Q l k ⟨σ,H,e⟩:=rfl

theorem P9:go P Q [] ⟨σ,H,e⟩=Q .normal ⟨σ,H,e⟩:=rfl
theorem go_skip:go P Q (.code .skip::k) ⟨σ,H,e⟩=go P Q k ⟨σ,H,e⟩:=propext (jX (fun _=>rfl))
theorem sV {l:Nat}:go P Q (.code (.label l)::k) ⟨σ,H,e⟩=go P Q k ⟨σ,H,e⟩:=propext (jX (fun _=>rfl))
theorem nD {a b:Code}:go P Q (.code (.seq a b)::k) ⟨σ,H,e⟩=go P Q (.code a::.code b::k) ⟨σ,H,e⟩:=propext DB
theorem J0 {id:Nat} {c:Code}:go P Q (.code (.block id c)::k) ⟨σ,H,e⟩=go P Q (.code c::.inBlock id::k) ⟨σ,H,e⟩:=propext wM
theorem DA {id:Nat}:go P Q (.inBlock id::k) ⟨σ,H,e⟩=go P Q k ⟨σ,H,e⟩:=rfl
theorem NI {id:Nat}:go P Q (.code (.exit id)::k) ⟨σ,H,e⟩=aH P Q id k ⟨σ,H,e⟩:=propext (jX (fun _=>rfl))
theorem wz {id:Nat} {c:Code}:aH P Q id (.code c::k) ⟨σ,H,e⟩=aH P Q id k ⟨σ,H,e⟩:=rfl
theorem wu {id:Nat}:aH P Q id (.inBlock id::k) ⟨σ,H,e⟩=go P Q k ⟨σ,H,e⟩:=by
 show (if id=id then _ else _)=_
 rw [if_pos rfl]; rfl
theorem tU {id j:Nat} (h:id≠j):aH P Q id (.inBlock j::k) ⟨σ,H,e⟩=aH P Q id k ⟨σ,H,e⟩:=by
 show (if id=j then _ else _)=_
 rw [if_neg h]; rfl
theorem gW:∀ (k:List It) (s:St),gD P Q k .ret s=Q .ret s
 | [],_=>rfl
 | .code _::k,s=>gW k s
 | .inBlock _::k,s=>gW k s
 | .inScope _::k,s=>(jR (fun _ h=>by cases h)).trans (gW k s)
theorem go_ret:go P Q (.code .ret::k) ⟨σ,H,e⟩=Q .ret ⟨σ,H,e⟩:=by
 rw [← gW (P:=P) (Q:=Q) k]
 exact propext (jX (fun _=>rfl))
theorem go_loop {c:Code}:go P Q (.code (.loop c)::k) ⟨σ,H,e⟩=go P Q (.code c::.code (.loop c)::k) ⟨σ,H,e⟩:=propext qP
theorem fL:∀ (k:List It) (s:St),gD P Q k .pan s=Q .pan s
 | [],_=>rfl
 | .code _::k,s=>fL k s
 | .inBlock _::k,s=>fL k s
 | .inScope _::k,s=>(jR (fun _ h=>by cases h)).trans (fL k s)
theorem go_region [hc:Calm Q] {id:Nat} {ops:Array Oper}:go P Q (.code (.region id ops false)::k) ⟨σ,H,e⟩=bt P ops.toList (fun s=>go P Q k s) ops.toList ⟨σ,H,e⟩ :=
 propext (tW (Q:=gD P Q k) (fun s h=>hc.no s ((fL (P:=P) (Q:=Q) k s) ▸ h)))
theorem Dy {id:Nat} {ops:Array Oper}:go P Q (.code (.region id ops false)::k) ⟨σ,H,e⟩=iD P ops.toList (fun s=>go P Q k s) (fun s=>Q .pan s) ops.toList ⟨σ,H,e⟩:=by
 refine (propext (lN (Q:=gD P Q k))).trans ?_
 have:(gD P Q k .pan)=fun s=>Q .pan s:=funext (fL k)
 rw [this]
 rfl
def Ua (P:Program) (ops:List Oper) (Q:Ex→St→Prop) (k:List It):St→List Nat→Prop:=fun s es=>okL P ops s.σ es∧go P Q k s
theorem wI {id:Nat} {ops:Array Oper} (hm:P.follows .mixedOrders=true) (hs:nk ops.toList=true):go P Q (.code (.region id ops true)::k) ⟨σ,H,e⟩=goD P ops.toList (Ua P ops.toList Q k) (order ops.toList) ⟨σ,H,e⟩:=propext (AG hm hs)

theorem NG {c:Operand} {a b:Code} (h:aG P σ c=some (.bool true)):go P Q (.code (.cond c a b)::k) ⟨σ,H,e⟩=go P Q (.code a::k) ⟨σ,H,e⟩:=by
 apply propext
 constructor
 ·rintro ⟨n,ex,s',hs,hq⟩
  simp only [aK,h] at hs
  exact ⟨n,ex,s',hs,hq⟩
 ·rintro ⟨n,ex,s',hs,hq⟩
  exact ⟨n,ex,s',by simp only [aK,h]; exact hs,hq⟩
theorem JZ {c:Operand} {a b:Code} (h:aG P σ c=some (.bool false)):go P Q (.code (.cond c a b)::k) ⟨σ,H,e⟩=go P Q (.code b::k) ⟨σ,H,e⟩:=by
 apply propext
 constructor
 ·rintro ⟨n,ex,s',hs,hq⟩
  simp only [aK,h] at hs
  exact ⟨n,ex,s',hs,hq⟩
 ·rintro ⟨n,ex,s',hs,hq⟩
  exact ⟨n,ex,s',by simp only [aK,h]; exact hs,hq⟩
theorem JW {c:Code} (I:Nat→St→Prop) (n:Nat) {s:St} (h0:I n s) (round:∀ n s,I n s→goCode P c (fun ex s'=>match ex with | .normal=>∃ m,m < n∧I m s' | ex=>gD P Q k ex s') s):go P Q (.code (.loop c)::k) s:=by
 induction n using Nat.strongRecOn generalizing s with
 | _ n ih =>
  show goCode P (.loop c) (gD P Q k) s
  rw [qP]
  refine lO (round n s h0) (fun ex s' hq=>?_)
  cases ex with
  | normal =>
   obtain ⟨m,hm,hi⟩:=hq
   exact ih m hm hi
  | _=>exact hq

def KB (P:Program) (fn:Func) (n:Nat) (k:AV × Hp × Ef→Prop):Ex→St→Prop:=fun ex s =>
 (ex=.normal∨ex=.ret)∧match cS P s fn.results.toList with
  | some vs=>k (leave n (pack vs) s.H s.ef)
  | none=>False
instance {fn:Func} {n:Nat} {k:AV × Hp × Ef→Prop}:Calm (KB P fn n k):=⟨fun _ h=>by rcases h.1 with h | h <;> cases h⟩

theorem tE {f:FuncId} {fn:Func} {c:Code} {args:List AV} {H:Hp} {kk:AV × Hp × Ef→Prop} (hf:P.funcs[f]?=some fn) (hb:fn.body=some c) (hd:iS c=none) :
  ag P f args H kk=go P (KB P fn H.length kk) [.code c] ⟨args++List.replicate (fn.ntmps - args.length) bw,H,z0⟩:=by
 apply propext
 have key:∀ n,evN P (n+1) f args H=(gu P (evN P n) (eP P n) (n+1) false) f args H:=fun _=>rfl
 constructor
 ·rintro ⟨n,r,hr,hk⟩
  cases n with
  | zero=>simp [evN,oP] at hr
  | succ n =>
   rw [key] at hr
   simp only [gu,hf,hb,iE,hd] at hr
   cases hc:aK P (evN P n) (eP P n) (n+1) c ⟨args++List.replicate (fn.ntmps - args.length) bw,H,z0⟩ with
   | none=>rw [hc] at hr; simp [iI] at hr
   | some q =>
    obtain ⟨ex,s⟩:=q
    simp only [hc] at hr
    by_cases hex:ex=.normal∨ex=.ret
    ·simp only [iI,if_pos hex,Bool.true_eq_false,if_false,Option.map_eq_some_iff] at hr
     obtain ⟨vs,hvs,rfl⟩:=hr
     refine ⟨n+1,ex,s,ct (dw (Nat.le_succ n)) (eA (Nat.le_succ n)) (dF _) (Nat.le_refl _) hc,?_⟩
     show KB P fn H.length kk ex s
     exact ⟨hex,by rw [hvs]; exact hk⟩
    ·by_cases hp:ex=.pan
     ·subst hp
      simp only [iI,if_neg hex,if_true] at hr
      cases hσ:s.σ <;> simp [hσ] at hr
     ·simp [iI,if_neg hex,if_neg hp] at hr
 ·rintro ⟨n,ex,s,hc,hq⟩
  have hq':KB P fn H.length kk ex s:=by cases ex <;> exact hq
  obtain ⟨hex,hq2⟩:=hq'
  cases hvs:cS P s fn.results.toList with
  | none=>rw [hvs] at hq2; exact hq2.elim
  | some vs =>
   rw [hvs] at hq2
   refine ⟨n+1,_,?_,hq2⟩
   rw [key]
   simp only [gu,hf,hb,iE,hd,ct (fun _ _ _ _ h=>h) (fun _ _ _ _ h=>h) (dF _) (Nat.le_succ n) hc,iI,if_pos hex,hvs,Option.map_some,Bool.true_eq_false,if_false]

def F0 (P:Program) (Q:Ex→St→Prop) (k:List It) (σ:List AV) (n:Nat) (e:Ef):AV × Hp × Ef→Prop:=fun r =>
 match tJ (r.2.1[n]?) with
 | some ex=>gD P Q k ex ⟨σ,r.2.1.set n .dead,e.and (r.2.2.and ⟨none,some n⟩)⟩
 | none=>False
theorem JY {f:Operand} {ps:Array Tmp} {az bd:Code} {v:AV} {x:FuncId × List AV × List AV} (hf:aG P σ f=some v) (hv:tI v=some x) (hb:aj P x.1=true) :
  go P Q (.code (.rangeFunc f ps az bd)::k) ⟨σ,H,e⟩=ag P x.1 (x.2.1++[.yld H.length]++x.2.2) (H++[.loop σ ps.toList az bd .ready]) (F0 P Q k σ H.length e):=by
 apply propext
 constructor
 ·rintro ⟨n,ex,s',hc,hq⟩
  simp only [aK,gU,hf,hv,Option.bind_some,hb,if_true,Option.bind_eq_some_iff,Option.map_eq_some_iff,Prod.mk.injEq] at hc
  obtain ⟨r,hr,ex',hex,rfl,rfl⟩:=hc
  refine ⟨n,r,hr,?_⟩
  unfold F0
  rw [hex]
  exact hq
 ·rintro ⟨n,r,hr,hq⟩
  unfold F0 at hq
  cases hex:tJ (r.2.1[H.length]?) with
  | none=>rw [hex] at hq; exact hq.elim
  | some ex =>
   rw [hex] at hq
   refine ⟨n,ex,_,?_,hq⟩
   simp only [aK,gU,hf,hv,Option.bind_some,hb,if_true,Option.bind_eq_some_iff,Option.map_eq_some_iff,Prod.mk.injEq]
   exact ⟨r,hr,ex,hex,rfl,rfl⟩

structure Lp where
 σ:List AV
 ps:List Tmp
 az:Code
 bd:Code
def rC:Option bp→Option Lp
 | some (.loop σ ps az bd .ready)=>some ⟨σ,ps,az,bd⟩
 | _=>none
def lX:Option bp→Option Lp
 | some (.loop σ ps az bd .busy)=>some ⟨σ,ps,az,bd⟩
 | _=>none
def reQ (b n:Nat) (k:AV × Hp × Ef→Prop):Ex→St→Prop:=fun ex s =>
 if ex=.pan then False else match lX (s.H[b]?) with
 | some L=>k (leave n (.bool (decide (ex=.normal))) (s.H.set b (.loop L.σ L.ps L.az L.bd (if ex=.normal then .ready else .done ex))) (s.ef.and ⟨none,some b⟩))
 | none=>False
instance {b n:Nat} {k:AV × Hp × Ef→Prop}:Calm (reQ b n k):=⟨fun _ h=>h⟩
def rdQ (P:Program) (b n:Nat) (bd:Code) (k:AV × Hp × Ef→Prop):Ex→St→Prop:=fun ex s =>
 ex=.normal∧match rC (s.H[b]?) with
 | some L=>go P (reQ b n k) [.code bd] ⟨s.σ,s.H.set b (.loop L.σ L.ps L.az L.bd .busy),s.ef.and ⟨none,some b⟩⟩
 | none=>False

instance {b n:Nat} {bd:Code} {k:AV × Hp × Ef→Prop}:Calm (rdQ P b n bd k):=⟨fun _ h=>by cases h.1⟩

end
end Go.Proofs.YtdppgaphcmhffaaGreatDoor.V
