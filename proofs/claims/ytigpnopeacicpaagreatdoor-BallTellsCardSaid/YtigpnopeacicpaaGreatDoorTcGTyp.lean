import Derived.Test.YtigpnopeacicpaaGreatDoorTcJ0
import Derived.OrdersHeld
import Derived.StillTail
namespace Go.Proofs.YtigpnopeacicpaaGreatDoor
open Go.RowKit
abbrev VP:=Value→World→Prop
def Lasts (p:VP):Prop:= ∀v w w',p v w→Only [] w w'→p v w'
section
variable {P:Program}
@[go_sem] def growUpon (P:Program) (w:World) (p:VP):Result Next→Prop
 |.ok (.value u) w'=>Only [] w w'∧p u w'
 |.ok .skip w'=>Only [] w w'∧p undef w'
 |.ok (.enter f args) w'=>Calls P f args w' fun e w''=> ∃v,e= .returned v∧Only [] w w''∧p v w''
 |_=>False
@[go_sem] def growAt (P:Program) (o:Oper) (a:Act) (w:World) (p:VP):Prop:=growUpon P w p ((execOp a.eval o).run P w)
@[go_sem] def growIf (P:Program) (l:List Oper) (o:Oper) (a:Act) (w:World) (p:VP):Prop:=if Region.wanted o (yielded l.toArray a.tmps) then growAt P o a w p else p undef w
def waits (o:Oper):List Nat:=(o.after.toList.filter fun e=>Region.binds .any e).map (·.on)
def withs (l:List Oper) (Ps:List VP) (w:World) (K:Act→Prop):List Nat→Act→Prop
 |[],a=>K a
 |i::is,a=>match (l[i]?).bind (·.dst) with
  |none=>withs l Ps w K is a
  |some d=> ∀v,(Ps[i]?.getD fun _ _=>True) v w→withs l Ps w K is (a.put (some d) v)
def owes (P:Program) (l:List Oper) (Ps:List VP) (a0:Act) (w0:World):List Oper→List VP→Prop
 |[],_=>True
 |_::_,[]=>False
 |o::os,p::ps=>(∀ w,Only [] w0 w→withs l Ps w (fun a=>growIf P l o a w p) (waits o) a0)∧owes P l Ps a0 w0 os ps
def dstOf (l:List Oper) (i:Nat):Option Nat:=(l[i]?).bind (·.dst)
def typB (l:List Oper) (n:Nat):Bool:=
 Region.noSelect l.toArray && (List.range l.length).all fun k=>match l[k]? with
  |none=>false
  |some o=>(match o.dst with|none=>true|some d=>decide (d<n) && (List.range k).all fun i=>dstOf l i != some d) &&
   (waits o).all (fun i=>decide (i<k)) &&
   (List.range l.length).all fun i=>match dstOf l i with|none=>true|some d=>(waits o).contains i || !(o.looksAt l.toArray).contains d
def lays (l:List Oper) (a:Act):List Nat→Act→Act
 |[],b=>b
 |i::is,b=>match dstOf l i with
  |none=>lays l a is b
  |some d=>lays l a is (b.put (some d) (a.tmps.getD d undef))
theorem withs_lays {l:List Oper} {Ps:List VP} {w:World} {K:Act→Prop} (a:Act): ∀(is:List Nat) (b:Act),withs l Ps w K is b→(∀ i∈is,∀d,dstOf l i=some d→(Ps[i]?.getD fun _ _=>True) (a.tmps.getD d undef) w)→K (lays l a is b)
 |[],b,h,_=>h
 |i::is,b,h,ht=>by
  unfold withs at h
  unfold lays
  cases hd:dstOf l i with
  |none=>
   have hd':(l[i]?).bind (·.dst)=none:=hd
   rw [hd'] at h
   exact withs_lays a is b h fun j hj=>ht j (List.mem_cons_of_mem _ hj)
  |some d=>
   have hd':(l[i]?).bind (·.dst)=some d:=hd
   rw [hd'] at h
   exact withs_lays a is _ (h _ (ht i (by simp) d hd)) fun j hj=>ht j (List.mem_cons_of_mem _ hj)
theorem lays_size (l:List Oper) (a:Act): ∀(is:List Nat) (b:Act),(lays l a is b).tmps.size=b.tmps.size
 |[],_=>rfl
 |i::is,b=>by
  unfold lays
  cases dstOf l i with
  |none=>exact lays_size l a is b
  |some d=>rw [lays_size l a is];simp [Act.put]
theorem lays_defers (l:List Oper) (a:Act): ∀(is:List Nat) (b:Act),(lays l a is b).defers=b.defers
 |[],_=>rfl
 |i::is,b=>by
  unfold lays
  cases dstOf l i with
  |none=>exact lays_defers l a is b
  |some d=>rw [lays_defers l a is];rfl
theorem getD_put (b:Act) (d:Nat) (v:Value) (t:Nat):(b.put (some d) v).tmps.getD t undef=if d=t∧t<b.tmps.size then v else b.tmps.getD t undef:=by
 simp only [Act.put,Array.getD_eq_getD_getElem?,Array.getElem?_setIfInBounds]
 by_cases h:d=t
 ·subst h
  by_cases h2:d<b.tmps.size
  ·simp [h2]
  ·simp [h2]
 ·simp [h]
theorem lays_get (l:List Oper) (a:Act) (t:Nat): ∀(is:List Nat) (b:Act),(b.tmps.getD t undef=a.tmps.getD t undef∨(t<b.tmps.size∧ ∃i∈is,dstOf l i=some t))→(lays l a is b).tmps.getD t undef=a.tmps.getD t undef
 |[],b,h=>by
  rcases h with h|⟨_,i,hi,_⟩
  ·exact h
  ·simp at hi
 |i::is,b,h=>by
  unfold lays
  cases hd:dstOf l i with
  |none=>
   refine lays_get l a t is b ?_
   rcases h with h|⟨h0,j,hj,h1⟩
   ·exact .inl h
   ·rcases List.mem_cons.1 hj with rfl|hj
    ·rw [hd] at h1;cases h1
    ·exact .inr ⟨h0,j,hj,h1⟩
  |some d=>
   refine lays_get l a t is _ ?_
   by_cases hdt:d=t∧t<b.tmps.size
   ·left
    rw [getD_put,if_pos hdt,hdt.1]
   ·rcases h with h|⟨h0,j,hj,h1⟩
    ·left
     rw [getD_put,if_neg hdt]
     exact h
    ·rcases List.mem_cons.1 hj with rfl|hj
     ·rw [hd] at h1
      injection h1 with h1
      exact absurd ⟨h1,h0⟩ hdt
     ·exact .inr ⟨by simpa [Act.put] using h0,j,hj,h1⟩
theorem eval_of_get {a b:Act} (x:Operand) (h: ∀t,x= .tmp t→a.tmps.getD t undef=b.tmps.getD t undef):a.eval x=b.eval x:=by
 cases x with
 |tmp t=>exact h t rfl
 |_=>rfl
theorem get_of_getD {a b:Array Value} (hs:a.size=b.size) {t:Nat} (h:a.getD t undef=b.getD t undef):a[t]? =b[t]? :=by
 rw [Array.getD_eq_getD_getElem?,Array.getD_eq_getD_getElem?] at h
 by_cases h0:t<a.size
 ·rw [Array.getElem?_eq_getElem h0,Array.getElem?_eq_getElem (by omega)] at h ⊢
  simpa using h
 ·rw [Array.getElem?_eq_none (by omega),Array.getElem?_eq_none (by omega)]
structure Way (l:List Oper) (Ps:List VP) (a0:Act) (w0:World) (listed:Array Bool) (a:Act) (w:World):Prop where
 only:Only [] w0 w
 defers:a.defers=a0.defers
 size:a.tmps.size=a0.tmps.size
 lsize:listed.size=l.length
 off: ∀t,(∀ i,listed.getD i false=true→dstOf l i≠some t)→a.tmps.getD t undef=a0.tmps.getD t undef
 typed: ∀i,listed.getD i false=true→ ∀d,dstOf l i=some d→(Ps[i]?.getD fun _ _=>True) (a.tmps.getD d undef) w
theorem typB_spec {l:List Oper} {n:Nat} (h:typB l n=true):Region.noSelect l.toArray=true∧ ∀k o,l[k]? =some o→
  (∀ d,o.dst=some d→d<n∧ ∀i,i<k→dstOf l i≠some d)∧(∀ i∈waits o,i<k)∧(∀ i d,dstOf l i=some d→i∈waits o∨d∉o.looksAt l.toArray):=by
 unfold typB at h
 rw [Bool.and_eq_true] at h
 refine⟨h.1,fun k o hk=>?_⟩
 have hlt:=(List.getElem?_eq_some_iff.1 hk).1
 have h2:=List.all_eq_true.1 h.2 k (List.mem_range.2 hlt)
 simp only [hk,Bool.and_eq_true] at h2
 obtain⟨⟨h3,h4⟩,h5⟩:=h2
 refine⟨fun d hd=>?_,fun i hi=>?_,fun i d hi=>?_⟩
 ·rw [hd] at h3
  simp only [Bool.and_eq_true,decide_eq_true_eq,List.all_eq_true,List.mem_range,bne_iff_ne,ne_eq] at h3
  exact h3
 ·simpa using List.all_eq_true.1 h4 i hi
 ·have hil:i<l.length:=by
   unfold dstOf at hi
   cases hx:l[i]? with
   |none=>rw [hx] at hi;cases hi
   |some x=>exact (List.getElem?_eq_some_iff.1 hx).1
  have h6:=List.all_eq_true.1 h5 i (List.mem_range.2 hil)
  simp only [hi,Bool.or_eq_true,Bool.not_eq_true',List.contains_iff_mem] at h6
  rcases h6 with h6|h6
  ·exact .inl h6
  ·exact .inr (by simpa using h6)
theorem owes_get {l:List Oper} {Ps:List VP} {a0:Act} {w0:World}: ∀{os:List Oper} {ps:List VP} (k:Nat) {o:Oper},owes P l Ps a0 w0 os ps→os[k]? =some o→
  ∃p,ps[k]? =some p∧ ∀w,Only [] w0 w→withs l Ps w (fun a=>growIf P l o a w p) (waits o) a0
 |[],_,_,_,_,h=>by simp at h
 |_::_,[],_,_,h,_=>h.elim
 |o'::os,p::ps,0,o,h,he=>by
  simp only [List.getElem?_cons_zero,Option.some.injEq] at he
  subst he
  exact⟨p,rfl,h.1⟩
 |_::os,_::ps,k+1,o,h,he=>by simpa using owes_get k h.2 (by simpa using he)
section
variable {l:List Oper} {Ps:List VP} {a0 a:Act} {w0 w:World} {listed:Array Bool} {Q:Exit→Act→World→Prop}
theorem Way.grow (h:Way l Ps a0 w0 listed a w) (hB:typB l a0.tmps.size=true) {k:Nat} {o:Oper} (ho: ∃p,Ps[k]? =some p∧ ∀w,Only [] w0 w→withs l Ps w (fun a=>growIf P l o a w p) (waits o) a0) (hk:l[k]? =some o) (hw: ∀i∈waits o,listed.getD i false=true):
  growIf P l o a w (Ps[k]?.getD fun _ _=>True):=by
 obtain⟨hns,hsp⟩:=typB_spec hB
 obtain⟨h1,h2,h3⟩:=hsp k o hk
 obtain⟨p,hp,hob⟩:=ho
 rw [hp]
 have hg:=withs_lays a (waits o) a0 (hob w h.only) (fun i hi d hd=>h.typed i (hw i hi) d hd)
 have key: ∀t,t∈o.looksAt l.toArray→(lays l a (waits o) a0).tmps.getD t undef=a.tmps.getD t undef:=fun t ht=>by
  apply lays_get
  by_cases hex: ∃i,dstOf l i=some t
  ·obtain⟨i,hi⟩:=hex
   right
   rcases h3 i t hi with h4|h4
   ·refine⟨?_,i,h4,hi⟩
    unfold dstOf at hi
    cases hx:l[i]? with
    |none=>rw [hx] at hi;cases hi
    |some x=>rw [hx] at hi;exact ((hsp i x hx).1 t hi).1
   ·exact absurd ht h4
  ·left
   exact (h.off t fun i _ hc=>hex ⟨i,hc⟩).symm
 have e1:execOp (lays l a (waits o) a0).eval o=execOp a.eval o:=execOp_congr o (fun cs b=>Region.noSelect_spec hns k o cs b (by simpa using hk)) fun x hx=>eval_of_get x fun t ht=>key t (by
  subst ht
  exact List.mem_append_left _ (List.mem_filterMap.2 ⟨.tmp t,by simpa using hx,rfl⟩))
 have e2:Region.wanted o (yielded l.toArray (lays l a (waits o) a0).tmps)=Region.wanted o (yielded l.toArray a.tmps):=by
  unfold Region.wanted
  cases hgd:o.guard with
  |none=>rfl
  |some gw=>
   obtain⟨g,want⟩:=gw
   have hy:yielded l.toArray (lays l a (waits o) a0).tmps g=yielded l.toArray a.tmps g:=by
    unfold yielded
    cases ht:(l.toArray[g]?).bind (·.dst) with
    |none=>rfl
    |some t=>
     have hk2:=key t (by unfold Oper.looksAt;rw [hgd];simp only [ht];simp)
     have:=get_of_getD (by rw [lays_size,h.size]) hk2
     simp only [Option.bind_some,this]
   simp only [hy]
 unfold growIf growAt at hg ⊢
 rw [e1,e2] at hg
 exact hg
theorem getD_set (x:Array Bool) (j i:Nat) (hj:j<x.size):(x.setIfInBounds j true).getD i false=(decide (j=i) || x.getD i false):=by
 rw [Array.getD_eq_getD_getElem?,Array.getD_eq_getD_getElem?,Array.getElem?_setIfInBounds]
 by_cases h:j=i
 ·subst h;simp [hj]
 ·simp [h]
theorem Way.step (h:Way l Ps a0 w0 listed a w) (hB:typB l a0.tmps.size=true) (hm: ∀p∈Ps,Lasts p) {k:Nat} {o:Oper} (hk:l[k]? =some o) (_:listed.getD k true=false) {u:Value} {w':World} (hw:Only [] w w') (hu:(Ps[k]?.getD fun _ _=>True) u w'):
  Way l Ps a0 w0 (listed.setIfInBounds k true) (a.put o.dst u) w':=by
 obtain⟨hns,hsp⟩:=typB_spec hB
 have hlt:k<l.length:=(List.getElem?_eq_some_iff.1 hk).1
 have hll:k<listed.size:=by rw [h.lsize];exact hlt
 have hdk:dstOf l k=o.dst:=by unfold dstOf;rw [hk];rfl
 have hmono: ∀(i:Nat) (v:Value) (w w':World),(Ps[i]?.getD fun _ _=>True) v w→Only [] w w'→(Ps[i]?.getD fun _ _=>True) v w':=fun i v w w' h1 h2=>by
  cases hp:Ps[i]? with
  |none=>trivial
  |some p=>
   rw [hp] at h1
   exact hm p (List.mem_of_getElem? hp) v w w' h1 h2
 have hdiff: ∀i d,i≠k→dstOf l i=some d→o.dst≠some d:=fun i d hne hi hc=>by
  unfold dstOf at hi
  cases hx:l[i]? with
  |none=>rw [hx] at hi;cases hi
  |some x=>
   rw [hx] at hi
   rcases Nat.lt_or_gt_of_ne hne with h1|h1
   ·exact ((hsp k o hk).1 d hc).2 i h1 (by unfold dstOf;rw [hx];exact hi)
   ·exact ((hsp i x hx).1 d hi).2 k h1 (by rw [hdk];exact hc)
 refine⟨h.only.nil_trans hw,?_,?_,by simp [h.lsize],?_,?_⟩
 ·rw [← h.defers];cases o.dst<;>rfl
 ·rw [← h.size];cases o.dst<;>simp [Act.put]
 ·intro t ht
  have h1:=h.off t fun i hi=>ht i (by rw [getD_set _ _ _ hll,hi,Bool.or_true])
  have h2:=ht k (by rw [getD_set _ _ _ hll];simp)
  rw [hdk] at h2
  cases hd:o.dst with
  |none=>exact h1
  |some d=>
   rw [getD_put,if_neg (fun hc=>h2 (by rw [hd,hc.1]))]
   exact h1
 ·intro i hi d hd
  rw [getD_set _ _ _ hll] at hi
  by_cases hik:k=i
  ·subst hik
   rw [hdk] at hd
   rw [hd,getD_put,if_pos ⟨rfl,by rw [h.size];exact ((hsp k o hk).1 d hd).1⟩]
   exact hu
  ·have hi':listed.getD i false=true:=by simpa [hik] using hi
   have h3:=h.typed i hi' d hd
   have h4:(a.put o.dst u).tmps.getD d undef=a.tmps.getD d undef:=by
    cases hdo:o.dst with
    |none=>rfl
    |some d'=>
     rw [getD_put,if_neg]
     intro hc
     exact hdiff i d (Ne.symm hik) hd (by rw [hdo,hc.1])
   rw [h4]
   exact hmono i _ _ _ h3 hw
theorem Way.done (h:Way l Ps a0 w0 listed a w) (hB:typB l a0.tmps.size=true) (hall: ∀i,i<l.length→listed.getD i false=true) (he: ∀w,Only [] w0 w→withs l Ps w (fun a=>Q .normal a w) (List.range l.length) a0):Q .normal a w:=by
 obtain⟨hns,hsp⟩:=typB_spec hB
 have h1:=withs_lays a (List.range l.length) a0 (he w h.only) (fun i hi d hd=>h.typed i (hall i (List.mem_range.1 hi)) d hd)
 have e:lays l a (List.range l.length) a0=a:=by
  have hs:(lays l a (List.range l.length) a0).tmps.size=a.tmps.size:=by rw [lays_size,h.size]
  have hd:(lays l a (List.range l.length) a0).defers=a.defers:=by rw [lays_defers,h.defers]
  have ht:(lays l a (List.range l.length) a0).tmps=a.tmps:=by
   apply Array.ext_getElem?
   intro t
   apply get_of_getD hs
   apply lays_get
   by_cases hex: ∃i,dstOf l i=some t
   ·obtain⟨i,hi⟩:=hex
    right
    cases hx:l[i]? with
    |none=>unfold dstOf at hi;rw [hx] at hi;cases hi
    |some x=>
     have hi2:=hi
     unfold dstOf at hi2
     rw [hx] at hi2
     exact⟨((hsp i x hx).1 t hi2).1,i,List.mem_range.2 (List.getElem?_eq_some_iff.1 hx).1,hi⟩
   ·left
    exact (h.off t fun i _ hc=>hex ⟨i,hc⟩).symm
  generalize lays l a (List.range l.length) a0=b at hs hd ht
  cases a;cases b
  simp only at hd ht
  rw [hd,ht]
 rwa [e] at h1
theorem range_filter_set {n:Nat} (x:Array Bool) {k:Nat} (hk:k<n) (hs:x.size=n) (hu:x.getD k false=false):
  ((List.range n).filter fun i=> !(x.setIfInBounds k true).getD i false).length+1=((List.range n).filter fun i=> !x.getD i false).length:=by
 have hmem:k∈(List.range n).filter fun i=> !x.getD i false:=by rw [List.mem_filter];exact⟨List.mem_range.2 hk,by rw [hu];rfl⟩
 have hnd:((List.range n).filter fun i=> !x.getD i false).Nodup:=List.nodup_range.filter _
 have e:((List.range n).filter fun i=> !(x.setIfInBounds k true).getD i false)=((List.range n).filter fun i=> !x.getD i false).erase k:=by
  rw [hnd.erase_eq_filter,List.filter_filter]
  apply List.filter_congr
  intro i _
  rw [getD_set _ _ _ (by omega)]
  by_cases h:k=i
  ·subst h;simp
  ·have h':i≠k:=fun hc=>h hc.symm
   simp [h,h']
 rw [e,List.length_erase_of_mem hmem]
 have:=List.length_pos_of_mem hmem
 omega
theorem way_any (hB:typB l a0.tmps.size=true) (hm: ∀p∈Ps,Lasts p) (ho:owes P l Ps a0 w0 l Ps) (he: ∀w,Only [] w0 w→withs l Ps w (fun a=>Q .normal a w) (List.range l.length) a0):
  ∀(fuel:Nat) (listed:Array Bool) (a:Act) (w:World),Way l Ps a0 w0 listed a w→((List.range l.length).filter fun i=> !listed.getD i false).length≤fuel→wpAny P .any l.toArray Q fuel listed a w:=by
 obtain⟨hns,hsp⟩:=typB_spec hB
 have hall: ∀(listed:Array Bool),listed.size=l.length→Region.ready .any l.toArray listed=[]→ ∀i,i<l.length→listed.getD i false=true:=fun listed hs hr i=>by
  induction i using Nat.strongRecOn with
  |ind i ih=>
   intro hi
   apply Decidable.byContradiction
   intro hc
   have hmem:i∈Region.ready .any l.toArray listed:=by
    refine mem_ready.2 ⟨?_,l[i],by simp [hi],fun e hem hb=>?_⟩
    ·have hl:i<listed.size:=by omega
     rw [Array.getD_eq_getD_getElem?,Array.getElem?_eq_getElem hl] at hc ⊢
     simpa using hc
    ·have hwt:e.on∈waits l[i]:=List.mem_map.2 ⟨e,List.mem_filter.2 ⟨by simpa using hem,hb⟩,rfl⟩
     have hlt:=(hsp i l[i] (by simp [hi])).2.1 e.on hwt
     exact ih e.on hlt (by omega)
   rw [hr] at hmem
   cases hmem
 intro fuel
 induction fuel with
 |zero=>
  intro listed a w h hf
  have hcov: ∀i,i<l.length→listed.getD i false=true:=fun i hi=>by
   apply Decidable.byContradiction
   intro hc
   have:i∈(List.range l.length).filter fun i=> !listed.getD i false:=List.mem_filter.2 ⟨List.mem_range.2 hi,by simpa using hc⟩
   have:=List.length_pos_of_mem this
   omega
  refine⟨?_,h.done hB hcov he⟩
  cases hr:Region.ready .any l.toArray listed with
  |nil=>rfl
  |cons i is=>
   have hi:i∈Region.ready .any l.toArray listed:=by rw [hr];simp
   obtain⟨h1,o,h2,_⟩:=mem_ready.1 hi
   have hlt:i<l.length:=by
    have:=(Array.getElem?_eq_some_iff.1 h2).1
    simpa using this
   have h3:=hcov i hlt
   have hl:i<listed.size:=by rw [h.lsize];exact hlt
   rw [Array.getD_eq_getD_getElem?,Array.getElem?_eq_getElem hl] at h1 h3
   simp at h1 h3
   rw [h1] at h3
   cases h3
 |succ fuel ih=>
  intro listed a w h hf
  refine⟨fun hr=>h.done hB (hall listed h.lsize hr) he,fun i hi=>?_⟩
  obtain⟨hun,o,hoi,hwt⟩:=mem_ready.1 hi
  have hoi':l[i]? =some o:=by simpa using hoi
  have hlt:i<l.length:=(List.getElem?_eq_some_iff.1 hoi').1
  have hl:i<listed.size:=by rw [h.lsize];exact hlt
  have hunf:listed.getD i false=false:=by
   rw [Array.getD_eq_getD_getElem?,Array.getElem?_eq_getElem hl] at hun ⊢
   exact hun
  have hg:=h.grow hB (owes_get i ho hoi') hoi' (fun j hj=>by
   obtain⟨e,hem,rfl⟩:=List.mem_map.1 hj
   rw [List.mem_filter] at hem
   exact hwt e (by simpa using hem.1) hem.2)
  have next: ∀u w',Only [] w w'→(Ps[i]?.getD fun _ _=>True) u w'→wpAny P .any l.toArray Q fuel (listed.setIfInBounds i true) (a.put o.dst u) w':=fun u w' h1 h2=>
   ih _ _ _ (h.step hB hm hoi' hun h1 h2) (by have:=range_filter_set listed hlt h.lsize hunf;omega)
  unfold wpOp
  simp only [hoi]
  unfold growIf at hg
  by_cases hw:Region.wanted o (yielded l.toArray a.tmps)=true
  ·rw [if_pos hw] at hg ⊢
   left
   unfold growAt at hg
   unfold Oper.wp
   generalize (execOp a.eval o).run P w=r at hg ⊢
   cases r with
   |ok n w'=>
    cases n<;>simp only [growUpon] at hg<;>simp only [Oper.upon]
    case value u=>exact next u w' hg.1 hg.2
    case skip=>exact next undef w' hg.1 hg.2
    case enter f args=>exact hg.mono fun e w'' ⟨v,hev,h1,h2⟩=>by subst hev;exact next v w'' h1 h2
   |halt x w'=>simp only [growUpon] at hg
  ·rw [if_neg hw] at hg ⊢
   exact next undef w (Only.refl _ _) hg
theorem wp_region_typed {id:Nat} (hm:P.follows .mixedOrders=true) (Ps:List VP) (hB:typB l a.tmps.size=true) (hl: ∀p∈Ps,Lasts p) (ho:owes P l Ps a w l Ps) (he: ∀w',Only [] w w'→withs l Ps w' (fun a=>Q .normal a w') (List.range l.length) a):
  (Code.region id l.toArray true).wp P Q a w:=by
 refine wp_region_any hm (way_any hB hl ho he _ _ _ _ ⟨(Only.refl [] w).drew,rfl,rfl,by simp,fun t _=>rfl,fun i hi=>?_⟩ ?_)
 ·rw [Array.getD_eq_getD_getElem?,Array.getElem?_replicate] at hi
  split at hi<;>simp at hi
 ·refine Nat.le_trans (List.length_filter_le _ _) ?_
  simp
theorem Way.done_n (h:Way l Ps a0 w0 listed a w) (hB:typB l a0.tmps.size=true) {n:Nat} (hall: ∀i,i<n→listed.getD i false=true) (hrest: ∀i,n≤i→listed.getD i false=false) {K:Act→World→Prop} (he: ∀w,Only [] w0 w→withs l Ps w (fun a=>K a w) (List.range n) a0):K a w:=by
 obtain⟨hns,hsp⟩:=typB_spec hB
 have h1:=withs_lays a (List.range n) a0 (he w h.only) (fun i hi d hd=>h.typed i (hall i (List.mem_range.1 hi)) d hd)
 have e:lays l a (List.range n) a0=a:=by
  have hs:(lays l a (List.range n) a0).tmps.size=a.tmps.size:=by rw [lays_size,h.size]
  have hd:(lays l a (List.range n) a0).defers=a.defers:=by rw [lays_defers,h.defers]
  have ht:(lays l a (List.range n) a0).tmps=a.tmps:=by
   apply Array.ext_getElem?
   intro t
   apply get_of_getD hs
   apply lays_get
   by_cases hex: ∃i,i<n∧dstOf l i=some t
   ·obtain⟨i,hin,hi⟩:=hex
    right
    cases hx:l[i]? with
    |none=>unfold dstOf at hi;rw [hx] at hi;cases hi
    |some x=>
     have hi2:=hi
     unfold dstOf at hi2
     rw [hx] at hi2
     exact⟨((hsp i x hx).1 t hi2).1,i,List.mem_range.2 hin,hi⟩
   ·left
    refine (h.off t fun i hi hc=>hex ⟨i,?_,hc⟩).symm
    apply Decidable.byContradiction
    intro hn
    rw [hrest i (by omega)] at hi
    cases hi
  generalize lays l a (List.range n) a0=b at hs hd ht
  cases a;cases b
  simp only at hd ht
  rw [hd,ht]
 rwa [e] at h1
def back (l:List Oper):Nat→List Nat→List Nat
 |0,S=>S
 |i+1,S=>back l i (if S.contains i then (match l[i]? with|some o=>waits o|none=>[])++S else S)
theorem back_all {l:List Oper} {p:Nat→Prop} (hp: ∀i o,p i→l[i]? =some o→ ∀j∈waits o,p j): ∀(n:Nat) (S:List Nat),(∀ k∈S,p k)→ ∀k∈back l n S,p k
 |0,_,h=>h
 |n+1,S,h=>by
  unfold back
  apply back_all hp
  intro k hk
  by_cases hc:S.contains n=true
  ·rw [if_pos hc] at hk
   rcases List.mem_append.1 hk with hk|hk
   ·have hn:p n:=h n (by simpa using hc)
    cases ho:l[n]? with
    |none=>rw [ho] at hk;cases hk
    |some o=>rw [ho] at hk;exact hp n o hn ho k hk
   ·exact h k hk
  ·rw [if_neg hc] at hk
   exact h k hk
def tailB (l:List Oper) (n:Nat):Bool:=
 decide (n≤l.length) && (l.drop n).all (fun o=>(List.range n).all fun i=>(back l l.length (waits o)).contains i) && Region.seqB .any l.toArray (l.drop n).length n ((List.range l.length).map fun i=>decide (i<n)).toArray
theorem way_tail {n:Nat} (hB:typB l a0.tmps.size=true) (hT:tailB l n=true) (hm: ∀p∈Ps,Lasts p) (ho:owes P l Ps a0 w0 (l.take n) Ps) (he: ∀w,Only [] w0 w→withs l Ps w (fun a=>wpList P l.toArray Q (l.drop n) a w) (List.range n) a0):
  ∀(f:Nat) (listed:Array Bool) (a:Act) (w:World),Way l Ps a0 w0 listed a w→(∀ i o,listed.getD i false=true→l[i]? =some o→ ∀j∈waits o,listed.getD j false=true)→(∀ i,n≤i→listed.getD i false=false)→((List.range n).filter fun i=> !listed.getD i false).length=f→wpAny P .any l.toArray Q (f+(l.length-n)) listed a w:=by
 obtain⟨hns,hsp⟩:=typB_spec hB
 unfold tailB at hT
 simp only [Bool.and_eq_true,decide_eq_true_eq] at hT
 obtain⟨⟨hn,ht1⟩,ht2⟩:=hT
 intro f
 induction f with
 |zero=>
  intro listed a w h _ hrest hf
  have hcov: ∀i,i<n→listed.getD i false=true:=fun i hi=>by
   apply Decidable.byContradiction
   intro hc
   have:i∈(List.range n).filter fun i=> !listed.getD i false:=List.mem_filter.2 ⟨List.mem_range.2 hi,by simpa using hc⟩
   have:=List.length_pos_of_mem this
   omega
  have hw:=h.done_n hB hcov hrest he
  have e:listed=((List.range l.length).map fun i=>decide (i<n)).toArray:=by
   apply Array.ext
   ·simp [h.lsize]
   ·intro i h1 h2
    have hil:i<l.length:=by rw [← h.lsize];exact h1
    simp only [List.getElem_toArray,List.getElem_map,List.getElem_range]
    by_cases hin:i<n
    ·have:=hcov i hin
     rw [Array.getD_eq_getD_getElem?,Array.getElem?_eq_getElem h1] at this
     simpa [hin] using this
    ·have:=hrest i (by omega)
     rw [Array.getD_eq_getD_getElem?,Array.getElem?_eq_getElem h1] at this
     simpa [hin] using this
  have:=wpAny_of_seq (P:=P) (Q':=Q) (md:= .any) (ops:=l.toArray) (l.drop n) n listed a w (fun j=>by simp) (by rw [e];exact ht2) hw
  rw [Nat.zero_add]
  rwa [List.length_drop] at this
 |succ f ih=>
  intro listed a w h hdown hrest hf
  have hlow: ∃k,k<n∧listed.getD k false=false:=by
   have:0<((List.range n).filter fun i=> !listed.getD i false).length:=by omega
   obtain⟨k,hk⟩:=List.exists_mem_of_length_pos this
   rw [List.mem_filter,List.mem_range] at hk
   exact⟨k,hk.1,by simpa using hk.2⟩
  rw [show f+1+(l.length-n)=(f+(l.length-n))+1 by omega]
  refine⟨fun hr=>?_,fun i hi=>?_⟩
  ·exfalso
   obtain⟨k,hk,hu⟩:=hlow
   induction k using Nat.strongRecOn with
   |ind k ihk=>
    have hkl:k<l.length:=by omega
    by_cases hall: ∀e∈(l[k]).after,Region.binds .any e=true→listed.getD e.on false=true
    ·have hmem:k∈Region.ready .any l.toArray listed:=by
      refine mem_ready.2 ⟨?_,l[k],by simp [hkl],fun e hem hb=>hall e (by simpa using hem) hb⟩
      have hl:k<listed.size:=by rw [h.lsize];exact hkl
      rw [Array.getD_eq_getD_getElem?,Array.getElem?_eq_getElem hl] at hu ⊢
      exact hu
     rw [hr] at hmem
     cases hmem
    ·obtain⟨e,h1⟩:=Classical.not_forall.1 hall
     obtain⟨hem,h2⟩:=Classical.not_forall.1 h1
     obtain⟨hb,hne⟩:=Classical.not_forall.1 h2
     have hlt:=(hsp k l[k] (by simp [hkl])).2.1 e.on (List.mem_map.2 ⟨e,List.mem_filter.2 ⟨by simpa using hem,hb⟩,rfl⟩)
     exact ihk e.on hlt (by omega) (by simpa using hne)
  ·obtain⟨hun,o,hoi,hwt⟩:=mem_ready.1 hi
   have hoi':l[i]? =some o:=by simpa using hoi
   have hlt:i<l.length:=(List.getElem?_eq_some_iff.1 hoi').1
   have hl:i<listed.size:=by rw [h.lsize];exact hlt
   have hunf:listed.getD i false=false:=by
    rw [Array.getD_eq_getD_getElem?,Array.getElem?_eq_getElem hl] at hun ⊢
    exact hun
   have hin:i<n:=by
    apply Decidable.byContradiction
    intro hc
    obtain⟨k,hk,hu⟩:=hlow
    have hmem:o∈l.drop n:=List.mem_iff_getElem?.2 ⟨i-n,by rw [List.getElem?_drop,show n+(i-n)=i by omega];exact hoi'⟩
    have h1:=List.all_eq_true.1 (List.all_eq_true.1 ht1 o hmem) k (List.mem_range.2 hk)
    have h2:k∈back l l.length (waits o):=by simpa using h1
    have hw: ∀j∈waits o,listed.getD j false=true:=fun j hj=>by
     obtain⟨e,he1,rfl⟩:=List.mem_map.1 hj
     rw [List.mem_filter] at he1
     exact hwt e (by simpa using he1.1) he1.2
    have:=back_all hdown l.length (waits o) hw k h2
    rw [hu] at this
    cases this
   have hoit:(l.take n)[i]? =some o:=by rw [List.getElem?_take_of_lt hin];exact hoi'
   have hg:=h.grow hB (owes_get i ho hoit) hoi' (fun j hj=>by
    obtain⟨e,hem,rfl⟩:=List.mem_map.1 hj
    rw [List.mem_filter] at hem
    exact hwt e (by simpa using hem.1) hem.2)
   have next: ∀u w',Only [] w w'→(Ps[i]?.getD fun _ _=>True) u w'→wpAny P .any l.toArray Q (f+(l.length-n)) (listed.setIfInBounds i true) (a.put o.dst u) w':=fun u w' h1 h2=>
    ih _ _ _ (h.step hB hm hoi' hun h1 h2) (fun j x hj hx t ht=>by
     rw [getD_set _ _ _ hl] at hj ⊢
     by_cases hij:i=j
     ·subst hij
      rw [hoi'] at hx
      injection hx with hx
      subst hx
      obtain⟨e,he1,rfl⟩:=List.mem_map.1 ht
      rw [List.mem_filter] at he1
      rw [hwt e (by simpa using he1.1) he1.2,Bool.or_true]
     ·have hj':listed.getD j false=true:=by simpa [hij] using hj
      rw [hdown j x hj' hx t ht,Bool.or_true]) (fun j hj=>by rw [getD_set _ _ _ hl,hrest j hj];simp;omega) (by
     have e:((List.range n).filter fun i_1=> !(listed.setIfInBounds i true).getD i_1 false).length+1=((List.range n).filter fun i=> !listed.getD i false).length:=by
      have hmem:i∈(List.range n).filter fun i=> !listed.getD i false:=by rw [List.mem_filter];exact⟨List.mem_range.2 hin,by rw [hunf];rfl⟩
      have hnd:((List.range n).filter fun i=> !listed.getD i false).Nodup:=List.nodup_range.filter _
      have e:((List.range n).filter fun j=> !(listed.setIfInBounds i true).getD j false)=((List.range n).filter fun i=> !listed.getD i false).erase i:=by
       rw [hnd.erase_eq_filter,List.filter_filter]
       apply List.filter_congr
       intro j _
       rw [getD_set _ _ _ hl]
       by_cases h:i=j
       ·subst h;simp
       ·have h':j≠i:=fun hc=>h hc.symm
        simp [h,h']
      rw [e,List.length_erase_of_mem hmem]
      have:=List.length_pos_of_mem hmem
      omega
     omega)
   unfold wpOp
   simp only [hoi]
   unfold growIf at hg
   by_cases hw:Region.wanted o (yielded l.toArray a.tmps)=true
   ·rw [if_pos hw] at hg ⊢
    left
    unfold growAt at hg
    unfold Oper.wp
    generalize (execOp a.eval o).run P w=r at hg ⊢
    cases r with
    |ok n w'=>
     cases n<;>simp only [growUpon] at hg<;>simp only [Oper.upon]
     case value u=>exact next u w' hg.1 hg.2
     case skip=>exact next undef w' hg.1 hg.2
     case enter f args=>exact hg.mono fun e w'' ⟨v,hev,h1,h2⟩=>by subst hev;exact next v w'' h1 h2
    |halt x w'=>simp only [growUpon] at hg
   ·rw [if_neg hw] at hg ⊢
    exact next undef w (Only.refl _ _) hg
theorem wp_region_typed_tail {id:Nat} (n:Nat) (hm:P.follows .mixedOrders=true) (Ps:List VP) (hB:typB l a.tmps.size=true) (hT:tailB l n=true) (hl: ∀p∈Ps,Lasts p) (ho:owes P l Ps a w (l.take n) Ps) (he: ∀w',Only [] w w'→withs l Ps w' (fun a=>wpList P l.toArray Q (l.drop n) a w') (List.range n) a):
  (Code.region id l.toArray true).wp P Q a w:=by
 have hn:n≤l.length:=by
  unfold tailB at hT
  simp only [Bool.and_eq_true,decide_eq_true_eq] at hT
  exact hT.1.1
 have hrep: ∀i,(Array.replicate l.toArray.size false).getD i false=false:=fun i=>by
  rw [Array.getD_eq_getD_getElem?,Array.getElem?_replicate]
  split<;>rfl
 have hway:Way l Ps a w (Array.replicate l.toArray.size false) a {w with drawn:=w.drawn+1}:=⟨(Only.refl [] w).drew,rfl,rfl,by simp,fun t _=>rfl,fun i hi=>by rw [hrep] at hi;cases hi⟩
 have h:=way_tail hB hT hl ho he _ _ _ _ hway (fun i _ hi=>by rw [hrep] at hi;cases hi) (fun i _=>hrep i) rfl
 have e:((List.range n).filter fun i=> !(Array.replicate l.toArray.size false).getD i false).length=n:=by
  rw [List.filter_eq_self.2 (fun i _=>by rw [hrep];rfl),List.length_range]
 rw [e,show n+(l.length-n)=l.toArray.size by simp;omega] at h
 exact wp_region_any hm h
end
end
def isV (x:Value):VP:=fun u _=>u=x
theorem isV.self (x:Value) (w:World):isV x x w:=rfl
theorem isV.lasts (x:Value):Lasts (isV x):=fun _ _ _ h _=>h
theorem all_isV {X:Value} {w:World} {K:Value→Prop} (h:K X): ∀v,isV X v w→K v:=fun _ h'=>by
 have h2:_=X:=h'
 rw [h2]
 exact h
theorem grow_of {P:Program} {f:FuncId} {args:Array Value} {w:World} {v:Value} (h:Calls P f args w fun e w'=>e= .returned v∧Only [] w w'):
  Calls P f args w fun e w''=> ∃u,e= .returned u∧Only [] w w''∧isV v u w'':=h.mono fun _ _ ⟨he,ho⟩=>⟨v,he,ho,rfl⟩
theorem grow_same {P:Program} {f:FuncId} {args:Array Value} {w:World} {v:Value} (h:Calls P f args w fun e w'=>e= .returned v∧w=w'):
  Calls P f args w fun e w''=> ∃u,e= .returned u∧Only [] w w''∧isV v u w'':=h.mono fun _ _ ⟨he,ho⟩=>⟨v,he,ho▸Only.refl _ _,rfl⟩
theorem withs_nil {l:List Oper} {Ps:List VP} {w:World} {K:Act→Prop} {a:Act} (h:K a):withs l Ps w K [] a:=h
theorem withs_some {l:List Oper} {Ps:List VP} {w:World} {K:Act→Prop} {a:Act} {i:Nat} {is:List Nat} (d:Nat) (p:VP) (hd:dstOf l i=some d) (hp:(Ps[i]?.getD fun _ _=>True)=p) (h: ∀v,p v w→withs l Ps w K is (a.put (some d) v)):withs l Ps w K (i::is) a:=by
 unfold withs
 have hd':(l[i]?).bind (·.dst)=some d:=hd
 rw [hd',hp]
 exact h
theorem withs_of {l:List Oper} {Ps:List VP} {w:World} {K:Act→Prop} {a:Act} {is js:List Nat} (e:is=js) (h:withs l Ps w K js a):withs l Ps w K is a:=e▸h
theorem owes_cons {P:Program} {l:List Oper} {Ps:List VP} {a0:Act} {w0:World} {o:Oper} {os:List Oper} {p:VP} {ps:List VP} (h: ∀w,Only [] w0 w→withs l Ps w (fun a=>growIf P l o a w p) (waits o) a0) (h2:owes P l Ps a0 w0 os ps):owes P l Ps a0 w0 (o::os) (p::ps):=⟨h,h2⟩
theorem owes_nil {P:Program} {l:List Oper} {Ps:List VP} {a0:Act} {w0:World} {ps:List VP}:owes P l Ps a0 w0 [] ps:=trivial
end Go.Proofs.YtigpnopeacicpaaGreatDoor
namespace Go.Proofs.YtigpnopeacicpaaGreatDoor
open Go.RowKit
section
variable {P:Program}
def owes2 (P:Program) (l:List Oper) (Ps:List VP) (a0:Act) (w0:World):List Oper→List (List Nat)→List VP→Prop
 |[],_,_=>True
 |_::_,[],_=>False
 |_::_,_::_,[]=>False
 |o::os,js::jss,p::ps=>(∀ w,Only [] w0 w→withs l Ps w (fun a=>growIf P l o a w p) js a0)∧owes2 P l Ps a0 w0 os jss ps
def needB (l:List Oper):List Oper→List (List Nat)→Bool
 |[],_=>true
 |_::_,[]=>false
 |o::os,js::jss=>js.all (fun i=>(waits o).contains i) && (List.range l.length).all (fun i=>match dstOf l i with|none=>true|some d=>js.contains i || !(o.looksAt l.toArray).contains d) && needB l os jss
theorem owes2_get {l:List Oper} {Ps:List VP} {a0:Act} {w0:World}: ∀{os:List Oper} {jss:List (List Nat)} {ps:List VP} (k:Nat) {o:Oper},owes2 P l Ps a0 w0 os jss ps→needB l os jss=true→os[k]? =some o→
  ∃p js,ps[k]? =some p∧(∀ i∈js,i∈waits o)∧(∀ i d,dstOf l i=some d→i∈js∨d∉o.looksAt l.toArray)∧ ∀w,Only [] w0 w→withs l Ps w (fun a=>growIf P l o a w p) js a0
 |[],_,_,_,_,_,_,h=>by simp at h
 |_::_,[],_,_,_,h,_,_=>h.elim
 |_::_,_::_,[],_,_,h,_,_=>h.elim
 |o'::os,js::jss,p::ps,0,o,h,hn,he=>by
  simp only [List.getElem?_cons_zero,Option.some.injEq] at he
  subst he
  simp only [needB,Bool.and_eq_true] at hn
  obtain⟨⟨h1,h2⟩,_⟩:=hn
  refine⟨p,js,rfl,fun i hi=>by simpa using List.all_eq_true.1 h1 i hi,fun i d hi=>?_,h.1⟩
  have hil:i<l.length:=by
   unfold dstOf at hi
   cases hx:l[i]? with
   |none=>rw [hx] at hi;cases hi
   |some x=>exact (List.getElem?_eq_some_iff.1 hx).1
  have h6:=List.all_eq_true.1 h2 i (List.mem_range.2 hil)
  simp only [hi,Bool.or_eq_true,Bool.not_eq_true',List.contains_iff_mem] at h6
  rcases h6 with h6|h6
  ·exact .inl h6
  ·exact .inr (by simpa using h6)
 |_::os,_::jss,_::ps,k+1,o,h,hn,he=>by
  simp only [needB,Bool.and_eq_true] at hn
  simpa using owes2_get k h.2 hn.2 (by simpa using he)
section
variable {l:List Oper} {Ps:List VP} {jss:List (List Nat)} {a0 a:Act} {w0 w:World} {listed:Array Bool} {Q:Exit→Act→World→Prop}
theorem Way.grow2 (h:Way l Ps a0 w0 listed a w) (hB:typB l a0.tmps.size=true) {k:Nat} {o:Oper} (ho: ∃p js,Ps[k]? =some p∧(∀ i∈js,i∈waits o)∧(∀ i d,dstOf l i=some d→i∈js∨d∉o.looksAt l.toArray)∧ ∀w,Only [] w0 w→withs l Ps w (fun a=>growIf P l o a w p) js a0) (hk:l[k]? =some o) (hw: ∀i∈waits o,listed.getD i false=true):
  growIf P l o a w (Ps[k]?.getD fun _ _=>True):=by
 obtain⟨hns,hsp⟩:=typB_spec hB
 obtain⟨p,js,hp,hjw,h3,hob⟩:=ho
 rw [hp]
 have hg:=withs_lays a js a0 (hob w h.only) (fun i hi d hd=>h.typed i (hw i (hjw i hi)) d hd)
 have key: ∀t,t∈o.looksAt l.toArray→(lays l a js a0).tmps.getD t undef=a.tmps.getD t undef:=fun t ht=>by
  apply lays_get
  by_cases hex: ∃i,dstOf l i=some t
  ·obtain⟨i,hi⟩:=hex
   right
   rcases h3 i t hi with h4|h4
   ·refine⟨?_,i,h4,hi⟩
    unfold dstOf at hi
    cases hx:l[i]? with
    |none=>rw [hx] at hi;cases hi
    |some x=>rw [hx] at hi;exact ((hsp i x hx).1 t hi).1
   ·exact absurd ht h4
  ·left
   exact (h.off t fun i _ hc=>hex ⟨i,hc⟩).symm
 have e1:execOp (lays l a js a0).eval o=execOp a.eval o:=execOp_congr o (fun cs b=>Region.noSelect_spec hns k o cs b (by simpa using hk)) fun x hx=>eval_of_get x fun t ht=>key t (by
  subst ht
  exact List.mem_append_left _ (List.mem_filterMap.2 ⟨.tmp t,by simpa using hx,rfl⟩))
 have e2:Region.wanted o (yielded l.toArray (lays l a js a0).tmps)=Region.wanted o (yielded l.toArray a.tmps):=by
  unfold Region.wanted
  cases hgd:o.guard with
  |none=>rfl
  |some gw=>
   obtain⟨g,want⟩:=gw
   have hy:yielded l.toArray (lays l a js a0).tmps g=yielded l.toArray a.tmps g:=by
    unfold yielded
    cases ht:(l.toArray[g]?).bind (·.dst) with
    |none=>rfl
    |some t=>
     have hk2:=key t (by unfold Oper.looksAt;rw [hgd];simp only [ht];simp)
     have:=get_of_getD (by rw [lays_size,h.size]) hk2
     simp only [Option.bind_some,this]
   simp only [hy]
 unfold growIf growAt at hg ⊢
 rw [e1,e2] at hg
 exact hg
theorem way_any2 (hB:typB l a0.tmps.size=true) (hm: ∀p∈Ps,Lasts p) (ho:owes2 P l Ps a0 w0 l jss Ps) (hnd:needB l l jss=true) (he: ∀w,Only [] w0 w→withs l Ps w (fun a=>Q .normal a w) (List.range l.length) a0):
  ∀(fuel:Nat) (listed:Array Bool) (a:Act) (w:World),Way l Ps a0 w0 listed a w→((List.range l.length).filter fun i=> !listed.getD i false).length≤fuel→wpAny P .any l.toArray Q fuel listed a w:=by
 obtain⟨hns,hsp⟩:=typB_spec hB
 have hall: ∀(listed:Array Bool),listed.size=l.length→Region.ready .any l.toArray listed=[]→ ∀i,i<l.length→listed.getD i false=true:=fun listed hs hr i=>by
  induction i using Nat.strongRecOn with
  |ind i ih=>
   intro hi
   apply Decidable.byContradiction
   intro hc
   have hmem:i∈Region.ready .any l.toArray listed:=by
    refine mem_ready.2 ⟨?_,l[i],by simp [hi],fun e hem hb=>?_⟩
    ·have hl:i<listed.size:=by omega
     rw [Array.getD_eq_getD_getElem?,Array.getElem?_eq_getElem hl] at hc ⊢
     simpa using hc
    ·have hwt:e.on∈waits l[i]:=List.mem_map.2 ⟨e,List.mem_filter.2 ⟨by simpa using hem,hb⟩,rfl⟩
     have hlt:=(hsp i l[i] (by simp [hi])).2.1 e.on hwt
     exact ih e.on hlt (by omega)
   rw [hr] at hmem
   cases hmem
 intro fuel
 induction fuel with
 |zero=>
  intro listed a w h hf
  have hcov: ∀i,i<l.length→listed.getD i false=true:=fun i hi=>by
   apply Decidable.byContradiction
   intro hc
   have:i∈(List.range l.length).filter fun i=> !listed.getD i false:=List.mem_filter.2 ⟨List.mem_range.2 hi,by simpa using hc⟩
   have:=List.length_pos_of_mem this
   omega
  refine⟨?_,h.done hB hcov he⟩
  cases hr:Region.ready .any l.toArray listed with
  |nil=>rfl
  |cons i is=>
   have hi:i∈Region.ready .any l.toArray listed:=by rw [hr];simp
   obtain⟨h1,o,h2,_⟩:=mem_ready.1 hi
   have hlt:i<l.length:=by
    have:=(Array.getElem?_eq_some_iff.1 h2).1
    simpa using this
   have h3:=hcov i hlt
   have hl:i<listed.size:=by rw [h.lsize];exact hlt
   rw [Array.getD_eq_getD_getElem?,Array.getElem?_eq_getElem hl] at h1 h3
   simp at h1 h3
   rw [h1] at h3
   cases h3
 |succ fuel ih=>
  intro listed a w h hf
  refine⟨fun hr=>h.done hB (hall listed h.lsize hr) he,fun i hi=>?_⟩
  obtain⟨hun,o,hoi,hwt⟩:=mem_ready.1 hi
  have hoi':l[i]? =some o:=by simpa using hoi
  have hlt:i<l.length:=(List.getElem?_eq_some_iff.1 hoi').1
  have hl:i<listed.size:=by rw [h.lsize];exact hlt
  have hunf:listed.getD i false=false:=by
   rw [Array.getD_eq_getD_getElem?,Array.getElem?_eq_getElem hl] at hun ⊢
   exact hun
  have hg:=h.grow2 hB (owes2_get i ho hnd hoi') hoi' (fun j hj=>by
   obtain⟨e,hem,rfl⟩:=List.mem_map.1 hj
   rw [List.mem_filter] at hem
   exact hwt e (by simpa using hem.1) hem.2)
  have next: ∀u w',Only [] w w'→(Ps[i]?.getD fun _ _=>True) u w'→wpAny P .any l.toArray Q fuel (listed.setIfInBounds i true) (a.put o.dst u) w':=fun u w' h1 h2=>
   ih _ _ _ (h.step hB hm hoi' hun h1 h2) (by have:=range_filter_set listed hlt h.lsize hunf;omega)
  unfold wpOp
  simp only [hoi]
  unfold growIf at hg
  by_cases hw:Region.wanted o (yielded l.toArray a.tmps)=true
  ·rw [if_pos hw] at hg ⊢
   left
   unfold growAt at hg
   unfold Oper.wp
   generalize (execOp a.eval o).run P w=r at hg ⊢
   cases r with
   |ok n w'=>
    cases n<;>simp only [growUpon] at hg<;>simp only [Oper.upon]
    case value u=>exact next u w' hg.1 hg.2
    case skip=>exact next undef w' hg.1 hg.2
    case enter f args=>exact hg.mono fun e w'' ⟨v,hev,h1,h2⟩=>by subst hev;exact next v w'' h1 h2
   |halt x w'=>simp only [growUpon] at hg
  ·rw [if_neg hw] at hg ⊢
   exact next undef w (Only.refl _ _) hg
theorem wp_region_typed2 {id:Nat} (hm:P.follows .mixedOrders=true) (Ps:List VP) (jss:List (List Nat)) (hnd:needB l l jss=true) (hB:typB l a.tmps.size=true) (hl: ∀p∈Ps,Lasts p) (ho:owes2 P l Ps a w l jss Ps) (he: ∀w',Only [] w w'→withs l Ps w' (fun a=>Q .normal a w') (List.range l.length) a):
  (Code.region id l.toArray true).wp P Q a w:=by
 refine wp_region_any hm (way_any2 hB hl ho hnd he _ _ _ _ ⟨(Only.refl [] w).drew,rfl,rfl,by simp,fun t _=>rfl,fun i hi=>?_⟩ ?_)
 ·rw [Array.getD_eq_getD_getElem?,Array.getElem?_replicate] at hi
  split at hi<;>simp at hi
 ·refine Nat.le_trans (List.length_filter_le _ _) ?_
  simp
theorem way_tail2 {n:Nat} (hB:typB l a0.tmps.size=true) (hT:tailB l n=true) (hm: ∀p∈Ps,Lasts p) (ho:owes2 P l Ps a0 w0 (l.take n) jss Ps) (hnd:needB l (l.take n) jss=true) (he: ∀w,Only [] w0 w→withs l Ps w (fun a=>wpList P l.toArray Q (l.drop n) a w) (List.range n) a0):
  ∀(f:Nat) (listed:Array Bool) (a:Act) (w:World),Way l Ps a0 w0 listed a w→(∀ i o,listed.getD i false=true→l[i]? =some o→ ∀j∈waits o,listed.getD j false=true)→(∀ i,n≤i→listed.getD i false=false)→((List.range n).filter fun i=> !listed.getD i false).length=f→wpAny P .any l.toArray Q (f+(l.length-n)) listed a w:=by
 obtain⟨hns,hsp⟩:=typB_spec hB
 unfold tailB at hT
 simp only [Bool.and_eq_true,decide_eq_true_eq] at hT
 obtain⟨⟨hn,ht1⟩,ht2⟩:=hT
 intro f
 induction f with
 |zero=>
  intro listed a w h _ hrest hf
  have hcov: ∀i,i<n→listed.getD i false=true:=fun i hi=>by
   apply Decidable.byContradiction
   intro hc
   have:i∈(List.range n).filter fun i=> !listed.getD i false:=List.mem_filter.2 ⟨List.mem_range.2 hi,by simpa using hc⟩
   have:=List.length_pos_of_mem this
   omega
  have hw:=h.done_n hB hcov hrest he
  have e:listed=((List.range l.length).map fun i=>decide (i<n)).toArray:=by
   apply Array.ext
   ·simp [h.lsize]
   ·intro i h1 h2
    have hil:i<l.length:=by rw [← h.lsize];exact h1
    simp only [List.getElem_toArray,List.getElem_map,List.getElem_range]
    by_cases hin:i<n
    ·have:=hcov i hin
     rw [Array.getD_eq_getD_getElem?,Array.getElem?_eq_getElem h1] at this
     simpa [hin] using this
    ·have:=hrest i (by omega)
     rw [Array.getD_eq_getD_getElem?,Array.getElem?_eq_getElem h1] at this
     simpa [hin] using this
  have:=wpAny_of_seq (P:=P) (Q':=Q) (md:= .any) (ops:=l.toArray) (l.drop n) n listed a w (fun j=>by simp) (by rw [e];exact ht2) hw
  rw [Nat.zero_add]
  rwa [List.length_drop] at this
 |succ f ih=>
  intro listed a w h hdown hrest hf
  have hlow: ∃k,k<n∧listed.getD k false=false:=by
   have:0<((List.range n).filter fun i=> !listed.getD i false).length:=by omega
   obtain⟨k,hk⟩:=List.exists_mem_of_length_pos this
   rw [List.mem_filter,List.mem_range] at hk
   exact⟨k,hk.1,by simpa using hk.2⟩
  rw [show f+1+(l.length-n)=(f+(l.length-n))+1 by omega]
  refine⟨fun hr=>?_,fun i hi=>?_⟩
  ·exfalso
   obtain⟨k,hk,hu⟩:=hlow
   induction k using Nat.strongRecOn with
   |ind k ihk=>
    have hkl:k<l.length:=by omega
    by_cases hall: ∀e∈(l[k]).after,Region.binds .any e=true→listed.getD e.on false=true
    ·have hmem:k∈Region.ready .any l.toArray listed:=by
      refine mem_ready.2 ⟨?_,l[k],by simp [hkl],fun e hem hb=>hall e (by simpa using hem) hb⟩
      have hl:k<listed.size:=by rw [h.lsize];exact hkl
      rw [Array.getD_eq_getD_getElem?,Array.getElem?_eq_getElem hl] at hu ⊢
      exact hu
     rw [hr] at hmem
     cases hmem
    ·obtain⟨e,h1⟩:=Classical.not_forall.1 hall
     obtain⟨hem,h2⟩:=Classical.not_forall.1 h1
     obtain⟨hb,hne⟩:=Classical.not_forall.1 h2
     have hlt:=(hsp k l[k] (by simp [hkl])).2.1 e.on (List.mem_map.2 ⟨e,List.mem_filter.2 ⟨by simpa using hem,hb⟩,rfl⟩)
     exact ihk e.on hlt (by omega) (by simpa using hne)
  ·obtain⟨hun,o,hoi,hwt⟩:=mem_ready.1 hi
   have hoi':l[i]? =some o:=by simpa using hoi
   have hlt:i<l.length:=(List.getElem?_eq_some_iff.1 hoi').1
   have hl:i<listed.size:=by rw [h.lsize];exact hlt
   have hunf:listed.getD i false=false:=by
    rw [Array.getD_eq_getD_getElem?,Array.getElem?_eq_getElem hl] at hun ⊢
    exact hun
   have hin:i<n:=by
    apply Decidable.byContradiction
    intro hc
    obtain⟨k,hk,hu⟩:=hlow
    have hmem:o∈l.drop n:=List.mem_iff_getElem?.2 ⟨i-n,by rw [List.getElem?_drop,show n+(i-n)=i by omega];exact hoi'⟩
    have h1:=List.all_eq_true.1 (List.all_eq_true.1 ht1 o hmem) k (List.mem_range.2 hk)
    have h2:k∈back l l.length (waits o):=by simpa using h1
    have hw: ∀j∈waits o,listed.getD j false=true:=fun j hj=>by
     obtain⟨e,he1,rfl⟩:=List.mem_map.1 hj
     rw [List.mem_filter] at he1
     exact hwt e (by simpa using he1.1) he1.2
    have:=back_all hdown l.length (waits o) hw k h2
    rw [hu] at this
    cases this
   have hoit:(l.take n)[i]? =some o:=by rw [List.getElem?_take_of_lt hin];exact hoi'
   have hg:=h.grow2 hB (owes2_get i ho hnd hoit) hoi' (fun j hj=>by
    obtain⟨e,hem,rfl⟩:=List.mem_map.1 hj
    rw [List.mem_filter] at hem
    exact hwt e (by simpa using hem.1) hem.2)
   have next: ∀u w',Only [] w w'→(Ps[i]?.getD fun _ _=>True) u w'→wpAny P .any l.toArray Q (f+(l.length-n)) (listed.setIfInBounds i true) (a.put o.dst u) w':=fun u w' h1 h2=>
    ih _ _ _ (h.step hB hm hoi' hun h1 h2) (fun j x hj hx t ht=>by
     rw [getD_set _ _ _ hl] at hj ⊢
     by_cases hij:i=j
     ·subst hij
      rw [hoi'] at hx
      injection hx with hx
      subst hx
      obtain⟨e,he1,rfl⟩:=List.mem_map.1 ht
      rw [List.mem_filter] at he1
      rw [hwt e (by simpa using he1.1) he1.2,Bool.or_true]
     ·have hj':listed.getD j false=true:=by simpa [hij] using hj
      rw [hdown j x hj' hx t ht,Bool.or_true]) (fun j hj=>by rw [getD_set _ _ _ hl,hrest j hj];simp;omega) (by
     have e:((List.range n).filter fun i_1=> !(listed.setIfInBounds i true).getD i_1 false).length+1=((List.range n).filter fun i=> !listed.getD i false).length:=by
      have hmem:i∈(List.range n).filter fun i=> !listed.getD i false:=by rw [List.mem_filter];exact⟨List.mem_range.2 hin,by rw [hunf];rfl⟩
      have hnd:((List.range n).filter fun i=> !listed.getD i false).Nodup:=List.nodup_range.filter _
      have e:((List.range n).filter fun j=> !(listed.setIfInBounds i true).getD j false)=((List.range n).filter fun i=> !listed.getD i false).erase i:=by
       rw [hnd.erase_eq_filter,List.filter_filter]
       apply List.filter_congr
       intro j _
       rw [getD_set _ _ _ hl]
       by_cases h:i=j
       ·subst h;simp
       ·have h':j≠i:=fun hc=>h hc.symm
        simp [h,h']
      rw [e,List.length_erase_of_mem hmem]
      have:=List.length_pos_of_mem hmem
      omega
     omega)
   unfold wpOp
   simp only [hoi]
   unfold growIf at hg
   by_cases hw:Region.wanted o (yielded l.toArray a.tmps)=true
   ·rw [if_pos hw] at hg ⊢
    left
    unfold growAt at hg
    unfold Oper.wp
    generalize (execOp a.eval o).run P w=r at hg ⊢
    cases r with
    |ok n w'=>
     cases n<;>simp only [growUpon] at hg<;>simp only [Oper.upon]
     case value u=>exact next u w' hg.1 hg.2
     case skip=>exact next undef w' hg.1 hg.2
     case enter f args=>exact hg.mono fun e w'' ⟨v,hev,h1,h2⟩=>by subst hev;exact next v w'' h1 h2
    |halt x w'=>simp only [growUpon] at hg
   ·rw [if_neg hw] at hg ⊢
    exact next undef w (Only.refl _ _) hg
theorem wp_region_typed_tail2 {id:Nat} (n:Nat) (hm:P.follows .mixedOrders=true) (Ps:List VP) (jss:List (List Nat)) (hnd:needB l (l.take n) jss=true) (hB:typB l a.tmps.size=true) (hT:tailB l n=true) (hl: ∀p∈Ps,Lasts p) (ho:owes2 P l Ps a w (l.take n) jss Ps) (he: ∀w',Only [] w w'→withs l Ps w' (fun a=>wpList P l.toArray Q (l.drop n) a w') (List.range n) a):
  (Code.region id l.toArray true).wp P Q a w:=by
 have hn:n≤l.length:=by
  unfold tailB at hT
  simp only [Bool.and_eq_true,decide_eq_true_eq] at hT
  exact hT.1.1
 have hrep: ∀i,(Array.replicate l.toArray.size false).getD i false=false:=fun i=>by
  rw [Array.getD_eq_getD_getElem?,Array.getElem?_replicate]
  split<;>rfl
 have hway:Way l Ps a w (Array.replicate l.toArray.size false) a {w with drawn:=w.drawn+1}:=⟨(Only.refl [] w).drew,rfl,rfl,by simp,fun t _=>rfl,fun i hi=>by rw [hrep] at hi;cases hi⟩
 have h:=way_tail2 hB hT hl ho hnd he _ _ _ _ hway (fun i _ hi=>by rw [hrep] at hi;cases hi) (fun i _=>hrep i) rfl
 have e:((List.range n).filter fun i=> !(Array.replicate l.toArray.size false).getD i false).length=n:=by
  rw [List.filter_eq_self.2 (fun i _=>by rw [hrep];rfl),List.length_range]
 rw [e,show n+(l.length-n)=l.toArray.size by simp;omega] at h
 exact wp_region_any hm h
end
end
theorem growIf_none' {P:Program} {l:List Oper} {o:Oper} {a:Act} {w:World} {p:VP} (h:o.guard=none) (hh:growAt P o a w p):growIf P l o a w p:=by
 unfold growIf Region.wanted
 rw [h]
 exact hh
theorem growIf_yes' {P:Program} {l:List Oper} {o:Oper} {a:Act} {w:World} {p:VP} {g:Nat} {want:Bool} {d:Nat} (h:o.guard=some (g,want)) (hd:dstOf l g=some d) (hv:a.tmps[d]? =some (.bool want)) (hh:growAt P o a w p):growIf P l o a w p:=by
 have hd':(l.toArray[g]?).bind (·.dst)=some d:=by unfold dstOf at hd;simpa using hd
 unfold growIf Region.wanted yielded
 rw [h]
 simp only [hd',Option.bind_some,hv,beq_self_eq_true,if_true]
 exact hh
theorem withs_mono {l:List Oper} {Ps:List VP} {w:World} {K K':Act→Prop} (h: ∀a,K a→K' a): ∀(is:List Nat) (a:Act),withs l Ps w K is a→withs l Ps w K' is a
 |[],a,hh=>h a hh
 |i::is,a,hh=>by
  unfold withs at hh ⊢
  cases hd:(l[i]?).bind (·.dst) with
  |none=>rw [hd] at hh;exact withs_mono h is a hh
  |some d=>rw [hd] at hh;exact fun v hv=>withs_mono h is _ (hh v hv)
theorem withs_plain {P:Program} {l:List Oper} {Ps:List VP} {w:World} {o:Oper} {p:VP} {js:List Nat} {a0:Act} (hg:o.guard=none) (h:withs l Ps w (fun a=>growAt P o a w p) js a0):withs l Ps w (fun a=>growIf P l o a w p) js a0:=
 withs_mono (fun _ hh=>growIf_none' hg hh) js a0 h
def growG (P:Program) (o:Oper) (d:Nat) (want:Bool) (a:Act) (w:World) (p:VP):Prop:=a.tmps[d]? =some (.bool want)∧growAt P o a w p
theorem withs_guard {P:Program} {l:List Oper} {Ps:List VP} {w:World} {o:Oper} {p:VP} {js:List Nat} {a0:Act} {g d:Nat} {want:Bool} (hg:o.guard=some (g,want)) (hd:dstOf l g=some d) (h:withs l Ps w (fun a=>growG P o d want a w p) js a0):withs l Ps w (fun a=>growIf P l o a w p) js a0:=
 withs_mono (fun _ hh=>growIf_yes' hg hd hh.1 hh.2) js a0 h
theorem owes2_cons {P:Program} {l:List Oper} {Ps:List VP} {a0:Act} {w0:World} {o:Oper} {os:List Oper} {js:List Nat} {jss:List (List Nat)} {p:VP} {ps:List VP} (h: ∀w,Only [] w0 w→withs l Ps w (fun a=>growIf P l o a w p) js a0) (h2:owes2 P l Ps a0 w0 os jss ps):owes2 P l Ps a0 w0 (o::os) (js::jss) (p::ps):=⟨h,h2⟩
theorem owes2_nil {P:Program} {l:List Oper} {Ps:List VP} {a0:Act} {w0:World} {jss:List (List Nat)} {ps:List VP}:owes2 P l Ps a0 w0 [] jss ps:=by unfold owes2;trivial
end Go.Proofs.YtigpnopeacicpaaGreatDoor
