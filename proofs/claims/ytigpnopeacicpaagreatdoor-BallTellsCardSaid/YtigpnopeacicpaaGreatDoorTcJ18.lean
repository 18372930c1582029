/-
  Joined texts.
-/
import Derived.Test.YtigpnopeacicpaaGreatDoorTcGTyp
import Derived.Test.YtigpnopeacicpaaGreatDoorTcDyN
import Derived.Test.YtigpnopeacicpaaGreatDoorTcDyP
namespace Go.Proofs.YtigpnopeacicpaaGreatDoor
open Go.RowKit
section
variable {P:Program}
section
variable {l:List Oper} {Ps:List VP} {a0 a:Act} {w0 w:World} {listed:Array Bool} {Q:Exit→Act→World→Prop} {jss:List (List Nat)}
def allocB (l:List Oper) (al:List Nat) (T:TypeId):Bool:=al.all fun k=>match l[k]? with
 |none=>false
 |some o=>o.guard.isNone && (match o.op with| .alloc t=>t == T|_=>false) && (match o.dst with|some _=>true|none=>false)
theorem allocB_spec {al:List Nat} {T:TypeId} (h:allocB l al T=true) (k:Nat) (hk:k∈al): ∃o,l[k]? =some o∧o.guard=none∧o.op= .alloc T:=by
 unfold allocB at h
 have h1:=List.all_eq_true.1 h k hk
 cases ho:l[k]? with
 |none=>rw [ho] at h1;cases h1
 |some o=>
  rw [ho] at h1
  simp only [Bool.and_eq_true] at h1
  obtain⟨⟨h2,h3⟩,_⟩:=h1
  refine⟨o,rfl,by simpa using h2,?_⟩
  split at h3
  ·rename_i t he
   rw [he]
   congr 1
   simpa using h3
  ·cases h3
def Apart (l:List Oper) (al:List Nat) (a:Act):Prop:= ∀i∈al,∀j∈al,i≠j→ ∀d d',dstOf l i=some d→dstOf l j=some d'→a.tmps.getD d undef≠a.tmps.getD d' undef
def Fresh (l:List Oper) (al:List Nat) (listed:Array Bool) (a:Act) (w:World):Prop:= ∃f:Nat→Nat,(∀ i∈al,listed.getD i false=true→f i<w.heap.size∧ ∀d,dstOf l i=some d→a.tmps.getD d undef= .pointer (some ⟨f i,0,none⟩))∧(∀ i∈al,∀j∈al,listed.getD i false=true→listed.getD j false=true→i≠j→f i≠f j)
theorem Fresh.apart {al:List Nat} {T:TypeId} (h:Fresh l al listed a w) (_:allocB l al T=true) (hall: ∀i∈al,listed.getD i false=true):Apart l al a:=by
 obtain⟨f,h1,h2⟩:=h
 intro i hi j hj hij d d' hd hd' hc
 rw [(h1 i hi (hall i hi)).2 d hd,(h1 j hj (hall j hj)).2 d' hd'] at hc
 simp only [Value.pointer.injEq,Option.some.injEq,Addr.mk.injEq,and_true] at hc
 exact h2 i hi j hj (hall i hi) (hall j hj) hij hc
theorem Fresh.step {al:List Nat} {T:TypeId} {k:Nat} {o:Oper} {u:Value} {w':World} (h:Fresh l al listed a w) (_:allocB l al T=true) (hsp: ∀k o,l[k]? =some o→(∀ d,o.dst=some d→d<a0.tmps.size∧ ∀i,i<k→dstOf l i≠some d)∧(∀ i∈waits o,i<k)∧(∀ i d,dstOf l i=some d→i∈waits o∨d∉o.looksAt l.toArray))
  (hw:Way l Ps a0 w0 listed a w) (hk:l[k]? =some o) (hu:listed.getD k false=false) (ho:Only [] w w') (hn:k∈al→u= .pointer (some ⟨w.heap.size,0,none⟩)∧w.heap.size<w'.heap.size):Fresh l al (listed.setIfInBounds k true) (a.put o.dst u) w':=by
 obtain⟨f,h1,h2⟩:=h
 have hlt:k<l.length:=(List.getElem?_eq_some_iff.1 hk).1
 have hll:k<listed.size:=by rw [hw.lsize];exact hlt
 have hdk:dstOf l k=o.dst:=by unfold dstOf;rw [hk];rfl
 have hdiff: ∀i d,i≠k→dstOf l i=some d→o.dst≠some d:=fun i d hne hi hc=>by
  unfold dstOf at hi
  cases hx:l[i]? with
  |none=>rw [hx] at hi;cases hi
  |some x=>
   rw [hx] at hi
   rcases Nat.lt_or_gt_of_ne hne with h1|h1
   ·exact ((hsp k o hk).1 d hc).2 i h1 (by unfold dstOf;rw [hx];exact hi)
   ·exact ((hsp i x hx).1 d hi).2 k h1 (by rw [hdk];exact hc)
 have old: ∀i,i≠k→(listed.setIfInBounds k true).getD i false=true→listed.getD i false=true:=fun i hik hi=>by
  rw [getD_set _ _ _ hll] at hi
  have:k≠i:=fun hc=>hik hc.symm
  simpa [this] using hi
 have keep: ∀i d,i≠k→dstOf l i=some d→(a.put o.dst u).tmps.getD d undef=a.tmps.getD d undef:=fun i d hik hd=>by
  cases hdo:o.dst with
  |none=>rfl
  |some d'=>
   rw [getD_put,if_neg]
   intro hc
   exact hdiff i d hik hd (by rw [hdo,hc.1])
 refine⟨fun i=>if i=k then w.heap.size else f i,fun i hi hli=>?_,fun i hi j hj hli hlj hij=>?_⟩
 ·dsimp only
  by_cases hik:i=k
  ·subst hik
   rw [if_pos rfl]
   obtain⟨e1,e2⟩:=hn hi
   refine⟨e2,fun d hd=>?_⟩
   rw [hdk] at hd
   rw [hd,getD_put,if_pos ⟨rfl,by rw [hw.size];exact ((hsp i o hk).1 d hd).1⟩]
   exact e1
  ·rw [if_neg hik]
   obtain⟨e1,e2⟩:=h1 i hi (old i hik hli)
   exact⟨Nat.lt_of_lt_of_le e1 ho.size,fun d hd=>by rw [keep i d hik hd];exact e2 d hd⟩
 ·dsimp only
  by_cases hik:i=k
  ·have hjk:j≠k:=fun hc=>hij (hik.trans hc.symm)
   rw [if_pos hik,if_neg hjk]
   have:=(h1 j hj (old j hjk hlj)).1
   omega
  ·by_cases hjk:j=k
   ·rw [if_neg hik,if_pos hjk]
    have:=(h1 i hi (old i hik hli)).1
    omega
   ·rw [if_neg hik,if_neg hjk]
    exact h2 i hi j hj (old i hik hli) (old j hjk hlj) hij
theorem way_tail3 {n:Nat} {al:List Nat} {T:TypeId} {cs:Array Value} (hA:allocB l al T=true) (hrun: ∀w:World,(Instr.alloc T true (.tuple #[])).run P w= .ok (.pointer (some ⟨w.heap.size,0,none⟩)) (w.alloc (.cells cs T))) (hB:typB l a0.tmps.size=true) (hT:tailB l n=true) (hm: ∀p∈Ps,Lasts p) (ho:owes2 P l Ps a0 w0 (l.take n) jss Ps) (hnd:needB l (l.take n) jss=true) (hal: ∀i∈al,i<n) (he: ∀w,Only [] w0 w→withs l Ps w (fun a=>Apart l al a→wpList P l.toArray Q (l.drop n) a w) (List.range n) a0):
  ∀(f:Nat) (listed:Array Bool) (a:Act) (w:World),Way l Ps a0 w0 listed a w→Fresh l al listed a w→(∀ i o,listed.getD i false=true→l[i]? =some o→ ∀j∈waits o,listed.getD j false=true)→(∀ i,n≤i→listed.getD i false=false)→((List.range n).filter fun i=> !listed.getD i false).length=f→wpAny P .any l.toArray Q (f+(l.length-n)) listed a w:=by
 obtain⟨hns,hsp⟩:=typB_spec hB
 unfold tailB at hT
 simp only [Bool.and_eq_true,decide_eq_true_eq] at hT
 obtain⟨⟨hn,ht1⟩,ht2⟩:=hT
 intro f
 induction f with
 |zero=>
  intro listed a w h hfr _ hrest hf
  have hcov: ∀i,i<n→listed.getD i false=true:=fun i hi=>by
   apply Decidable.byContradiction
   intro hc
   have:i∈(List.range n).filter fun i=> !listed.getD i false:=List.mem_filter.2 ⟨List.mem_range.2 hi,by simpa using hc⟩
   have:=List.length_pos_of_mem this
   omega
  have hw:=h.done_n (K:=fun a w=>Apart l al a→wpList P l.toArray Q (l.drop n) a w) hB hcov hrest he (hfr.apart hA (fun i hi=>hcov i (hal i hi)))
  have e:listed=((List.range l.length).map fun i=>decide (i<n)).toArray:=by
   apply Array.ext
   ·simp [h.lsize]
   ·intro i h1 h2
    have hil:i<l.length:=by rw [← h.lsize];exact h1
    simp only [List.getElem_toArray,List.getElem_map,List.getElem_range]
    by_cases hin:i<n
    ·have:=hcov i hin
     rw [Array.getD_eq_getD_getElem?,Array.getElem?_eq_getElem h1] at this
     simpa [hin] using this
    ·have:=hrest i (by omega)
     rw [Array.getD_eq_getD_getElem?,Array.getElem?_eq_getElem h1] at this
     simpa [hin] using this
  have:=wpAny_of_seq (P:=P) (Q':=Q) (md:= .any) (ops:=l.toArray) (l.drop n) n listed a w (fun j=>by simp) (by rw [e];exact ht2) hw
  rw [Nat.zero_add]
  rwa [List.length_drop] at this
 |succ f ih=>
  intro listed a w h hfr hdown hrest hf
  have hlow: ∃k,k<n∧listed.getD k false=false:=by
   have:0<((List.range n).filter fun i=> !listed.getD i false).length:=by omega
   obtain⟨k,hk⟩:=List.exists_mem_of_length_pos this
   rw [List.mem_filter,List.mem_range] at hk
   exact⟨k,hk.1,by simpa using hk.2⟩
  rw [show f+1+(l.length-n)=(f+(l.length-n))+1 by omega]
  refine⟨fun hr=>?_,fun i hi=>?_⟩
  ·exfalso
   obtain⟨k,hk,hu⟩:=hlow
   induction k using Nat.strongRecOn with
   |ind k ihk=>
    have hkl:k<l.length:=by omega
    by_cases hall: ∀e∈(l[k]).after,Region.binds .any e=true→listed.getD e.on false=true
    ·have hmem:k∈Region.ready .any l.toArray listed:=by
      refine mem_ready.2 ⟨?_,l[k],by simp [hkl],fun e hem hb=>hall e (by simpa using hem) hb⟩
      have hl:k<listed.size:=by rw [h.lsize];exact hkl
      rw [Array.getD_eq_getD_getElem?,Array.getElem?_eq_getElem hl] at hu ⊢
      exact hu
     rw [hr] at hmem
     cases hmem
    ·obtain⟨e,h1⟩:=Classical.not_forall.1 hall
     obtain⟨hem,h2⟩:=Classical.not_forall.1 h1
     obtain⟨hb,hne⟩:=Classical.not_forall.1 h2
     have hlt:=(hsp k l[k] (by simp [hkl])).2.1 e.on (List.mem_map.2 ⟨e,List.mem_filter.2 ⟨by simpa using hem,hb⟩,rfl⟩)
     exact ihk e.on hlt (by omega) (by simpa using hne)
  ·obtain⟨hun,o,hoi,hwt⟩:=mem_ready.1 hi
   have hoi':l[i]? =some o:=by simpa using hoi
   have hlt:i<l.length:=(List.getElem?_eq_some_iff.1 hoi').1
   have hl:i<listed.size:=by rw [h.lsize];exact hlt
   have hunf:listed.getD i false=false:=by
    rw [Array.getD_eq_getD_getElem?,Array.getElem?_eq_getElem hl] at hun ⊢
    exact hun
   have hin:i<n:=by
    apply Decidable.byContradiction
    intro hc
    obtain⟨k,hk,hu⟩:=hlow
    have hmem:o∈l.drop n:=List.mem_iff_getElem?.2 ⟨i-n,by rw [List.getElem?_drop,show n+(i-n)=i by omega];exact hoi'⟩
    have h1:=List.all_eq_true.1 (List.all_eq_true.1 ht1 o hmem) k (List.mem_range.2 hk)
    have h2:k∈back l l.length (waits o):=by simpa using h1
    have hw: ∀j∈waits o,listed.getD j false=true:=fun j hj=>by
     obtain⟨e,he1,rfl⟩:=List.mem_map.1 hj
     rw [List.mem_filter] at he1
     exact hwt e (by simpa using he1.1) he1.2
    have:=back_all hdown l.length (waits o) hw k h2
    rw [hu] at this
    cases this
   have hoit:(l.take n)[i]? =some o:=by rw [List.getElem?_take_of_lt hin];exact hoi'
   have hg:=h.grow2 hB (owes2_get i ho hnd hoit) hoi' (fun j hj=>by
    obtain⟨e,hem,rfl⟩:=List.mem_map.1 hj
    rw [List.mem_filter] at hem
    exact hwt e (by simpa using hem.1) hem.2)
   have next: ∀u w',Only [] w w'→(i∈al→u= .pointer (some ⟨w.heap.size,0,none⟩)∧w.heap.size<w'.heap.size)→(Ps[i]?.getD fun _ _=>True) u w'→wpAny P .any l.toArray Q (f+(l.length-n)) (listed.setIfInBounds i true) (a.put o.dst u) w':=fun u w' h1 h3 h2=>
    ih _ _ _ (h.step hB hm hoi' hun h1 h2) (hfr.step hA hsp h hoi' hunf h1 h3) (fun j x hj hx t ht=>by
     rw [getD_set _ _ _ hl] at hj ⊢
     by_cases hij:i=j
     ·subst hij
      rw [hoi'] at hx
      injection hx with hx
      subst hx
      obtain⟨e,he1,rfl⟩:=List.mem_map.1 ht
      rw [List.mem_filter] at he1
      rw [hwt e (by simpa using he1.1) he1.2,Bool.or_true]
     ·have hj':listed.getD j false=true:=by simpa [hij] using hj
      rw [hdown j x hj' hx t ht,Bool.or_true]) (fun j hj=>by rw [getD_set _ _ _ hl,hrest j hj];simp;omega) (by
     have e:((List.range n).filter fun i_1=> !(listed.setIfInBounds i true).getD i_1 false).length+1=((List.range n).filter fun i=> !listed.getD i false).length:=by
      have hmem:i∈(List.range n).filter fun i=> !listed.getD i false:=by rw [List.mem_filter];exact⟨List.mem_range.2 hin,by rw [hunf];rfl⟩
      have hnd:((List.range n).filter fun i=> !listed.getD i false).Nodup:=List.nodup_range.filter _
      have e:((List.range n).filter fun j=> !(listed.setIfInBounds i true).getD j false)=((List.range n).filter fun i=> !listed.getD i false).erase i:=by
       rw [hnd.erase_eq_filter,List.filter_filter]
       apply List.filter_congr
       intro j _
       rw [getD_set _ _ _ hl]
       by_cases h:i=j
       ·subst h;simp
       ·have h':j≠i:=fun hc=>h hc.symm
        simp [h,h']
      rw [e,List.length_erase_of_mem hmem]
      have:=List.length_pos_of_mem hmem
      omega
     omega)
   unfold wpOp
   simp only [hoi]
   unfold growIf at hg
   by_cases hmem:i∈al
   ·obtain⟨o',h1,h2,h3⟩:=allocB_spec hA i hmem
    rw [hoi'] at h1
    injection h1 with h1
    subst h1
    have hw:Region.wanted o (yielded l.toArray a.tmps)=true:=by unfold Region.wanted;rw [h2]
    rw [if_pos hw] at hg ⊢
    left
    unfold growAt at hg
    unfold Oper.wp
    have hr:(execOp a.eval o).run P w= .ok (.value (.pointer (some ⟨w.heap.size,0,none⟩))) (w.alloc (.cells cs T)):=by
     unfold execOp
     rw [h3]
     simp only [Sem.run_bind,Sem.run_pure,hrun,Result.andThen_ok]
    rw [hr] at hg ⊢
    simp only [growUpon] at hg
    simp only [Oper.upon]
    exact next _ _ hg.1 (fun _=>⟨rfl,by simp⟩) hg.2
   ·by_cases hw:Region.wanted o (yielded l.toArray a.tmps)=true
    ·rw [if_pos hw] at hg ⊢
     left
     unfold growAt at hg
     unfold Oper.wp
     generalize (execOp a.eval o).run P w=r at hg ⊢
     cases r with
     |ok n w'=>
      cases n<;>simp only [growUpon] at hg<;>simp only [Oper.upon]
      case value u=>exact next u w' hg.1 (fun hc=>absurd hc hmem) hg.2
      case skip=>exact next undef w' hg.1 (fun hc=>absurd hc hmem) hg.2
      case enter f args=>exact hg.mono fun e w'' ⟨v,hev,h1,h2⟩=>by subst hev;exact next v w'' h1 (fun hc=>absurd hc hmem) h2
     |halt x w'=>simp only [growUpon] at hg
    ·rw [if_neg hw] at hg ⊢
     exact next undef w (Only.refl _ _) (fun hc=>absurd hc hmem) hg
theorem wp_region_typed_tail3 {id:Nat} (n:Nat) (al:List Nat) (T:TypeId) (cs:Array Value) (hA:allocB l al T=true) (hal:al.all (fun i=>decide (i<n))=true) (hrun: ∀w:World,(Instr.alloc T true (.tuple #[])).run P w= .ok (.pointer (some ⟨w.heap.size,0,none⟩)) (w.alloc (.cells cs T))) (hm:P.follows .mixedOrders=true) (Ps:List VP) (jss:List (List Nat)) (hnd:needB l (l.take n) jss=true) (hB:typB l a.tmps.size=true) (hT:tailB l n=true) (hl: ∀p∈Ps,Lasts p) (ho:owes2 P l Ps a w (l.take n) jss Ps) (he: ∀w',Only [] w w'→withs l Ps w' (fun a=>Apart l al a→wpList P l.toArray Q (l.drop n) a w') (List.range n) a):
  (Code.region id l.toArray true).wp P Q a w:=by
 have hn:n≤l.length:=by
  unfold tailB at hT
  simp only [Bool.and_eq_true,decide_eq_true_eq] at hT
  exact hT.1.1
 have hrep: ∀i,(Array.replicate l.toArray.size false).getD i false=false:=fun i=>by
  rw [Array.getD_eq_getD_getElem?,Array.getElem?_replicate]
  split<;>rfl
 have hway:Way l Ps a w (Array.replicate l.toArray.size false) a {w with drawn:=w.drawn+1}:=⟨(Only.refl [] w).drew,rfl,rfl,by simp,fun t _=>rfl,fun i hi=>by rw [hrep] at hi;cases hi⟩
 have hfr:Fresh l al (Array.replicate l.toArray.size false) a {w with drawn:=w.drawn+1}:=⟨fun _=>0,⟨fun i _ hi=>absurd hi (by rw [hrep];decide),fun i _ j _ hi=>absurd hi (by rw [hrep];decide)⟩⟩
 have h:=way_tail3 hA hrun hB hT hl ho hnd (fun i hi=>by simpa using List.all_eq_true.1 hal i hi) he _ _ _ _ hway hfr (fun i _ hi=>by rw [hrep] at hi;cases hi) (fun i _=>hrep i) rfl
 have e:((List.range n).filter fun i=> !(Array.replicate l.toArray.size false).getD i false).length=n:=by
  rw [List.filter_eq_self.2 (fun i _=>by rw [hrep];rfl),List.length_range]
 rw [e,show n+(l.length-n)=l.toArray.size by simp;omega] at h
 exact wp_region_any hm h
end
end
end Go.Proofs.YtigpnopeacicpaaGreatDoor
namespace Go.Proofs.YtigpnopeacicpaaGreatDoor
set_option linter.unusedSimpArgs false
open Go.RowKit
theorem cmpV_d {w:World} {a b:Value} {x y:Dy} {N:Nat} (c:Int) (ha:Hid (DV w a x)) (hb:Hid (DV w b y)) (hx:Hid (Bnd N x)) (hy:Hid (Bnd N y)) (hN:N≤2000000) (hc:cmpQ x.q y.q=c):Calls Tryz.prog 42 #[a,b] w fun e w'=>e= .returned (.int .i64 c)∧Only [] w w':=hc▸cmp_d ha hb hx hy hN
def flatN (L:List NR):List Value:=L.flatMap fun x=>[.bool x.s,.slice x.a x.n x.c,.int .i64 x.e]
theorem flatN_get: ∀(L:List NR) (k:Nat) (h:k<L.length),(flatN L)[k*3+1]? =some (.slice L[k].a L[k].n L[k].c)∧(flatN L)[k*3+2]? =some (.int .i64 L[k].e)
 |[],k,h=>by simp at h
 |x::L,0,h=>⟨rfl,rfl⟩
 |x::L,k+1,h=>by
  have:=flatN_get L k (by simpa using h)
  have e:flatN (x::L)=[.bool x.s,.slice x.a x.n x.c,.int .i64 x.e]++flatN L:=rfl
  rw [e,List.getElem?_append_right (by simp;omega),List.getElem?_append_right (by simp;omega)]
  rw [show (k+1)*3+1-[Value.bool x.s,Value.slice x.a x.n x.c,Value.int .i64 x.e].length=k*3+1 by simp;omega,show (k+1)*3+2-[Value.bool x.s,Value.slice x.a x.n x.c,Value.int .i64 x.e].length=k*3+2 by simp;omega]
  simpa using this
theorem nrm_sign (z e:Int):(nrm z e).z.sign=z.sign:=by
 rw [← q_sign,nrm_q]
 exact q_sign ⟨z,e⟩
theorem light3_v {w:World} (L:List NR) (k:Nat) (hk:Hid (L.length=k)) (hl:(k:Int)≤1000):
  Calls Tryz.prog 6 #[.slice (some ⟨w.heap.size,0,none⟩) k k] (w.alloc (Obj.cells (flatN L).toArray 24)) fun e w'=>e= .returned (.bool (lightN L))∧Only [] w w':=by
 have hb:Blk (w.alloc (Obj.cells (flatN L).toArray 24)) w.heap.size 24 (flatN L):=Blk.new w _ _
 have h:=light3_any (some ⟨w.heap.size,0,none⟩) k L _ (Lib.hid (fun j hj=>⟨_,0,rfl,by rw [hb.cell,Nat.zero_add];exact (flatN_get L j hj).1,by rw [hb.cell,Nat.zero_add];exact (flatN_get L j hj).2⟩)) (by have:=hk.out;omega)
 rw [hk.out] at h
 exact h.mono fun e w' ⟨h1,h2⟩=>⟨h1,((Only.refl [] w).alloc _).nil_trans h2⟩
theorem num_bnd {N:Nat} {n:Bool} {L:List Nat} {x:Dy} (hN:3000≤N) (hl:L.length≤40) (hL:Limb L) (hz:sg n (val L)=x.z) (h1: -3000≤x.e) (h2:x.e≤3000):Bnd N x:=
 ⟨by rw [← hz,sg_abs];exact Nat.lt_of_lt_of_le (val_lt hL) (by rw [bb_two_pow];exact two_mono (by omega)),by omega,by omega⟩
theorem numOfV_any (neg:Bool) (A:Option Addr) (L:List Nat) (c:Nat) (x:Dy) (w:World) (hz:sg neg (val L)=x.z) (h:Hid (LimbsIn w A L)) (hl:(L.length:Int)≤40):
  Calls Tryz.prog 17 #[.agg #[.bool neg,.slice A L.length c,.int .i64 x.e]] w (DVPost x w):=by
 obtain⟨z,e⟩:=x
 simp only at hz
 subst hz
 exact numOf_any neg A L c e w h hl
theorem sqrtA_d {w:World} {a:Value} {x:Dy} {N:Nat} (p dir:Int) (ha:Hid (DV w a x)) (hx:Hid (Bnd N x)) (hN:N≤100000) (hT:Hid (Tab6 w)):Calls Tryz.prog 54 #[a,.int .i64 p,.int .i64 dir] w (QDPost (sqrtQ (widthP p) (decide (0≤dir)) x) (decide (0≤x.z)) w):=by
 unfold sqrtQ
 by_cases h1:x.z<0
 ·rw [if_pos (show x.z≤0 by omega),decide_eq_false (show ¬0≤x.z by omega)]
  exact sqrtn_d p dir ha h1
 ·rw [decide_eq_true (show 0≤x.z by omega)]
  by_cases h2:x.z=0
  ·rw [if_pos (by omega)]
   exact sqrtz_d p dir ha h2
  ·rw [if_neg (by omega)]
   exact sqrt_d p dir ha hx hN (by omega) hT
theorem sqrtV_d {w:World} {a:Value} {x:Dy} {N:Nat} (p dir:Int) (r:Dy) (ok:Bool) (hr:sqrtQ (widthP p) (decide (0≤dir)) x=r) (hok:decide (0≤x.z)=ok) (ha:Hid (DV w a x)) (hx:Hid (Bnd N x)) (hN:N≤100000) (hT:Hid (Tab6 w)):Calls Tryz.prog 54 #[a,.int .i64 p,.int .i64 dir] w (QDPost r ok w):=hr▸hok▸sqrtA_d p dir ha hx hN hT
theorem roundV_d {w:World} {a:Value} {x:Dy} {N:Nat} (p dir:Int) (r:Dy) (hr:rndD (widthP p) (decide (0≤dir)) x=r) (ha:Hid (DV w a x)) (hx:Hid (Bnd N x)) (hN:N≤1000000) (hT:Hid (Tab6 w)):Calls Tryz.prog 61 #[a,.int .i64 p,.int .i64 dir] w (DPost r w):=hr▸round_d p dir ha hx hN hT
theorem bnd_zero (N:Nat):Bnd N ⟨0,0⟩:=⟨Nat.pow_pos (by decide),by show -(N:Int)≤0;omega,by show (0:Int)≤N;omega⟩
theorem quoQ_bnd {P N M:Nat} {up:Bool} {x y:Dy} (hx:Bnd N x) (hy:Bnd N y) (hM:15*N+7*P+19≤M):Bnd M (quoQ P up x y):=by
 unfold quoQ
 split
 ·exact bnd_zero _
 ·split
  ·exact bnd_zero _
  ·exact quo_bnd hx hy hM
theorem sqrtQ_bnd {P N M:Nat} {up:Bool} {x:Dy} (hx:Bnd N x) (hM:9*N+16*P+60≤M):Bnd M (sqrtQ P up x):=by
 unfold sqrtQ
 split
 ·exact bnd_zero _
 ·exact sqrt_bnd hx hM
open Go.Lib (hid)
def BV (w:World) (v:Value) (x y:Dy):Prop:= ∃s A k c t B m d,v= .agg #[.bool s,.slice A k c,.int .i64 x.e,.bool t,.slice B m d,.int .i64 y.e]∧IV w (.agg #[.bool s,.slice A k c]) x.z∧IV w (.agg #[.bool t,.slice B m d]) y.z
theorem BV.only {w w':World} {v:Value} {x y:Dy} (h:BV w v x y) (ho:Only [] w w'):BV w' v x y:=by
 obtain⟨s,A,k,c,t,B,m,d,h1,h2,h3⟩:=h
 exact⟨s,A,k,c,t,B,m,d,h1,h2.only ho,h3.only ho⟩
def BPost (x y:Dy) (w:World) (e:Ending) (w':World):Prop:= ∃s A k c t B m d,e= .returned (.agg #[.bool s,.slice A k c,.int .i64 x.e,.bool t,.slice B m d,.int .i64 y.e])∧Cn s k x.z∧IV w' (.agg #[.bool s,.slice A k c]) x.z∧Cn t m y.z∧IV w' (.agg #[.bool t,.slice B m d]) y.z∧Only [] w w'
theorem KB.c6 {w0 w:World} {L:List EB} (h:KB w0 w L) (i:Nat) {g:Nat} {t:TypeId} {a b c d e f:Value} (hi:L[i]? =some ⟨g,t,[a,b,c,d,e,f]⟩):
  w.cell? ⟨g,0,none⟩=some a∧w.cell? ⟨g,1,none⟩=some b∧w.cell? ⟨g,2,none⟩=some c∧w.cell? ⟨g,3,none⟩=some d∧w.cell? ⟨g,4,none⟩=some e∧w.cell? ⟨g,5,none⟩=some f:=
 ⟨(h.blk i hi).cell 0,(h.blk i hi).cell 1,(h.blk i hi).cell 2,(h.blk i hi).cell 3,(h.blk i hi).cell 4,(h.blk i hi).cell 5⟩
theorem KB.f6 {w0 w:World} {L:List EB} (h:KB w0 w L) (i:Nat) {g:Nat} {t:TypeId} {cs:List Value} (hi:L[i]? =some ⟨g,t,cs⟩):
  w.frozen? ⟨g,0,none⟩=false∧w.frozen? ⟨g,1,none⟩=false∧w.frozen? ⟨g,2,none⟩=false∧w.frozen? ⟨g,3,none⟩=false∧w.frozen? ⟨g,4,none⟩=false∧w.frozen? ⟨g,5,none⟩=false:=
 ⟨(h.blk i hi).frozen 0,(h.blk i hi).frozen 1,(h.blk i hi).frozen 2,(h.blk i hi).frozen 3,(h.blk i hi).frozen 4,(h.blk i hi).frozen 5⟩
theorem noLimb6 (s:Bool) (A:Option Addr) (k c:Nat) (e:Int) (t:Bool) (B:Option Addr) (m d:Nat) (f:Int):NoLimb [.bool s,.slice A k c,.int .i64 e,.bool t,.slice B m d,.int .i64 f]:=fun o n h=>by
 rcases o with _|_|_|_|_|_|o<;>simp at h
theorem only_set6 (w:World) (b:Nat) (u0 u1 u2 u3 u4 u5:Value):Only [b] w ((((((w.setCell ⟨b,0,none⟩ u0).setCell ⟨b,1,none⟩ u1).setCell ⟨b,2,none⟩ u2).setCell ⟨b,3,none⟩ u3).setCell ⟨b,4,none⟩ u4).setCell ⟨b,5,none⟩ u5):=
 ((((((Only.refl [b] w).setCell (.inl (by simp)) u0).setCell (.inl (by simp)) u1).setCell (.inl (by simp)) u2).setCell (.inl (by simp)) u3).setCell (.inl (by simp)) u4).setCell (.inl (by simp)) u5
theorem bfin {x y:Dy} {w w1 w2:World} {b:Nat} {t:TypeId} {cs:List Value} {s s':Bool} {A A':Option Addr} {k c k' c':Nat} (hc:Hid (Cn s k x.z)) (hv:Hid (IV w1 (.agg #[.bool s,.slice A k c]) x.z)) (hc':Hid (Cn s' k' y.z)) (hv':Hid (IV w1 (.agg #[.bool s',.slice A' k' c']) y.z)) (hb:w.heap.size≤b) (hB:Blk w1 b t cs) (hn:NoLimb cs) (ho:Only [] w w1) (ho2:Only [b] w1 w2):
  BPost x y w (.returned (.agg #[.bool s,.slice A k c,.int .i64 x.e,.bool s',.slice A' k' c',.int .i64 y.e])) w2:=
 ⟨s,A,k,c,s',A',k',c',rfl,hc.out,hv.out.farS ho2 (fun g hg=>by rw [List.mem_singleton] at hg;subst hg;exact hv.out.far_blk hB hn),hc'.out,hv'.out.farS ho2 (fun g hg=>by rw [List.mem_singleton] at hg;subst hg;exact hv'.out.far_blk hB hn),ho.trans ho2 (fun k hk=> .inr (by simp at hk;omega))⟩
set_option maxHeartbeats 3200000 in
set_option maxRecDepth 100000 in
theorem same_d {w:World} {a:Value} {x:Dy} {N:Nat} (ha:Hid (DV w a x)) (bx:Hid (Bnd N x)) (hN:N≤8000000) (hT:Hid (Tab6 w)):Calls Tryz.prog 69 #[a] w (DPost (nrm x.z x.e) w):=by
 have he:=lim_i64 bx.out hN
 have HBt:Hid (bitsN x.z.natAbs≤16777216):=bits_few bx.out.z (by omega)
 obtain⟨s,A,k,c,rfl,hv⟩:=ha.out
 have hk:=((KB.start w).new 32 [.bool s,.slice A k c,.int .i64 x.e]).new 32 [.bool false,.slice none 0 0,.int .i64 0]
 simp only [World.size_alloc] at hk
 obtain⟨i0,i1,i2,-,-,-⟩:=hk.c3 1 rfl
 have HV:=hid (hv.only hk.only)
 have HK:=hid hk
 clear hk hv ha
 go_enter Tryz.func69,Tryz.ntmps69
 go_wp2_with fail
 (with_reducible refine (make_d HV HBt (by omega) (by omega) (hid (hT.out.keep HK.out.only))).mono ?_)
 rintro e w2 ⟨s2,A2,k2,c2,rfl,hs2,hk2,hv2,ho⟩
 replace HK:=hid (HK.out.step ho)
 have HC:Hid (Cn s2 k2 (nrm x.z x.e).z):=⟨hs2,hk2⟩
 have HV2:=hid hv2
 obtain⟨c0,c1',c2',f0,f1,f2⟩:=HK.out.c3 0 rfl
 clear ho hs2 hk2 hv2 HV i0 i1 i2
 generalize nrm x.z x.e=r at*
 go_wp2_with fail
 refine bodyPost_ret (v:= .agg #[.bool s2,.slice A2 k2 c2,.int .i64 (r.e)]) (by simp [results,Tryz.results69,go_sem,c0,c1',c2']) rfl ?_
 exact dfin HC HV2 (by omega) (HK.out.blk 0 rfl) (noLimb3 _ _ _ _ _) HK.out.only (only_set3 _ _ _ _ _)
set_option maxHeartbeats 3200000 in
set_option maxRecDepth 100000 in
theorem at_b {w:World} {a:Value} {x:Dy} {N:Nat} (ha:Hid (DV w a x)) (bx:Hid (Bnd N x)) (hN:N≤8000000) (hT:Hid (Tab6 w)):Calls Tryz.prog 32 #[a] w (BPost (nrm x.z x.e) (nrm x.z x.e) w):=by
 obtain⟨s,A,k,c,rfl,hv⟩:=ha.out
 have hk:=((KB.start w).new 32 [.bool s,.slice A k c,.int .i64 x.e]).new 34 [.bool false,.slice none 0 0,.int .i64 0,.bool false,.slice none 0 0,.int .i64 0]
 simp only [World.size_alloc] at hk
 have HX:Hid (DV _ (.agg #[.bool s,.slice A k c,.int .i64 x.e]) x):=ha.out.only hk.only
 have HK:=hid hk
 clear hk hv ha
 go_enter Tryz.func32,Tryz.ntmps32
 go_upto_region 1 with fail
 apply wp_region_typed_tail2 4 (by kernel_rfl) [isV _,isD (nrm x.z x.e),isV _,isD (nrm x.z x.e)] [[],[0],[],[2]] (by kernel_rfl) (by kernel_rfl) (by kernel_rfl)
 case ho=>
  simp only [List.take_succ_cons,List.take_zero]
  iterate 4
   refine owes2_cons (fun wx hox=>?_) ?_
   ·skip
    have hk:=HK.out.step hox
    obtain⟨i0,i1,i2,-,-,-⟩:=hk.c3 1 rfl
    refine withs_plain rfl ?_
    simp only [withs,List.getElem?_cons_zero,List.getElem?_cons_succ,Option.bind,Option.getD]
    with_reducible repeat first|refine all_isV ?_|(refine all_isD ?_;intro sx Ax kx cx hvx hwx)
    go_simp
    first
    |exact⟨Only.refl _ _,isV.self _ _⟩
    |with_reducible exact grow_d (same_d (hid (HX.out.only hox)) bx (by omega) (hid (hT.out.keep hk.only)))
  exact owes2_nil
 case he=>
  simp only [List.drop_succ_cons,List.drop_zero]
  intro wx hox
  refine withs_of (by simp only [List.length,List.range,List.range.loop];exact rfl) ?_
  simp only [withs,List.getElem?_cons_zero,List.getElem?_cons_succ,Option.bind,Option.getD]
  with_reducible refine all_isV ?_
  with_reducible refine all_isD ?_
  intro s1 A1 k1 c1 hv1 hw1
  with_reducible refine all_isV ?_
  with_reducible refine all_isD ?_
  intro s3 A3 k3 c3 hv3 hw3
  go_simp
  have hk:=HK.out.step hox
  obtain⟨q0,q1,q2,q3,q4,q5⟩:=hk.c6 0 rfl
  obtain⟨f0,f1,f2,f3,f4,f5⟩:=hk.f6 0 rfl
  have HB:=hid (hk.blk 0 rfl)
  have HO:=hid hk.only
  clear hk hox HK
  generalize nrm x.z x.e=rx at*
  go_wp2_with fail
  refine bodyPost_ret (v:= .agg #[.bool s1,.slice A1 k1 c1,.int .i64 (rx.e),.bool s3,.slice A3 k3 c3,.int .i64 (rx.e)]) (by simp [results,Tryz.results32,go_sem,q0,q1,q2,q3,q4,q5]) rfl ?_
  exact bfin hw1 hv1 hw3 hv3 (by omega) HB.out (noLimb6 _ _ _ _ _ _ _ _ _ _) HO.out (only_set6 _ _ _ _ _ _ _ _)
 case hl=>
  repeat (refine List.forall_mem_cons.2 ⟨?_,?_⟩;first|exact isV.lasts _|exact isD.lasts _)
  exact fun _ h=>(by cases h)
set_option maxHeartbeats 3200000 in
set_option maxRecDepth 100000 in
theorem not_b {w:World} {a:Value} {x y:Dy} {N:Nat} (ha:Hid (BV w a x y)) (bx:Hid (Bnd N x)) (by_:Hid (Bnd N y)) (hN:N≤8000000) (hT:Hid (Tab6 w)):Calls Tryz.prog 27 #[a] w (BPost (dNot y) (dNot x) w):=by
 obtain⟨s1,A1,k1,c1,t1,B1,m1,d1,rfl,hx1,hy1⟩:=ha.out
 have hk:=((KB.start w).new 34 [.bool s1,.slice A1 k1 c1,.int .i64 x.e,.bool t1,.slice B1 m1 d1,.int .i64 y.e]).new 34 [.bool false,.slice none 0 0,.int .i64 0,.bool false,.slice none 0 0,.int .i64 0]
 simp only [World.size_alloc] at hk
 have HX:=hid (hx1.only hk.only)
 have HY:=hid (hy1.only hk.only)
 have HK:=hid hk
 clear hk hx1 hy1 ha
 go_enter Tryz.func27,Tryz.ntmps27
 go_upto_region 1 with fail
 apply wp_region_typed_tail2 6 (by kernel_rfl) [isV _,isV _,isD (dNot y),isV _,isV _,isD (dNot x)] [[],[0],[1],[],[3],[4]] (by kernel_rfl) (by kernel_rfl) (by kernel_rfl)
 case ho=>
  simp only [List.take_succ_cons,List.take_zero]
  iterate 6
   refine owes2_cons (fun wx hox=>?_) ?_
   ·skip
    have hk:=HK.out.step hox
    obtain⟨i0,i1,i2,i3,i4,i5⟩:=hk.c6 1 rfl
    refine withs_plain rfl ?_
    simp only [withs,List.getElem?_cons_zero,List.getElem?_cons_succ,Option.bind,Option.getD]
    with_reducible repeat first|refine all_isV ?_|(refine all_isD ?_;intro sx Ax kx cx hvx hwx)
    go_simp
    first
    |exact⟨Only.refl _ _,isV.self _ _⟩
    |with_reducible exact grow_d (not_d (DV.of (hid (HY.out.only hox))) by_ (by omega) (hid (hT.out.keep hk.only)))
    |with_reducible exact grow_d (not_d (DV.of (hid (HX.out.only hox))) bx (by omega) (hid (hT.out.keep hk.only)))
  exact owes2_nil
 case he=>
  simp only [List.drop_succ_cons,List.drop_zero]
  intro wx hox
  refine withs_of (by simp only [List.length,List.range,List.range.loop];exact rfl) ?_
  simp only [withs,List.getElem?_cons_zero,List.getElem?_cons_succ,Option.bind,Option.getD]
  with_reducible refine all_isV ?_
  with_reducible refine all_isV ?_
  with_reducible refine all_isD ?_
  intro s2 A2 k2 c2 hv2 hw2
  with_reducible refine all_isV ?_
  with_reducible refine all_isV ?_
  with_reducible refine all_isD ?_
  intro s5 A5 k5 c5 hv5 hw5
  go_simp
  have hk:=HK.out.step hox
  obtain⟨q0,q1,q2,q3,q4,q5⟩:=hk.c6 0 rfl
  obtain⟨f0,f1,f2,f3,f4,f5⟩:=hk.f6 0 rfl
  have HB:=hid (hk.blk 0 rfl)
  have HO:=hid hk.only
  clear hk hox HK
  generalize dNot y=rx at*
  generalize dNot x=ry at*
  go_wp2_with fail
  refine bodyPost_ret (v:= .agg #[.bool s2,.slice A2 k2 c2,.int .i64 (rx.e),.bool s5,.slice A5 k5 c5,.int .i64 (ry.e)]) (by simp [results,Tryz.results27,go_sem,q0,q1,q2,q3,q4,q5]) rfl ?_
  exact bfin hw2 hv2 hw5 hv5 (by omega) HB.out (noLimb6 _ _ _ _ _ _ _ _ _ _) HO.out (only_set6 _ _ _ _ _ _ _ _)
 case hl=>
  repeat (refine List.forall_mem_cons.2 ⟨?_,?_⟩;first|exact isV.lasts _|exact isD.lasts _)
  exact fun _ h=>(by cases h)
set_option maxHeartbeats 3200000 in
set_option maxRecDepth 100000 in
theorem add_b {w:World} {a b:Value} {x y u v:Dy} {N:Nat} (p:Int) (lo hi:Dy) (hlo:rndD (widthP p) false (dAdd x u)=lo) (hhi:rndD (widthP p) true (dAdd y v)=hi) (ha:Hid (BV w a x y)) (hb:Hid (BV w b u v)) (bx:Hid (Bnd N x)) (by_:Hid (Bnd N y)) (bu:Hid (Bnd N u)) (bv:Hid (Bnd N v)) (hN:N≤100000) (hT:Hid (Tab6 w)):Calls Tryz.prog 20 #[a,b,.int .i64 p] w (BPost lo hi w):=by
 obtain⟨s1,A1,k1,c1,t1,B1,m1,d1,rfl,hx1,hy1⟩:=ha.out
 obtain⟨s2,A2,k2,c2,t2,B2,m2,d2,rfl,hx2,hy2⟩:=hb.out
 have hk:=(((KB.start w).new 34 [.bool s1,.slice A1 k1 c1,.int .i64 x.e,.bool t1,.slice B1 m1 d1,.int .i64 y.e]).new 34 [.bool s2,.slice A2 k2 c2,.int .i64 u.e,.bool t2,.slice B2 m2 d2,.int .i64 v.e]).new 34 [.bool false,.slice none 0 0,.int .i64 0,.bool false,.slice none 0 0,.int .i64 0]
 simp only [World.size_alloc] at hk
 have HX1:=hid (hx1.only hk.only)
 have HX2:=hid (hy1.only hk.only)
 have HY1:=hid (hx2.only hk.only)
 have HY2:=hid (hy2.only hk.only)
 have HK:=hid hk
 have HLo:Hid (rndD (widthP p) (decide ((0:Int)≤ -1)) (dAdd x u)=lo):=hlo
 have HHi:Hid (rndD (widthP p) (decide ((0:Int)≤1)) (dAdd y v)=hi):=hhi
 have BA:Hid (Bnd (4*N+1) (dAdd x u)):=bx.out.add bu.out (by omega)
 have BB_:Hid (Bnd (4*N+1) (dAdd y v)):=by_.out.add bv.out (by omega)
 clear hk hx1 hy1 hx2 hy2 ha hb hlo hhi
 go_enter Tryz.func20,Tryz.ntmps20
 go_upto_region 1 with fail
 apply wp_region_typed_tail2 14 (by kernel_rfl) [isV _,isV _,isV _,isV _,isD (dAdd x u),isV _,isD lo,isV _,isV _,isV _,isV _,isD (dAdd y v),isV _,isD hi] [[],[0],[],[2],[1,3],[],[4,5],[],[7],[],[9],[8,10],[],[11,12]] (by kernel_rfl) (by kernel_rfl) (by kernel_rfl)
 case ho=>
  simp only [List.take_succ_cons,List.take_zero]
  iterate 14
   refine owes2_cons (fun wx hox=>?_) ?_
   ·skip
    have hk:=HK.out.step hox
    obtain⟨i0,i1,i2,i3,i4,i5⟩:=hk.c6 2 rfl
    obtain⟨j0,j1,j2,j3,j4,j5⟩:=hk.c6 1 rfl
    refine withs_plain rfl ?_
    simp only [withs,List.getElem?_cons_zero,List.getElem?_cons_succ,Option.bind,Option.getD]
    with_reducible repeat first|refine all_isV ?_|(refine all_isD ?_;intro sx Ax kx cx hvx hwx)
    go_simp
    first
    |exact⟨Only.refl _ _,isV.self _ _⟩
    |with_reducible exact grow_d (add_d (DV.of (hid (HX1.out.only hox))) (DV.of (hid (HY1.out.only hox))) bx bu (by omega) (hid (hT.out.keep hk.only)))
    |with_reducible exact grow_d (roundV_d p (-1) lo HLo.out (DV.of (by assumption)) BA (by omega) (hid (hT.out.keep hk.only)))
    |with_reducible exact grow_d (add_d (DV.of (hid (HX2.out.only hox))) (DV.of (hid (HY2.out.only hox))) by_ bv (by omega) (hid (hT.out.keep hk.only)))
    |with_reducible exact grow_d (roundV_d p 1 hi HHi.out (DV.of (by assumption)) BB_ (by omega) (hid (hT.out.keep hk.only)))
  exact owes2_nil
 case he=>
  simp only [List.drop_succ_cons,List.drop_zero]
  intro wx hox
  refine withs_of (by simp only [List.length,List.range,List.range.loop];exact rfl) ?_
  simp only [withs,List.getElem?_cons_zero,List.getElem?_cons_succ,Option.bind,Option.getD]
  with_reducible refine all_isV ?_
  with_reducible refine all_isV ?_
  with_reducible refine all_isV ?_
  with_reducible refine all_isV ?_
  with_reducible refine all_isD ?_
  intro s4 A4 k4 c4 hv4 hw4
  with_reducible refine all_isV ?_
  with_reducible refine all_isD ?_
  intro s6 A6 k6 c6 hv6 hw6
  with_reducible refine all_isV ?_
  with_reducible refine all_isV ?_
  with_reducible refine all_isV ?_
  with_reducible refine all_isV ?_
  with_reducible refine all_isD ?_
  intro s11 A11 k11 c11 hv11 hw11
  with_reducible refine all_isV ?_
  with_reducible refine all_isD ?_
  intro s13 A13 k13 c13 hv13 hw13
  go_simp
  have hk:=HK.out.step hox
  obtain⟨q0,q1,q2,q3,q4,q5⟩:=hk.c6 0 rfl
  obtain⟨f0,f1,f2,f3,f4,f5⟩:=hk.f6 0 rfl
  have HB:=hid (hk.blk 0 rfl)
  have HO:=hid hk.only
  clear hk hox HK
  go_wp2_with fail
  refine bodyPost_ret (v:= .agg #[.bool s6,.slice A6 k6 c6,.int .i64 (lo.e),.bool s13,.slice A13 k13 c13,.int .i64 (hi.e)]) (by simp [results,Tryz.results20,go_sem,q0,q1,q2,q3,q4,q5]) rfl ?_
  exact bfin hw6 hv6 hw13 hv13 (by omega) HB.out (noLimb6 _ _ _ _ _ _ _ _ _ _) HO.out (only_set6 _ _ _ _ _ _ _ _)
 case hl=>
  repeat (refine List.forall_mem_cons.2 ⟨?_,?_⟩;first|exact isV.lasts _|exact isD.lasts _)
  exact fun _ h=>(by cases h)
set_option maxHeartbeats 3200000 in
set_option maxRecDepth 100000 in
theorem sub_b {w:World} {a b:Value} {x y u v:Dy} {N:Nat} (p:Int) (lo hi:Dy) (hlo:rndD (widthP p) false (dSub x v)=lo) (hhi:rndD (widthP p) true (dSub y u)=hi) (ha:Hid (BV w a x y)) (hb:Hid (BV w b u v)) (bx:Hid (Bnd N x)) (by_:Hid (Bnd N y)) (bu:Hid (Bnd N u)) (bv:Hid (Bnd N v)) (hN:N≤100000) (hT:Hid (Tab6 w)):Calls Tryz.prog 22 #[a,b,.int .i64 p] w (BPost lo hi w):=by
 obtain⟨s1,A1,k1,c1,t1,B1,m1,d1,rfl,hx1,hy1⟩:=ha.out
 obtain⟨s2,A2,k2,c2,t2,B2,m2,d2,rfl,hx2,hy2⟩:=hb.out
 have hk:=(((KB.start w).new 34 [.bool s1,.slice A1 k1 c1,.int .i64 x.e,.bool t1,.slice B1 m1 d1,.int .i64 y.e]).new 34 [.bool s2,.slice A2 k2 c2,.int .i64 u.e,.bool t2,.slice B2 m2 d2,.int .i64 v.e]).new 34 [.bool false,.slice none 0 0,.int .i64 0,.bool false,.slice none 0 0,.int .i64 0]
 simp only [World.size_alloc] at hk
 have HX1:=hid (hx1.only hk.only)
 have HX2:=hid (hy1.only hk.only)
 have HY1:=hid (hx2.only hk.only)
 have HY2:=hid (hy2.only hk.only)
 have HK:=hid hk
 have HLo:Hid (rndD (widthP p) (decide ((0:Int)≤ -1)) (dSub x v)=lo):=hlo
 have HHi:Hid (rndD (widthP p) (decide ((0:Int)≤1)) (dSub y u)=hi):=hhi
 have BA:Hid (Bnd (8*N+1) (dSub x v)):=bx.out.sub bv.out (by omega)
 have BB_:Hid (Bnd (8*N+1) (dSub y u)):=by_.out.sub bu.out (by omega)
 clear hk hx1 hy1 hx2 hy2 ha hb hlo hhi
 go_enter Tryz.func22,Tryz.ntmps22
 go_upto_region 1 with fail
 apply wp_region_typed_tail2 14 (by kernel_rfl) [isV _,isV _,isV _,isV _,isD (dSub x v),isV _,isD lo,isV _,isV _,isV _,isV _,isD (dSub y u),isV _,isD hi] [[],[0],[],[2],[1,3],[],[4,5],[],[7],[],[9],[8,10],[],[11,12]] (by kernel_rfl) (by kernel_rfl) (by kernel_rfl)
 case ho=>
  simp only [List.take_succ_cons,List.take_zero]
  iterate 14
   refine owes2_cons (fun wx hox=>?_) ?_
   ·skip
    have hk:=HK.out.step hox
    obtain⟨i0,i1,i2,i3,i4,i5⟩:=hk.c6 2 rfl
    obtain⟨j0,j1,j2,j3,j4,j5⟩:=hk.c6 1 rfl
    refine withs_plain rfl ?_
    simp only [withs,List.getElem?_cons_zero,List.getElem?_cons_succ,Option.bind,Option.getD]
    with_reducible repeat first|refine all_isV ?_|(refine all_isD ?_;intro sx Ax kx cx hvx hwx)
    go_simp
    first
    |exact⟨Only.refl _ _,isV.self _ _⟩
    |with_reducible exact grow_d (sub_d (DV.of (hid (HX1.out.only hox))) (DV.of (hid (HY2.out.only hox))) bx bv (by omega) (hid (hT.out.keep hk.only)))
    |with_reducible exact grow_d (roundV_d p (-1) lo HLo.out (DV.of (by assumption)) BA (by omega) (hid (hT.out.keep hk.only)))
    |with_reducible exact grow_d (sub_d (DV.of (hid (HX2.out.only hox))) (DV.of (hid (HY1.out.only hox))) by_ bu (by omega) (hid (hT.out.keep hk.only)))
    |with_reducible exact grow_d (roundV_d p 1 hi HHi.out (DV.of (by assumption)) BB_ (by omega) (hid (hT.out.keep hk.only)))
  exact owes2_nil
 case he=>
  simp only [List.drop_succ_cons,List.drop_zero]
  intro wx hox
  refine withs_of (by simp only [List.length,List.range,List.range.loop];exact rfl) ?_
  simp only [withs,List.getElem?_cons_zero,List.getElem?_cons_succ,Option.bind,Option.getD]
  with_reducible refine all_isV ?_
  with_reducible refine all_isV ?_
  with_reducible refine all_isV ?_
  with_reducible refine all_isV ?_
  with_reducible refine all_isD ?_
  intro s4 A4 k4 c4 hv4 hw4
  with_reducible refine all_isV ?_
  with_reducible refine all_isD ?_
  intro s6 A6 k6 c6 hv6 hw6
  with_reducible refine all_isV ?_
  with_reducible refine all_isV ?_
  with_reducible refine all_isV ?_
  with_reducible refine all_isV ?_
  with_reducible refine all_isD ?_
  intro s11 A11 k11 c11 hv11 hw11
  with_reducible refine all_isV ?_
  with_reducible refine all_isD ?_
  intro s13 A13 k13 c13 hv13 hw13
  go_simp
  have hk:=HK.out.step hox
  obtain⟨q0,q1,q2,q3,q4,q5⟩:=hk.c6 0 rfl
  obtain⟨f0,f1,f2,f3,f4,f5⟩:=hk.f6 0 rfl
  have HB:=hid (hk.blk 0 rfl)
  have HO:=hid hk.only
  clear hk hox HK
  go_wp2_with fail
  refine bodyPost_ret (v:= .agg #[.bool s6,.slice A6 k6 c6,.int .i64 (lo.e),.bool s13,.slice A13 k13 c13,.int .i64 (hi.e)]) (by simp [results,Tryz.results22,go_sem,q0,q1,q2,q3,q4,q5]) rfl ?_
  exact bfin hw6 hv6 hw13 hv13 (by omega) HB.out (noLimb6 _ _ _ _ _ _ _ _ _ _) HO.out (only_set6 _ _ _ _ _ _ _ _)
 case hl=>
  repeat (refine List.forall_mem_cons.2 ⟨?_,?_⟩;first|exact isV.lasts _|exact isD.lasts _)
  exact fun _ h=>(by cases h)
theorem cmpQ_le {a b:Rat}:cmpQ a b≤0↔a≤b:=by
 rcases rat_tri a b with h|h|h
 ·rw [cmpQ_lt h];exact⟨fun _=>by grind,fun _=>by decide⟩
 ·rw [cmpQ_eq h];exact⟨fun _=>by grind,fun _=>by decide⟩
 ·rw [cmpQ_gt h];exact⟨fun hc=>absurd hc (by decide),fun hc=>absurd hc (by grind)⟩
set_option maxHeartbeats 3200000 in
set_option maxRecDepth 100000 in
theorem bsign_b {w:World} {a:Value} {x y:Dy} (p:Int) (ok:Bool) (hp:(if x.z.sign=y.z.sign then x.z.sign else 0)=p) (hok:decide (x.z.sign=y.z.sign)=ok) (ha:Hid (BV w a x y)):Calls Tryz.prog 15 #[a] w fun e w'=>e= .returned (.tuple #[.int .i64 p,.bool ok])∧Only [] w w':=by
 obtain⟨s1,A1,k1,c1,t1,B1,m1,d1,rfl,hx1,hy1⟩:=ha.out
 have hk:=(KB.start w).new 34 [.bool s1,.slice A1 k1 c1,.int .i64 x.e,.bool t1,.slice B1 m1 d1,.int .i64 y.e]
 have HX:=hid (hx1.only hk.only)
 have HY:=hid (hy1.only hk.only)
 obtain⟨i0,i1,i2,i3,i4,i5⟩:=hk.c6 0 rfl
 have HK:=hid hk
 obtain⟨sx,hsx⟩: ∃q,x.z.sign=q:=⟨_,rfl⟩
 obtain⟨sy,hsy⟩: ∃q,y.z.sign=q:=⟨_,rfl⟩
 rw [hsx,hsy] at hp hok
 have HSx:=hid hsx
 have HSy:=hid hsy
 clear hk hx1 hy1 ha hsx hsy
 go_enter Tryz.func15,Tryz.ntmps15
 go_wp2_with fail
 (with_reducible refine (signV_d sx (DV.of HX) HSx.out).mono ?_)
 rintro e w2 ⟨rfl,ho⟩
 replace HK:=hid (HK.out.step ho)
 replace HY:=hid (HY.out.only ho)
 clear ho i0 i1 i2 i3 i4 i5
 obtain⟨i0,i1,i2,i3,i4,i5⟩:=HK.out.c6 0 rfl
 go_wp2_with fail
 (with_reducible refine (signV_d sy (DV.of HY) HSy.out).mono ?_)
 rintro e w3 ⟨rfl,ho⟩
 replace HK:=hid (HK.out.step ho)
 clear ho i0 i1 i2 i3 i4 i5
 by_cases h:sx=sy
 ·rw [if_pos h] at hp
  rw [decide_eq_true h] at hok
  subst hp hok
  have hb:(sx != sy)=false:=by rw [h];simp
  clear h
  go_wp2_with fail
  go_ret2
  exact⟨rfl,HK.out.only⟩
 ·rw [if_neg h] at hp
  rw [decide_eq_false h] at hok
  subst hp hok
  have hb:(sx != sy)=true:=by rw [bne_iff_ne];exact h
  clear h
  go_wp2_with fail
  go_ret2
  exact⟨rfl,HK.out.only⟩
set_option maxHeartbeats 3200000 in
set_option maxRecDepth 100000 in
theorem has_b {w:World} {a b:Value} {x y z:Dy} {N:Nat} (r:Bool) (hr:(decide (x.q≤z.q) && decide (z.q≤y.q))=r) (ha:Hid (BV w a x y)) (hb:Hid (DV w b z)) (bx:Hid (Bnd N x)) (by_:Hid (Bnd N y)) (bz:Hid (Bnd N z)) (hN:N≤2000000):Calls Tryz.prog 29 #[a,b] w fun e w'=>e= .returned (.bool r)∧Only [] w w':=by
 obtain⟨s1,A1,k1,c1,t1,B1,m1,d1,rfl,hx1,hy1⟩:=ha.out
 obtain⟨s2,A2,k2,c2,rfl,hz⟩:=hb.out
 have hk:=((KB.start w).new 34 [.bool s1,.slice A1 k1 c1,.int .i64 x.e,.bool t1,.slice B1 m1 d1,.int .i64 y.e]).new 32 [.bool s2,.slice A2 k2 c2,.int .i64 z.e]
 simp only [World.size_alloc] at hk
 have HX:=hid (hx1.only hk.only)
 have HY:=hid (hy1.only hk.only)
 have HZ:=hid (hz.only hk.only)
 obtain⟨i0,i1,i2,i3,i4,i5⟩:=hk.c6 1 rfl
 obtain⟨j0,j1,j2,-,-,-⟩:=hk.c3 0 rfl
 have HK:=hid hk
 obtain⟨c1',h1⟩: ∃q,cmpQ x.q z.q=q:=⟨_,rfl⟩
 obtain⟨c2',h2⟩: ∃q,cmpQ z.q y.q=q:=⟨_,rfl⟩
 have e1:decide (x.q≤z.q)=decide (c1'≤0):=by rw [← h1];exact decide_eq_decide.2 cmpQ_le.symm
 have e2:decide (z.q≤y.q)=decide (c2'≤0):=by rw [← h2];exact decide_eq_decide.2 cmpQ_le.symm
 rw [e1,e2] at hr
 have H1:=hid h1
 have H2:=hid h2
 clear hk hx1 hy1 hz ha hb h1 h2 e1 e2
 go_enter Tryz.func29,Tryz.ntmps29
 go_wp2_with fail
 (with_reducible refine (cmpV_d c1' (DV.of HX) (DV.of HZ) bx bz hN H1.out).mono ?_)
 rintro e w2 ⟨rfl,ho⟩
 replace HK:=hid (HK.out.step ho)
 replace HY:=hid (HY.out.only ho)
 replace HZ:=hid (HZ.out.only ho)
 clear ho i0 i1 i2 i3 i4 i5 j0 j1 j2
 obtain⟨i0,i1,i2,i3,i4,i5⟩:=HK.out.c6 1 rfl
 obtain⟨j0,j1,j2,-,-,-⟩:=HK.out.c3 0 rfl
 by_cases h:c1'≤0
 ·rw [decide_eq_true h,Bool.true_and] at hr
  go_wp2_with fail
  (with_reducible refine (cmpV_d c2' (DV.of HZ) (DV.of HY) bz by_ hN H2.out).mono ?_)
  rintro e w3 ⟨rfl,ho⟩
  replace HK:=hid (HK.out.step ho)
  clear ho
  go_wp2_with fail
  go_ret
  exact⟨rfl,HK.out.only⟩
 ·rw [decide_eq_false h,Bool.false_and] at hr
  subst hr
  go_wp2_with fail
  go_ret
  exact⟨rfl,HK.out.only⟩
end Go.Proofs.YtigpnopeacicpaaGreatDoor
