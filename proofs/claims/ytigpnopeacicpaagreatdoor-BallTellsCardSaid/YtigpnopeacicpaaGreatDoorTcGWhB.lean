import Derived.Test.YtigpnopeacicpaaGreatDoorTcGWhA
import Derived.Test.YtigpnopeacicpaaGreatDoorTcGNatA
import Derived.ProofKit
import Derived.OpenShut
import Derived.ShutString
import Derived.ChangeOld
import Derived.Below
import Derived.Deep.Slices
import Derived.Deep.Fields
import Derived.ChangeSame
namespace Go.Proofs.YtigpnopeacicpaaGreatDoor
open Go.Lib (hid)
open Go.RowKit
set_option linter.unusedSimpArgs false
structure WI where
 s:Bool
 a:Option Addr
 n:Nat
 c:Nat
 z:Int
def WI.v (x:WI):Value:= .agg #[.bool x.s,.slice x.a x.n x.c]
def WsRead (w:World) (A:Option Addr) (L:List WI):Prop:=
 ∀(k:Nat) (hk:k<L.length),∃b o,A=some ⟨b,o,none⟩∧w.cell? ⟨b,o+k*2,none⟩=some (.bool L[k].s)∧w.cell? ⟨b,o+k*2+1,none⟩=some (.slice L[k].a L[k].n L[k].c)∧IV w L[k].v L[k].z
theorem WsRead.only {w w':World} {A:Option Addr} {L:List WI} (h:WsRead w A L) (ho:Only [] w w'):WsRead w' A L:=fun k hk=>by
 obtain⟨b,o,h1,h2,h3,h4⟩:=h k hk
 exact⟨b,o,h1,ho.cell h2 (by simp),ho.cell h3 (by simp),h4.only ho⟩
def sumI (x:Int) (L:List WI):Int:=L.foldl (fun s i=>s+i.z) x
def prodI (x:Int) (L:List WI):Int:=L.foldl (fun s i=>s*i.z) x
structure WLoop (w w1 wr:World) (b g:Nat) (s:Bool) (A:Option Addr) (k c:Nat) (z:Int):Prop where
 only:Only [] w wr
 lt:w.heap.size=b
 sz:w1.heap.size=b+2
 gt:b+1<g
 b0:Blk wr (b+1) 30 [.bool false,.slice none 0 0]
 b1:Blk wr g 30 [.bool s,.slice A k c]
 sign:s=decide (z<0)
 res:Res w1 wr (.slice A k c) z.natAbs
 iv:IV wr (.agg #[.bool s,.slice A k c]) z
theorem WLoop.step {w w1 wr w':World} {b g:Nat} {s:Bool} {A:Option Addr} {k c:Nat} {z:Int} (h:WLoop w w1 wr b g s A k c z) (ho:Only [] wr w'):WLoop w w1 w' b g s A k c z:=
 ⟨h.only.nil_trans ho,h.lt,h.sz,h.gt,h.b0.only ho (by simp),h.b1.only ho (by simp),h.sign,h.res.nil ho,h.iv.only ho⟩
theorem WLoop.cells {w w1 wr:World} {b g:Nat} {s:Bool} {A:Option Addr} {k c:Nat} {z:Int} (h:WLoop w w1 wr b g s A k c z):
  wr.cell? ⟨g,0,none⟩=some (.bool s)∧wr.cell? ⟨g,1,none⟩=some (.slice A k c)∧wr.frozen? ⟨g,0,none⟩=false∧wr.frozen? ⟨g,1,none⟩=false∧
  wr.cell? ⟨b+1,0,none⟩=some (.bool false)∧wr.cell? ⟨b+1,1,none⟩=some (.slice none 0 0)∧wr.frozen? ⟨b+1,0,none⟩=false∧wr.frozen? ⟨b+1,1,none⟩=false:=
 ⟨h.b1.cell 0,h.b1.cell 1,h.b1.frozen 0,h.b1.frozen 1,h.b0.cell 0,h.b0.cell 1,h.b0.frozen 0,h.b0.frozen 1⟩
theorem WLoop.set_ {w w1 wr wx:World} {b g:Nat} {s s':Bool} {A A':Option Addr} {k c k' c':Nat} {z z':Int} (h:WLoop w w1 wr b g s A k c z) (h2:s'=decide (z'<0)∧Res wx wr (.slice A' k' c') z'.natAbs) (hw:b+2≤wx.heap.size) (hg:g<wx.heap.size) (hf:Few z'.natAbs):
  WLoop w w1 ((wr.setCell ⟨g,0,none⟩ (.bool s')).setCell ⟨g,1,none⟩ (.slice A' k' c')) b g s' A' k' c' z':=by
 have ho:=only_set2 wr g (.bool s') (.slice A' k' c')
 have hr:Res w1 ((wr.setCell ⟨g,0,none⟩ (.bool s')).setCell ⟨g,1,none⟩ (.slice A' k' c')) (.slice A' k' c') z'.natAbs:=(h2.2.only ho (fun x hx hc=>by
  have:=h2.2.fresh x hx
  simp at hc
  omega)).pre (by rw [h.sz];exact hw)
 have hb1:=(h.b1.set_ 0 (.bool s')).set_ 1 (.slice A' k' c')
 have hgw:=h.gt
 have hlt:=h.lt
 refine⟨h.only.trans ho (fun x hx=> .inr (by simp at hx;omega)),h.lt,h.sz,h.gt,h.b0.only ho (by simp;omega),hb1,h2.1,hr,?_⟩
 exact⟨s',A',k',c',_,rfl,NV.of_res hr hf,by rw [h2.1,sg_self]⟩
theorem WLoop.start {w w1 w2:World} {s:Bool} {A:Option Addr} {k c:Nat} {z:Int} (ho:Only [] w w2) (hsz:w1.heap.size=w.heap.size+2) (hs2:w1.heap.size≤w2.heap.size) (hB:Blk w2 (w.heap.size+1) 30 [.bool false,.slice none 0 0])
  (h:s=decide (z<0)∧Res w1 w2 (.slice A k c) z.natAbs∧IV w2 (.agg #[.bool s,.slice A k c]) z):
  WLoop w w1 (w2.alloc (.cells #[.bool s,.slice A k c] 30)) w.heap.size w2.heap.size s A k c z:=by
 have ho1:Only [] w2 (w2.alloc (.cells #[.bool s,.slice A k c] 30)):=(Only.refl [] w2).alloc _
 exact⟨ho.nil_trans ho1,rfl,hsz,by omega,hB.only ho1 (by simp),Blk.new w2 30 [.bool s,.slice A k c],h.1,h.2.1.nil ho1,h.2.2.only ho1⟩
theorem WLoop.fin {w w1 wr:World} {b g:Nat} {s:Bool} {A:Option Addr} {k c:Nat} {z:Int} (h:WLoop w w1 wr b g s A k c z):
  WPost z w w (.returned (.agg #[.bool s,.slice A k c])) ((wr.setCell ⟨b+1,0,none⟩ (.bool s)).setCell ⟨b+1,1,none⟩ (.slice A k c)):=
 WPost.fwd ⟨h.sign,h.res⟩ h.iv.few (by rw [h.lt];omega) (by rw [h.sz];omega) h.only (only_set2 _ _ _ _)
def FewAll (f:Int→WI→Int) (x:Int) (L:List WI):Prop:= ∀k,k≤L.length→Few ((L.take k).foldl f x).natAbs
theorem foldl_take_succ {f:Int→WI→Int} {x:Int} {L:List WI} {k:Nat} (h:k<L.length):(L.take (k+1)).foldl f x=f ((L.take k).foldl f x) L[k]:=by
 rw [List.take_succ_eq_append_getElem h,List.foldl_append]
 rfl
set_option maxHeartbeats 1600000 in
set_option maxRecDepth 100000 in
theorem add_w {w:World} {a:Value} {x:Int} (B:Option Addr) (d:Nat) (L:List WI) (ha:Hid (IV w a x)) (hL:Hid (WsRead w B L)) (hl:(L.length:Int)≤1000000) (hf:Hid (FewAll (fun s i=>s+i.z) x L)):
  Calls Tryz.prog 104 #[a,.slice B L.length d] w (WPost (sumI x L) w w):=by
 obtain⟨s,A,k,c,rfl,hs⟩:=ha.out.form
 have ho0:Only [] w ((w.alloc (.cells #[.bool s,.slice A k c] 30)).alloc (.cells #[.bool false,.slice none 0 0] 30)):=((Only.refl [] w).alloc _).alloc _
 have hB:=Blk.new (w.alloc (.cells #[.bool s,.slice A k c] 30)) 30 [.bool false,.slice none 0 0]
 simp only [World.size_alloc] at hB
 have HX:=hid (ha.out.mag.only ho0)
 have HS:Hid (sg s x.natAbs=x):=hs
 have HO0:=hid ho0
 clear ha hs ho0
 go_enter Tryz.func104,Tryz.ntmps104
 go_wp2_with fail
 (with_reducible refine (make_w _ HX).mono ?_)
 rintro e w2 ⟨s1,A1,k1,c1,rfl,hs1,hr1,hv1,ho⟩
 rw [HS.out] at hs1 hr1 hv1
 have hsz:((w.alloc (.cells #[.bool s,.slice A k c] 30)).alloc (.cells #[.bool false,.slice none 0 0] 30)).heap.size=w.heap.size+2:=by simp
 have hB2:=hB.only ho (by simp)
 have HO2:=hid (HO0.out.nil_trans ho)
 have HR1:=hid (⟨hs1,hr1,hv1⟩:_∧_∧_)
 have HSz:=hid hsz
 have HS2:=hid ho.size
 generalize (w.alloc (.cells #[.bool s,.slice A k c] 30)).alloc (.cells #[.bool false,.slice none 0 0] 30)=w1 at*
 clear ho hs1 hr1 hv1 hsz
 have HW:=hid (WLoop.start HO2.out HSz.out HS2.out hB2 HR1.out)
 obtain⟨g,hg⟩: ∃g,w2.heap.size=g:=⟨_,rfl⟩
 obtain⟨b,hb⟩: ∃b,w.heap.size=b:=⟨_,rfl⟩
 rw [hg,hb] at HW
 have HG:=hid hg
 go_wp2_with fail
 generalize w2.alloc (.cells #[.bool s1,.slice A1 k1 c1] 30)=w3 at*
 clear hB2 hB HX hg hb
 go_loopw [15] (fun kv wr=> ∃(i:Nat) (s':Bool) (A':Option Addr) (k' c':Nat),i≤L.length∧kv= .int .i64 (i:Int)∧WLoop w w1 wr b g s' A' k' c' ((L.take i).foldl (fun s i=>s+i.z) x)) (fun kv _=>L.length-(intOf kv).toNat)
 case atStart=>exact⟨0,s1,A1,k1,c1,Nat.zero_le _,rfl,HW.out⟩
 case round=>
  obtain⟨i,s',A',k',c',hi,rfl,hw⟩:=hrel
  have HWr:=hid hw
  obtain⟨d0,d1,df0,df1,e0,e1,ef0,ef1⟩:=hw.cells
  clear hw
  by_cases hlt:i<L.length
  ·obtain⟨ib,io,rfl,q0,q1,hit⟩:=(hL.out.only HWr.out.only) i hlt
   have HStep:Hid ((L.take (i+1)).foldl (fun s i=>s+i.z) x=(L.take i).foldl (fun s i=>s+i.z) x+L[i].z):=foldl_take_succ hlt
   have HFS:Hid (Few ((L.take i).foldl (fun s i=>s+i.z) x+L[i].z).natAbs):=by
    have:=hf.out (i+1) (by omega)
    rw [HStep.out] at this
    exact this
   have hk':(i:Int)<(L.length:Int):=by omega
   generalize L[i]=it at q0 q1 hit HStep HFS
   obtain⟨is,ia,iN,ic,iz⟩:=it
   simp only [WI.v] at q0 q1 hit HStep HFS
   have HIt:=hid hit
   generalize hz:(L.take i).foldl (fun s i=>s+i.z) x=z at HWr HStep HFS
   replace hz:=hid hz
   have ho4:Only [] wr (wr.alloc (.cells #[.bool is,.slice ia iN ic] 30)):=(Only.refl [] wr).alloc _
   have hw4:=HWr.out.step ho4
   obtain⟨m0,m1,mf0,mf1,n0,n1,nf0,nf1⟩:=hw4.cells
   have hn:=Blk.new wr 30 [.bool is,.slice ia iN ic]
   have r0:=hn.cell 0
   have r1:=hn.cell 1
   simp only [List.getElem?_cons_zero,List.getElem?_cons_succ] at r0 r1
   have HIt4:=hid (HIt.out.only ho4)
   have HW4:=hid hw4
   clear hlt hit hw4 ho4 hn
   go_wp2_with fail
   generalize wr.alloc (.cells #[.bool is,.slice ia iN ic] 30)=wy at*
   (with_reducible refine (plus_w (hid HW4.out.iv) HIt4 HFS).mono ?_)
   rintro e w5 ⟨s5,A5,k5,c5,rfl,hs5,hr5,-,ho⟩
   have HS5:=hid (HW4.out.step ho)
   obtain⟨d0,d1,df0,df1,e0,e1,ef0,ef1⟩:=HS5.out.cells
   have HR5:=hid (⟨hs5,hr5⟩:_∧_)
   clear ho hs5 hr5 m0 m1 mf0 mf1 n0 n1 nf0 nf1 r0 r1 q0 q1
   go_wp2_with fail
   go_roundw
   case rel=>
    refine⟨i+1,s5,A5,k5,c5,by omega,by go_num,?_⟩
    rw [HStep.out]
    exact HS5.out.set_ HR5.out (by have:=HW4.out.gt;have:=HW4.out.b1.lt;omega) HW4.out.b1.lt HFS.out
   case measure=>simp [intOf];omega
  ·have hnl: ¬(i:Int)<(L.length:Int):=by omega
   have HE:Hid (i=L.length):=by show _=_;omega
   clear hlt hi
   go_wp2_with fail
   refine bodyPost_ret (v:= .agg #[.bool s',.slice A' k' c']) (by simp [results,Tryz.results104,go_sem,e0,e1]) rfl ?_
   have hz:=HWr.out.fin
   rw [HE.out,List.take_length] at hz
   exact hz
set_option maxHeartbeats 1600000 in
set_option maxRecDepth 100000 in
theorem mul_w {w:World} {a:Value} {x:Int} (B:Option Addr) (d:Nat) (L:List WI) (ha:Hid (IV w a x)) (hL:Hid (WsRead w B L)) (hl:(L.length:Int)≤1000000) (hf:Hid (FewAll (fun s i=>s*i.z) x L)):
  Calls Tryz.prog 78 #[a,.slice B L.length d] w (WPost (prodI x L) w w):=by
 obtain⟨s,A,k,c,rfl,hs⟩:=ha.out.form
 have ho0:Only [] w ((w.alloc (.cells #[.bool s,.slice A k c] 30)).alloc (.cells #[.bool false,.slice none 0 0] 30)):=((Only.refl [] w).alloc _).alloc _
 have hB:=Blk.new (w.alloc (.cells #[.bool s,.slice A k c] 30)) 30 [.bool false,.slice none 0 0]
 simp only [World.size_alloc] at hB
 have HX:=hid (ha.out.mag.only ho0)
 have HS:Hid (sg s x.natAbs=x):=hs
 have HO0:=hid ho0
 clear ha hs ho0
 go_enter Tryz.func78,Tryz.ntmps78
 go_wp2_with fail
 (with_reducible refine (make_w _ HX).mono ?_)
 rintro e w2 ⟨s1,A1,k1,c1,rfl,hs1,hr1,hv1,ho⟩
 rw [HS.out] at hs1 hr1 hv1
 have hsz:((w.alloc (.cells #[.bool s,.slice A k c] 30)).alloc (.cells #[.bool false,.slice none 0 0] 30)).heap.size=w.heap.size+2:=by simp
 have hB2:=hB.only ho (by simp)
 have HO2:=hid (HO0.out.nil_trans ho)
 have HR1:=hid (⟨hs1,hr1,hv1⟩:_∧_∧_)
 have HSz:=hid hsz
 have HS2:=hid ho.size
 generalize (w.alloc (.cells #[.bool s,.slice A k c] 30)).alloc (.cells #[.bool false,.slice none 0 0] 30)=w1 at*
 clear ho hs1 hr1 hv1 hsz
 have HW:=hid (WLoop.start HO2.out HSz.out HS2.out hB2 HR1.out)
 obtain⟨g,hg⟩: ∃g,w2.heap.size=g:=⟨_,rfl⟩
 obtain⟨b,hb⟩: ∃b,w.heap.size=b:=⟨_,rfl⟩
 rw [hg,hb] at HW
 have HG:=hid hg
 go_wp2_with fail
 generalize w2.alloc (.cells #[.bool s1,.slice A1 k1 c1] 30)=w3 at*
 clear hB2 hB HX hg hb
 go_loopw [15] (fun kv wr=> ∃(i:Nat) (s':Bool) (A':Option Addr) (k' c':Nat),i≤L.length∧kv= .int .i64 (i:Int)∧WLoop w w1 wr b g s' A' k' c' ((L.take i).foldl (fun s i=>s*i.z) x)) (fun kv _=>L.length-(intOf kv).toNat)
 case atStart=>exact⟨0,s1,A1,k1,c1,Nat.zero_le _,rfl,HW.out⟩
 case round=>
  obtain⟨i,s',A',k',c',hi,rfl,hw⟩:=hrel
  have HWr:=hid hw
  obtain⟨d0,d1,df0,df1,e0,e1,ef0,ef1⟩:=hw.cells
  clear hw
  by_cases hlt:i<L.length
  ·obtain⟨ib,io,rfl,q0,q1,hit⟩:=(hL.out.only HWr.out.only) i hlt
   have HStep:Hid ((L.take (i+1)).foldl (fun s i=>s*i.z) x=(L.take i).foldl (fun s i=>s*i.z) x*L[i].z):=foldl_take_succ hlt
   have HFS:Hid (Few ((L.take i).foldl (fun s i=>s*i.z) x*L[i].z).natAbs):=by
    have:=hf.out (i+1) (by omega)
    rw [HStep.out] at this
    exact this
   have hk':(i:Int)<(L.length:Int):=by omega
   generalize L[i]=it at q0 q1 hit HStep HFS
   obtain⟨is,ia,iN,ic,iz⟩:=it
   simp only [WI.v] at q0 q1 hit HStep HFS
   have HIt:=hid hit
   have HFM:Hid (Few (((L.take i).foldl (fun s i=>s*i.z) x).natAbs*iz.natAbs)):=by
    have:=HFS.out
    rw [Int.natAbs_mul] at this
    exact this
   have HSg:Hid (sg (!s' == is) (((L.take i).foldl (fun s i=>s*i.z) x).natAbs*iz.natAbs)=(L.take i).foldl (fun s i=>s*i.z) x*iz):=by
    show sg (s' != is) _=_
    rw [sg_mul,HWr.out.iv.sign,HIt.out.sign]
   generalize hz:(L.take i).foldl (fun s i=>s*i.z) x=z at HWr HStep HFS HFM HSg
   replace hz:=hid hz
   have ho4:Only [] wr (wr.alloc (.cells #[.bool is,.slice ia iN ic] 30)):=(Only.refl [] wr).alloc _
   have hw4:=HWr.out.step ho4
   obtain⟨m0,m1,mf0,mf1,n0,n1,nf0,nf1⟩:=hw4.cells
   have hn:=Blk.new wr 30 [.bool is,.slice ia iN ic]
   have r0:=hn.cell 0
   have r1:=hn.cell 1
   simp only [List.getElem?_cons_zero,List.getElem?_cons_succ] at r0 r1
   have HIt4:=hid (HIt.out.only ho4)
   have HW4:=hid hw4
   clear hlt hit hw4 ho4 hn
   go_wp2_with fail
   generalize wr.alloc (.cells #[.bool is,.slice ia iN ic] 30)=wy at*
   apply wp_region_typed_tail 11 (by kernel_rfl) [isV _,isV _,isV _,isV _,isV _,isV _,isV _,isV _,isV _,isNR wy (z.natAbs*iz.natAbs),isWR wy (z*iz)] (by kernel_rfl) (by kernel_rfl)
   case ho=>
    simp only [List.take_succ_cons,List.take_zero]
    refine owes_cons (fun wx hox=>?_) ?_
    ·simp only [waits,withs,Region.binds,List.filter,List.map,List.getElem?_cons_zero,List.getElem?_cons_succ,Option.bind,Option.getD,List.range,List.range.loop,List.length]
     repeat (first|refine all_isV ?_|(intro vx hx';replace hx':=hid hx'))
     have hw5:=HW4.out.step hox
     obtain⟨d0,d1,df0,df1,e0,e1,ef0,ef1⟩:=hw5.cells
     clear hw5
     have r0:=hox.cell r0 (by simp)
     have r1:=hox.cell r1 (by simp)
     go_simp
     first|exact⟨Only.refl _ _,isV.self _ _⟩|(fail)
    refine owes_cons (fun wx hox=>?_) ?_
    ·simp only [waits,withs,Region.binds,List.filter,List.map,List.getElem?_cons_zero,List.getElem?_cons_succ,Option.bind,Option.getD,List.range,List.range.loop,List.length]
     repeat (first|refine all_isV ?_|(intro vx hx';replace hx':=hid hx'))
     have hw5:=HW4.out.step hox
     obtain⟨d0,d1,df0,df1,e0,e1,ef0,ef1⟩:=hw5.cells
     clear hw5
     have r0:=hox.cell r0 (by simp)
     have r1:=hox.cell r1 (by simp)
     go_simp
     first|exact⟨Only.refl _ _,isV.self _ _⟩|(fail)
    refine owes_cons (fun wx hox=>?_) ?_
    ·simp only [waits,withs,Region.binds,List.filter,List.map,List.getElem?_cons_zero,List.getElem?_cons_succ,Option.bind,Option.getD,List.range,List.range.loop,List.length]
     repeat (first|refine all_isV ?_|(intro vx hx';replace hx':=hid hx'))
     have hw5:=HW4.out.step hox
     obtain⟨d0,d1,df0,df1,e0,e1,ef0,ef1⟩:=hw5.cells
     clear hw5
     have r0:=hox.cell r0 (by simp)
     have r1:=hox.cell r1 (by simp)
     go_simp
     first|exact⟨Only.refl _ _,isV.self _ _⟩|(fail)
    refine owes_cons (fun wx hox=>?_) ?_
    ·simp only [waits,withs,Region.binds,List.filter,List.map,List.getElem?_cons_zero,List.getElem?_cons_succ,Option.bind,Option.getD,List.range,List.range.loop,List.length]
     repeat (first|refine all_isV ?_|(intro vx hx';replace hx':=hid hx'))
     have hw5:=HW4.out.step hox
     obtain⟨d0,d1,df0,df1,e0,e1,ef0,ef1⟩:=hw5.cells
     clear hw5
     have r0:=hox.cell r0 (by simp)
     have r1:=hox.cell r1 (by simp)
     go_simp
     first|exact⟨Only.refl _ _,isV.self _ _⟩|(fail)
    refine owes_cons (fun wx hox=>?_) ?_
    ·simp only [waits,withs,Region.binds,List.filter,List.map,List.getElem?_cons_zero,List.getElem?_cons_succ,Option.bind,Option.getD,List.range,List.range.loop,List.length]
     repeat (first|refine all_isV ?_|(intro vx hx';replace hx':=hid hx'))
     have hw5:=HW4.out.step hox
     obtain⟨d0,d1,df0,df1,e0,e1,ef0,ef1⟩:=hw5.cells
     clear hw5
     have r0:=hox.cell r0 (by simp)
     have r1:=hox.cell r1 (by simp)
     go_simp
     first|exact⟨Only.refl _ _,isV.self _ _⟩|(fail)
    refine owes_cons (fun wx hox=>?_) ?_
    ·simp only [waits,withs,Region.binds,List.filter,List.map,List.getElem?_cons_zero,List.getElem?_cons_succ,Option.bind,Option.getD,List.range,List.range.loop,List.length]
     repeat (first|refine all_isV ?_|(intro vx hx';replace hx':=hid hx'))
     have hw5:=HW4.out.step hox
     obtain⟨d0,d1,df0,df1,e0,e1,ef0,ef1⟩:=hw5.cells
     clear hw5
     have r0:=hox.cell r0 (by simp)
     have r1:=hox.cell r1 (by simp)
     go_simp
     first|exact⟨Only.refl _ _,isV.self _ _⟩|(fail)
    refine owes_cons (fun wx hox=>?_) ?_
    ·simp only [waits,withs,Region.binds,List.filter,List.map,List.getElem?_cons_zero,List.getElem?_cons_succ,Option.bind,Option.getD,List.range,List.range.loop,List.length]
     repeat (first|refine all_isV ?_|(intro vx hx';replace hx':=hid hx'))
     have hw5:=HW4.out.step hox
     obtain⟨d0,d1,df0,df1,e0,e1,ef0,ef1⟩:=hw5.cells
     clear hw5
     have r0:=hox.cell r0 (by simp)
     have r1:=hox.cell r1 (by simp)
     go_simp
     first|exact⟨Only.refl _ _,isV.self _ _⟩|(fail)
    refine owes_cons (fun wx hox=>?_) ?_
    ·simp only [waits,withs,Region.binds,List.filter,List.map,List.getElem?_cons_zero,List.getElem?_cons_succ,Option.bind,Option.getD,List.range,List.range.loop,List.length]
     repeat (first|refine all_isV ?_|(intro vx hx';replace hx':=hid hx'))
     have hw5:=HW4.out.step hox
     obtain⟨d0,d1,df0,df1,e0,e1,ef0,ef1⟩:=hw5.cells
     clear hw5
     have r0:=hox.cell r0 (by simp)
     have r1:=hox.cell r1 (by simp)
     go_simp
     first|exact⟨Only.refl _ _,isV.self _ _⟩|(fail)
    refine owes_cons (fun wx hox=>?_) ?_
    ·simp only [waits,withs,Region.binds,List.filter,List.map,List.getElem?_cons_zero,List.getElem?_cons_succ,Option.bind,Option.getD,List.range,List.range.loop,List.length]
     repeat (first|refine all_isV ?_|(intro vx hx';replace hx':=hid hx'))
     have hw5:=HW4.out.step hox
     obtain⟨d0,d1,df0,df1,e0,e1,ef0,ef1⟩:=hw5.cells
     clear hw5
     have r0:=hox.cell r0 (by simp)
     have r1:=hox.cell r1 (by simp)
     go_simp
     first|exact⟨Only.refl _ _,isV.self _ _⟩|(fail)
    refine owes_cons (fun wx hox=>?_) ?_
    ·simp only [waits,withs,Region.binds,List.filter,List.map,List.getElem?_cons_zero,List.getElem?_cons_succ,Option.bind,Option.getD,List.range,List.range.loop,List.length]
     (refine all_isV ?_;refine all_isV ?_)
     go_simp
     exact grow_n (mul_v 40 (hid (HW4.out.iv.mag.only hox)) (hid (HIt4.out.mag.only hox)) HFM) hox
    refine owes_cons (fun wx hox=>?_) ?_
    ·simp only [waits,withs,Region.binds,List.filter,List.map,List.getElem?_cons_zero,List.getElem?_cons_succ,Option.bind,Option.getD,List.range,List.range.loop,List.length]
     (refine all_isV ?_;rintro _ _ v ⟨A1,k1,c1,rfl,-,hv⟩;replace hv:=hid hv)
     go_simp
     (rw [← HSg.out];exact grow_w (make_w _ hv) hox)
    exact owes_nil
   case he=>
    simp only [List.drop_succ_cons,List.drop_zero]
    intro w5 ho
    simp only [waits,withs,Region.binds,List.filter,List.map,List.getElem?_cons_zero,List.getElem?_cons_succ,Option.bind,Option.getD,List.range,List.range.loop,List.length]
    repeat (first|refine all_isV ?_|(intro vx hx';replace hx':=hid hx'))
    obtain⟨s5,A5,k5,c5,rfl,hs5,hr5,-⟩:=hx'.out
    have HS5:=hid (HW4.out.step ho)
    obtain⟨d0,d1,df0,df1,e0,e1,ef0,ef1⟩:=HS5.out.cells
    have HR5:=hid (⟨hs5,hr5⟩:_∧_)
    clear ho hs5 hr5 m0 m1 mf0 mf1 n0 n1 nf0 nf1 r0 r1 q0 q1
    go_simp
    go_wp2_with fail
    go_roundw
    case rel=>
     refine⟨i+1,s5,A5,k5,c5,by omega,by go_num,?_⟩
     rw [HStep.out]
     exact HS5.out.set_ HR5.out (by have:=HW4.out.gt;have:=HW4.out.b1.lt;omega) HW4.out.b1.lt HFS.out
    case measure=>simp [intOf];omega
   case hl=>
    repeat (refine List.forall_mem_cons.2 ⟨?_,?_⟩;first|exact isV.lasts _|exact isNR.lasts _ _|exact isWR.lasts _ _)
    exact fun _ h=>(by cases h)
  ·have hnl: ¬(i:Int)<(L.length:Int):=by omega
   have HE:Hid (i=L.length):=by show _=_;omega
   clear hlt hi
   go_wp2_with fail
   refine bodyPost_ret (v:= .agg #[.bool s',.slice A' k' c']) (by simp [results,Tryz.results78,go_sem,e0,e1]) rfl ?_
   have hz:=HWr.out.fin
   rw [HE.out,List.take_length] at hz
   exact hz
end Go.Proofs.YtigpnopeacicpaaGreatDoor
namespace Go.Proofs.YtigpnopeacicpaaGreatDoor
open Go.Lib (hid)
open Go.RowKit
set_option linter.unusedSimpArgs false
theorem growIf_no {P:Program} {l:List Oper} {o:Oper} {a:Act} {w:World} {p:VP} {g:Nat} {want b:Bool} {d:Nat} (h:o.guard=some (g,want)) (hd:dstOf l g=some d) (hv:a.tmps[d]? =some (.bool b)) (hb:want= !b) (hh:p undef w):growIf P l o a w p:=by
 have hd':(l.toArray[g]?).bind (·.dst)=some d:=by unfold dstOf at hd;simpa using hd
 subst hb
 unfold growIf Region.wanted yielded
 rw [h]
 simp only [hd',Option.bind_some,hv]
 cases b<;>exact hh
structure BX where
 g:Nat
 s:Bool
 a:Option Addr
 k:Nat
 c:Nat
 z:Int
def BX.v (x:BX):Value:= .agg #[.bool x.s,.slice x.a x.k x.c]
def BX.ok (w:World) (x:BX):Prop:=Blk w x.g 30 [.bool x.s,.slice x.a x.k x.c]∧IV w x.v x.z
structure WB (w0 w:World) (L:List BX):Prop where
 only:Only [] w0 w
 all: ∀(i:Nat) (x:BX),L[i]? =some x→BX.ok w x
theorem WB.step {w0 w w':World} {L:List BX} (h:WB w0 w L) (ho:Only [] w w'):WB w0 w' L:=⟨h.only.nil_trans ho,fun i x hx=>⟨(h.all i x hx).1.only ho (by simp),(h.all i x hx).2.only ho⟩⟩
theorem WB.push {w0 w:World} {L:List BX} (h:WB w0 w L) {x:BX} (hx:BX.ok w x):WB w0 w (x::L):=⟨h.only,fun i y hy=>by
 cases i with
 |zero=>simp at hy;subst hy;exact hx
 |succ i=>exact h.all i y (by simpa using hy)⟩
theorem WB.new {w0 w:World} {L:List BX} (h:WB w0 w L) {s:Bool} {A:Option Addr} {k c:Nat} {z:Int} (hv:IV w (.agg #[.bool s,.slice A k c]) z):WB w0 (w.alloc (.cells #[.bool s,.slice A k c] 30)) (⟨w.heap.size,s,A,k,c,z⟩::L):=by
 have ho:Only [] w (w.alloc (.cells #[.bool s,.slice A k c] 30)):=(Only.refl [] w).alloc _
 exact (h.step ho).push ⟨Blk.new w 30 [.bool s,.slice A k c],hv.only ho⟩
theorem WB.iv {w0 w:World} {L:List BX} (h:Hid (WB w0 w L)) (i:Nat) {g:Nat} {s:Bool} {A:Option Addr} {k c:Nat} {z:Int} (hi:L[i]? =some ⟨g,s,A,k,c,z⟩):Hid (IV w (.agg #[.bool s,.slice A k c]) z):=(h.out.all i _ hi).2
theorem WB.blk {w0 w:World} {L:List BX} (h:Hid (WB w0 w L)) (i:Nat) {g:Nat} {s:Bool} {A:Option Addr} {k c:Nat} {z:Int} (hi:L[i]? =some ⟨g,s,A,k,c,z⟩):Blk w g 30 [.bool s,.slice A k c]:=(h.out.all i _ hi).1
theorem WB.cells {w0 w:World} {L:List BX} (h:Hid (WB w0 w L)) (i:Nat) {g:Nat} {s:Bool} {A:Option Addr} {k c:Nat} {z:Int} (hi:L[i]? =some ⟨g,s,A,k,c,z⟩):
  w.cell? ⟨g,0,none⟩=some (.bool s)∧w.cell? ⟨g,1,none⟩=some (.slice A k c)∧w.frozen? ⟨g,0,none⟩=false∧w.frozen? ⟨g,1,none⟩=false:=
 ⟨(WB.blk h i hi).cell 0,(WB.blk h i hi).cell 1,(WB.blk h i hi).frozen 0,(WB.blk h i hi).frozen 1⟩
theorem all_isRow {t:TypeId} {n:Nat} {cs:List Value} {w:World} {K:Value→Prop} (h: ∀g,Hid (Blk w g t cs)→K (.slice (some ⟨g,0,none⟩) n n)): ∀v,isRow t n cs v w→K v:=fun v ⟨g,h1,h2⟩=>by
 subst h1
 exact h g h2
def isPtr (w0:World) (t:TypeId) (cs:List Value):VP:=fun u w=> ∃g,u= .pointer (some ⟨g,0,none⟩)∧Blk w g t cs∧w0.heap.size≤g
theorem isPtr.lasts (w0:World) (t:TypeId) (cs:List Value):Lasts (isPtr w0 t cs):=fun _ _ _ ⟨g,h1,h2,h3⟩ ho=>⟨g,h1,h2.only ho (by simp),h3⟩
theorem isPtr.new {w0 w:World} (ho:Only [] w0 w) (t:TypeId) (cs:List Value):Only [] w (w.alloc (.cells cs.toArray t))∧isPtr w0 t cs (.pointer (some ⟨w.heap.size,0,none⟩)) (w.alloc (.cells cs.toArray t)):=⟨(Only.refl [] w).alloc _,_,rfl,Blk.new w t cs,ho.size⟩
theorem all_isPtr {w0:World} {t:TypeId} {cs:List Value} {w:World} {K:Value→Prop} (h: ∀g,Hid (Blk w g t cs)→Hid (w0.heap.size≤g)→K (.pointer (some ⟨g,0,none⟩))): ∀v,isPtr w0 t cs v w→K v:=fun v ⟨g,h1,h2,h3⟩=>by
 subst h1
 exact h g h2 h3
theorem cmpV_w {w:World} {a b:Value} {x y:Int} (c:Int) (ha:Hid (IV w a x)) (hb:Hid (IV w b y)) (hc:cmpI x y=c):Calls Tryz.prog 80 #[a,b] w fun e w'=>e= .returned (.int .i64 c)∧Only [] w w':=hc▸cmp_w ha hb
section
variable {l:List Oper} {Ps:List VP} {w:World} {K:Act→Prop} {a:Act} {i:Nat} {is:List Nat}
end
theorem one_read {w:World} {g:Nat} {s:Bool} {A:Option Addr} {k c:Nat} {z:Int} (hb:Blk w g 30 [.bool s,.slice A k c]) (hv:IV w (.agg #[.bool s,.slice A k c]) z):WsRead w (some ⟨g,0,none⟩) [⟨s,A,k,c,z⟩]:=fun j hj=>by
 obtain rfl:j=0:=by simp at hj;omega
 exact⟨g,0,rfl,hb.cell 0,hb.cell 1,hv⟩
theorem few_one {f:Int→WI→Int} {x:Int} {i:WI} (h0:Few x.natAbs) (h1:Few (f x i).natAbs):FewAll f x [i]:=fun k hk=>by
 rcases k with _|_|k
 ·exact h0
 ·exact h1
 ·simp at hk
theorem add1_w {w:World} {a:Value} {g:Nat} {s:Bool} {A:Option Addr} {k c:Nat} {x y:Int} (hr:Hid (Blk w g 30 [.bool s,.slice A k c])) (ha:Hid (IV w a x)) (hb:Hid (IV w (.agg #[.bool s,.slice A k c]) y)) (hf:Hid (Few (x+y).natAbs)):
  Calls Tryz.prog 104 #[a,.slice (some ⟨g,0,none⟩) 1 1] w (WPost (x+y) w w):=
 add_w (some ⟨g,0,none⟩) 1 [⟨s,A,k,c,y⟩] ha (hid (one_read hr.out hb.out)) (by simp) (hid (few_one ha.out.few hf.out))
theorem mul1_w {w:World} {a:Value} {g:Nat} {s:Bool} {A:Option Addr} {k c:Nat} {x y:Int} (hr:Hid (Blk w g 30 [.bool s,.slice A k c])) (ha:Hid (IV w a x)) (hb:Hid (IV w (.agg #[.bool s,.slice A k c]) y)) (hf:Hid (Few (x*y).natAbs)):
  Calls Tryz.prog 78 #[a,.slice (some ⟨g,0,none⟩) 1 1] w (WPost (x*y) w w):=
 mul_w (some ⟨g,0,none⟩) 1 [⟨s,A,k,c,y⟩] ha (hid (one_read hr.out hb.out)) (by simp) (hid (few_one ha.out.few hf.out))
end Go.Proofs.YtigpnopeacicpaaGreatDoor
namespace Go.Proofs.YtigpnopeacicpaaGreatDoor
open Go.Lib (hid)
open Go.RowKit
set_option linter.unusedSimpArgs false
def Far (g:Nat) (a:Option Addr) (k:Nat):Prop:=0<k→ ∀p,a=some p→p.block≠g
theorem NV.farS {w w':World} {S:List Nat} {A:Option Addr} {k c n:Nat} (h:NV w (.slice A k c) n) (ho:Only S w w') (hf: ∀g∈S,Far g A k):NV w' (.slice A k c) n:=by
 obtain⟨A',c',xs,e,h2,h3,h4,h5⟩:=h
 injection e with e1 e2 e3
 subst e1 e3
 refine⟨A,c,xs,by rw [e2],⟨fun j hj=>?_,h2.limb,h2.len⟩,h3,h4,h5⟩
 obtain⟨b,o,e3,hc⟩:=h2.read j hj
 exact⟨b,o,e3,ho.cell hc (fun hm=>hf b hm (by omega) _ e3 rfl)⟩
theorem IV.farS {w w':World} {S:List Nat} {s:Bool} {A:Option Addr} {k c:Nat} {z:Int} (h:IV w (.agg #[.bool s,.slice A k c]) z) (ho:Only S w w') (hf: ∀g∈S,Far g A k):IV w' (.agg #[.bool s,.slice A k c]) z:=
 ⟨s,A,k,c,_,rfl,h.mag.farS ho hf,h.sign⟩
theorem IV.far_box {w:World} {s s':Bool} {A A':Option Addr} {k c k' c' g:Nat} {z:Int} {t:TypeId} (h:IV w (.agg #[.bool s,.slice A k c]) z) (hb:Blk w g t [.bool s',.slice A' k' c']):Far g A k:=fun hk p hp hc=>by
 obtain⟨A1,c1,xs,e,h2,h3,h4,h5⟩:=h.mag
 injection e with e1 e2 e3
 subst e1 e2
 obtain⟨b,o,e2,hcell⟩:=h2.read 0 hk
 rw [hp] at e2
 injection e2 with e2
 subst e2
 simp only at hc
 subst hc
 rw [hb.cell] at hcell
 rcases o with _|_|o<;>simp at hcell
theorem Res.far {w0 w:World} {A:Option Addr} {k c n g:Nat} (h:Res w0 w (.slice A k c) n) (hg:g<w0.heap.size):Far g A k:=fun hk p hp hc=>by
 subst hp
 have hb:=h.fresh p.block
 rcases h.at_.2 with⟨e,h0⟩|⟨g',cap,cur,e,_⟩
 ·cases e
 ·injection e with e1 _ _
  injection e1 with e1
  subst e1
  have h1:w0.heap.size≤g':=hb rfl
  have h2:g'=g:=hc
  omega
def flatW (I:List WI):List Value:=I.flatMap fun i=>[.bool i.s,.slice i.a i.n i.c]
theorem flatW_get (I:List WI) (k:Nat) (h:k<I.length):(flatW I)[k*2]? =some (.bool I[k].s)∧(flatW I)[k*2+1]? =some (.slice I[k].a I[k].n I[k].c):=by
 induction I generalizing k with
 |nil=>simp at h
 |cons i I ih=>
  cases k with
  |zero=>exact⟨rfl,rfl⟩
  |succ k=>
   have:=ih k (by simpa using h)
   have e:flatW (i::I)=[.bool i.s,.slice i.a i.n i.c]++flatW I:=rfl
   rw [e,List.getElem?_append_right (by simp;omega),List.getElem?_append_right (by simp;omega)]
   rw [show (k+1)*2-[Value.bool i.s,Value.slice i.a i.n i.c].length=k*2 by simp;omega,show (k+1)*2+1-[Value.bool i.s,Value.slice i.a i.n i.c].length=k*2+1 by simp;omega]
   simpa using this
structure WRow (w:World) (u:Value) (I:List WI):Prop where
 own:w.ownsRow 0 30 2 u I.length (flatW I)
 its: ∀i∈I,IV w i.v i.z
 far: ∀g,u.ownBlock=some g→ ∀i∈I,Far g i.a i.n
theorem WRow.nil (w:World):WRow w (.slice none 0 0) []:=⟨World.ownsRow_nil _ _ _ _,fun i h=>by simp at h,fun _ h=>by cases h⟩
theorem WRow.only {w w':World} {S:List Nat} {u:Value} {I:List WI} (h:WRow w u I) (ho:Only S w w') (hS: ∀g∈S,(∀ i∈I,Far g i.a i.n)∧u.ownBlock≠some g):WRow w' u I:=
 ⟨owns_only h.own ho (fun g hg hc=>(hS g hc).2 hg),fun i hi=>(h.its i hi).farS ho (fun g hg=>(hS g hg).1 i hi),h.far⟩
theorem WRow.read {w:World} {u:Value} {I:List WI} (h:WRow w u I): ∃A c,u= .slice A I.length c∧WsRead w A I∧I.length≤c:=by
 rcases id h.own.2 with⟨rfl,h0⟩|⟨g,cap,cur,rfl,_,hg,hn,hm,_⟩
 ·exact⟨none,0,by rw [h0],fun k hk=>by omega,by omega⟩
 ·refine⟨_,cap,rfl,fun k hk=>⟨g,0,rfl,?_⟩,hn⟩
  have hc:=World.ownsRow.cells h.own (g:=g) rfl
  have h1:=hc (k*2) _ (flatW_get I k hk).1
  have h2:=hc (k*2+1) _ (flatW_get I k hk).2
  rw [addr_plus] at h1 h2
  exact⟨h1,h2,h.its _ (List.getElem_mem hk)⟩
theorem WRow.lt {w:World} {u:Value} {I:List WI} (h:WRow w u I): ∀g,u.ownBlock=some g→g<w.heap.size:=fun g hg=>(World.ownsRow.lt h.own g hg).2
end Go.Proofs.YtigpnopeacicpaaGreatDoor
namespace Go.Proofs.YtigpnopeacicpaaGreatDoor
open Go.Lib (hid)
open Go.ChangeShapes Go.WideShapes Go.ChangeAt Go.RowKit Go.Deep
end Go.Proofs.YtigpnopeacicpaaGreatDoor
