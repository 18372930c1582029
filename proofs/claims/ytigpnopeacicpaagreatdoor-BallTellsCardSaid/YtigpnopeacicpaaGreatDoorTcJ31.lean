/-
  Joined texts.
-/
import Derived.Test.YtigpnopeacicpaaGreatDoorTcJ30
import Derived.Test.YtigpnopeacicpaaGreatDoorTcJ18
import Derived.Test.YtigpnopeacicpaaGreatDoorTcGRd
namespace Go.Proofs.YtigpnopeacicpaaGreatDoor
open Go.Lib (hid)
set_option linter.unusedSimpArgs false
open Go.RowKit
set_option maxHeartbeats 8000000 in
set_option maxRecDepth 100000 in
theorem padd_b {w:World} {a b:Value} {x y u v:Dy} {N M:Nat} (p:Int) (u1 u2 lo hi:Dy) (h1:dAdd x u=u1) (h2:dAdd y v=u2) (hlo:rndD (widthP p) false u1=lo) (hhi:rndD (widthP p) true u2=hi) (ha:Hid (RBV w a x y)) (hb:Hid (RBV w b u v)) (cx:Hid (Can x)) (cy:Hid (Can y)) (cu:Hid (Can u)) (cv:Hid (Can v)) (BX1:Hid (Bnd N x)) (BX2:Hid (Bnd N y)) (BY1:Hid (Bnd N u)) (BY2:Hid (Bnd N v)) (BA:Hid (Bnd M u1)) (BB_:Hid (Bnd M u2)) (hN:N≤1000000) (hM:M≤8000000):Calls Tryz.prog 21 #[a,b,.int .i64 p] w (RBP lo hi w):=by
 obtain⟨s1,A1,k1,c1,t1,B1,m1,d1,rfl,hx1,hy1⟩:=ha.out
 obtain⟨s2,A2,k2,c2,t2,B2,m2,d2,rfl,hx2,hy2⟩:=hb.out
 have hk:=(((KB.start w).new 40 [.bool s1,.slice A1 k1 c1,.int .i64 x.e,.bool t1,.slice B1 m1 d1,.int .i64 y.e]).new 40 [.bool s2,.slice A2 k2 c2,.int .i64 u.e,.bool t2,.slice B2 m2 d2,.int .i64 v.e]).new 40 [.bool false,.slice none 0 0,.int .i64 0,.bool false,.slice none 0 0,.int .i64 0]
 simp only [World.size_alloc] at hk
 have HX1:=hid (hx1.only hk.only)
 have HX2:=hid (hy1.only hk.only)
 have HY1:=hid (hx2.only hk.only)
 have HY2:=hid (hy2.only hk.only)
 have HK:=hid hk
 have HLo:Hid (rndD (widthP p) (decide ((0:Int)≤ -1)) u1=lo):=hlo
 have HHi:Hid (rndD (widthP p) (decide ((0:Int)≤1)) u2=hi):=hhi
 have H1:=hid h1
 have H2:=hid h2
 clear hk hx1 hy1 hx2 hy2 ha hb hlo hhi h1 h2
 go_enter Tryz.func21,Tryz.ntmps21
 go_upto_region 1 with fail
 apply wp_region_typed_tail2 14 (by kernel_rfl) [isV _,isV _,isV _,isV _,isRD u1,isV _,isRD lo,isV _,isV _,isV _,isV _,isRD u2,isV _,isRD hi] [[],[0],[],[2],[1,3],[],[4,5],[],[7],[],[9],[8,10],[],[11,12]] (by kernel_rfl) (by kernel_rfl) (by kernel_rfl)
 case ho=>
  simp only [List.take_succ_cons,List.take_zero]
  iterate 14
   refine owes2_cons (fun wx hox=>?_) ?_
   ·skip
    have hk:=HK.out.step hox
    obtain⟨i0,i1,i2,i3,i4,i5⟩:=hk.c6 2 rfl
    obtain⟨j0,j1,j2,j3,j4,j5⟩:=hk.c6 1 rfl
    clear hk
    refine withs_plain rfl ?_
    simp only [withs,List.getElem?_cons_zero,List.getElem?_cons_succ,Option.bind,Option.getD]
    with_reducible repeat first|refine all_isV ?_|(refine all_isRD ?_;intro sx Ax kx cx hvx hwx)
    go_simp
    first
    |exact⟨Only.refl _ _,isV.self _ _⟩
    |with_reducible exact grow_rd (raddB_d u1 H1.out (hid (HX1.out.only hox)) (hid (HY1.out.only hox)) cx cu BX1 BY1 (by omega))
    |with_reducible exact grow_rd (rround_d p (-1) lo HLo.out (RD.of (by assumption) (by assumption)) BA (by omega))
    |with_reducible exact grow_rd (raddB_d u2 H2.out (hid (HX2.out.only hox)) (hid (HY2.out.only hox)) cy cv BX2 BY2 (by omega))
    |with_reducible exact grow_rd (rround_d p 1 hi HHi.out (RD.of (by assumption) (by assumption)) BB_ (by omega))
  exact owes2_nil
 case he=>
  simp only [List.drop_succ_cons,List.drop_zero]
  intro wx hox
  refine withs_of (by simp only [List.length,List.range,List.range.loop];exact rfl) ?_
  simp only [withs,List.getElem?_cons_zero,List.getElem?_cons_succ,Option.bind,Option.getD]
  with_reducible refine all_isV ?_
  with_reducible refine all_isV ?_
  with_reducible refine all_isV ?_
  with_reducible refine all_isV ?_
  with_reducible refine all_isRD ?_
  intro s4 A4 k4 c4 hv4 hw4
  with_reducible refine all_isV ?_
  with_reducible refine all_isRD ?_
  intro s6 A6 k6 c6 hv6 hw6
  with_reducible refine all_isV ?_
  with_reducible refine all_isV ?_
  with_reducible refine all_isV ?_
  with_reducible refine all_isV ?_
  with_reducible refine all_isRD ?_
  intro s11 A11 k11 c11 hv11 hw11
  with_reducible refine all_isV ?_
  with_reducible refine all_isRD ?_
  intro s13 A13 k13 c13 hv13 hw13
  go_simp
  have hk:=HK.out.step hox
  obtain⟨q0,q1,q2,q3,q4,q5⟩:=hk.c6 0 rfl
  obtain⟨f0,f1,f2,f3,f4,f5⟩:=hk.f6 0 rfl
  have HB:=hid (hk.blk 0 rfl)
  have HO:=hid hk.only
  clear hk hox HK
  go_wp2_with fail
  refine bodyPost_ret (v:= .agg #[.bool s6,.slice A6 k6 c6,.int .i64 (lo.e),.bool s13,.slice A13 k13 c13,.int .i64 (hi.e)]) (by simp [results,Tryz.results21,go_sem,q0,q1,q2,q3,q4,q5]) rfl ?_
  exact rbfin hw6 hv6 hw13 hv13 (by omega) HB.out (noLimb6 _ _ _ _ _ _ _ _ _ _) HO.out (only_set6 _ _ _ _ _ _ _ _)
 case hl=>
  repeat (refine List.forall_mem_cons.2 ⟨?_,?_⟩;first|exact isV.lasts _|exact isRD.lasts _)
  exact fun _ h=>(by cases h)
set_option maxHeartbeats 8000000 in
set_option maxRecDepth 100000 in
theorem psub_b {w:World} {a b:Value} {x y u v:Dy} {N M:Nat} (p:Int) (u1 u2 lo hi:Dy) (h1:dSub x v=u1) (h2:dSub y u=u2) (hlo:rndD (widthP p) false u1=lo) (hhi:rndD (widthP p) true u2=hi) (ha:Hid (RBV w a x y)) (hb:Hid (RBV w b u v)) (cx:Hid (Can x)) (cy:Hid (Can y)) (BX1:Hid (Bnd N x)) (BX2:Hid (Bnd N y)) (BY1:Hid (Bnd N u)) (BY2:Hid (Bnd N v)) (BA:Hid (Bnd M u1)) (BB_:Hid (Bnd M u2)) (hN:N≤1000000) (hM:M≤8000000):Calls Tryz.prog 23 #[a,b,.int .i64 p] w (RBP lo hi w):=by
 obtain⟨s1,A1,k1,c1,t1,B1,m1,d1,rfl,hx1,hy1⟩:=ha.out
 obtain⟨s2,A2,k2,c2,t2,B2,m2,d2,rfl,hx2,hy2⟩:=hb.out
 have hk:=(((KB.start w).new 40 [.bool s1,.slice A1 k1 c1,.int .i64 x.e,.bool t1,.slice B1 m1 d1,.int .i64 y.e]).new 40 [.bool s2,.slice A2 k2 c2,.int .i64 u.e,.bool t2,.slice B2 m2 d2,.int .i64 v.e]).new 40 [.bool false,.slice none 0 0,.int .i64 0,.bool false,.slice none 0 0,.int .i64 0]
 simp only [World.size_alloc] at hk
 have HX1:=hid (hx1.only hk.only)
 have HX2:=hid (hy1.only hk.only)
 have HY1:=hid (hx2.only hk.only)
 have HY2:=hid (hy2.only hk.only)
 have HK:=hid hk
 have HLo:Hid (rndD (widthP p) (decide ((0:Int)≤ -1)) u1=lo):=hlo
 have HHi:Hid (rndD (widthP p) (decide ((0:Int)≤1)) u2=hi):=hhi
 have H1:=hid h1
 have H2:=hid h2
 clear hk hx1 hy1 hx2 hy2 ha hb hlo hhi h1 h2
 go_enter Tryz.func23,Tryz.ntmps23
 go_upto_region 1 with fail
 apply wp_region_typed_tail2 14 (by kernel_rfl) [isV _,isV _,isV _,isV _,isRD u1,isV _,isRD lo,isV _,isV _,isV _,isV _,isRD u2,isV _,isRD hi] [[],[0],[],[2],[1,3],[],[4,5],[],[7],[],[9],[8,10],[],[11,12]] (by kernel_rfl) (by kernel_rfl) (by kernel_rfl)
 case ho=>
  simp only [List.take_succ_cons,List.take_zero]
  iterate 14
   refine owes2_cons (fun wx hox=>?_) ?_
   ·skip
    have hk:=HK.out.step hox
    obtain⟨i0,i1,i2,i3,i4,i5⟩:=hk.c6 2 rfl
    obtain⟨j0,j1,j2,j3,j4,j5⟩:=hk.c6 1 rfl
    clear hk
    refine withs_plain rfl ?_
    simp only [withs,List.getElem?_cons_zero,List.getElem?_cons_succ,Option.bind,Option.getD]
    with_reducible repeat first|refine all_isV ?_|(refine all_isRD ?_;intro sx Ax kx cx hvx hwx)
    go_simp
    first
    |exact⟨Only.refl _ _,isV.self _ _⟩
    |with_reducible exact grow_rd (rsubB_d u1 H1.out (hid (HX1.out.only hox)) (hid (HY2.out.only hox)) cx BX1 BY2 (by omega))
    |with_reducible exact grow_rd (rround_d p (-1) lo HLo.out (RD.of (by assumption) (by assumption)) BA (by omega))
    |with_reducible exact grow_rd (rsubB_d u2 H2.out (hid (HX2.out.only hox)) (hid (HY1.out.only hox)) cy BX2 BY1 (by omega))
    |with_reducible exact grow_rd (rround_d p 1 hi HHi.out (RD.of (by assumption) (by assumption)) BB_ (by omega))
  exact owes2_nil
 case he=>
  simp only [List.drop_succ_cons,List.drop_zero]
  intro wx hox
  refine withs_of (by simp only [List.length,List.range,List.range.loop];exact rfl) ?_
  simp only [withs,List.getElem?_cons_zero,List.getElem?_cons_succ,Option.bind,Option.getD]
  with_reducible refine all_isV ?_
  with_reducible refine all_isV ?_
  with_reducible refine all_isV ?_
  with_reducible refine all_isV ?_
  with_reducible refine all_isRD ?_
  intro s4 A4 k4 c4 hv4 hw4
  with_reducible refine all_isV ?_
  with_reducible refine all_isRD ?_
  intro s6 A6 k6 c6 hv6 hw6
  with_reducible refine all_isV ?_
  with_reducible refine all_isV ?_
  with_reducible refine all_isV ?_
  with_reducible refine all_isV ?_
  with_reducible refine all_isRD ?_
  intro s11 A11 k11 c11 hv11 hw11
  with_reducible refine all_isV ?_
  with_reducible refine all_isRD ?_
  intro s13 A13 k13 c13 hv13 hw13
  go_simp
  have hk:=HK.out.step hox
  obtain⟨q0,q1,q2,q3,q4,q5⟩:=hk.c6 0 rfl
  obtain⟨f0,f1,f2,f3,f4,f5⟩:=hk.f6 0 rfl
  have HB:=hid (hk.blk 0 rfl)
  have HO:=hid hk.only
  clear hk hox HK
  go_wp2_with fail
  refine bodyPost_ret (v:= .agg #[.bool s6,.slice A6 k6 c6,.int .i64 (lo.e),.bool s13,.slice A13 k13 c13,.int .i64 (hi.e)]) (by simp [results,Tryz.results23,go_sem,q0,q1,q2,q3,q4,q5]) rfl ?_
  exact rbfin hw6 hv6 hw13 hv13 (by omega) HB.out (noLimb6 _ _ _ _ _ _ _ _ _ _) HO.out (only_set6 _ _ _ _ _ _ _ _)
 case hl=>
  repeat (refine List.forall_mem_cons.2 ⟨?_,?_⟩;first|exact isV.lasts _|exact isRD.lasts _)
  exact fun _ h=>(by cases h)
set_option maxHeartbeats 8000000 in
set_option maxRecDepth 100000 in
theorem psign_b {w:World} {a:Value} {x y:Dy} (sx sy p:Int) (ok:Bool) (hsx:x.z.sign=sx) (hsy:y.z.sign=sy) (hcase:(0<sx∧p=1∧ok=true)∨(¬ 0<sx∧sy<0∧p= -1∧ok=true)∨(¬ 0<sx∧ ¬sy<0∧p=0∧((sx=0∧sy=0∧ok=true)∨(sx≠0∧ok=false)∨(sx=0∧sy≠0∧ok=false)))) (ha:Hid (RBV w a x y)):Calls Tryz.prog 16 #[a] w fun e w'=>e= .returned (.tuple #[.int .i64 p,.bool ok])∧Only [] w w':=by
 obtain⟨s1,A1,k1,c1,t1,B1,m1,d1,rfl,hx1,hy1⟩:=ha.out
 have hk:=(KB.start w).new 40 [.bool s1,.slice A1 k1 c1,.int .i64 x.e,.bool t1,.slice B1 m1 d1,.int .i64 y.e]
 have HX:=hid (hx1.only hk.only)
 have HY:=hid (hy1.only hk.only)
 have HK:=hid hk
 have HSX:=hid hsx
 have HSY:=hid hsy
 clear hk hx1 hy1 ha hsx hsy
 go_enter Tryz.func16,Tryz.ntmps16
 go_upto_region 1 with fail
 apply wp_region_typed2 (by kernel_rfl) [isV _,isV _,isV _,isV _,isV _,isV _,isV _,isV _] [[],[0],[1],[],[3],[4],[2],[5]] (by kernel_rfl) (by kernel_rfl)
 case ho=>
  refine owes2_cons (fun wx hox=>?_) ?_
  ·skip
   skip
   refine withs_plain rfl ?_
   simp only [withs,List.getElem?_cons_zero,List.getElem?_cons_succ,Option.bind,Option.getD]
   repeat (with_reducible refine all_isV ?_)
   go_simp
   exact⟨Only.refl _ _,isV.self _ _⟩
  refine owes2_cons (fun wx hox=>?_) ?_
  ·skip
   have hk:=HK.out.step hox
   obtain⟨i0,i1,i2,i3,i4,i5⟩:=hk.c6 0 rfl
   clear hk
   refine withs_plain rfl ?_
   simp only [withs,List.getElem?_cons_zero,List.getElem?_cons_succ,Option.bind,Option.getD]
   repeat (with_reducible refine all_isV ?_)
   go_simp
   exact⟨Only.refl _ _,isV.self _ _⟩
  refine owes2_cons (fun wx hox=>?_) ?_
  ·skip
   have hk:=HK.out.step hox
   obtain⟨i0,i1,i2,i3,i4,i5⟩:=hk.c6 0 rfl
   clear hk
   refine withs_plain rfl ?_
   simp only [withs,List.getElem?_cons_zero,List.getElem?_cons_succ,Option.bind,Option.getD]
   repeat (with_reducible refine all_isV ?_)
   go_simp
   (with_reducible exact grow_of (rsign_d sx (hid (HX.out.only hox)) HSX.out))
  refine owes2_cons (fun wx hox=>?_) ?_
  ·skip
   skip
   refine withs_plain rfl ?_
   simp only [withs,List.getElem?_cons_zero,List.getElem?_cons_succ,Option.bind,Option.getD]
   repeat (with_reducible refine all_isV ?_)
   go_simp
   exact⟨Only.refl _ _,isV.self _ _⟩
  refine owes2_cons (fun wx hox=>?_) ?_
  ·skip
   have hk:=HK.out.step hox
   obtain⟨i0,i1,i2,i3,i4,i5⟩:=hk.c6 0 rfl
   clear hk
   refine withs_plain rfl ?_
   simp only [withs,List.getElem?_cons_zero,List.getElem?_cons_succ,Option.bind,Option.getD]
   repeat (with_reducible refine all_isV ?_)
   go_simp
   exact⟨Only.refl _ _,isV.self _ _⟩
  refine owes2_cons (fun wx hox=>?_) ?_
  ·skip
   have hk:=HK.out.step hox
   obtain⟨i0,i1,i2,i3,i4,i5⟩:=hk.c6 0 rfl
   clear hk
   refine withs_plain rfl ?_
   simp only [withs,List.getElem?_cons_zero,List.getElem?_cons_succ,Option.bind,Option.getD]
   repeat (with_reducible refine all_isV ?_)
   go_simp
   (with_reducible exact grow_of (rsign_d sy (hid (HY.out.only hox)) HSY.out))
  refine owes2_cons (fun wx hox=>?_) ?_
  ·skip
   skip
   refine withs_plain rfl ?_
   simp only [withs,List.getElem?_cons_zero,List.getElem?_cons_succ,Option.bind,Option.getD]
   repeat (with_reducible refine all_isV ?_)
   go_simp
   exact⟨Only.refl _ _,isV.self _ _⟩
  refine owes2_cons (fun wx hox=>?_) ?_
  ·skip
   skip
   refine withs_plain rfl ?_
   simp only [withs,List.getElem?_cons_zero,List.getElem?_cons_succ,Option.bind,Option.getD]
   repeat (with_reducible refine all_isV ?_)
   go_simp
   exact⟨Only.refl _ _,isV.self _ _⟩
  exact owes2_nil
 case he=>
  intro wx hox
  refine withs_of (by simp only [List.length,List.range,List.range.loop];exact rfl) ?_
  simp only [withs,List.getElem?_cons_zero,List.getElem?_cons_succ,Option.bind,Option.getD]
  repeat (with_reducible refine all_isV ?_)
  go_simp
  have HO:=hid (HK.out.step hox).only
  clear hox HK HX HY HSX HSY
  rcases hcase with⟨h1,rfl,rfl⟩|⟨h1,h2,rfl,rfl⟩|⟨h1,h2,rfl,hk⟩
  ·go_wp2_with fail
   go_ret2
   exact⟨rfl,HO.out⟩
  ·go_wp2_with fail
   go_ret2
   exact⟨rfl,HO.out⟩
  ·rcases hk with⟨hz,hz2,rfl⟩|⟨hz,rfl⟩|⟨hz,hz2,rfl⟩
   ·subst hz hz2
    clear h1 h2
    go_wp2_with fail
    go_ret2
    exact⟨rfl,HO.out⟩
   ·have hz':(sx == 0)=false:=by rw [beq_eq_false_iff_ne];exact hz
    clear hz
    go_wp2_with fail
    go_ret2
    exact⟨rfl,HO.out⟩
   ·subst hz
    have hz':(sy == 0)=false:=by rw [beq_eq_false_iff_ne];exact hz2
    clear hz2 h1
    go_wp2_with fail
    go_ret2
    exact⟨rfl,HO.out⟩
 case hl=>
  repeat (refine List.forall_mem_cons.2 ⟨?_,?_⟩;exact isV.lasts _)
  exact fun _ h=>(by cases h)
structure GB (w0 w:World) (L:List EB):Prop where
 only:Only [] w0 w
 all: ∀(i:Nat) (x:EB),L[i]? =some x→Blk w x.g x.t x.cs∧NoLimb x.cs
 base: ∀(i:Nat) (x:EB),L[i]? =some x→w0.heap.size≤x.g
 ne: ∀(i j:Nat) (x y:EB),i≠j→L[i]? =some x→L[j]? =some y→x.g≠y.g
theorem GB.start (w:World):GB w w []:=⟨Only.refl _ _,fun i x h=>by simp at h,fun i x h=>by simp at h,fun i j x y _ h=>by simp at h⟩
theorem GB.step {w0 w w':World} {L:List EB} (h:GB w0 w L) (ho:Only [] w w'):GB w0 w' L:=⟨h.only.nil_trans ho,fun i x hx=>⟨(h.all i x hx).1.only ho (by simp),(h.all i x hx).2⟩,h.base,h.ne⟩
theorem GB.lt {w0 w:World} {L:List EB} (h:GB w0 w L) (i:Nat) (y:EB) (hy:L[i]? =some y):y.g<w.heap.size:=(h.all i y hy).1.lt
theorem GB.take {w0 w w':World} {L:List EB} (h:GB w0 w L) {g:Nat} {t:TypeId} {cs:List Value} (ho:Only [g] w w') (hb:Blk w' g t cs) (hn:NoLimb cs) (hg:w0.heap.size≤g) (hne: ∀(i:Nat) (y:EB),L[i]? =some y→y.g≠g):GB w0 w' (⟨g,t,cs⟩::L):=by
 refine⟨h.only.trans ho (fun k hk=> .inr (by simp at hk;omega)),fun i y hy=>?_,fun i y hy=>?_,fun i j y z hij hy hz=>?_⟩
 ·rcases i with _|i
  ·obtain rfl:=(Option.some.inj hy).symm
   exact⟨hb,hn⟩
  ·obtain⟨h1,h2⟩:=h.all i y hy
   exact⟨h1.only ho (by simp;exact hne i y hy),h2⟩
 ·rcases i with _|i
  ·obtain rfl:=(Option.some.inj hy).symm
   exact hg
  ·exact h.base i y hy
 ·rcases i with _|i
  ·rcases j with _|j
   ·omega
   ·obtain rfl:=(Option.some.inj hy).symm
    exact fun hc=>hne j z hz hc.symm
  ·rcases j with _|j
   ·obtain rfl:=(Option.some.inj hz).symm
    exact hne i y hy
   ·exact h.ne i j y z (by omega) hy hz
theorem GB.new {w0 w:World} {L:List EB} (h:GB w0 w L) (t:TypeId) (cs:List Value) (hn:NoLimb cs):GB w0 (w.alloc (.cells cs.toArray t)) (⟨w.heap.size,t,cs⟩::L):=
 h.take ((Only.refl _ w).alloc _) (Blk.new w t cs) hn h.only.size (fun i y hy=>by have:=h.lt i y hy;omega)
theorem GB.put {w0 w w':World} {L:List EB} (h:GB w0 w L) (i:Nat) {g:Nat} {t:TypeId} {cs cs':List Value} (hi:L[i]? =some ⟨g,t,cs⟩) (ho:Only [g] w w') (hb:Blk w' g t cs') (hn:NoLimb cs'):GB w0 w' (L.set i ⟨g,t,cs'⟩):=by
 have hg:w0.heap.size≤g:=h.base i _ hi
 have hlen:i<L.length:=(List.getElem?_eq_some_iff.1 hi).1
 have hne: ∀(j:Nat) (y:EB),L[j]? =some y→j≠i→y.g≠g:=fun j y hy hj=>h.ne j i y _ hj hy hi
 have key: ∀(j:Nat) (y:EB),(L.set i ⟨g,t,cs'⟩)[j]? =some y→(j=i∧y=⟨g,t,cs'⟩)∨(j≠i∧L[j]? =some y):=fun j y hy=>by
  by_cases hij:i=j
  ·subst hij
   rw [List.getElem?_set_self hlen] at hy
   exact .inl ⟨rfl,(Option.some.inj hy).symm⟩
  ·rw [List.getElem?_set_ne hij] at hy
   exact .inr ⟨Ne.symm hij,hy⟩
 have gk: ∀(j:Nat) (y:EB),(L.set i ⟨g,t,cs'⟩)[j]? =some y→ ∃y',L[j]? =some y'∧y'.g=y.g:=fun j y hy=>by
  rcases key j y hy with⟨rfl,rfl⟩|⟨_,h2⟩
  ·exact⟨_,hi,rfl⟩
  ·exact⟨_,h2,rfl⟩
 refine⟨h.only.trans ho (fun k hk=> .inr (by simp at hk;omega)),fun j y hy=>?_,fun j y hy=>?_,fun j l y z hjl hy hz=>?_⟩
 ·rcases key j y hy with⟨rfl,rfl⟩|⟨h1,h2⟩
  ·exact⟨hb,hn⟩
  ·obtain⟨h3,h4⟩:=h.all j y h2
   exact⟨h3.only ho (by simp;exact hne j y h2 h1),h4⟩
 ·obtain⟨y',h1,h2⟩:=gk j y hy
  have:=h.base j y' h1;omega
 ·obtain⟨y',h1,h2⟩:=gk j y hy
  obtain⟨z',h3,h4⟩:=gk l z hz
  have:=h.ne j l y' z' hjl h1 h3;omega
theorem GB.blk {w0 w:World} {L:List EB} (h:Hid (GB w0 w L)) (i:Nat) {g:Nat} {t:TypeId} {cs:List Value} (hi:L[i]? =some ⟨g,t,cs⟩):Blk w g t cs:=(h.out.all i _ hi).1
theorem GB.nolimb {w0 w:World} {L:List EB} (h:Hid (GB w0 w L)) (i:Nat) {g:Nat} {t:TypeId} {cs:List Value} (hi:L[i]? =some ⟨g,t,cs⟩):NoLimb cs:=(h.out.all i _ hi).2
theorem GB.c3 {w0 w:World} {L:List EB} (h:Hid (GB w0 w L)) (i:Nat) {g:Nat} {t:TypeId} {a b c:Value} (hi:L[i]? =some ⟨g,t,[a,b,c]⟩):
  w.cell? ⟨g,0,none⟩=some a∧w.cell? ⟨g,1,none⟩=some b∧w.cell? ⟨g,2,none⟩=some c:=
 have hb:=GB.blk h i hi
 ⟨hb.cell 0,hb.cell 1,hb.cell 2⟩
theorem GB.f3 {w0 w:World} {L:List EB} (h:Hid (GB w0 w L)) (i:Nat) {g:Nat} {t:TypeId} {cs:List Value} (hi:L[i]? =some ⟨g,t,cs⟩):
  w.frozen? ⟨g,0,none⟩=false∧w.frozen? ⟨g,1,none⟩=false∧w.frozen? ⟨g,2,none⟩=false:=
 have hb:=GB.blk h i hi
 ⟨hb.frozen 0,hb.frozen 1,hb.frozen 2⟩
theorem GB.c6 {w0 w:World} {L:List EB} (h:Hid (GB w0 w L)) (i:Nat) {g:Nat} {t:TypeId} {a b c d e f:Value} (hi:L[i]? =some ⟨g,t,[a,b,c,d,e,f]⟩):
  w.cell? ⟨g,0,none⟩=some a∧w.cell? ⟨g,1,none⟩=some b∧w.cell? ⟨g,2,none⟩=some c∧w.cell? ⟨g,3,none⟩=some d∧w.cell? ⟨g,4,none⟩=some e∧w.cell? ⟨g,5,none⟩=some f:=
 have hb:=GB.blk h i hi
 ⟨hb.cell 0,hb.cell 1,hb.cell 2,hb.cell 3,hb.cell 4,hb.cell 5⟩
theorem GB.f6 {w0 w:World} {L:List EB} (h:Hid (GB w0 w L)) (i:Nat) {g:Nat} {t:TypeId} {cs:List Value} (hi:L[i]? =some ⟨g,t,cs⟩):
  w.frozen? ⟨g,0,none⟩=false∧w.frozen? ⟨g,1,none⟩=false∧w.frozen? ⟨g,2,none⟩=false∧w.frozen? ⟨g,3,none⟩=false∧w.frozen? ⟨g,4,none⟩=false∧w.frozen? ⟨g,5,none⟩=false:=
 have hb:=GB.blk h i hi
 ⟨hb.frozen 0,hb.frozen 1,hb.frozen 2,hb.frozen 3,hb.frozen 4,hb.frozen 5⟩
theorem GB.c12 {w0 w:World} {L:List EB} (h:Hid (GB w0 w L)) (i:Nat) {g:Nat} {t:TypeId} {a b c d e f a' b' c' d' e' f':Value} (hi:L[i]? =some ⟨g,t,[a,b,c,d,e,f,a',b',c',d',e',f']⟩):
  w.cell? ⟨g,0,none⟩=some a∧w.cell? ⟨g,1,none⟩=some b∧w.cell? ⟨g,2,none⟩=some c∧w.cell? ⟨g,3,none⟩=some d∧w.cell? ⟨g,4,none⟩=some e∧w.cell? ⟨g,5,none⟩=some f∧w.cell? ⟨g,6,none⟩=some a'∧w.cell? ⟨g,7,none⟩=some b'∧w.cell? ⟨g,8,none⟩=some c'∧w.cell? ⟨g,9,none⟩=some d'∧w.cell? ⟨g,10,none⟩=some e'∧w.cell? ⟨g,11,none⟩=some f':=
 have hb:=GB.blk h i hi
 ⟨hb.cell 0,hb.cell 1,hb.cell 2,hb.cell 3,hb.cell 4,hb.cell 5,hb.cell 6,hb.cell 7,hb.cell 8,hb.cell 9,hb.cell 10,hb.cell 11⟩
theorem only_set6g (w:World) (b:Nat) (u0 u1 u2 u3 u4 u5:Value):Only [b] w ((((((w.setCell ⟨b,0,none⟩ u0).setCell ⟨b,1,none⟩ u1).setCell ⟨b,2,none⟩ u2).setCell ⟨b,3,none⟩ u3).setCell ⟨b,4,none⟩ u4).setCell ⟨b,5,none⟩ u5):=
 ((((((Only.refl [b] w).setCell (.inl (by simp)) u0).setCell (.inl (by simp)) u1).setCell (.inl (by simp)) u2).setCell (.inl (by simp)) u3).setCell (.inl (by simp)) u4).setCell (.inl (by simp)) u5
theorem Blk.to3 {w:World} {g:Nat} {t:TypeId} {a b c u v x:Value} (h:Blk w g t [a,b,c]):Blk (((w.setCell ⟨g,0,none⟩ u).setCell ⟨g,1,none⟩ v).setCell ⟨g,2,none⟩ x) g t [u,v,x]:=((h.set_ 0 u).set_ 1 v).set_ 2 x
theorem Blk.to6 {w:World} {g:Nat} {t:TypeId} {a b c d e f u0 u1 u2 u3 u4 u5:Value} (h:Blk w g t [a,b,c,d,e,f]):Blk ((((((w.setCell ⟨g,0,none⟩ u0).setCell ⟨g,1,none⟩ u1).setCell ⟨g,2,none⟩ u2).setCell ⟨g,3,none⟩ u3).setCell ⟨g,4,none⟩ u4).setCell ⟨g,5,none⟩ u5) g t [u0,u1,u2,u3,u4,u5]:=(((((h.set_ 0 u0).set_ 1 u1).set_ 2 u2).set_ 3 u3).set_ 4 u4).set_ 5 u5
theorem GB.adopt6 {w0 w:World} {L:List EB} (h:GB w0 w L) {g:Nat} {t:TypeId} {a b c d e f u0 u1 u2 u3 u4 u5:Value} (hb:Blk w g t [a,b,c,d,e,f]) (hn:NoLimb [u0,u1,u2,u3,u4,u5]) (hg:w0.heap.size≤g) (hne: ∀(i:Nat) (y:EB),L[i]? =some y→y.g≠g):
  GB w0 ((((((w.setCell ⟨g,0,none⟩ u0).setCell ⟨g,1,none⟩ u1).setCell ⟨g,2,none⟩ u2).setCell ⟨g,3,none⟩ u3).setCell ⟨g,4,none⟩ u4).setCell ⟨g,5,none⟩ u5) (⟨g,t,[u0,u1,u2,u3,u4,u5]⟩::L):=h.take (only_set6g _ _ _ _ _ _ _ _) hb.to6 hn hg hne
theorem GB.put3 {w0 w:World} {L:List EB} (h:GB w0 w L) (i:Nat) {g:Nat} {t:TypeId} {a b c u v x:Value} (hi:L[i]? =some ⟨g,t,[a,b,c]⟩) (hn:NoLimb [u,v,x]):
  GB w0 (((w.setCell ⟨g,0,none⟩ u).setCell ⟨g,1,none⟩ v).setCell ⟨g,2,none⟩ x) (L.set i ⟨g,t,[u,v,x]⟩):=h.put i hi (only_set3 _ _ _ _ _) (h.all i _ hi).1.to3 hn
theorem GB.apart {w0 w1:World} {L:List EB} (h:GB w0 w1 L) {g:Nat} (hg:w1.heap.size≤g): ∀(i:Nat) (y:EB),L[i]? =some y→y.g≠g:=fun i y hy=>by have:=h.lt i y hy;omega
theorem GB.apart1 {L:List EB} {b:EB} {g:Nat} (h: ∀(i:Nat) (y:EB),L[i]? =some y→y.g≠g) (hb:b.g≠g): ∀(i:Nat) (y:EB),(b::L)[i]? =some y→y.g≠g:=fun i y hy=>by
 rcases i with _|i
 ·obtain rfl:=(Option.some.inj hy).symm;exact hb
 ·exact h i y hy
theorem Blk.farX {w w':World} {g g':Nat} {t:TypeId} {cs:List Value} (h:Blk w g t cs) (ho:Only [g'] w w') (hne:g≠g'):Blk w' g t cs:=h.only ho (by simp;exact hne)
structure WX where
 s:Bool
 a:Option Addr
 k:Nat
 c:Nat
 z:Int
def WL (w:World) (L:List WX):Prop:= ∀(i:Nat) (y:WX),L[i]? =some y→IV w (.agg #[.bool y.s,.slice y.a y.k y.c]) y.z
theorem WL.nil (w:World):WL w []:=fun i y h=>by simp at h
theorem WL.cons {w:World} {L:List WX} (h:WL w L) {s:Bool} {A:Option Addr} {k c:Nat} {z:Int} (hv:Hid (IV w (.agg #[.bool s,.slice A k c]) z)):WL w (⟨s,A,k,c,z⟩::L):=fun i y hy=>by
 rcases i with _|i
 ·obtain rfl:=(Option.some.inj hy).symm;exact hv.out
 ·exact h i y hy
theorem GB.swap {w0 w:World} {L:List EB} {a b:EB} (h:GB w0 w (a::b::L)):GB w0 w (b::a::L):=by
 have key: ∀(i:Nat) (x:EB),(b::a::L)[i]? =some x→(a::b::L)[if i=0 then 1 else if i=1 then 0 else i]? =some x:=fun i x hx=>by
  rcases i with _|_|i
  ·simpa using hx
  ·simpa using hx
  ·simpa using hx
 exact⟨h.only,fun i x hx=>h.all _ x (key i x hx),fun i x hx=>h.base _ x (key i x hx),fun i j x y hij hx hy=>h.ne _ _ x y (by split<;>split<;>(try split)<;>(try split)<;>omega) (key i x hx) (key j y hy)⟩
theorem WL.step {w w':World} {L:List WX} (h:WL w L) (ho:Only [] w w'):WL w' L:=fun i y hy=>(h i y hy).only ho
theorem WL.far {w w':World} {L:List WX} (h:WL w L) {g:Nat} {t:TypeId} {cs:List Value} (ho:Only [g] w w') (hb:Blk w g t cs) (hn:NoLimb cs):WL w' L:=fun i z hz=>
 (h i z hz).farS ho (fun g' hg'=>by rw [List.mem_singleton] at hg';subst hg';exact (h i z hz).far_blk hb hn)
theorem WL.at {w:World} {L:List WX} (h:Hid (WL w L)) (i:Nat) {s:Bool} {A:Option Addr} {k c:Nat} {z:Int} (hi:L[i]? =some ⟨s,A,k,c,z⟩):Hid (IV w (.agg #[.bool s,.slice A k c]) z):=h.out i _ hi
theorem WL.dv {w:World} {L:List WX} (h:Hid (WL w L)) (i:Nat) {s:Bool} {A:Option Addr} {k c:Nat} {x:Dy} (hi:L[i]? =some ⟨s,A,k,c,x.z⟩):Hid (DV w (.agg #[.bool s,.slice A k c,.int .i64 x.e]) x):=DV.of (WL.at h i hi)
structure RX where
 s:Bool
 a:Option Addr
 k:Nat
 c:Nat
 x:Dy
def RL (w:World) (L:List RX):Prop:= ∀(i:Nat) (y:RX),L[i]? =some y→Cr y.s y.k y.x.z∧RV w (.slice y.a y.k y.c) y.x.z.natAbs
theorem RL.nil (w:World):RL w []:=fun i y h=>by simp at h
theorem RL.cons {w:World} {L:List RX} (h:RL w L) {s:Bool} {A:Option Addr} {k c:Nat} {x:Dy} (hv:Hid (RV w (.slice A k c) x.z.natAbs)) (hc:Hid (Cr s k x.z)):RL w (⟨s,A,k,c,x⟩::L):=fun i y hy=>by
 rcases i with _|i
 ·obtain rfl:=(Option.some.inj hy).symm;exact⟨hc.out,hv.out⟩
 ·exact h i y hy
theorem RL.step {w w':World} {L:List RX} (h:RL w L) (ho:Only [] w w'):RL w' L:=fun i y hy=>⟨(h i y hy).1,(h i y hy).2.only ho⟩
theorem RL.far {w w':World} {L:List RX} (h:RL w L) {g:Nat} {t:TypeId} {cs:List Value} (ho:Only [g] w w') (hb:Blk w g t cs) (hn:NoLimb cs):RL w' L:=fun i y hy=>
 ⟨(h i y hy).1,(h i y hy).2.farS ho (fun g' hg'=>by rw [List.mem_singleton] at hg';subst hg';exact (h i y hy).2.far_blk hb hn)⟩
theorem RL.rd {w:World} {L:List RX} (h:Hid (RL w L)) (i:Nat) {s:Bool} {A:Option Addr} {k c:Nat} {x:Dy} (hi:L[i]? =some ⟨s,A,k,c,x⟩):Hid (RD w (.agg #[.bool s,.slice A k c,.int .i64 x.e]) x):=
 ⟨s,A,k,c,rfl,(h.out i _ hi).1,(h.out i _ hi).2⟩
theorem GB.c2 {w0 w:World} {L:List EB} (h:Hid (GB w0 w L)) (i:Nat) {g:Nat} {t:TypeId} {a b:Value} (hi:L[i]? =some ⟨g,t,[a,b]⟩):
  w.cell? ⟨g,0,none⟩=some a∧w.cell? ⟨g,1,none⟩=some b:=
 have hb:=GB.blk h i hi
 ⟨hb.cell 0,hb.cell 1⟩
theorem wpList_store {P:Program} {w w':World} {ops:Array Oper} {rest:List Oper} {o:Oper} {a:Act} {Q:Exit→Act→World→Prop} (T:TypeId) (d e:Operand) (hgd:o.guard=none) (hdst:o.dst=none) (ho:o.op= .store T d e) {u v:Value} (hp:a.eval d=u) (hv:a.eval e=v) (hst:(Instr.storeAt T u v).run P w= .ok () w') (h:wpList P ops Q rest a w'):wpList P ops Q (o::rest) a w:=by
 refine wpList_plain hgd fun K hK=>?_
 unfold Oper.wp execOp
 simp only [ho,hp,hv,Sem.run_bind,hst,Result.andThen_ok,Sem.run_pure,Oper.upon_skip,hdst]
 exact hK _ _ h
theorem withs_guardM {P:Program} {l:List Oper} {Ps:List VP} {w:World} {o:Oper} {p:VP} {js:List Nat} {a0:Act} {g d:Nat} {want:Bool} (b:Bool) (hb:want= !b) (hg:o.guard=some (g,want)) (hd:dstOf l g=some d) (h:withs l Ps w (fun a=>a.tmps[d]? =some (.bool b)∧p undef w) js a0):withs l Ps w (fun a=>growIf P l o a w p) js a0:=
 withs_mono (fun _ hh=>growIf_no hg hd hh.1 hb hh.2) js a0 h
def QRP (x y:Dy) (ok:Bool) (w:World) (e:Ending) (w':World):Prop:= ∃s A k c t B m d,e= .returned (.tuple #[.agg #[.bool s,.slice A k c,.int .i64 x.e,.bool t,.slice B m d,.int .i64 y.e],.bool ok])∧(Cr s k x.z∧RV w' (.slice A k c) x.z.natAbs)∧(Cr t m y.z∧RV w' (.slice B m d) y.z.natAbs)∧Only [] w w'
theorem qrfin {x y:Dy} {ok:Bool} {w w1 w2:World} {b:Nat} {t:TypeId} {cs:List Value} {s s':Bool} {A A':Option Addr} {k c k' c':Nat} (hc:Hid (Cr s k x.z)) (hv:Hid (RV w1 (.slice A k c) x.z.natAbs)) (hc':Hid (Cr s' k' y.z)) (hv':Hid (RV w1 (.slice A' k' c') y.z.natAbs)) (hb:w.heap.size≤b) (hB:Blk w1 b t cs) (hn:NoLimb cs) (ho:Only [] w w1) (ho2:Only [b] w1 w2):
  QRP x y ok w (.returned (.tuple #[.agg #[.bool s,.slice A k c,.int .i64 x.e,.bool s',.slice A' k' c',.int .i64 y.e],.bool ok])) w2:=
 ⟨s,A,k,c,s',A',k',c',rfl,⟨hc.out,hv.out.farS ho2 (fun g hg=>by rw [List.mem_singleton] at hg;subst hg;exact hv.out.far_blk hB hn)⟩,⟨hc'.out,hv'.out.farS ho2 (fun g hg=>by rw [List.mem_singleton] at hg;subst hg;exact hv'.out.far_blk hB hn)⟩,ho.trans ho2 (fun k hk=> .inr (by simp at hk;omega))⟩
theorem crz:Cr false 0 0:=⟨by decide,by show 0=(R.limbsOf 0).length;rw [R.limbsOf_zero];rfl⟩
set_option maxHeartbeats 8000000 in
set_option maxRecDepth 100000 in
theorem psqrt_no {w:World} {a:Value} {x y:Dy} (p sy:Int) (HSY:Hid (y.z.sign=sy)) (hy0:sy<0) (ha:Hid (RBV w a x y)):Calls Tryz.prog 13 #[a,.int .i64 p] w (QRP ⟨0,0⟩ ⟨0,0⟩ false w):=by
 obtain⟨s1,A1,k1,c1,t1,B1,m1,d1,rfl,hx1,hy1⟩:=ha.out
 obtain⟨hc1,hv1⟩:=rd_parts hx1
 obtain⟨hd1,hu1⟩:=rd_parts hy1
 have hg:=((GB.start w).new 40 [.bool s1,.slice A1 k1 c1,.int .i64 x.e,.bool t1,.slice B1 m1 d1,.int .i64 y.e] (noLimb6 _ _ _ _ _ _ _ _ _ _)).new 40 [.bool false,.slice none 0 0,.int .i64 0,.bool false,.slice none 0 0,.int .i64 0] (noLimb6 _ _ _ _ _ _ _ _ _ _)
 have hr:=(((RL.nil w).cons (hid hu1) (hid hd1)).cons (hid hv1) (hid hc1)).step hg.only
 simp only [World.size_alloc] at hg
 have HG:=hid hg
 have HR:=hid hr
 clear hg hr hc1 hv1 hd1 hu1 hx1 hy1 ha
 go_enter Tryz.func13,Tryz.ntmps13
 obtain⟨i0,i1,i2,i3,i4,i5⟩:=GB.c6 HG 1 rfl
 go_wp2_with fail
 (with_reducible refine (rsign_d sy (RL.rd (x:=y) HR 1 rfl) HSY.out).mono ?_)
 rintro e w2 ⟨rfl,ho⟩
 replace HG:=hid (HG.out.step ho)
 replace HR:=hid (HR.out.step ho)
 clear ho
 clear i0 i1 i2 i3 i4 i5
 obtain⟨q0,q1,q2,q3,q4,q5⟩:=GB.c6 HG 0 rfl
 obtain⟨f0,f1,f2,f3,f4,f5⟩:=GB.f6 HG 0 rfl
 go_wp2_with fail
 refine bodyPost_ret (v:= .tuple #[.agg #[.bool false,.slice none 0 0,.int .i64 (0),.bool false,.slice none 0 0,.int .i64 (0)],.bool false]) (by simp [results,Tryz.results13,go_sem,q0,q1,q2,q3,q4,q5]) rfl ?_
 exact qrfin (x:=⟨0,0⟩) (y:=⟨0,0⟩) (hid crz) (hid (RV.nil _)) (hid crz) (hid (RV.nil _)) (by omega) (GB.blk HG 0 rfl) (noLimb6 _ _ _ _ _ _ _ _ _ _) HG.out.only (only_set6 _ _ _ _ _ _ _ _)
set_option maxHeartbeats 8000000 in
set_option maxRecDepth 100000 in
theorem psqrt_core {w:World} {a:Value} {x y lo hi x':Dy} {N:Nat} (p sy sx:Int) (HSY:Hid (y.z.sign=sy)) (hys: ¬sy<0) (HSX:Hid (x.z.sign=sx)) (HX':Hid ((sx<0→x'=⟨0,0⟩)∧(¬ sx<0→x'=x))) (HLo:Hid (sqrtQ (widthP p) (decide ((0:Int)≤ -1)) x'=lo)) (HHi:Hid (sqrtQ (widthP p) (decide ((0:Int)≤1)) y=hi)) (hx0:0≤x'.z) (hy0:0≤y.z)
  (ha:Hid (RBV w a x y)) (BL:Hid (Bnd N x')) (by_:Hid (Bnd N y)) (hN:N≤1000000):Calls Tryz.prog 13 #[a,.int .i64 p] w (QRP lo hi true w):=by
 obtain⟨s1,A1,k1,c1,t1,B1,m1,d1,rfl,hx1,hy1⟩:=ha.out
 obtain⟨hc1,hv1⟩:=rd_parts hx1
 obtain⟨hd1,hu1⟩:=rd_parts hy1
 have hg:=((GB.start w).new 40 [.bool s1,.slice A1 k1 c1,.int .i64 x.e,.bool t1,.slice B1 m1 d1,.int .i64 y.e] (noLimb6 _ _ _ _ _ _ _ _ _ _)).new 40 [.bool false,.slice none 0 0,.int .i64 0,.bool false,.slice none 0 0,.int .i64 0] (noLimb6 _ _ _ _ _ _ _ _ _ _)
 have hr:=(((RL.nil w).cons (hid hu1) (hid hd1)).cons (hid hv1) (hid hc1)).step hg.only
 simp only [World.size_alloc] at hg
 have HG:=hid hg
 have HR:=hid hr
 clear hg hr hc1 hv1 hd1 hu1 hx1 hy1 ha
 go_enter Tryz.func13,Tryz.ntmps13
 obtain⟨i0,i1,i2,i3,i4,i5⟩:=GB.c6 HG 1 rfl
 go_wp2_with fail
 (with_reducible refine (rsign_d sy (RL.rd (x:=y) HR 1 rfl) HSY.out).mono ?_)
 rintro e w2 ⟨rfl,ho⟩
 replace HG:=hid (HG.out.step ho)
 replace HR:=hid (HR.out.step ho)
 clear ho
 clear i0 i1 i2 i3 i4 i5
 obtain⟨i0,i1,i2,i3,i4,i5⟩:=GB.c6 HG 1 rfl
 go_upto_region 4 with fail
 have hg:=HG.out.new 38 [.bool s1,.slice A1 k1 c1,.int .i64 x.e] (noLimb3 _ _ _ _ _)
 have hr:=HR.out.step ((Only.refl [] w2).alloc (.cells #[.bool s1,.slice A1 k1 c1,.int .i64 x.e] 38))
 clear i0 i1 i2 i3 i4 i5
 clear HG HR
 have HG:=hid hg
 have HR:=hid hr
 clear hg hr
 generalize w2.heap.size=gl at*
 generalize w2.alloc _=w3 at*
 obtain⟨l0,l1,l2⟩:=GB.c3 HG 0 rfl
 go_wp2_with fail
 (with_reducible refine (rsign_d sx (RL.rd (x:=x) HR 0 rfl) HSX.out).mono ?_)
 rintro e w4 ⟨rfl,ho⟩
 replace HG:=hid (HG.out.step ho)
 replace HR:=hid (HR.out.step ho)
 clear ho
 clear l0 l1 l2
 go_upto_if 16 with fail
 by_cases hs0:sx<0
 ·have hxx:=HX'.out.1 (by omega)
  subst hxx
  obtain⟨l0,l1,l2⟩:=GB.c3 HG 0 rfl
  obtain⟨fl0,fl1,fl2⟩:=GB.f3 HG 0 rfl
  go_upto_region 6 with fail
  have hg:=HG.out.put3 (u:= .bool false) (v:= .slice none 0 0) (x:= .int .i64 0) 0 rfl (noLimb3 _ _ _ _ _)
  have hr:=(HR.out.far (only_set3 w4 gl (.bool false) (.slice none 0 0) (.int .i64 0)) (GB.blk HG 0 rfl) (noLimb3 _ _ _ _ _)).cons (s:=false) (A:=none) (k:=0) (c:=0) (x:=⟨0,0⟩) (hid (RV.nil _)) (hid crz)
  clear l0 l1 l2 fl0 fl1 fl2
  clear HG HR
  have HG:=hid hg
  have HR:=hid hr
  clear hg hr
  generalize ((w4.setCell _ _).setCell _ _).setCell _ _=wz at*
  apply wp_region_typed_tail2 7 (by kernel_rfl) [isV _,isV _,isRD lo,isV _,isV _,isV _,isRD hi] [[],[],[0,1],[],[3],[],[4,5]] (by kernel_rfl) (by kernel_rfl) (by kernel_rfl)
  case ho=>
   simp only [List.take_succ_cons,List.take_zero]
   iterate 7
    refine owes2_cons (fun wx hox=>?_) ?_
    ·skip
     have hk:=hid (HG.out.step hox)
     have hr:=hid (HR.out.step hox)
     obtain⟨l0,l1,l2⟩:=GB.c3 hk 0 rfl
     obtain⟨i0,i1,i2,i3,i4,i5⟩:=GB.c6 hk 2 rfl
     refine withs_plain rfl ?_
     simp only [withs,List.getElem?_cons_zero,List.getElem?_cons_succ,Option.bind,Option.getD]
     with_reducible repeat first|refine all_isV ?_|(refine all_isRD ?_;intro sx Ax kx cx hvx hwx)
     go_simp
     first
     |exact⟨Only.refl _ _,isV.self _ _⟩
     |with_reducible exact grow_rd (rdsqrt_d p (-1) lo HLo.out hx0 (RL.rd (x:=⟨0,0⟩) hr 0 rfl) BL (by omega))
     |with_reducible exact grow_rd (rdsqrt_d p 1 hi HHi.out hy0 (RL.rd (x:=y) hr 2 rfl) by_ (by omega))
   exact owes2_nil
  case he=>
   simp only [List.drop_succ_cons,List.drop_zero]
   intro wx hox
   refine withs_of (by simp only [List.length,List.range,List.range.loop];exact rfl) ?_
   simp only [withs,List.getElem?_cons_zero,List.getElem?_cons_succ,Option.bind,Option.getD]
   with_reducible refine all_isV ?_
   with_reducible refine all_isV ?_
   with_reducible refine all_isRD ?_
   intro s2 A2 k2 c2 hv2 hw2
   with_reducible refine all_isV ?_
   with_reducible refine all_isV ?_
   with_reducible refine all_isV ?_
   with_reducible refine all_isRD ?_
   intro s6 A6 k6 c6 hv6 hw6
   go_simp
   replace HG:=hid (HG.out.step hox)
   clear hox HR
   obtain⟨q0,q1,q2,q3,q4,q5⟩:=GB.c6 HG 1 rfl
   obtain⟨f0,f1,f2,f3,f4,f5⟩:=GB.f6 HG 1 rfl
   go_wp2_with fail
   refine bodyPost_ret (v:= .tuple #[.agg #[.bool s2,.slice A2 k2 c2,.int .i64 (lo.e),.bool s6,.slice A6 k6 c6,.int .i64 (hi.e)],.bool true]) (by simp [results,Tryz.results13,go_sem,q0,q1,q2,q3,q4,q5]) rfl ?_
   exact qrfin hw2 hv2 hw6 hv6 (by omega) (GB.blk HG 1 rfl) (noLimb6 _ _ _ _ _ _ _ _ _ _) HG.out.only (only_set6 _ _ _ _ _ _ _ _)
  case hl=>
   repeat (refine List.forall_mem_cons.2 ⟨?_,?_⟩;first|exact isV.lasts _|exact isRD.lasts _)
   exact fun _ h=>(by cases h)
 ·have hxx:=HX'.out.2 (by omega)
  subst hxx
  replace HR:=hid (HR.out.cons (hid (HR.out 0 _ rfl).2) (hid (HR.out 0 _ rfl).1))
  go_upto_region 6 with fail
  apply wp_region_typed_tail2 7 (by kernel_rfl) [isV _,isV _,isRD lo,isV _,isV _,isV _,isRD hi] [[],[],[0,1],[],[3],[],[4,5]] (by kernel_rfl) (by kernel_rfl) (by kernel_rfl)
  case ho=>
   simp only [List.take_succ_cons,List.take_zero]
   iterate 7
    refine owes2_cons (fun wx hox=>?_) ?_
    ·skip
     have hk:=hid (HG.out.step hox)
     have hr:=hid (HR.out.step hox)
     obtain⟨l0,l1,l2⟩:=GB.c3 hk 0 rfl
     obtain⟨i0,i1,i2,i3,i4,i5⟩:=GB.c6 hk 2 rfl
     refine withs_plain rfl ?_
     simp only [withs,List.getElem?_cons_zero,List.getElem?_cons_succ,Option.bind,Option.getD]
     with_reducible repeat first|refine all_isV ?_|(refine all_isRD ?_;intro sx Ax kx cx hvx hwx)
     go_simp
     first
     |exact⟨Only.refl _ _,isV.self _ _⟩
     |with_reducible exact grow_rd (rdsqrt_d p (-1) lo HLo.out hx0 (RL.rd (x:=x') hr 0 rfl) BL (by omega))
     |with_reducible exact grow_rd (rdsqrt_d p 1 hi HHi.out hy0 (RL.rd (x:=y) hr 2 rfl) by_ (by omega))
   exact owes2_nil
  case he=>
   simp only [List.drop_succ_cons,List.drop_zero]
   intro wx hox
   refine withs_of (by simp only [List.length,List.range,List.range.loop];exact rfl) ?_
   simp only [withs,List.getElem?_cons_zero,List.getElem?_cons_succ,Option.bind,Option.getD]
   with_reducible refine all_isV ?_
   with_reducible refine all_isV ?_
   with_reducible refine all_isRD ?_
   intro s2 A2 k2 c2 hv2 hw2
   with_reducible refine all_isV ?_
   with_reducible refine all_isV ?_
   with_reducible refine all_isV ?_
   with_reducible refine all_isRD ?_
   intro s6 A6 k6 c6 hv6 hw6
   go_simp
   replace HG:=hid (HG.out.step hox)
   clear hox HR
   obtain⟨q0,q1,q2,q3,q4,q5⟩:=GB.c6 HG 1 rfl
   obtain⟨f0,f1,f2,f3,f4,f5⟩:=GB.f6 HG 1 rfl
   go_wp2_with fail
   refine bodyPost_ret (v:= .tuple #[.agg #[.bool s2,.slice A2 k2 c2,.int .i64 (lo.e),.bool s6,.slice A6 k6 c6,.int .i64 (hi.e)],.bool true]) (by simp [results,Tryz.results13,go_sem,q0,q1,q2,q3,q4,q5]) rfl ?_
   exact qrfin hw2 hv2 hw6 hv6 (by omega) (GB.blk HG 1 rfl) (noLimb6 _ _ _ _ _ _ _ _ _ _) HG.out.only (only_set6 _ _ _ _ _ _ _ _)
  case hl=>
   repeat (refine List.forall_mem_cons.2 ⟨?_,?_⟩;first|exact isV.lasts _|exact isRD.lasts _)
   exact fun _ h=>(by cases h)
end Go.Proofs.YtigpnopeacicpaaGreatDoor
