/-
  Joined texts.
-/
import Derived.Test.YtigpnopeacicpaaGreatDoorTcJ32
import Derived.Test.YtigpnopeacicpaaGreatDoorTcJ31
import Derived.Test.YtigpnopeacicpaaGreatDoorTcJ26
namespace Go.Proofs.YtigpnopeacicpaaGreatDoor
open Go.Lib (hid)
set_option linter.unusedSimpArgs false
open Go.RowKit
set_option maxHeartbeats 8000000 in
set_option maxRecDepth 100000 in
theorem pquo_no {w:World} {a b:Value} {x y u v:Dy} (p su sv:Int) (HSU:Hid (u.z.sign=su)) (HSV:Hid (v.z.sign=sv)) (h1:su≤0) (h2:0≤sv) (ha:Hid (RBV w a x y)) (hb:Hid (RBV w b u v)):Calls Tryz.prog 11 #[a,b,.int .i64 p] w (QRP ⟨0,0⟩ ⟨0,0⟩ false w):=by
 obtain⟨s1,A1,k1,c1,t1,B1,m1,d1,rfl,hx1,hy1⟩:=ha.out
 obtain⟨s2,A2,k2,c2,t2,B2,m2,d2,rfl,hx2,hy2⟩:=hb.out
 have hk:=(((KB.start w).new 40 [.bool s1,.slice A1 k1 c1,.int .i64 x.e,.bool t1,.slice B1 m1 d1,.int .i64 y.e]).new 40 [.bool s2,.slice A2 k2 c2,.int .i64 u.e,.bool t2,.slice B2 m2 d2,.int .i64 v.e]).new 40 [.bool false,.slice none 0 0,.int .i64 0,.bool false,.slice none 0 0,.int .i64 0]
 simp only [World.size_alloc] at hk
 have HX1:=hid (hx1.only hk.only)
 have HX2:=hid (hy1.only hk.only)
 have HY1:=hid (hx2.only hk.only)
 have HY2:=hid (hy2.only hk.only)
 have HK:=hid hk
 clear hk hx1 hy1 hx2 hy2 ha hb
 go_enter Tryz.func11,Tryz.ntmps11
 obtain⟨j0,j1,j2,j3,j4,j5⟩:=HK.out.c6 1 rfl
 go_wp2_with fail
 (with_reducible refine (rsign_d su HY1 HSU.out).mono ?_)
 rintro e w3 ⟨rfl,ho⟩
 replace HK:=hid (HK.out.step ho)
 replace HX1:=hid (HX1.out.only ho)
 replace HX2:=hid (HX2.out.only ho)
 replace HY1:=hid (HY1.out.only ho)
 replace HY2:=hid (HY2.out.only ho)
 clear ho j0 j1 j2 j3 j4 j5
 obtain⟨j0,j1,j2,j3,j4,j5⟩:=HK.out.c6 1 rfl
 go_wp2_with fail
 (with_reducible refine (rsign_d sv HY2 HSV.out).mono ?_)
 rintro e w4 ⟨rfl,ho⟩
 replace HK:=hid (HK.out.step ho)
 replace HX1:=hid (HX1.out.only ho)
 replace HX2:=hid (HX2.out.only ho)
 replace HY1:=hid (HY1.out.only ho)
 replace HY2:=hid (HY2.out.only ho)
 clear ho j0 j1 j2 j3 j4 j5
 obtain⟨q0,q1,q2,q3,q4,q5⟩:=HK.out.c6 0 rfl
 obtain⟨f0,f1,f2,f3,f4,f5⟩:=HK.out.f6 0 rfl
 go_wp2_with fail
 refine bodyPost_ret (v:= .tuple #[.agg #[.bool false,.slice none 0 0,.int .i64 (0),.bool false,.slice none 0 0,.int .i64 (0)],.bool false]) (by simp [results,Tryz.results11,go_sem,q0,q1,q2,q3,q4,q5]) rfl ?_
 exact qrfin (x:=⟨0,0⟩) (y:=⟨0,0⟩) (hid crz) (hid (RV.nil _)) (hid crz) (hid (RV.nil _)) (by omega) (HK.out.blk 0 rfl) (noLimb6 _ _ _ _ _ _ _ _ _ _) HK.out.only (only_set6 _ _ _ _ _ _ _ _)
set_option maxHeartbeats 8000000 in
set_option maxRecDepth 100000 in
theorem pquo_core {w:World} {a b:Value} {x y u v:Dy} {N M:Nat} (p su sv:Int) (z0 z1 z2 z3 e0 e1 e2 e3 lo l2 h2 hi:Dy) (HSU:Hid (u.z.sign=su)) (HSV:Hid (v.z.sign=sv)) (hcase:0<su∨(su≤0∧sv<0)) (HZ0:Hid (quoQ (widthP p) (decide ((0:Int)≤ -1)) x u=z0)) (CZ0:Hid (Can z0)) (BZ0:Hid (Bnd M z0)) (HZ1:Hid (quoQ (widthP p) (decide ((0:Int)≤ -1)) x v=z1)) (CZ1:Hid (Can z1)) (BZ1:Hid (Bnd M z1)) (HZ2:Hid (quoQ (widthP p) (decide ((0:Int)≤ -1)) y u=z2)) (CZ2:Hid (Can z2)) (BZ2:Hid (Bnd M z2)) (HZ3:Hid (quoQ (widthP p) (decide ((0:Int)≤ -1)) y v=z3)) (CZ3:Hid (Can z3)) (BZ3:Hid (Bnd M z3)) (HE0:Hid (quoQ (widthP p) (decide ((0:Int)≤1)) x u=e0)) (CE0:Hid (Can e0)) (BE0:Hid (Bnd M e0)) (HE1:Hid (quoQ (widthP p) (decide ((0:Int)≤1)) x v=e1)) (CE1:Hid (Can e1)) (BE1:Hid (Bnd M e1)) (HE2:Hid (quoQ (widthP p) (decide ((0:Int)≤1)) y u=e2)) (CE2:Hid (Can e2)) (BE2:Hid (Bnd M e2)) (HE3:Hid (quoQ (widthP p) (decide ((0:Int)≤1)) y v=e3)) (CE3:Hid (Can e3)) (BE3:Hid (Bnd M e3))
  (HLo:Hid (rndD (widthP p) false (minD (minD (minD z0 z1) z2) z3)=lo)) (HL2:Hid (rndD (widthP p) true (maxD (maxD (maxD z0 z1) z2) z3)=l2)) (HH2:Hid (rndD (widthP p) false (minD (minD (minD e0 e1) e2) e3)=h2)) (HHi:Hid (rndD (widthP p) true (maxD (maxD (maxD e0 e1) e2) e3)=hi)) (hu0:u.z≠0) (hv0:v.z≠0) (ha:Hid (RBV w a x y)) (hb:Hid (RBV w b u v)) (BX1:Hid (Bnd N x)) (BX2:Hid (Bnd N y)) (BY1:Hid (Bnd N u)) (BY2:Hid (Bnd N v)) (hN:N≤1000000) (hM:M≤1000000):Calls Tryz.prog 11 #[a,b,.int .i64 p] w (QRP lo hi true w):=by
 obtain⟨s1,A1,k1,c1,t1,B1,m1,d1,rfl,hx1,hy1⟩:=ha.out
 obtain⟨s2,A2,k2,c2,t2,B2,m2,d2,rfl,hx2,hy2⟩:=hb.out
 have hk:=(((KB.start w).new 40 [.bool s1,.slice A1 k1 c1,.int .i64 x.e,.bool t1,.slice B1 m1 d1,.int .i64 y.e]).new 40 [.bool s2,.slice A2 k2 c2,.int .i64 u.e,.bool t2,.slice B2 m2 d2,.int .i64 v.e]).new 40 [.bool false,.slice none 0 0,.int .i64 0,.bool false,.slice none 0 0,.int .i64 0]
 simp only [World.size_alloc] at hk
 have HX1:=hid (hx1.only hk.only)
 have HX2:=hid (hy1.only hk.only)
 have HY1:=hid (hx2.only hk.only)
 have HY2:=hid (hy2.only hk.only)
 have HK:=hid hk
 clear hk hx1 hy1 hx2 hy2 ha hb
 go_enter Tryz.func11,Tryz.ntmps11
 obtain⟨j0,j1,j2,j3,j4,j5⟩:=HK.out.c6 1 rfl
 go_wp2_with fail
 (with_reducible refine (rsign_d su HY1 HSU.out).mono ?_)
 rintro e w3 ⟨rfl,ho⟩
 replace HK:=hid (HK.out.step ho)
 replace HX1:=hid (HX1.out.only ho)
 replace HX2:=hid (HX2.out.only ho)
 replace HY1:=hid (HY1.out.only ho)
 replace HY2:=hid (HY2.out.only ho)
 clear ho j0 j1 j2 j3 j4 j5
 rcases hcase with hs1|⟨hs1,hs2⟩
 ·go_upto_region 3 with fail
  apply wp_region_typed2 (by kernel_rfl) [isV _,isV _,isV _,isV _,isV _,isRD z0,isV _,isV _,isV _,isV _,isV _,isRD z1,isV _,isV _,isV _,isV _,isV _,isRD z2,isV _,isV _,isV _,isV _,isV _,isRD z3,isE4 (d4 z0 z1 z2 z3),isE4 (d4 z0 z1 z2 z3)] [[],[0],[],[2],[],[1,3,4],[],[6],[],[8],[],[7,9,10],[],[12],[],[14],[],[13,15,16],[],[18],[],[20],[],[19,21,22],[5,11,17,23],[24]] (by kernel_rfl) (by kernel_rfl)
  case ho=>
   iterate 26
    refine owes2_cons (fun wx hox=>?_) ?_
    ·skip
     have hk:=HK.out.step hox
     obtain⟨i0,i1,i2,i3,i4,i5⟩:=hk.c6 2 rfl
     obtain⟨j0,j1,j2,j3,j4,j5⟩:=hk.c6 1 rfl
     clear hk
     refine withs_plain rfl ?_
     simp only [withs,List.getElem?_cons_zero,List.getElem?_cons_succ,Option.bind,Option.getD]
     with_reducible repeat first|refine all_isV ?_|(refine all_isRD ?_;intro sx Ax kx cx hvx hwx)|(refine all_isE4 ?_;intro gx hvx)
     go_simp
     first
     |exact⟨Only.refl _ _,isV.self _ _⟩
     |with_reducible exact grow_rd (rquo_d p (-1) z0 HZ0.out hu0 (hid (HX1.out.only hox)) (hid (HY1.out.only hox)) BX1 BY1 (by omega))
     |with_reducible exact grow_rd (rquo_d p (-1) z1 HZ1.out hv0 (hid (HX1.out.only hox)) (hid (HY2.out.only hox)) BX1 BY2 (by omega))
     |with_reducible exact grow_rd (rquo_d p (-1) z2 HZ2.out hu0 (hid (HX2.out.only hox)) (hid (HY1.out.only hox)) BX2 BY1 (by omega))
     |with_reducible exact grow_rd (rquo_d p (-1) z3 HZ3.out hv0 (hid (HX2.out.only hox)) (hid (HY2.out.only hox)) BX2 BY2 (by omega))
     |exact isE4.new (RD.of (by assumption) (by assumption)) (RD.of (by assumption) (by assumption)) (RD.of (by assumption) (by assumption)) (RD.of (by assumption) (by assumption))
     |exact⟨Only.refl _ _,gx,rfl,hvx.out⟩
   exact owes2_nil
  case he=>
   intro wx hox
   refine withs_of (by simp only [List.length,List.range,List.range.loop];exact rfl) ?_
   simp only [withs,List.getElem?_cons_zero,List.getElem?_cons_succ,Option.bind,Option.getD]
   with_reducible refine all_isV ?_
   with_reducible refine all_isV ?_
   with_reducible refine all_isV ?_
   with_reducible refine all_isV ?_
   with_reducible refine all_isV ?_
   with_reducible refine all_isRD ?_
   intro s5 A5 k5 c5 hv5 hw5
   with_reducible refine all_isV ?_
   with_reducible refine all_isV ?_
   with_reducible refine all_isV ?_
   with_reducible refine all_isV ?_
   with_reducible refine all_isV ?_
   with_reducible refine all_isRD ?_
   intro s11 A11 k11 c11 hv11 hw11
   with_reducible refine all_isV ?_
   with_reducible refine all_isV ?_
   with_reducible refine all_isV ?_
   with_reducible refine all_isV ?_
   with_reducible refine all_isV ?_
   with_reducible refine all_isRD ?_
   intro s17 A17 k17 c17 hv17 hw17
   with_reducible refine all_isV ?_
   with_reducible refine all_isV ?_
   with_reducible refine all_isV ?_
   with_reducible refine all_isV ?_
   with_reducible refine all_isV ?_
   with_reducible refine all_isRD ?_
   intro s23 A23 k23 c23 hv23 hw23
   with_reducible refine all_isE4 ?_
   intro g24 hv24
   with_reducible refine all_isE4 ?_
   intro g25 hv25
   go_simp
   replace HK:=hid (HK.out.step hox)
   replace HX1:=hid (HX1.out.only hox)
   replace HX2:=hid (HX2.out.only hox)
   replace HY1:=hid (HY1.out.only hox)
   replace HY2:=hid (HY2.out.only hox)
   have H4:=hv25
   generalize g25=gd at*
   clear hox hv24 hv25
   go_upto_region 4 with fail
   apply wp_region_typed2 (by kernel_rfl) [isV _,isV _,isV _,isV _,isV _,isRD e0,isV _,isV _,isV _,isV _,isV _,isRD e1,isV _,isV _,isV _,isV _,isV _,isRD e2,isV _,isV _,isV _,isV _,isV _,isRD e3,isE4 (d4 e0 e1 e2 e3),isE4 (d4 e0 e1 e2 e3)] [[],[0],[],[2],[],[1,3,4],[],[6],[],[8],[],[7,9,10],[],[12],[],[14],[],[13,15,16],[],[18],[],[20],[],[19,21,22],[5,11,17,23],[24]] (by kernel_rfl) (by kernel_rfl)
   case ho=>
    iterate 26
     refine owes2_cons (fun wx hox=>?_) ?_
     ·skip
      have hk:=HK.out.step hox
      obtain⟨i0,i1,i2,i3,i4,i5⟩:=hk.c6 2 rfl
      obtain⟨j0,j1,j2,j3,j4,j5⟩:=hk.c6 1 rfl
      clear hk
      refine withs_plain rfl ?_
      simp only [withs,List.getElem?_cons_zero,List.getElem?_cons_succ,Option.bind,Option.getD]
      with_reducible repeat first|refine all_isV ?_|(refine all_isRD ?_;intro sx Ax kx cx hvx hwx)|(refine all_isE4 ?_;intro gx hvx)
      go_simp
      first
      |exact⟨Only.refl _ _,isV.self _ _⟩
      |with_reducible exact grow_rd (rquo_d p (1) e0 HE0.out hu0 (hid (HX1.out.only hox)) (hid (HY1.out.only hox)) BX1 BY1 (by omega))
      |with_reducible exact grow_rd (rquo_d p (1) e1 HE1.out hv0 (hid (HX1.out.only hox)) (hid (HY2.out.only hox)) BX1 BY2 (by omega))
      |with_reducible exact grow_rd (rquo_d p (1) e2 HE2.out hu0 (hid (HX2.out.only hox)) (hid (HY1.out.only hox)) BX2 BY1 (by omega))
      |with_reducible exact grow_rd (rquo_d p (1) e3 HE3.out hv0 (hid (HX2.out.only hox)) (hid (HY2.out.only hox)) BX2 BY2 (by omega))
      |exact isE4.new (RD.of (by assumption) (by assumption)) (RD.of (by assumption) (by assumption)) (RD.of (by assumption) (by assumption)) (RD.of (by assumption) (by assumption))
      |exact⟨Only.refl _ _,gx,rfl,hvx.out⟩
    exact owes2_nil
   case he=>
    intro wx hox
    refine withs_of (by simp only [List.length,List.range,List.range.loop];exact rfl) ?_
    simp only [withs,List.getElem?_cons_zero,List.getElem?_cons_succ,Option.bind,Option.getD]
    with_reducible refine all_isV ?_
    with_reducible refine all_isV ?_
    with_reducible refine all_isV ?_
    with_reducible refine all_isV ?_
    with_reducible refine all_isV ?_
    with_reducible refine all_isRD ?_
    intro s5 A5 k5 c5 hv5 hw5
    with_reducible refine all_isV ?_
    with_reducible refine all_isV ?_
    with_reducible refine all_isV ?_
    with_reducible refine all_isV ?_
    with_reducible refine all_isV ?_
    with_reducible refine all_isRD ?_
    intro s11 A11 k11 c11 hv11 hw11
    with_reducible refine all_isV ?_
    with_reducible refine all_isV ?_
    with_reducible refine all_isV ?_
    with_reducible refine all_isV ?_
    with_reducible refine all_isV ?_
    with_reducible refine all_isRD ?_
    intro s17 A17 k17 c17 hv17 hw17
    with_reducible refine all_isV ?_
    with_reducible refine all_isV ?_
    with_reducible refine all_isV ?_
    with_reducible refine all_isV ?_
    with_reducible refine all_isV ?_
    with_reducible refine all_isRD ?_
    intro s23 A23 k23 c23 hv23 hw23
    with_reducible refine all_isE4 ?_
    intro g24 hv24
    with_reducible refine all_isE4 ?_
    intro g25 hv25
    go_simp
    replace HK:=hid (HK.out.step hox)
    replace HX1:=hid (HX1.out.only hox)
    replace HX2:=hid (HX2.out.only hox)
    replace HY1:=hid (HY1.out.only hox)
    replace HY2:=hid (HY2.out.only hox)
    replace H4:=hid (H4.out.only hox)
    have H5:=hv25
    generalize g25=gu at*
    clear hox hv24 hv25
    go_upto_region 5 with fail
    have hfl0: ∀(s:Bool) (A:Option Addr) (k c:Nat) (e:Int) (t:Bool) (B:Option Addr) (m d:Nat) (f:Int) (w:World),(Instr.field 40 (.agg #[.bool s,.slice A k c,.int .i64 e,.bool t,.slice B m d,.int .i64 f]) 0).run Tryz.prog w= .ok (.agg #[.bool s,.slice A k c,.int .i64 e]) w:=fun _ _ _ _ _ _ _ _ _ _ _=>by kernel_rfl
    have hfl1: ∀(s:Bool) (A:Option Addr) (k c:Nat) (e:Int) (t:Bool) (B:Option Addr) (m d:Nat) (f:Int) (w:World),(Instr.field 40 (.agg #[.bool s,.slice A k c,.int .i64 e,.bool t,.slice B m d,.int .i64 f]) 1).run Tryz.prog w= .ok (.agg #[.bool t,.slice B m d,.int .i64 f]) w:=fun _ _ _ _ _ _ _ _ _ _ _=>by kernel_rfl
    go_wp2_with fail
    (with_reducible refine (pleast_b p z0 z1 z2 z3 lo l2 HLo.out HL2.out H4 CZ0 CZ1 CZ2 CZ3 BZ0 BZ1 BZ2 BZ3 hM).mono ?_)
    rintro e w7 ⟨s7,A7,k7,c7,t7,B7,m7,d7,rfl,⟨hc7,hv7⟩,-,ho⟩
    have HC7:=hid hc7
    have HV7:=hid hv7
    replace HK:=hid (HK.out.step ho)
    replace H5:=hid (H5.out.only ho)
    clear hc7 hv7 ho HX1 HX2 HY1 HY2 H4
    go_wp2_with fail
    (with_reducible refine (pleast_b p e0 e1 e2 e3 h2 hi HH2.out HHi.out H5 CE0 CE1 CE2 CE3 BE0 BE1 BE2 BE3 hM).mono ?_)
    rintro e w8 ⟨s8,A8,k8,c8,t8,B8,m8,d8,rfl,-,⟨hc8,hv8⟩,ho⟩
    have HC8:=hid hc8
    have HV8:=hid hv8
    replace HV7:=hid (HV7.out.only ho)
    replace HK:=hid (HK.out.step ho)
    clear hc8 hv8 ho H5
    obtain⟨q0,q1,q2,q3,q4,q5⟩:=HK.out.c6 0 rfl
    obtain⟨f0,f1,f2,f3,f4,f5⟩:=HK.out.f6 0 rfl
    go_wp2_with fail
    refine bodyPost_ret (v:= .tuple #[.agg #[.bool s7,.slice A7 k7 c7,.int .i64 (lo.e),.bool t8,.slice B8 m8 d8,.int .i64 (hi.e)],.bool true]) (by simp [results,Tryz.results11,go_sem,q0,q1,q2,q3,q4,q5]) rfl ?_
    exact qrfin HC7 HV7 HC8 HV8 (by omega) (HK.out.blk 0 rfl) (noLimb6 _ _ _ _ _ _ _ _ _ _) HK.out.only (only_set6 _ _ _ _ _ _ _ _)
   case hl=>
    repeat (refine List.forall_mem_cons.2 ⟨?_,?_⟩;first|exact isV.lasts _|exact isRD.lasts _|exact isE4.lasts _)
    exact fun _ h=>(by cases h)
  case hl=>
   repeat (refine List.forall_mem_cons.2 ⟨?_,?_⟩;first|exact isV.lasts _|exact isRD.lasts _|exact isE4.lasts _)
   exact fun _ h=>(by cases h)
 ·obtain⟨j0,j1,j2,j3,j4,j5⟩:=HK.out.c6 1 rfl
  go_wp2_with fail
  (with_reducible refine (rsign_d sv HY2 HSV.out).mono ?_)
  rintro e w4 ⟨rfl,ho⟩
  replace HK:=hid (HK.out.step ho)
  replace HX1:=hid (HX1.out.only ho)
  replace HX2:=hid (HX2.out.only ho)
  replace HY1:=hid (HY1.out.only ho)
  replace HY2:=hid (HY2.out.only ho)
  clear ho j0 j1 j2 j3 j4 j5
  go_upto_region 3 with fail
  apply wp_region_typed2 (by kernel_rfl) [isV _,isV _,isV _,isV _,isV _,isRD z0,isV _,isV _,isV _,isV _,isV _,isRD z1,isV _,isV _,isV _,isV _,isV _,isRD z2,isV _,isV _,isV _,isV _,isV _,isRD z3,isE4 (d4 z0 z1 z2 z3),isE4 (d4 z0 z1 z2 z3)] [[],[0],[],[2],[],[1,3,4],[],[6],[],[8],[],[7,9,10],[],[12],[],[14],[],[13,15,16],[],[18],[],[20],[],[19,21,22],[5,11,17,23],[24]] (by kernel_rfl) (by kernel_rfl)
  case ho=>
   iterate 26
    refine owes2_cons (fun wx hox=>?_) ?_
    ·skip
     have hk:=HK.out.step hox
     obtain⟨i0,i1,i2,i3,i4,i5⟩:=hk.c6 2 rfl
     obtain⟨j0,j1,j2,j3,j4,j5⟩:=hk.c6 1 rfl
     clear hk
     refine withs_plain rfl ?_
     simp only [withs,List.getElem?_cons_zero,List.getElem?_cons_succ,Option.bind,Option.getD]
     with_reducible repeat first|refine all_isV ?_|(refine all_isRD ?_;intro sx Ax kx cx hvx hwx)|(refine all_isE4 ?_;intro gx hvx)
     go_simp
     first
     |exact⟨Only.refl _ _,isV.self _ _⟩
     |with_reducible exact grow_rd (rquo_d p (-1) z0 HZ0.out hu0 (hid (HX1.out.only hox)) (hid (HY1.out.only hox)) BX1 BY1 (by omega))
     |with_reducible exact grow_rd (rquo_d p (-1) z1 HZ1.out hv0 (hid (HX1.out.only hox)) (hid (HY2.out.only hox)) BX1 BY2 (by omega))
     |with_reducible exact grow_rd (rquo_d p (-1) z2 HZ2.out hu0 (hid (HX2.out.only hox)) (hid (HY1.out.only hox)) BX2 BY1 (by omega))
     |with_reducible exact grow_rd (rquo_d p (-1) z3 HZ3.out hv0 (hid (HX2.out.only hox)) (hid (HY2.out.only hox)) BX2 BY2 (by omega))
     |exact isE4.new (RD.of (by assumption) (by assumption)) (RD.of (by assumption) (by assumption)) (RD.of (by assumption) (by assumption)) (RD.of (by assumption) (by assumption))
     |exact⟨Only.refl _ _,gx,rfl,hvx.out⟩
   exact owes2_nil
  case he=>
   intro wx hox
   refine withs_of (by simp only [List.length,List.range,List.range.loop];exact rfl) ?_
   simp only [withs,List.getElem?_cons_zero,List.getElem?_cons_succ,Option.bind,Option.getD]
   with_reducible refine all_isV ?_
   with_reducible refine all_isV ?_
   with_reducible refine all_isV ?_
   with_reducible refine all_isV ?_
   with_reducible refine all_isV ?_
   with_reducible refine all_isRD ?_
   intro s5 A5 k5 c5 hv5 hw5
   with_reducible refine all_isV ?_
   with_reducible refine all_isV ?_
   with_reducible refine all_isV ?_
   with_reducible refine all_isV ?_
   with_reducible refine all_isV ?_
   with_reducible refine all_isRD ?_
   intro s11 A11 k11 c11 hv11 hw11
   with_reducible refine all_isV ?_
   with_reducible refine all_isV ?_
   with_reducible refine all_isV ?_
   with_reducible refine all_isV ?_
   with_reducible refine all_isV ?_
   with_reducible refine all_isRD ?_
   intro s17 A17 k17 c17 hv17 hw17
   with_reducible refine all_isV ?_
   with_reducible refine all_isV ?_
   with_reducible refine all_isV ?_
   with_reducible refine all_isV ?_
   with_reducible refine all_isV ?_
   with_reducible refine all_isRD ?_
   intro s23 A23 k23 c23 hv23 hw23
   with_reducible refine all_isE4 ?_
   intro g24 hv24
   with_reducible refine all_isE4 ?_
   intro g25 hv25
   go_simp
   replace HK:=hid (HK.out.step hox)
   replace HX1:=hid (HX1.out.only hox)
   replace HX2:=hid (HX2.out.only hox)
   replace HY1:=hid (HY1.out.only hox)
   replace HY2:=hid (HY2.out.only hox)
   have H4:=hv25
   generalize g25=gd at*
   clear hox hv24 hv25
   go_upto_region 4 with fail
   apply wp_region_typed2 (by kernel_rfl) [isV _,isV _,isV _,isV _,isV _,isRD e0,isV _,isV _,isV _,isV _,isV _,isRD e1,isV _,isV _,isV _,isV _,isV _,isRD e2,isV _,isV _,isV _,isV _,isV _,isRD e3,isE4 (d4 e0 e1 e2 e3),isE4 (d4 e0 e1 e2 e3)] [[],[0],[],[2],[],[1,3,4],[],[6],[],[8],[],[7,9,10],[],[12],[],[14],[],[13,15,16],[],[18],[],[20],[],[19,21,22],[5,11,17,23],[24]] (by kernel_rfl) (by kernel_rfl)
   case ho=>
    iterate 26
     refine owes2_cons (fun wx hox=>?_) ?_
     ·skip
      have hk:=HK.out.step hox
      obtain⟨i0,i1,i2,i3,i4,i5⟩:=hk.c6 2 rfl
      obtain⟨j0,j1,j2,j3,j4,j5⟩:=hk.c6 1 rfl
      clear hk
      refine withs_plain rfl ?_
      simp only [withs,List.getElem?_cons_zero,List.getElem?_cons_succ,Option.bind,Option.getD]
      with_reducible repeat first|refine all_isV ?_|(refine all_isRD ?_;intro sx Ax kx cx hvx hwx)|(refine all_isE4 ?_;intro gx hvx)
      go_simp
      first
      |exact⟨Only.refl _ _,isV.self _ _⟩
      |with_reducible exact grow_rd (rquo_d p (1) e0 HE0.out hu0 (hid (HX1.out.only hox)) (hid (HY1.out.only hox)) BX1 BY1 (by omega))
      |with_reducible exact grow_rd (rquo_d p (1) e1 HE1.out hv0 (hid (HX1.out.only hox)) (hid (HY2.out.only hox)) BX1 BY2 (by omega))
      |with_reducible exact grow_rd (rquo_d p (1) e2 HE2.out hu0 (hid (HX2.out.only hox)) (hid (HY1.out.only hox)) BX2 BY1 (by omega))
      |with_reducible exact grow_rd (rquo_d p (1) e3 HE3.out hv0 (hid (HX2.out.only hox)) (hid (HY2.out.only hox)) BX2 BY2 (by omega))
      |exact isE4.new (RD.of (by assumption) (by assumption)) (RD.of (by assumption) (by assumption)) (RD.of (by assumption) (by assumption)) (RD.of (by assumption) (by assumption))
      |exact⟨Only.refl _ _,gx,rfl,hvx.out⟩
    exact owes2_nil
   case he=>
    intro wx hox
    refine withs_of (by simp only [List.length,List.range,List.range.loop];exact rfl) ?_
    simp only [withs,List.getElem?_cons_zero,List.getElem?_cons_succ,Option.bind,Option.getD]
    with_reducible refine all_isV ?_
    with_reducible refine all_isV ?_
    with_reducible refine all_isV ?_
    with_reducible refine all_isV ?_
    with_reducible refine all_isV ?_
    with_reducible refine all_isRD ?_
    intro s5 A5 k5 c5 hv5 hw5
    with_reducible refine all_isV ?_
    with_reducible refine all_isV ?_
    with_reducible refine all_isV ?_
    with_reducible refine all_isV ?_
    with_reducible refine all_isV ?_
    with_reducible refine all_isRD ?_
    intro s11 A11 k11 c11 hv11 hw11
    with_reducible refine all_isV ?_
    with_reducible refine all_isV ?_
    with_reducible refine all_isV ?_
    with_reducible refine all_isV ?_
    with_reducible refine all_isV ?_
    with_reducible refine all_isRD ?_
    intro s17 A17 k17 c17 hv17 hw17
    with_reducible refine all_isV ?_
    with_reducible refine all_isV ?_
    with_reducible refine all_isV ?_
    with_reducible refine all_isV ?_
    with_reducible refine all_isV ?_
    with_reducible refine all_isRD ?_
    intro s23 A23 k23 c23 hv23 hw23
    with_reducible refine all_isE4 ?_
    intro g24 hv24
    with_reducible refine all_isE4 ?_
    intro g25 hv25
    go_simp
    replace HK:=hid (HK.out.step hox)
    replace HX1:=hid (HX1.out.only hox)
    replace HX2:=hid (HX2.out.only hox)
    replace HY1:=hid (HY1.out.only hox)
    replace HY2:=hid (HY2.out.only hox)
    replace H4:=hid (H4.out.only hox)
    have H5:=hv25
    generalize g25=gu at*
    clear hox hv24 hv25
    go_upto_region 5 with fail
    have hfl0: ∀(s:Bool) (A:Option Addr) (k c:Nat) (e:Int) (t:Bool) (B:Option Addr) (m d:Nat) (f:Int) (w:World),(Instr.field 40 (.agg #[.bool s,.slice A k c,.int .i64 e,.bool t,.slice B m d,.int .i64 f]) 0).run Tryz.prog w= .ok (.agg #[.bool s,.slice A k c,.int .i64 e]) w:=fun _ _ _ _ _ _ _ _ _ _ _=>by kernel_rfl
    have hfl1: ∀(s:Bool) (A:Option Addr) (k c:Nat) (e:Int) (t:Bool) (B:Option Addr) (m d:Nat) (f:Int) (w:World),(Instr.field 40 (.agg #[.bool s,.slice A k c,.int .i64 e,.bool t,.slice B m d,.int .i64 f]) 1).run Tryz.prog w= .ok (.agg #[.bool t,.slice B m d,.int .i64 f]) w:=fun _ _ _ _ _ _ _ _ _ _ _=>by kernel_rfl
    go_wp2_with fail
    (with_reducible refine (pleast_b p z0 z1 z2 z3 lo l2 HLo.out HL2.out H4 CZ0 CZ1 CZ2 CZ3 BZ0 BZ1 BZ2 BZ3 hM).mono ?_)
    rintro e w7 ⟨s7,A7,k7,c7,t7,B7,m7,d7,rfl,⟨hc7,hv7⟩,-,ho⟩
    have HC7:=hid hc7
    have HV7:=hid hv7
    replace HK:=hid (HK.out.step ho)
    replace H5:=hid (H5.out.only ho)
    clear hc7 hv7 ho HX1 HX2 HY1 HY2 H4
    go_wp2_with fail
    (with_reducible refine (pleast_b p e0 e1 e2 e3 h2 hi HH2.out HHi.out H5 CE0 CE1 CE2 CE3 BE0 BE1 BE2 BE3 hM).mono ?_)
    rintro e w8 ⟨s8,A8,k8,c8,t8,B8,m8,d8,rfl,-,⟨hc8,hv8⟩,ho⟩
    have HC8:=hid hc8
    have HV8:=hid hv8
    replace HV7:=hid (HV7.out.only ho)
    replace HK:=hid (HK.out.step ho)
    clear hc8 hv8 ho H5
    obtain⟨q0,q1,q2,q3,q4,q5⟩:=HK.out.c6 0 rfl
    obtain⟨f0,f1,f2,f3,f4,f5⟩:=HK.out.f6 0 rfl
    go_wp2_with fail
    refine bodyPost_ret (v:= .tuple #[.agg #[.bool s7,.slice A7 k7 c7,.int .i64 (lo.e),.bool t8,.slice B8 m8 d8,.int .i64 (hi.e)],.bool true]) (by simp [results,Tryz.results11,go_sem,q0,q1,q2,q3,q4,q5]) rfl ?_
    exact qrfin HC7 HV7 HC8 HV8 (by omega) (HK.out.blk 0 rfl) (noLimb6 _ _ _ _ _ _ _ _ _ _) HK.out.only (only_set6 _ _ _ _ _ _ _ _)
   case hl=>
    repeat (refine List.forall_mem_cons.2 ⟨?_,?_⟩;first|exact isV.lasts _|exact isRD.lasts _|exact isE4.lasts _)
    exact fun _ h=>(by cases h)
  case hl=>
   repeat (refine List.forall_mem_cons.2 ⟨?_,?_⟩;first|exact isV.lasts _|exact isRD.lasts _|exact isE4.lasts _)
   exact fun _ h=>(by cases h)
theorem wpList_load {P:Program} {w:World} {ops:Array Oper} {rest:List Oper} {o:Oper} {ts:Array Value} {ds:List Deferred} {Q:Exit→Act→World→Prop} (T:TypeId) (e:Operand) (d:Tmp) (hgd:o.guard=none) (hdst:o.dst=some d) (ho:o.op= .load T e) {u v:Value} (hp:(⟨ts,ds⟩:Act).eval e=u) (hl:(Instr.loadAt T u).run P w= .ok v w) (h:wpList P ops Q rest ⟨ts.setIfInBounds d v,ds⟩ w):wpList P ops Q (o::rest) ⟨ts,ds⟩ w:=by
 refine wpList_plain hgd fun K hK=>?_
 unfold Oper.wp execOp
 simp only [ho,hp,Sem.run_bind,hl,Result.andThen_ok,Sem.run_pure,Oper.upon_value,hdst]
 exact hK _ _ h
theorem wpList_loadG {P:Program} {w:World} {ops:Array Oper} {rest:List Oper} {o:Oper} {ts:Array Value} {ds:List Deferred} {Q:Exit→Act→World→Prop} (T:TypeId) (e:Operand) (d:Tmp) (hgd:Region.wanted o (yielded ops ts)=true) (hdst:o.dst=some d) (ho:o.op= .load T e) {u v:Value} (hp:(⟨ts,ds⟩:Act).eval e=u) (hl:(Instr.loadAt T u).run P w= .ok v w) (h:wpList P ops Q rest ⟨ts.setIfInBounds d v,ds⟩ w):wpList P ops Q (o::rest) ⟨ts,ds⟩ w:=by
 refine wpList_step fun K hK=>?_
 rw [if_pos hgd]
 unfold Oper.wp execOp
 simp only [ho,hp,Sem.run_bind,hl,Result.andThen_ok,Sem.run_pure,Oper.upon_value,hdst]
 exact hK _ _ h
theorem wpList_val {P:Program} {w:World} {ops:Array Oper} {rest:List Oper} {o:Oper} {ts:Array Value} {ds:List Deferred} {Q:Exit→Act→World→Prop} (d:Tmp) (hgd:Region.wanted o (yielded ops ts)=true) (hdst:o.dst=some d) {v:Value} (hr:(execOp (⟨ts,ds⟩:Act).eval o).run P w= .ok (.value v) w) (h:wpList P ops Q rest ⟨ts.setIfInBounds d v,ds⟩ w):wpList P ops Q (o::rest) ⟨ts,ds⟩ w:=by
 refine wpList_step fun K hK=>?_
 rw [if_pos hgd]
 unfold Oper.wp
 rw [hr,Oper.upon_value,hdst]
 exact hK _ _ h
theorem wpList_not {P:Program} {w:World} {ops:Array Oper} {rest:List Oper} {o:Oper} {ts:Array Value} {ds:List Deferred} {Q:Exit→Act→World→Prop} (d:Tmp) (hgd:Region.wanted o (yielded ops ts)=false) (hdst:o.dst=some d) (h:wpList P ops Q rest ⟨ts.setIfInBounds d undef,ds⟩ w):wpList P ops Q (o::rest) ⟨ts,ds⟩ w:=by
 refine wpList_step fun K hK=>?_
 rw [if_neg (by rw [hgd];decide),hdst]
 exact hK _ _ h
theorem wpList_call {P:Program} {w:World} {ops:Array Oper} {rest:List Oper} {o:Oper} {ts:Array Value} {ds:List Deferred} {Q:Exit→Act→World→Prop} (d:Tmp) (hgd:Region.wanted o (yielded ops ts)=true) (hdst:o.dst=some d) {f:FuncId} {args:Array Value} (hr:(execOp (⟨ts,ds⟩:Act).eval o).run P w= .ok (.enter f args) w) {R:Value→World→Prop} (hc:Calls P f args w fun e w'=> ∃v,e= .returned v∧R v w') (h: ∀v w',R v w'→wpList P ops Q rest ⟨ts.setIfInBounds d v,ds⟩ w'):wpList P ops Q (o::rest) ⟨ts,ds⟩ w:=by
 refine wpList_step fun K hK=>?_
 rw [if_pos hgd]
 unfold Oper.wp
 rw [hr,Oper.upon_enter]
 refine hc.mono ?_
 rintro e w' ⟨v,rfl,hv⟩
 rw [hdst]
 exact hK _ _ (h v w' hv)
end Go.Proofs.YtigpnopeacicpaaGreatDoor
namespace Go.Proofs.YtigpnopeacicpaaGreatDoor
set_option linter.unusedSimpArgs false
theorem Short.mono {P P':Nat} {s:Dy} (h:Short P s) (hP:P≤P'):Short P' s:=Nat.lt_of_lt_of_le h (two_mono hP)
def mulLo (x y u v:Dy):Dy:=minD (minD (minD (dMul x u) (dMul x v)) (dMul y u)) (dMul y v)
def mulHi (x y u v:Dy):Dy:=maxD (maxD (maxD (dMul x u) (dMul x v)) (dMul y u)) (dMul y v)
theorem quoQ_rd {P:Nat} {up:Bool} {x y:Dy} {t:Rat} (hP:1≤P) (hy:y.z≠0) (ht:t*y.q=x.q):Rd P up (· ≤t) (t≤ ·) (quoQ P up x y):=by
 unfold quoQ
 rw [if_neg hy]
 by_cases hx:x.z=0
 ·rw [if_pos hx]
  have hx0:x.q=0:=q_zero.2 hx
  have hy0:y.q≠0:=fun hc=>hy (q_zero.1 hc)
  have ht0:t=0:=by
   rcases Rat.mul_eq_zero.1 (ht.trans hx0) with h|h
   ·exact h
   ·exact absurd h hy0
  subst ht0
  have h0:Dy.q ⟨0,0⟩=0:=zero_q
  refine⟨.inl ⟨rfl,rfl⟩,?_,fun _=>?_,fun _=>?_⟩
  ·show (0:Int).natAbs<2^P
   exact Nat.pow_pos (by decide)
  ·show Dy.q ⟨0,0⟩≤0∧ ∀s,Short P s→s.q≤0→s.q≤Dy.q ⟨0,0⟩
   rw [h0]
   exact⟨Rat.le_refl,fun s _ h=>h⟩
  ·show 0≤Dy.q ⟨0,0⟩∧ ∀s,Short P s→0≤s.q→Dy.q ⟨0,0⟩≤s.q
   rw [h0]
   exact⟨Rat.le_refl,fun s _ h=>h⟩
 ·rw [if_neg hx]
  exact quo_rd hP hx hy ht
theorem quo_exists {x y:Dy} (hy:y.z≠0):(x.q/y.q)*y.q=x.q:=Rat.div_mul_cancel (fun hc=>hy (q_zero.1 hc))
theorem quoQ_congr {P:Nat} {up:Bool} {x y x' y':Dy} (hP:1≤P) (hy:y.z≠0) (hx:x.q=x'.q) (he:y.q=y'.q):quoQ P up x y=quoQ P up x' y':=by
 have hy':y'.z≠0:=fun hc=>hy (q_zero.1 (he.trans (q_zero.2 hc)))
 exact (quoQ_rd hP hy (quo_exists hy)).unique (quoQ_rd hP hy' (by rw [← he,←hx];exact quo_exists hy))
end Go.Proofs.YtigpnopeacicpaaGreatDoor
