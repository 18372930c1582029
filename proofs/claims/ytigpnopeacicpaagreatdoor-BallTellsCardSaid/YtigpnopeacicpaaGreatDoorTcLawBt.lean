import Derived.Test.YtigpnopeacicpaaGreatDoorTcJ35
import Derived.Test.YtigpnopeacicpaaGreatDoorTcJ18
import Derived.Test.YtigpnopeacicpaaGreatDoorTcDyN
namespace Go.Proofs.YtigpnopeacicpaaGreatDoor
open Go.Lib (hid)
set_option linter.unusedSimpArgs false
open Go.RowKit
theorem noLimb12 (n1 n2 n3 n4:Bool) (A1 A2 A3 A4:Option Addr) (k1 k2 k3 k4 c1 c2 c3 c4:Nat) (e1 e2 e3 e4:Int):NoLimb [.bool n1,.slice A1 k1 c1,.int .i64 e1,.bool n2,.slice A2 k2 c2,.int .i64 e2,.bool n3,.slice A3 k3 c3,.int .i64 e3,.bool n4,.slice A4 k4 c4,.int .i64 e4]:=fun o n h=>by
 rcases o with _|_|_|_|_|_|_|_|_|_|_|_|o<;>simp at h
set_option maxHeartbeats 8000000 in
set_option maxRecDepth 100000 in
theorem btel_out1 (nb1 nb2 nb3 nb4 nb5:Bool) (nP1 nP2 nP3 nP4 nP5:Option Addr) (L1 L2 L3 L4 L5:List Nat) (nr1 nr2 nr3 nr4 nr5:Nat) (e1 e2 e3 e4 e5 p:Int) (w:World) (hT:Hid (Tab6 w)) (hl:lightN [⟨nb1,nP1,L1.length,nr1,e1⟩,⟨nb2,nP2,L2.length,nr2,e2⟩,⟨nb3,nP3,L3.length,nr3,e3⟩,⟨nb4,nP4,L4.length,nr4,e4⟩,⟨nb5,nP5,L5.length,nr5,e5⟩]=false):
  Calls Tryz.prog 3 #[.agg #[.bool nb1,.slice nP1 L1.length nr1,.int .i64 e1,.bool nb2,.slice nP2 L2.length nr2,.int .i64 e2,.bool nb3,.slice nP3 L3.length nr3,.int .i64 e3,.bool nb4,.slice nP4 L4.length nr4,.int .i64 e4],.agg #[.bool nb5,.slice nP5 L5.length nr5,.int .i64 e5],.int .i64 p] w fun e w'=>e= .returned (.bool true)∧Only [] w w':=by
 have HL:=hid hl
 clear hl
 have hlv:=light3_v (w:=((w.alloc (.cells #[.bool nb1,.slice nP1 L1.length nr1,.int .i64 e1,.bool nb2,.slice nP2 L2.length nr2,.int .i64 e2,.bool nb3,.slice nP3 L3.length nr3,.int .i64 e3,.bool nb4,.slice nP4 L4.length nr4,.int .i64 e4] 25)).alloc (.cells #[.bool nb5,.slice nP5 L5.length nr5,.int .i64 e5] 24))) [⟨nb1,nP1,L1.length,nr1,e1⟩,⟨nb2,nP2,L2.length,nr2,e2⟩,⟨nb3,nP3,L3.length,nr3,e3⟩,⟨nb4,nP4,L4.length,nr4,e4⟩,⟨nb5,nP5,L5.length,nr5,e5⟩] 5 (hid rfl) (by omega)
 rw [HL.out] at hlv
 simp only [flatN,List.flatMap_cons,List.flatMap_nil,List.cons_append,List.nil_append,World.size_alloc] at hlv
 have hk:=((GB.start w).new 25 [.bool nb1,.slice nP1 L1.length nr1,.int .i64 e1,.bool nb2,.slice nP2 L2.length nr2,.int .i64 e2,.bool nb3,.slice nP3 L3.length nr3,.int .i64 e3,.bool nb4,.slice nP4 L4.length nr4,.int .i64 e4] (noLimb12 _ _ _ _ _ _ _ _ _ _ _ _ _ _ _ _ _ _ _ _)).new 24 [.bool nb5,.slice nP5 L5.length nr5,.int .i64 e5] (noLimb3 _ _ _ _ _)
 simp only [World.size_alloc] at hk
 have HG:=hid hk
 have HI:=hid (WL.nil ((w.alloc (.cells #[.bool nb1,.slice nP1 L1.length nr1,.int .i64 e1,.bool nb2,.slice nP2 L2.length nr2,.int .i64 e2,.bool nb3,.slice nP3 L3.length nr3,.int .i64 e3,.bool nb4,.slice nP4 L4.length nr4,.int .i64 e4] 25)).alloc (.cells #[.bool nb5,.slice nP5 L5.length nr5,.int .i64 e5] 24)))
 have HR:=hid (RL.nil ((w.alloc (.cells #[.bool nb1,.slice nP1 L1.length nr1,.int .i64 e1,.bool nb2,.slice nP2 L2.length nr2,.int .i64 e2,.bool nb3,.slice nP3 L3.length nr3,.int .i64 e3,.bool nb4,.slice nP4 L4.length nr4,.int .i64 e4] 25)).alloc (.cells #[.bool nb5,.slice nP5 L5.length nr5,.int .i64 e5] 24)))
 have HLV:=hid hlv
 clear hlv hk HL
 go_enter Tryz.func3,Tryz.ntmps3
 obtain⟨x1_0,x1_1,x1_2,x1_3,x1_4,x1_5,x1_6,x1_7,x1_8,x1_9,x1_10,x1_11⟩:=GB.c12 HG 1 rfl
 obtain⟨x2_0,x2_1,x2_2⟩:=GB.c3 HG 0 rfl
 go_wp2_with fail
 (with_reducible refine HLV.out.mono ?_)
 rintro e w1 ⟨rfl,ho⟩
 replace HG:=hid (HG.out.step ho)
 replace HI:=hid (HI.out.step ho)
 replace HR:=hid (HR.out.step ho)
 clear ho
 clear x1_0 x1_1 x1_2 x1_3 x1_4 x1_5 x1_6 x1_7 x1_8 x1_9 x1_10 x1_11 x2_0 x2_1 x2_2
 go_wp2_with fail
 (with_reducible refine (alive5_any _ (hid (hT.out.keep HG.out.only))).mono ?_)
 rintro e w102 ⟨rfl,ho⟩
 replace HG:=hid (HG.out.step ho)
 replace HI:=hid (HI.out.step ho)
 replace HR:=hid (HR.out.step ho)
 clear ho
 go_wp2_with fail
 go_ret
 exact⟨rfl,HG.out.only⟩
set_option maxHeartbeats 8000000 in
set_option maxRecDepth 100000 in
theorem btel_out2 (nb1 nb2 nb3 nb4 nb5:Bool) (nP1 nP2 nP3 nP4 nP5:Option Addr) (L1 L2 L3 L4 L5:List Nat) (nr1 nr2 nr3 nr4 nr5:Nat) (e1 e2 e3 e4 e5 p:Int) (w:World) (hT:Hid (Tab6 w)) (hl:lightN [⟨nb1,nP1,L1.length,nr1,e1⟩,⟨nb2,nP2,L2.length,nr2,e2⟩,⟨nb3,nP3,L3.length,nr3,e3⟩,⟨nb4,nP4,L4.length,nr4,e4⟩,⟨nb5,nP5,L5.length,nr5,e5⟩]=true) (hp:300<p):
  Calls Tryz.prog 3 #[.agg #[.bool nb1,.slice nP1 L1.length nr1,.int .i64 e1,.bool nb2,.slice nP2 L2.length nr2,.int .i64 e2,.bool nb3,.slice nP3 L3.length nr3,.int .i64 e3,.bool nb4,.slice nP4 L4.length nr4,.int .i64 e4],.agg #[.bool nb5,.slice nP5 L5.length nr5,.int .i64 e5],.int .i64 p] w fun e w'=>e= .returned (.bool true)∧Only [] w w':=by
 have HL:=hid hl
 clear hl
 have hlv:=light3_v (w:=((w.alloc (.cells #[.bool nb1,.slice nP1 L1.length nr1,.int .i64 e1,.bool nb2,.slice nP2 L2.length nr2,.int .i64 e2,.bool nb3,.slice nP3 L3.length nr3,.int .i64 e3,.bool nb4,.slice nP4 L4.length nr4,.int .i64 e4] 25)).alloc (.cells #[.bool nb5,.slice nP5 L5.length nr5,.int .i64 e5] 24))) [⟨nb1,nP1,L1.length,nr1,e1⟩,⟨nb2,nP2,L2.length,nr2,e2⟩,⟨nb3,nP3,L3.length,nr3,e3⟩,⟨nb4,nP4,L4.length,nr4,e4⟩,⟨nb5,nP5,L5.length,nr5,e5⟩] 5 (hid rfl) (by omega)
 rw [HL.out] at hlv
 simp only [flatN,List.flatMap_cons,List.flatMap_nil,List.cons_append,List.nil_append,World.size_alloc] at hlv
 have hk:=((GB.start w).new 25 [.bool nb1,.slice nP1 L1.length nr1,.int .i64 e1,.bool nb2,.slice nP2 L2.length nr2,.int .i64 e2,.bool nb3,.slice nP3 L3.length nr3,.int .i64 e3,.bool nb4,.slice nP4 L4.length nr4,.int .i64 e4] (noLimb12 _ _ _ _ _ _ _ _ _ _ _ _ _ _ _ _ _ _ _ _)).new 24 [.bool nb5,.slice nP5 L5.length nr5,.int .i64 e5] (noLimb3 _ _ _ _ _)
 simp only [World.size_alloc] at hk
 have HG:=hid hk
 have HI:=hid (WL.nil ((w.alloc (.cells #[.bool nb1,.slice nP1 L1.length nr1,.int .i64 e1,.bool nb2,.slice nP2 L2.length nr2,.int .i64 e2,.bool nb3,.slice nP3 L3.length nr3,.int .i64 e3,.bool nb4,.slice nP4 L4.length nr4,.int .i64 e4] 25)).alloc (.cells #[.bool nb5,.slice nP5 L5.length nr5,.int .i64 e5] 24)))
 have HR:=hid (RL.nil ((w.alloc (.cells #[.bool nb1,.slice nP1 L1.length nr1,.int .i64 e1,.bool nb2,.slice nP2 L2.length nr2,.int .i64 e2,.bool nb3,.slice nP3 L3.length nr3,.int .i64 e3,.bool nb4,.slice nP4 L4.length nr4,.int .i64 e4] 25)).alloc (.cells #[.bool nb5,.slice nP5 L5.length nr5,.int .i64 e5] 24)))
 have HLV:=hid hlv
 clear hlv hk HL
 go_enter Tryz.func3,Tryz.ntmps3
 obtain⟨x1_0,x1_1,x1_2,x1_3,x1_4,x1_5,x1_6,x1_7,x1_8,x1_9,x1_10,x1_11⟩:=GB.c12 HG 1 rfl
 obtain⟨x2_0,x2_1,x2_2⟩:=GB.c3 HG 0 rfl
 go_wp2_with fail
 (with_reducible refine HLV.out.mono ?_)
 rintro e w1 ⟨rfl,ho⟩
 replace HG:=hid (HG.out.step ho)
 replace HI:=hid (HI.out.step ho)
 replace HR:=hid (HR.out.step ho)
 clear ho
 clear x1_0 x1_1 x1_2 x1_3 x1_4 x1_5 x1_6 x1_7 x1_8 x1_9 x1_10 x1_11 x2_0 x2_1 x2_2
 go_wp2_with fail
 (with_reducible refine (alive5_any _ (hid (hT.out.keep HG.out.only))).mono ?_)
 rintro e w102 ⟨rfl,ho⟩
 replace HG:=hid (HG.out.step ho)
 replace HI:=hid (HI.out.step ho)
 replace HR:=hid (HR.out.step ho)
 clear ho
 go_wp2_with fail
 go_ret
 exact⟨rfl,HG.out.only⟩
structure BTF (nb1 nb2 nb3 nb4 nb5:Bool) (nP1 nP2 nP3 nP4 nP5:Option Addr) (L1 L2 L3 L4 L5:List Nat) (nr1 nr2 nr3 nr4 nr5:Nat) (x1 x2 x3 x4 x5 la ha lb hb pla pha plb phb ql qh tl th ry AAl AAh ASl ASh AMl AMh ual uah usl ush me0 me1 me2 me3 nh nl rnh rnl:Dy) (p cm1 cm2 sgb sgx sgy cpa cpb tx ty cb:Int) (okq okt okg hs:Bool) (w:World) (N M:Nat):Prop where
 HZ1:Hid (sg nb1 (val L1)=x1.z)
 BX1:Hid (Bnd N x1)
 HZ2:Hid (sg nb2 (val L2)=x2.z)
 BX2:Hid (Bnd N x2)
 HZ3:Hid (sg nb3 (val L3)=x3.z)
 BX3:Hid (Bnd N x3)
 HZ4:Hid (sg nb4 (val L4)=x4.z)
 BX4:Hid (Bnd N x4)
 HZ5:Hid (sg nb5 (val L5)=x5.z)
 BX5:Hid (Bnd N x5)
 Hcm1:Hid (cmpQ x1.q x2.q=cm1)
 Hcm1L:Hid ((0<cm1→x2=la∧x1=ha)∧(¬ 0<cm1→x1=la∧x2=ha))
 Hcm2:Hid (cmpQ x3.q x4.q=cm2)
 Hcm2L:Hid ((0<cm2→x4=lb∧x3=hb)∧(¬ 0<cm2→x3=lb∧x4=hb))
 Bla:Hid (Bnd N la)
 Hpla:Hid (nrm la.z la.e=pla)
 Cpla:Hid (Can pla)
 Bpla:Hid (Bnd N pla)
 Bha:Hid (Bnd N ha)
 Hpha:Hid (nrm ha.z ha.e=pha)
 Cpha:Hid (Can pha)
 Bpha:Hid (Bnd N pha)
 Blb:Hid (Bnd N lb)
 Hplb:Hid (nrm lb.z lb.e=plb)
 Cplb:Hid (Can plb)
 Bplb:Hid (Bnd N plb)
 Bhb:Hid (Bnd N hb)
 Hphb:Hid (nrm hb.z hb.e=phb)
 Cphb:Hid (Can phb)
 Bphb:Hid (Bnd N phb)
 HNQ:Hid (okq=false→(lb.z.sign=hb.z.sign→lb.z.sign=0)∧ql=⟨0,0⟩∧qh=⟨0,0⟩)
 HYQ:Hid (okq=true→lb.z.sign=hb.z.sign∧lb.z≠0∧qLo (widthP p) la ha lb hb=ql∧qHi (widthP p) la ha lb hb=qh)
 HNP:Hid (okq=false→plb.z.sign≤0∧0≤phb.z.sign∧ql=⟨0,0⟩∧qh=⟨0,0⟩)
 HYP:Hid (okq=true→(0<plb.z.sign∨(plb.z.sign≤0∧phb.z.sign<0))∧plb.z≠0∧phb.z≠0∧qLo (widthP p) pla pha plb phb=ql∧qHi (widthP p) pla pha plb phb=qh)
 HNS:Hid (okt=false→ha.z<0∧tl=⟨0,0⟩∧th=⟨0,0⟩)
 HYS:Hid (okt=true→0≤ha.z∧sqrtQ (widthP p) false (if la.z<0 then ⟨0,0⟩ else la)=tl∧sqrtQ (widthP p) true ha=th)
 HNT:Hid (okt=false→pha.z<0∧tl=⟨0,0⟩∧th=⟨0,0⟩)
 HYT:Hid (okt=true→0≤pha.z∧sqrtQ (widthP p) false (if pla.z<0 then ⟨0,0⟩ else pla)=tl∧sqrtQ (widthP p) true pha=th)
 HCQ:Hid (okq=true→Hid (Can ql)∧Hid (Can qh))
 HCT:Hid (okt=true→Hid (Can tl)∧Hid (Can th))
 Bql:Hid (Bnd M ql)
 Bqh:Hid (Bnd M qh)
 Btl:Hid (Bnd M tl)
 Bth:Hid (Bnd M th)
 HSG:Hid ((if la.z.sign=ha.z.sign then la.z.sign else 0)=sgb)
 HOG:Hid (decide (la.z.sign=ha.z.sign)=okg)
 HSX:Hid (pla.z.sign=sgx)
 HSY:Hid (pha.z.sign=sgy)
 HCS:Hid ((0<sgx∧sgb=1∧okg=true)∨(¬ 0<sgx∧sgy<0∧sgb= -1∧okg=true)∨(¬ 0<sgx∧ ¬sgy<0∧sgb=0∧((sgx=0∧sgy=0∧okg=true)∨(sgx≠0∧okg=false)∨(sgx=0∧sgy≠0∧okg=false))))
 HRYV:Hid (nrm x5.z x5.e=ry)
 Cry:Hid (Can ry)
 Bry:Hid (Bnd N ry)
 HC1:Hid (cmpQ ry.q pla.q=cpa)
 HC2:Hid (cmpQ ry.q pha.q=cpb)
 HG1:Hid ((decide (0≤cpa)=false∧hs=false)∨(decide (0≤cpa)=true∧hs=decide (cpb≤0)))
 HHS:Hid (hs=(decide (0≤cpa) && decide (cpb≤0)))
 HHAS:Hid ((decide (la.q≤x5.q) && decide (x5.q≤ha.q))=hs)
 HAAl:Hid (rndD (widthP p) false (dAdd la lb)=AAl)
 HAAh:Hid (rndD (widthP p) true (dAdd ha hb)=AAh)
 Hual:Hid (dAdd pla plb=ual)
 Huah:Hid (dAdd pha phb=uah)
 HRAl:Hid (rndD (widthP p) false ual=AAl)
 HRAh:Hid (rndD (widthP p) true uah=AAh)
 HASl:Hid (rndD (widthP p) false (dSub la hb)=ASl)
 HASh:Hid (rndD (widthP p) true (dSub ha lb)=ASh)
 Husl:Hid (dSub pla phb=usl)
 Hush:Hid (dSub pha plb=ush)
 HRSl:Hid (rndD (widthP p) false usl=ASl)
 HRSh:Hid (rndD (widthP p) true ush=ASh)
 HAMl:Hid (rndD (widthP p) false (mulLo la ha lb hb)=AMl)
 HAMh:Hid (rndD (widthP p) true (mulHi la ha lb hb)=AMh)
 HRMl:Hid (rndD (widthP p) false (minD (minD (minD me0 me1) me2) me3)=AMl)
 HRMh:Hid (rndD (widthP p) true (maxD (maxD (maxD me0 me1) me2) me3)=AMh)
 Hme0:Hid (dMul pla plb=me0)
 Cme0:Hid (Can me0)
 Bme0:Hid (Bnd M me0)
 Hme1:Hid (dMul pla phb=me1)
 Cme1:Hid (Can me1)
 Bme1:Hid (Bnd M me1)
 Hme2:Hid (dMul pha plb=me2)
 Cme2:Hid (Can me2)
 Bme2:Hid (Bnd M me2)
 Hme3:Hid (dMul pha phb=me3)
 Cme3:Hid (Can me3)
 Bme3:Hid (Bnd M me3)
 Bual:Hid (Bnd M ual)
 Buah:Hid (Bnd M uah)
 Busl:Hid (Bnd M usl)
 Bush:Hid (Bnd M ush)
 CAAl:Hid (Can AAl)
 BAAl:Hid (Bnd M AAl)
 CAAh:Hid (Can AAh)
 BAAh:Hid (Bnd M AAh)
 CASl:Hid (Can ASl)
 BASl:Hid (Bnd M ASl)
 CASh:Hid (Can ASh)
 BASh:Hid (Bnd M ASh)
 CAMl:Hid (Can AMl)
 BAMl:Hid (Bnd M AMl)
 CAMh:Hid (Can AMh)
 BAMh:Hid (Bnd M AMh)
 Hnh:Hid (dNot ha=nh)
 Hnl:Hid (dNot la=nl)
 Hrnh:Hid (dNot pha=rnh)
 Hrnl:Hid (dNot pla=rnl)
 Hnnh:Hid (nrm nh.z nh.e=rnh)
 Hnnl:Hid (nrm nl.z nl.e=rnl)
 Bnh:Hid (Bnd M nh)
 Bnl:Hid (Bnd M nl)
 Brnh:Hid (Bnd M rnh)
 Brnl:Hid (Bnd M rnl)
 Crnh:Hid (Can rnh)
 Crnl:Hid (Can rnl)
 HTX:Hid (topD la=tx)
 HTY:Hid (topD ha=ty)
 HPX:Hid (topD pla=tx)
 HPY:Hid (topD pha=ty)
 Hnpla:Hid (nrm pla.z pla.e=pla)
 Hnpha:Hid (nrm pha.z pha.e=pha)
 HCB:Hid (cmpQ ha.q la.q=cb)
 HB1:Hid (0<cb→nrm la.z la.e=pla∧nrm ha.z ha.e=pha)
 HB2:Hid (¬ 0<cb→nrm ha.z ha.e=pla∧nrm la.z la.e=pha)
set_option maxHeartbeats 100000000 in
set_option maxRecDepth 100000 in
theorem btel_inF (nb1 nb2 nb3 nb4 nb5:Bool) (nP1 nP2 nP3 nP4 nP5:Option Addr) (L1 L2 L3 L4 L5:List Nat) (nr1 nr2 nr3 nr4 nr5:Nat) (x1 x2 x3 x4 x5 la ha lb hb pla pha plb phb ql qh tl th ry AAl AAh ASl ASh AMl AMh ual uah usl ush me0 me1 me2 me3 nh nl rnh rnl:Dy) (p cm1 cm2 sgb sgx sgy cpa cpb tx ty cb:Int) (okq okt okg hs:Bool) (w:World) (N M:Nat) (hN:N≤25000) (hM:M≤900000) (hp: ¬300<p) (H1:Hid (LimbsIn w nP1 L1)) (hl1:(L1.length:Int)≤40) (he1: -3000≤x1.e∧x1.e≤3000) (H2:Hid (LimbsIn w nP2 L2)) (hl2:(L2.length:Int)≤40) (he2: -3000≤x2.e∧x2.e≤3000) (H3:Hid (LimbsIn w nP3 L3)) (hl3:(L3.length:Int)≤40) (he3: -3000≤x3.e∧x3.e≤3000) (H4:Hid (LimbsIn w nP4 L4)) (hl4:(L4.length:Int)≤40) (he4: -3000≤x4.e∧x4.e≤3000) (H5:Hid (LimbsIn w nP5 L5)) (hl5:(L5.length:Int)≤40) (he5: -3000≤x5.e∧x5.e≤3000) (hT:Hid (Tab6 w)) (FF:BTF nb1 nb2 nb3 nb4 nb5 nP1 nP2 nP3 nP4 nP5 L1 L2 L3 L4 L5 nr1 nr2 nr3 nr4 nr5 x1 x2 x3 x4 x5 la ha lb hb pla pha plb phb ql qh tl th ry AAl AAh ASl ASh AMl AMh ual uah usl ush me0 me1 me2 me3 nh nl rnh rnl p cm1 cm2 sgb sgx sgy cpa cpb tx ty cb okq okt okg hs w N M):
  Calls Tryz.prog 3 #[.agg #[.bool nb1,.slice nP1 L1.length nr1,.int .i64 x1.e,.bool nb2,.slice nP2 L2.length nr2,.int .i64 x2.e,.bool nb3,.slice nP3 L3.length nr3,.int .i64 x3.e,.bool nb4,.slice nP4 L4.length nr4,.int .i64 x4.e],.agg #[.bool nb5,.slice nP5 L5.length nr5,.int .i64 x5.e],.int .i64 p] w fun e w'=>e= .returned (.bool true)∧Only [] w w':=by
 have HL:Hid (lightN [⟨nb1,nP1,L1.length,nr1,x1.e⟩,⟨nb2,nP2,L2.length,nr2,x2.e⟩,⟨nb3,nP3,L3.length,nr3,x3.e⟩,⟨nb4,nP4,L4.length,nr4,x4.e⟩,⟨nb5,nP5,L5.length,nr5,x5.e⟩]=true):=by
  show _=_
  simp only [lightN,List.all_cons,List.all_nil,NR.ok,Bool.and_true,Bool.and_eq_true,decide_eq_true_eq]
  omega
 have hlv:=light3_v (w:=((w.alloc (.cells #[.bool nb1,.slice nP1 L1.length nr1,.int .i64 x1.e,.bool nb2,.slice nP2 L2.length nr2,.int .i64 x2.e,.bool nb3,.slice nP3 L3.length nr3,.int .i64 x3.e,.bool nb4,.slice nP4 L4.length nr4,.int .i64 x4.e] 25)).alloc (.cells #[.bool nb5,.slice nP5 L5.length nr5,.int .i64 x5.e] 24))) [⟨nb1,nP1,L1.length,nr1,x1.e⟩,⟨nb2,nP2,L2.length,nr2,x2.e⟩,⟨nb3,nP3,L3.length,nr3,x3.e⟩,⟨nb4,nP4,L4.length,nr4,x4.e⟩,⟨nb5,nP5,L5.length,nr5,x5.e⟩] 5 (hid rfl) (by omega)
 rw [HL.out] at hlv
 simp only [flatN,List.flatMap_cons,List.flatMap_nil,List.cons_append,List.nil_append,World.size_alloc] at hlv
 have hk:=((GB.start w).new 25 [.bool nb1,.slice nP1 L1.length nr1,.int .i64 x1.e,.bool nb2,.slice nP2 L2.length nr2,.int .i64 x2.e,.bool nb3,.slice nP3 L3.length nr3,.int .i64 x3.e,.bool nb4,.slice nP4 L4.length nr4,.int .i64 x4.e] (noLimb12 _ _ _ _ _ _ _ _ _ _ _ _ _ _ _ _ _ _ _ _)).new 24 [.bool nb5,.slice nP5 L5.length nr5,.int .i64 x5.e] (noLimb3 _ _ _ _ _)
 simp only [World.size_alloc] at hk
 have HG:=hid hk
 have HI:=hid (WL.nil ((w.alloc (.cells #[.bool nb1,.slice nP1 L1.length nr1,.int .i64 x1.e,.bool nb2,.slice nP2 L2.length nr2,.int .i64 x2.e,.bool nb3,.slice nP3 L3.length nr3,.int .i64 x3.e,.bool nb4,.slice nP4 L4.length nr4,.int .i64 x4.e] 25)).alloc (.cells #[.bool nb5,.slice nP5 L5.length nr5,.int .i64 x5.e] 24)))
 have HR:=hid (RL.nil ((w.alloc (.cells #[.bool nb1,.slice nP1 L1.length nr1,.int .i64 x1.e,.bool nb2,.slice nP2 L2.length nr2,.int .i64 x2.e,.bool nb3,.slice nP3 L3.length nr3,.int .i64 x3.e,.bool nb4,.slice nP4 L4.length nr4,.int .i64 x4.e] 25)).alloc (.cells #[.bool nb5,.slice nP5 L5.length nr5,.int .i64 x5.e] 24)))
 have HLV:=hid hlv
 replace H1:=hid (H1.out.only hk.only)
 replace H2:=hid (H2.out.only hk.only)
 replace H3:=hid (H3.out.only hk.only)
 replace H4:=hid (H4.out.only hk.only)
 clear hlv hk HL he1 he2 he3 he4 he5
 go_enter Tryz.func3,Tryz.ntmps3
 obtain⟨x1_0,x1_1,x1_2,x1_3,x1_4,x1_5,x1_6,x1_7,x1_8,x1_9,x1_10,x1_11⟩:=GB.c12 HG 1 rfl
 obtain⟨x2_0,x2_1,x2_2⟩:=GB.c3 HG 0 rfl
 go_wp2_with fail
 (with_reducible refine HLV.out.mono ?_)
 rintro e w1 ⟨rfl,ho⟩
 replace H1:=hid (H1.out.only ho)
 replace H2:=hid (H2.out.only ho)
 replace H3:=hid (H3.out.only ho)
 replace H4:=hid (H4.out.only ho)
 replace HG:=hid (HG.out.step ho)
 replace HI:=hid (HI.out.step ho)
 replace HR:=hid (HR.out.step ho)
 clear ho
 clear x1_0 x1_1 x1_2 x1_3 x1_4 x1_5 x1_6 x1_7 x1_8 x1_9 x1_10 x1_11 x2_0 x2_1 x2_2
 go_wp2_with fail
 (with_reducible refine (alive5_any _ (hid (hT.out.keep HG.out.only))).mono ?_)
 rintro e w102 ⟨rfl,ho⟩
 replace H1:=hid (H1.out.only ho)
 replace H2:=hid (H2.out.only ho)
 replace H3:=hid (H3.out.only ho)
 replace H4:=hid (H4.out.only ho)
 replace HG:=hid (HG.out.step ho)
 replace HI:=hid (HI.out.step ho)
 replace HR:=hid (HR.out.step ho)
 clear ho
 go_upto_region 3 with fail
 have hala: ∀w:World,(Instr.alloc 34 true (.tuple #[])).run Tryz.prog w= .ok (.pointer (some ⟨w.heap.size,0,none⟩)) (w.alloc (.cells #[.bool false,.slice none 0 0,.int .i64 0,.bool false,.slice none 0 0,.int .i64 0] 34)):=fun _=>by kernel_rfl
 have halb: ∀w:World,(Instr.alloc 40 true (.tuple #[])).run Tryz.prog w= .ok (.pointer (some ⟨w.heap.size,0,none⟩)) (w.alloc (.cells #[.bool false,.slice none 0 0,.int .i64 0,.bool false,.slice none 0 0,.int .i64 0] 40)):=fun _=>by kernel_rfl
 apply wp_region_typed_tail3 12 [10,11] 34 #[.bool false,.slice none 0 0,.int .i64 0,.bool false,.slice none 0 0,.int .i64 0] (by kernel_rfl) (by kernel_rfl) hala (by kernel_rfl) [isV _,isV _,isV _,isV _,isB la ha,isV _,isV _,isV _,isV _,isB lb hb,isPtr w102 34 [.bool false,.slice none 0 0,.int .i64 0,.bool false,.slice none 0 0,.int .i64 0],isPtr w102 34 [.bool false,.slice none 0 0,.int .i64 0,.bool false,.slice none 0 0,.int .i64 0]] [[],[0],[],[2],[1,3],[],[5],[],[7],[6,8],[],[]] (by kernel_rfl) (by kernel_rfl) (by kernel_rfl)
 case ho=>
  simp only [List.take_succ_cons,List.take_zero]
  iterate 12
   refine owes2_cons (fun wx hox=>?_) ?_
   ·skip
    have hg:=hid (HG.out.step hox)
    have hi:=hid (HI.out.step hox)
    have hr:=hid (HR.out.step hox)
    obtain⟨x3_0,x3_1,x3_2,x3_3,x3_4,x3_5,x3_6,x3_7,x3_8,x3_9,x3_10,x3_11⟩:=GB.c12 hg 1 rfl
    obtain⟨x4_0,x4_1,x4_2,x4_3,x4_4,x4_5,x4_6,x4_7,x4_8,x4_9,x4_10,x4_11⟩:=GB.c12 hg 1 rfl
    obtain⟨x5_0,x5_1,x5_2,x5_3,x5_4,x5_5,x5_6,x5_7,x5_8,x5_9,x5_10,x5_11⟩:=GB.c12 hg 1 rfl
    obtain⟨x6_0,x6_1,x6_2,x6_3,x6_4,x6_5,x6_6,x6_7,x6_8,x6_9,x6_10,x6_11⟩:=GB.c12 hg 1 rfl
    clear hg hi hr
    refine withs_plain rfl ?_
    simp only [withs,List.getElem?_cons_zero,List.getElem?_cons_succ,Option.bind,Option.getD]
    with_reducible repeat first|refine all_isV ?_|(refine all_isB ?_;intro sx Ax kx cx tx Bx mx dx hvx hwx)
    go_simp
    first
    |exact⟨Only.refl _ _,isV.self _ _⟩
    |with_reducible exact grow_bv (of_b nb1 nb2 nP1 nP2 L1 L2 nr1 nr2 x1 x2 la ha _ N FF.HZ1 FF.HZ2 (hid (H1.out.only hox)) (hid (H2.out.only hox)) hl1 hl2 FF.BX1 FF.BX2 (by omega) cm1 FF.Hcm1.out (hid ⟨FF.Hcm1L.out.1,fun h=>FF.Hcm1L.out.2 (by omega)⟩))
    |with_reducible exact grow_bv (of_b nb3 nb4 nP3 nP4 L3 L4 nr3 nr4 x3 x4 lb hb _ N FF.HZ3 FF.HZ4 (hid (H3.out.only hox)) (hid (H4.out.only hox)) hl3 hl4 FF.BX3 FF.BX4 (by omega) cm2 FF.Hcm2.out (hid ⟨FF.Hcm2L.out.1,fun h=>FF.Hcm2L.out.2 (by omega)⟩))
    |exact isPtr.new hox _ _
  exact owes2_nil
 case hl=>
  repeat (refine List.forall_mem_cons.2 ⟨?_,?_⟩;first|exact isV.lasts _|exact isB.lasts _ _|exact isPtr.lasts _ _ _)
  exact fun _ h=>(by cases h)
 simp only [List.drop_succ_cons,List.drop_zero]
 intro wx hox
 refine withs_of (by simp only [List.length,List.range,List.range.loop];exact rfl) ?_
 simp only [withs,List.getElem?_cons_zero,List.getElem?_cons_succ,Option.bind,Option.getD]
 with_reducible refine all_isV ?_
 with_reducible refine all_isV ?_
 with_reducible refine all_isV ?_
 with_reducible refine all_isV ?_
 with_reducible refine all_isB ?_
 intro s4 A4 k4 c4 t4 B4 m4 d4 hv4 hw4
 with_reducible refine all_isV ?_
 with_reducible refine all_isV ?_
 with_reducible refine all_isV ?_
 with_reducible refine all_isV ?_
 with_reducible refine all_isB ?_
 intro s9 A9 k9 c9 t9 B9 m9 d9 hv9 hw9
 with_reducible refine all_isPtr ?_
 intro g10 hb10 hg10
 with_reducible refine all_isPtr ?_
 intro g11 hb11 hg11
 go_simp
 intro hap
 have n0_1: ¬g10=g11:=fun hc=>hap 10 (by decide) 11 (by decide) (by decide) 7 8 rfl rfl (by rw [hc];rfl)
 have N0_1:=hid n0_1
 have N1_0:Hid (¬ g11=g10):=fun hc=>n0_1 hc.symm
 clear n0_1
 clear hap
 have hsz:=HG.out.only.size
 have hga0:=hg10.out
 have Ng0:Hid (w.heap.size≤g10):=Nat.le_trans hsz hga0
 have Ne0:=hid (GB.apart HG.out hg10.out)
 have BL0:=hb10
 clear hga0 hb10 hg10
 have hga1:=hg11.out
 have Ng1:Hid (w.heap.size≤g11):=Nat.le_trans hsz hga1
 have Ne1:=hid (GB.apart HG.out hg11.out)
 have BL1:=hb11
 clear hga1 hb11 hg11
 clear hsz
 replace HG:=hid (HG.out.step hox)
 replace HI:=hid (HI.out.step hox)
 replace HR:=hid (HR.out.step hox)
 clear hox
 replace HI:=hid (HI.out.cons hw4)
 replace HI:=hid (HI.out.cons hv4)
 replace HI:=hid (HI.out.cons hw9)
 replace HI:=hid (HI.out.cons hv9)
 have HG9:=hid (HG.out.adopt6 (u0:= .bool s4) (u1:= .slice A4 k4 c4) (u2:= .int .i64 la.e) (u3:= .bool t4) (u4:= .slice B4 m4 d4) (u5:= .int .i64 ha.e) BL0.out (noLimb6 _ _ _ _ _ _ _ _ _ _) Ng0.out Ne0.out)
 have HI9:=hid (HI.out.far (only_set6 wx g10 (.bool s4) (.slice A4 k4 c4) (.int .i64 la.e) (.bool t4) (.slice B4 m4 d4) (.int .i64 ha.e)) BL0.out (noLimb6 _ _ _ _ _ _ _ _ _ _))
 have HR9:=hid (HR.out.far (only_set6 wx g10 (.bool s4) (.slice A4 k4 c4) (.int .i64 la.e) (.bool t4) (.slice B4 m4 d4) (.int .i64 ha.e)) BL0.out (noLimb6 _ _ _ _ _ _ _ _ _ _))
 replace BL1:=hid (Blk.farX BL1.out (only_set6 wx g10 (.bool s4) (.slice A4 k4 c4) (.int .i64 la.e) (.bool t4) (.slice B4 m4 d4) (.int .i64 ha.e)) N1_0.out)
 refine wpList_store 34 (.tmp 7) (.tmp 50) rfl rfl rfl (u:= .pointer (some ⟨g10,0,none⟩)) (v:= .agg #[.bool s4,.slice A4 k4 c4,.int .i64 la.e,.bool t4,.slice B4 m4 d4,.int .i64 ha.e]) (by kernel_rfl) (by kernel_rfl) (store_ba BL0.out _ _ _ _ _ _ _ _ _ _) ?_
 clear HG HI HR BL0 Ne0 Ng0
 generalize (((((wx.setCell _ _).setCell _ _).setCell _ _).setCell _ _).setCell _ _).setCell _ _=wy0_w9 at*
 have HG:=HG9
 have HI:=HI9
 have HR:=HR9
 clear HG9 HI9 HR9
 have HG9:=hid (HG.out.adopt6 (u0:= .bool s9) (u1:= .slice A9 k9 c9) (u2:= .int .i64 lb.e) (u3:= .bool t9) (u4:= .slice B9 m9 d9) (u5:= .int .i64 hb.e) BL1.out (noLimb6 _ _ _ _ _ _ _ _ _ _) Ng1.out (GB.apart1 Ne1.out N0_1.out))
 have HI9:=hid (HI.out.far (only_set6 wy0_w9 g11 (.bool s9) (.slice A9 k9 c9) (.int .i64 lb.e) (.bool t9) (.slice B9 m9 d9) (.int .i64 hb.e)) BL1.out (noLimb6 _ _ _ _ _ _ _ _ _ _))
 have HR9:=hid (HR.out.far (only_set6 wy0_w9 g11 (.bool s9) (.slice A9 k9 c9) (.int .i64 lb.e) (.bool t9) (.slice B9 m9 d9) (.int .i64 hb.e)) BL1.out (noLimb6 _ _ _ _ _ _ _ _ _ _))
 refine wpList_store 34 (.tmp 8) (.tmp 55) rfl rfl rfl (u:= .pointer (some ⟨g11,0,none⟩)) (v:= .agg #[.bool s9,.slice A9 k9 c9,.int .i64 lb.e,.bool t9,.slice B9 m9 d9,.int .i64 hb.e]) (by kernel_rfl) (by kernel_rfl) (store_ba BL1.out _ _ _ _ _ _ _ _ _ _) ?_
 clear HG HI HR BL1 Ne1 Ng1
 generalize (((((wy0_w9.setCell _ _).setCell _ _).setCell _ _).setCell _ _).setCell _ _).setCell _ _=wy1_w9 at*
 have HG:=HG9
 have HI:=HI9
 have HR:=HR9
 clear HG9 HI9 HR9
 clear N0_1 N1_0
 go_upto_region 4 with fail
 generalize hww_:wy1_w9=w9 at*
 clear hww_
 generalize hgg_:g10=g_a at*
 clear hgg_
 generalize hgg_:g11=g_b at*
 clear hgg_
 clear hala H1 H2 H3 H4
 apply wp_region_typed_tail3 6 [4,5] 40 #[.bool false,.slice none 0 0,.int .i64 0,.bool false,.slice none 0 0,.int .i64 0] (by kernel_rfl) (by kernel_rfl) halb (by kernel_rfl) [isV _,isRB pla pha,isV _,isRB plb phb,isPtr w9 40 [.bool false,.slice none 0 0,.int .i64 0,.bool false,.slice none 0 0,.int .i64 0],isPtr w9 40 [.bool false,.slice none 0 0,.int .i64 0,.bool false,.slice none 0 0,.int .i64 0]] [[],[0],[],[2],[],[]] (by kernel_rfl) (by kernel_rfl) (by kernel_rfl)
 case ho=>
  simp only [List.take_succ_cons,List.take_zero]
  iterate 6
   refine owes2_cons (fun wx hox=>?_) ?_
   ·skip
    have hg:=hid (HG.out.step hox)
    have hi:=hid (HI.out.step hox)
    have hr:=hid (HR.out.step hox)
    obtain⟨x7_0,x7_1,x7_2,x7_3,x7_4,x7_5⟩:=GB.c6 hg 1 rfl
    have bv_la_ha:=(BV.of (x:=la) (y:=ha) (WL.at (z:=la.z) hi 2 rfl) (WL.at (z:=ha.z) hi 3 rfl))
    obtain⟨x8_0,x8_1,x8_2,x8_3,x8_4,x8_5⟩:=GB.c6 hg 0 rfl
    have bv_lb_hb:=(BV.of (x:=lb) (y:=hb) (WL.at (z:=lb.z) hi 0 rfl) (WL.at (z:=hb.z) hi 1 rfl))
    clear hg hi hr
    refine withs_plain rfl ?_
    simp only [withs,List.getElem?_cons_zero,List.getElem?_cons_succ,Option.bind,Option.getD]
    with_reducible repeat first|refine all_isV ?_|(refine all_isRB ?_;intro sx Ax kx cx tx Bx mx dx hvx hwx)
    go_simp
    first
    |exact⟨Only.refl _ _,isV.self _ _⟩
    |with_reducible exact grow_rb (ref_b pla pha FF.Hpla.out FF.Hpha.out bv_la_ha FF.Bla FF.Bha (by omega))
    |with_reducible exact grow_rb (ref_b plb phb FF.Hplb.out FF.Hphb.out bv_lb_hb FF.Blb FF.Bhb (by omega))
    |exact isPtr.new hox _ _
  exact owes2_nil
 case hl=>
  repeat (refine List.forall_mem_cons.2 ⟨?_,?_⟩;first|exact isV.lasts _|exact isRB.lasts _ _|exact isPtr.lasts _ _ _)
  exact fun _ h=>(by cases h)
 simp only [List.drop_succ_cons,List.drop_zero]
 intro wx hox
 refine withs_of (by simp only [List.length,List.range,List.range.loop];exact rfl) ?_
 simp only [withs,List.getElem?_cons_zero,List.getElem?_cons_succ,Option.bind,Option.getD]
 with_reducible refine all_isV ?_
 with_reducible refine all_isRB ?_
 intro s1 A1 k1 c1 t1 B1 m1 d1 hv1 hw1
 with_reducible refine all_isV ?_
 with_reducible refine all_isRB ?_
 intro s3 A3 k3 c3 t3 B3 m3 d3 hv3 hw3
 with_reducible refine all_isPtr ?_
 intro g4 hb4 hg4
 with_reducible refine all_isPtr ?_
 intro g5 hb5 hg5
 go_simp
 intro hap
 have n0_1: ¬g4=g5:=fun hc=>hap 4 (by decide) 5 (by decide) (by decide) 9 10 rfl rfl (by rw [hc];rfl)
 have N0_1:=hid n0_1
 have N1_0:Hid (¬ g5=g4):=fun hc=>n0_1 hc.symm
 clear n0_1
 clear hap
 have hsz:=HG.out.only.size
 have hga0:=hg4.out
 have Ng0:Hid (w.heap.size≤g4):=Nat.le_trans hsz hga0
 have Ne0:=hid (GB.apart HG.out hg4.out)
 have BL0:=hb4
 clear hga0 hb4 hg4
 have hga1:=hg5.out
 have Ng1:Hid (w.heap.size≤g5):=Nat.le_trans hsz hga1
 have Ne1:=hid (GB.apart HG.out hg5.out)
 have BL1:=hb5
 clear hga1 hb5 hg5
 clear hsz
 replace HG:=hid (HG.out.step hox)
 replace HI:=hid (HI.out.step hox)
 replace HR:=hid (HR.out.step hox)
 clear hox
 replace HR:=hid (HR.out.cons (hid (rd_parts hw1.out).2) (hid (rd_parts hw1.out).1))
 replace HR:=hid (HR.out.cons (hid (rd_parts hv1.out).2) (hid (rd_parts hv1.out).1))
 replace HR:=hid (HR.out.cons (hid (rd_parts hw3.out).2) (hid (rd_parts hw3.out).1))
 replace HR:=hid (HR.out.cons (hid (rd_parts hv3.out).2) (hid (rd_parts hv3.out).1))
 have HG9:=hid (HG.out.adopt6 (u0:= .bool s1) (u1:= .slice A1 k1 c1) (u2:= .int .i64 pla.e) (u3:= .bool t1) (u4:= .slice B1 m1 d1) (u5:= .int .i64 pha.e) BL0.out (noLimb6 _ _ _ _ _ _ _ _ _ _) Ng0.out Ne0.out)
 have HI9:=hid (HI.out.far (only_set6 wx g4 (.bool s1) (.slice A1 k1 c1) (.int .i64 pla.e) (.bool t1) (.slice B1 m1 d1) (.int .i64 pha.e)) BL0.out (noLimb6 _ _ _ _ _ _ _ _ _ _))
 have HR9:=hid (HR.out.far (only_set6 wx g4 (.bool s1) (.slice A1 k1 c1) (.int .i64 pla.e) (.bool t1) (.slice B1 m1 d1) (.int .i64 pha.e)) BL0.out (noLimb6 _ _ _ _ _ _ _ _ _ _))
 replace BL1:=hid (Blk.farX BL1.out (only_set6 wx g4 (.bool s1) (.slice A1 k1 c1) (.int .i64 pla.e) (.bool t1) (.slice B1 m1 d1) (.int .i64 pha.e)) N1_0.out)
 refine wpList_store 40 (.tmp 9) (.tmp 57) rfl rfl rfl (u:= .pointer (some ⟨g4,0,none⟩)) (v:= .agg #[.bool s1,.slice A1 k1 c1,.int .i64 pla.e,.bool t1,.slice B1 m1 d1,.int .i64 pha.e]) (by kernel_rfl) (by kernel_rfl) (store_rb BL0.out _ _ _ _ _ _ _ _ _ _) ?_
 clear HG HI HR BL0 Ne0 Ng0
 generalize (((((wx.setCell _ _).setCell _ _).setCell _ _).setCell _ _).setCell _ _).setCell _ _=wy0_w10 at*
 have HG:=HG9
 have HI:=HI9
 have HR:=HR9
 clear HG9 HI9 HR9
 have HG9:=hid (HG.out.adopt6 (u0:= .bool s3) (u1:= .slice A3 k3 c3) (u2:= .int .i64 plb.e) (u3:= .bool t3) (u4:= .slice B3 m3 d3) (u5:= .int .i64 phb.e) BL1.out (noLimb6 _ _ _ _ _ _ _ _ _ _) Ng1.out (GB.apart1 Ne1.out N0_1.out))
 have HI9:=hid (HI.out.far (only_set6 wy0_w10 g5 (.bool s3) (.slice A3 k3 c3) (.int .i64 plb.e) (.bool t3) (.slice B3 m3 d3) (.int .i64 phb.e)) BL1.out (noLimb6 _ _ _ _ _ _ _ _ _ _))
 have HR9:=hid (HR.out.far (only_set6 wy0_w10 g5 (.bool s3) (.slice A3 k3 c3) (.int .i64 plb.e) (.bool t3) (.slice B3 m3 d3) (.int .i64 phb.e)) BL1.out (noLimb6 _ _ _ _ _ _ _ _ _ _))
 refine wpList_store 40 (.tmp 10) (.tmp 59) rfl rfl rfl (u:= .pointer (some ⟨g5,0,none⟩)) (v:= .agg #[.bool s3,.slice A3 k3 c3,.int .i64 plb.e,.bool t3,.slice B3 m3 d3,.int .i64 phb.e]) (by kernel_rfl) (by kernel_rfl) (store_rb BL1.out _ _ _ _ _ _ _ _ _ _) ?_
 clear HG HI HR BL1 Ne1 Ng1
 generalize (((((wy0_w10.setCell _ _).setCell _ _).setCell _ _).setCell _ _).setCell _ _).setCell _ _=wy1_w10 at*
 have HG:=HG9
 have HI:=HI9
 have HR:=HR9
 clear HG9 HI9 HR9
 clear N0_1 N1_0
 go_upto_region 5 with fail
 generalize hww_:wy1_w10=w10 at*
 clear hww_
 generalize hgg_:g4=g_r at*
 clear hgg_
 generalize hgg_:g5=g_s at*
 clear hgg_
 clear halb
 obtain⟨x9_0,x9_1,x9_2,x9_3,x9_4,x9_5⟩:=GB.c6 HG 3 rfl
 obtain⟨x10_0,x10_1,x10_2,x10_3,x10_4,x10_5⟩:=GB.c6 HG 2 rfl
 apply wp_region_lit
 refine wpList_load 34 (.tmp 7) 61 rfl rfl rfl (u:= .pointer (some ⟨g_a,0,none⟩)) (by kernel_rfl) (load_ba x9_0 x9_1 x9_2 x9_3 x9_4 x9_5) ?_
 simp only [List.setIfInBounds_toArray,List.set_cons_zero,List.set_cons_succ]
 refine wpList_load 34 (.tmp 8) 62 rfl rfl rfl (u:= .pointer (some ⟨g_b,0,none⟩)) (by kernel_rfl) (load_ba x10_0 x10_1 x10_2 x10_3 x10_4 x10_5) ?_
 simp only [List.setIfInBounds_toArray,List.set_cons_zero,List.set_cons_succ]
 clear x9_0 x9_1 x9_2 x9_3 x9_4 x9_5 x10_0 x10_1 x10_2 x10_3 x10_4 x10_5
 go_wp2_with fail
 (with_reducible refine (bquo_v p okq ql qh FF.HNQ FF.HYQ (BV.of (x:=la) (y:=ha) (WL.at (z:=la.z) HI 2 rfl) (WL.at (z:=ha.z) HI 3 rfl)) (BV.of (x:=lb) (y:=hb) (WL.at (z:=lb.z) HI 0 rfl) (WL.at (z:=hb.z) HI 1 rfl)) FF.Bla FF.Bha FF.Blb FF.Bhb (by omega) (hid (hT.out.keep HG.out.only))).mono ?_)
 rintro e w111 ⟨sq,Aq,kq,cq,tq,Bq,mq,dq,rfl,hc1_,hv1_,hc2_,hv2_,ho⟩
 have HC_q:Hid (Cn sq kq ql.z):=hc1_
 have HD_q:Hid (Cn tq mq qh.z):=hc2_
 have HV1_:=hid hv1_
 have HV2_:=hid hv2_
 clear hc1_ hc2_ hv1_ hv2_
 have h_:=HG.out.step ho
 have i_:=HI.out.step ho
 have r_:=HR.out.step ho
 replace i_:=i_.cons HV2_
 replace i_:=i_.cons HV1_
 replace h_:=h_.new 34 [.bool sq,.slice Aq kq cq,.int .i64 ql.e,.bool tq,.slice Bq mq dq,.int .i64 qh.e] (noLimb6 _ _ _ _ _ _ _ _ _ _)
 replace i_:=i_.step ((Only.refl [] w111).alloc (.cells #[.bool sq,.slice Aq kq cq,.int .i64 ql.e,.bool tq,.slice Bq mq dq,.int .i64 qh.e] 34))
 replace r_:=r_.step ((Only.refl [] w111).alloc (.cells #[.bool sq,.slice Aq kq cq,.int .i64 ql.e,.bool tq,.slice Bq mq dq,.int .i64 qh.e] 34))
 replace HG:=hid h_
 replace HI:=hid i_
 replace HR:=hid r_
 clear h_ i_ r_ ho
 clear HV1_ HV2_
 go_upto_region 6 with fail
 generalize w111.heap.size=g_q at*
 generalize w111.alloc _=w112 at*
 obtain⟨x11_0,x11_1,x11_2,x11_3,x11_4,x11_5⟩:=GB.c6 HG 2 rfl
 obtain⟨x12_0,x12_1,x12_2,x12_3,x12_4,x12_5⟩:=GB.c6 HG 1 rfl
 apply wp_region_lit
 refine wpList_load 40 (.tmp 9) 68 rfl rfl rfl (u:= .pointer (some ⟨g_r,0,none⟩)) (by kernel_rfl) (load_rb x11_0 x11_1 x11_2 x11_3 x11_4 x11_5) ?_
 simp only [List.setIfInBounds_toArray,List.set_cons_zero,List.set_cons_succ]
 refine wpList_load 40 (.tmp 10) 69 rfl rfl rfl (u:= .pointer (some ⟨g_s,0,none⟩)) (by kernel_rfl) (load_rb x12_0 x12_1 x12_2 x12_3 x12_4 x12_5) ?_
 simp only [List.setIfInBounds_toArray,List.set_cons_zero,List.set_cons_succ]
 clear x11_0 x11_1 x11_2 x11_3 x11_4 x11_5 x12_0 x12_1 x12_2 x12_3 x12_4 x12_5
 go_wp2_with fail
 (with_reducible refine (pquo_v p okq ql qh FF.HNP FF.HYP (RBV.mk (RL.rd (x:=pla) HR 2 rfl) (RL.rd (x:=pha) HR 3 rfl)) (RBV.mk (RL.rd (x:=plb) HR 0 rfl) (RL.rd (x:=phb) HR 1 rfl)) FF.Bpla FF.Bpha FF.Bplb FF.Bphb (by omega) (by omega)).mono ?_)
 rintro e w113 ⟨su,Au,ku,cu,tu,Bu,mu,du,rfl,⟨hc1_,hv1_⟩,⟨hc2_,hv2_⟩,ho⟩
 have HC_u:Hid (Cr su ku ql.z):=hc1_
 have HD_u:Hid (Cr tu mu qh.z):=hc2_
 have HV1_:=hid hv1_
 have HV2_:=hid hv2_
 clear hc1_ hc2_ hv1_ hv2_
 have h_:=HG.out.step ho
 have i_:=HI.out.step ho
 have r_:=HR.out.step ho
 replace r_:=r_.cons HV2_ HD_u
 replace r_:=r_.cons HV1_ HC_u
 replace h_:=h_.new 40 [.bool su,.slice Au ku cu,.int .i64 ql.e,.bool tu,.slice Bu mu du,.int .i64 qh.e] (noLimb6 _ _ _ _ _ _ _ _ _ _)
 replace i_:=i_.step ((Only.refl [] w113).alloc (.cells #[.bool su,.slice Au ku cu,.int .i64 ql.e,.bool tu,.slice Bu mu du,.int .i64 qh.e] 40))
 replace r_:=r_.step ((Only.refl [] w113).alloc (.cells #[.bool su,.slice Au ku cu,.int .i64 ql.e,.bool tu,.slice Bu mu du,.int .i64 qh.e] 40))
 replace HG:=hid h_
 replace HI:=hid i_
 replace HR:=hid r_
 clear h_ i_ r_ ho
 clear HV1_ HV2_ HC_u HD_u
 go_upto_region 7 with fail
 generalize w113.heap.size=g_u at*
 generalize w113.alloc _=w114 at*
 obtain⟨x13_0,x13_1,x13_2,x13_3,x13_4,x13_5⟩:=GB.c6 HG 5 rfl
 apply wp_region_lit
 refine wpList_load 34 (.tmp 7) 75 rfl rfl rfl (u:= .pointer (some ⟨g_a,0,none⟩)) (by kernel_rfl) (load_ba x13_0 x13_1 x13_2 x13_3 x13_4 x13_5) ?_
 simp only [List.setIfInBounds_toArray,List.set_cons_zero,List.set_cons_succ]
 clear x13_0 x13_1 x13_2 x13_3 x13_4 x13_5
 go_wp2_with fail
 (with_reducible refine (bsqrt_v p okt FF.HNS FF.HYS (BV.of (x:=la) (y:=ha) (WL.at (z:=la.z) HI 4 rfl) (WL.at (z:=ha.z) HI 5 rfl)) FF.Bla FF.Bha (by omega) (hid (hT.out.keep HG.out.only))).mono ?_)
 rintro e w115 ⟨st,At,kt,ct,tt,Bt,mt,dt,rfl,hc1_,hv1_,hc2_,hv2_,ho⟩
 have HC_t:Hid (Cn st kt tl.z):=hc1_
 have HD_t:Hid (Cn tt mt th.z):=hc2_
 have HV1_:=hid hv1_
 have HV2_:=hid hv2_
 clear hc1_ hc2_ hv1_ hv2_
 have h_:=HG.out.step ho
 have i_:=HI.out.step ho
 have r_:=HR.out.step ho
 replace i_:=i_.cons HV2_
 replace i_:=i_.cons HV1_
 replace h_:=h_.new 34 [.bool st,.slice At kt ct,.int .i64 tl.e,.bool tt,.slice Bt mt dt,.int .i64 th.e] (noLimb6 _ _ _ _ _ _ _ _ _ _)
 replace i_:=i_.step ((Only.refl [] w115).alloc (.cells #[.bool st,.slice At kt ct,.int .i64 tl.e,.bool tt,.slice Bt mt dt,.int .i64 th.e] 34))
 replace r_:=r_.step ((Only.refl [] w115).alloc (.cells #[.bool st,.slice At kt ct,.int .i64 tl.e,.bool tt,.slice Bt mt dt,.int .i64 th.e] 34))
 replace HG:=hid h_
 replace HI:=hid i_
 replace HR:=hid r_
 clear h_ i_ r_ ho
 clear HV1_ HV2_
 go_upto_region 8 with fail
 generalize w115.heap.size=g_t at*
 generalize w115.alloc _=w116 at*
 obtain⟨x14_0,x14_1,x14_2,x14_3,x14_4,x14_5⟩:=GB.c6 HG 4 rfl
 apply wp_region_lit
 refine wpList_load 40 (.tmp 9) 81 rfl rfl rfl (u:= .pointer (some ⟨g_r,0,none⟩)) (by kernel_rfl) (load_rb x14_0 x14_1 x14_2 x14_3 x14_4 x14_5) ?_
 simp only [List.setIfInBounds_toArray,List.set_cons_zero,List.set_cons_succ]
 clear x14_0 x14_1 x14_2 x14_3 x14_4 x14_5
 go_wp2_with fail
 (with_reducible refine (psqrt_v p okt FF.HNT FF.HYT (RBV.mk (RL.rd (x:=pla) HR 4 rfl) (RL.rd (x:=pha) HR 5 rfl)) FF.Bpla FF.Bpha (by omega)).mono ?_)
 rintro e w117 ⟨sv,Av,kv,cv,tv,Bv,mv,dv,rfl,⟨hc1_,hv1_⟩,⟨hc2_,hv2_⟩,ho⟩
 have HC_v:Hid (Cr sv kv tl.z):=hc1_
 have HD_v:Hid (Cr tv mv th.z):=hc2_
 have HV1_:=hid hv1_
 have HV2_:=hid hv2_
 clear hc1_ hc2_ hv1_ hv2_
 have h_:=HG.out.step ho
 have i_:=HI.out.step ho
 have r_:=HR.out.step ho
 replace r_:=r_.cons HV2_ HD_v
 replace r_:=r_.cons HV1_ HC_v
 replace h_:=h_.new 40 [.bool sv,.slice Av kv cv,.int .i64 tl.e,.bool tv,.slice Bv mv dv,.int .i64 th.e] (noLimb6 _ _ _ _ _ _ _ _ _ _)
 replace i_:=i_.step ((Only.refl [] w117).alloc (.cells #[.bool sv,.slice Av kv cv,.int .i64 tl.e,.bool tv,.slice Bv mv dv,.int .i64 th.e] 40))
 replace r_:=r_.step ((Only.refl [] w117).alloc (.cells #[.bool sv,.slice Av kv cv,.int .i64 tl.e,.bool tv,.slice Bv mv dv,.int .i64 th.e] 40))
 replace HG:=hid h_
 replace HI:=hid i_
 replace HR:=hid r_
 clear h_ i_ r_ ho
 clear HV1_ HV2_ HC_v HD_v
 go_upto_region 9 with fail
 generalize w117.heap.size=g_v at*
 generalize w117.alloc _=w118 at*
 go_cut [131] from 86 to 131 (fun v wx=>v= .bool false∧Hid (GB w wx [⟨g_v,40,[.bool sv,.slice Av kv cv,.int .i64 tl.e,.bool tv,.slice Bv mv dv,.int .i64 th.e]⟩,⟨g_t,34,[.bool st,.slice At kt ct,.int .i64 tl.e,.bool tt,.slice Bt mt dt,.int .i64 th.e]⟩,⟨g_u,40,[.bool su,.slice Au ku cu,.int .i64 ql.e,.bool tu,.slice Bu mu du,.int .i64 qh.e]⟩,⟨g_q,34,[.bool sq,.slice Aq kq cq,.int .i64 ql.e,.bool tq,.slice Bq mq dq,.int .i64 qh.e]⟩,⟨g_s,40,[.bool s3,.slice A3 k3 c3,.int .i64 plb.e,.bool t3,.slice B3 m3 d3,.int .i64 phb.e]⟩,⟨g_r,40,[.bool s1,.slice A1 k1 c1,.int .i64 pla.e,.bool t1,.slice B1 m1 d1,.int .i64 pha.e]⟩,⟨g_b,34,[.bool s9,.slice A9 k9 c9,.int .i64 lb.e,.bool t9,.slice B9 m9 d9,.int .i64 hb.e]⟩,⟨g_a,34,[.bool s4,.slice A4 k4 c4,.int .i64 la.e,.bool t4,.slice B4 m4 d4,.int .i64 ha.e]⟩,⟨(w.heap.size+1),24,[.bool nb5,.slice nP5 L5.length nr5,.int .i64 x5.e]⟩,⟨w.heap.size,25,[.bool nb1,.slice nP1 L1.length nr1,.int .i64 x1.e,.bool nb2,.slice nP2 L2.length nr2,.int .i64 x2.e,.bool nb3,.slice nP3 L3.length nr3,.int .i64 x3.e,.bool nb4,.slice nP4 L4.length nr4,.int .i64 x4.e]⟩])∧Hid (WL wx [⟨st,At,kt,ct,tl.z⟩,⟨tt,Bt,mt,dt,th.z⟩,⟨sq,Aq,kq,cq,ql.z⟩,⟨tq,Bq,mq,dq,qh.z⟩,⟨s9,A9,k9,c9,lb.z⟩,⟨t9,B9,m9,d9,hb.z⟩,⟨s4,A4,k4,c4,la.z⟩,⟨t4,B4,m4,d4,ha.z⟩])∧Hid (RL wx [⟨sv,Av,kv,cv,tl⟩,⟨tv,Bv,mv,dv,th⟩,⟨su,Au,ku,cu,ql⟩,⟨tu,Bu,mu,du,qh⟩,⟨s3,A3,k3,c3,plb⟩,⟨t3,B3,m3,d3,phb⟩,⟨s1,A1,k1,c1,pla⟩,⟨t1,B1,m1,d1,pha⟩]))
 case first=>
  cases okq
  ·cases okt
   ·skip
    apply wp_region_lit
    refine wpList_val 86 (by kernel_rfl) rfl (v:= .bool false) (by kernel_rfl) ?_
    simp only [List.setIfInBounds_toArray,List.set_cons_zero,List.set_cons_succ]
    refine wpList_val 87 (by kernel_rfl) rfl (v:= .bool false) (by kernel_rfl) ?_
    simp only [List.setIfInBounds_toArray,List.set_cons_zero,List.set_cons_succ]
    refine wpList_val 88 (by kernel_rfl) rfl (v:= .bool false) (by kernel_rfl) ?_
    simp only [List.setIfInBounds_toArray,List.set_cons_zero,List.set_cons_succ]
    refine wpList_val 89 (by kernel_rfl) rfl (v:= .bool false) (by kernel_rfl) ?_
    simp only [List.setIfInBounds_toArray,List.set_cons_zero,List.set_cons_succ]
    refine wpList_val 90 (by kernel_rfl) rfl (v:= .bool false) (by kernel_rfl) ?_
    simp only [List.setIfInBounds_toArray,List.set_cons_zero,List.set_cons_succ]
    refine wpList_val 91 (by kernel_rfl) rfl (v:= .bool false) (by kernel_rfl) ?_
    simp only [List.setIfInBounds_toArray,List.set_cons_zero,List.set_cons_succ]
    refine wpList_val 92 (by kernel_rfl) rfl (v:= .bool false) (by kernel_rfl) ?_
    simp only [List.setIfInBounds_toArray,List.set_cons_zero,List.set_cons_succ]
    refine wpList_val 93 (by kernel_rfl) rfl (v:= .bool false) (by kernel_rfl) ?_
    simp only [List.setIfInBounds_toArray,List.set_cons_zero,List.set_cons_succ]
    refine wpList_val 94 (by kernel_rfl) rfl (v:= .bool false) (by kernel_rfl) ?_
    simp only [List.setIfInBounds_toArray,List.set_cons_zero,List.set_cons_succ]
    refine wpList_val 95 (by kernel_rfl) rfl (v:= .bool false) (by kernel_rfl) ?_
    simp only [List.setIfInBounds_toArray,List.set_cons_zero,List.set_cons_succ]
    refine wpList_val 96 (by kernel_rfl) rfl (v:= .bool false) (by kernel_rfl) ?_
    simp only [List.setIfInBounds_toArray,List.set_cons_zero,List.set_cons_succ]
    refine wpList_not 97 (by kernel_rfl) rfl ?_
    simp only [List.setIfInBounds_toArray,List.set_cons_zero,List.set_cons_succ]
    refine wpList_not 98 (by kernel_rfl) rfl ?_
    simp only [List.setIfInBounds_toArray,List.set_cons_zero,List.set_cons_succ]
    refine wpList_not 99 (by kernel_rfl) rfl ?_
    simp only [List.setIfInBounds_toArray,List.set_cons_zero,List.set_cons_succ]
    refine wpList_not 100 (by kernel_rfl) rfl ?_
    simp only [List.setIfInBounds_toArray,List.set_cons_zero,List.set_cons_succ]
    refine wpList_val 101 (by kernel_rfl) rfl (v:= .bool false) (by kernel_rfl) ?_
    simp only [List.setIfInBounds_toArray,List.set_cons_zero,List.set_cons_succ]
    refine wpList_val 102 (by kernel_rfl) rfl (v:= .bool false) (by kernel_rfl) ?_
    simp only [List.setIfInBounds_toArray,List.set_cons_zero,List.set_cons_succ]
    refine wpList_val 103 (by kernel_rfl) rfl (v:= .bool false) (by kernel_rfl) ?_
    simp only [List.setIfInBounds_toArray,List.set_cons_zero,List.set_cons_succ]
    refine wpList_val 104 (by kernel_rfl) rfl (v:= .bool false) (by kernel_rfl) ?_
    simp only [List.setIfInBounds_toArray,List.set_cons_zero,List.set_cons_succ]
    refine wpList_val 105 (by kernel_rfl) rfl (v:= .bool true) (by kernel_rfl) ?_
    simp only [List.setIfInBounds_toArray,List.set_cons_zero,List.set_cons_succ]
    refine wpList_val 106 (by kernel_rfl) rfl (v:= .bool true) (by kernel_rfl) ?_
    simp only [List.setIfInBounds_toArray,List.set_cons_zero,List.set_cons_succ]
    obtain⟨x15_0,x15_1,x15_2,x15_3,x15_4,x15_5⟩:=GB.c6 HG 3 rfl
    refine wpList_loadG 34 (.tmp 11) 107 (by kernel_rfl) rfl rfl (u:= .pointer (some ⟨g_q,0,none⟩)) (by kernel_rfl) (load_ba x15_0 x15_1 x15_2 x15_3 x15_4 x15_5) ?_
    simp only [List.setIfInBounds_toArray,List.set_cons_zero,List.set_cons_succ]
    clear x15_0 x15_1 x15_2 x15_3 x15_4 x15_5
    refine wpList_val 108 (by kernel_rfl) rfl (v:= .agg #[.bool false,.slice none 0 0,.int .i64 0,.bool false,.slice none 0 0,.int .i64 0]) (by kernel_rfl) ?_
    simp only [List.setIfInBounds_toArray,List.set_cons_zero,List.set_cons_succ]
    refine wpList_call 109 (by kernel_rfl) rfl (R:=fun v w'=>v= .bool true∧Only [] _ w') (by kernel_rfl) ((is5_z (FF.HNP.out rfl).2.2.1 (FF.HNP.out rfl).2.2.2 (isBC.mk (hid (isD.of (x:=ql) (WL.at (z:=ql.z) HI 2 rfl) HC_q)) (hid (isD.of (x:=qh) (WL.at (z:=qh.z) HI 3 rfl) HD_q)))).mono fun _ _ h=>⟨_,h.1,rfl,h.2⟩) ?_
    rintro _ w119 ⟨rfl,ho⟩
    simp only [List.setIfInBounds_toArray,List.set_cons_zero,List.set_cons_succ]
    replace HG:=hid (HG.out.step ho)
    replace HI:=hid (HI.out.step ho)
    replace HR:=hid (HR.out.step ho)
    clear ho
    refine wpList_val 110 (by kernel_rfl) rfl (v:= .bool false) (by kernel_rfl) ?_
    simp only [List.setIfInBounds_toArray,List.set_cons_zero,List.set_cons_succ]
    refine wpList_val 111 (by kernel_rfl) rfl (v:= .bool false) (by kernel_rfl) ?_
    simp only [List.setIfInBounds_toArray,List.set_cons_zero,List.set_cons_succ]
    refine wpList_val 112 (by kernel_rfl) rfl (v:= .bool false) (by kernel_rfl) ?_
    simp only [List.setIfInBounds_toArray,List.set_cons_zero,List.set_cons_succ]
    refine wpList_val 113 (by kernel_rfl) rfl (v:= .bool false) (by kernel_rfl) ?_
    simp only [List.setIfInBounds_toArray,List.set_cons_zero,List.set_cons_succ]
    refine wpList_val 114 (by kernel_rfl) rfl (v:= .bool false) (by kernel_rfl) ?_
    simp only [List.setIfInBounds_toArray,List.set_cons_zero,List.set_cons_succ]
    refine wpList_val 115 (by kernel_rfl) rfl (v:= .bool false) (by kernel_rfl) ?_
    simp only [List.setIfInBounds_toArray,List.set_cons_zero,List.set_cons_succ]
    refine wpList_not 116 (by kernel_rfl) rfl ?_
    simp only [List.setIfInBounds_toArray,List.set_cons_zero,List.set_cons_succ]
    refine wpList_not 117 (by kernel_rfl) rfl ?_
    simp only [List.setIfInBounds_toArray,List.set_cons_zero,List.set_cons_succ]
    refine wpList_not 118 (by kernel_rfl) rfl ?_
    simp only [List.setIfInBounds_toArray,List.set_cons_zero,List.set_cons_succ]
    refine wpList_not 119 (by kernel_rfl) rfl ?_
    simp only [List.setIfInBounds_toArray,List.set_cons_zero,List.set_cons_succ]
    refine wpList_val 120 (by kernel_rfl) rfl (v:= .bool false) (by kernel_rfl) ?_
    simp only [List.setIfInBounds_toArray,List.set_cons_zero,List.set_cons_succ]
    refine wpList_val 121 (by kernel_rfl) rfl (v:= .bool false) (by kernel_rfl) ?_
    simp only [List.setIfInBounds_toArray,List.set_cons_zero,List.set_cons_succ]
    refine wpList_val 122 (by kernel_rfl) rfl (v:= .bool false) (by kernel_rfl) ?_
    simp only [List.setIfInBounds_toArray,List.set_cons_zero,List.set_cons_succ]
    refine wpList_val 123 (by kernel_rfl) rfl (v:= .bool false) (by kernel_rfl) ?_
    simp only [List.setIfInBounds_toArray,List.set_cons_zero,List.set_cons_succ]
    refine wpList_val 124 (by kernel_rfl) rfl (v:= .bool true) (by kernel_rfl) ?_
    simp only [List.setIfInBounds_toArray,List.set_cons_zero,List.set_cons_succ]
    refine wpList_val 125 (by kernel_rfl) rfl (v:= .bool true) (by kernel_rfl) ?_
    simp only [List.setIfInBounds_toArray,List.set_cons_zero,List.set_cons_succ]
    obtain⟨x16_0,x16_1,x16_2,x16_3,x16_4,x16_5⟩:=GB.c6 HG 1 rfl
    refine wpList_loadG 34 (.tmp 15) 126 (by kernel_rfl) rfl rfl (u:= .pointer (some ⟨g_t,0,none⟩)) (by kernel_rfl) (load_ba x16_0 x16_1 x16_2 x16_3 x16_4 x16_5) ?_
    simp only [List.setIfInBounds_toArray,List.set_cons_zero,List.set_cons_succ]
    clear x16_0 x16_1 x16_2 x16_3 x16_4 x16_5
    refine wpList_val 127 (by kernel_rfl) rfl (v:= .agg #[.bool false,.slice none 0 0,.int .i64 0,.bool false,.slice none 0 0,.int .i64 0]) (by kernel_rfl) ?_
    simp only [List.setIfInBounds_toArray,List.set_cons_zero,List.set_cons_succ]
    refine wpList_call 128 (by kernel_rfl) rfl (R:=fun v w'=>v= .bool true∧Only [] _ w') (by kernel_rfl) ((is5_z (FF.HNT.out rfl).2.1 (FF.HNT.out rfl).2.2 (isBC.mk (hid (isD.of (x:=tl) (WL.at (z:=tl.z) HI 0 rfl) HC_t)) (hid (isD.of (x:=th) (WL.at (z:=th.z) HI 1 rfl) HD_t)))).mono fun _ _ h=>⟨_,h.1,rfl,h.2⟩) ?_
    rintro _ w120 ⟨rfl,ho⟩
    simp only [List.setIfInBounds_toArray,List.set_cons_zero,List.set_cons_succ]
    replace HG:=hid (HG.out.step ho)
    replace HI:=hid (HI.out.step ho)
    replace HR:=hid (HR.out.step ho)
    clear ho
    refine wpList_val 129 (by kernel_rfl) rfl (v:= .bool false) (by kernel_rfl) ?_
    simp only [List.setIfInBounds_toArray,List.set_cons_zero,List.set_cons_succ]
    refine wpList_val 130 (by kernel_rfl) rfl (v:= .bool false) (by kernel_rfl) ?_
    simp only [List.setIfInBounds_toArray,List.set_cons_zero,List.set_cons_succ]
    refine wpList_val 131 (by kernel_rfl) rfl (v:= .bool false) (by kernel_rfl) ?_
    simp only [List.setIfInBounds_toArray,List.set_cons_zero,List.set_cons_succ]
    refine wpList_nil ?_
    go_wp2_with fail
    go_meet
    exact⟨rfl,HG,HI,HR⟩
   ·skip
    apply wp_region_lit
    refine wpList_val 86 (by kernel_rfl) rfl (v:= .bool false) (by kernel_rfl) ?_
    simp only [List.setIfInBounds_toArray,List.set_cons_zero,List.set_cons_succ]
    refine wpList_val 87 (by kernel_rfl) rfl (v:= .bool false) (by kernel_rfl) ?_
    simp only [List.setIfInBounds_toArray,List.set_cons_zero,List.set_cons_succ]
    refine wpList_val 88 (by kernel_rfl) rfl (v:= .bool false) (by kernel_rfl) ?_
    simp only [List.setIfInBounds_toArray,List.set_cons_zero,List.set_cons_succ]
    refine wpList_val 89 (by kernel_rfl) rfl (v:= .bool false) (by kernel_rfl) ?_
    simp only [List.setIfInBounds_toArray,List.set_cons_zero,List.set_cons_succ]
    refine wpList_val 90 (by kernel_rfl) rfl (v:= .bool true) (by kernel_rfl) ?_
    simp only [List.setIfInBounds_toArray,List.set_cons_zero,List.set_cons_succ]
    refine wpList_val 91 (by kernel_rfl) rfl (v:= .bool true) (by kernel_rfl) ?_
    simp only [List.setIfInBounds_toArray,List.set_cons_zero,List.set_cons_succ]
    refine wpList_val 92 (by kernel_rfl) rfl (v:= .bool false) (by kernel_rfl) ?_
    simp only [List.setIfInBounds_toArray,List.set_cons_zero,List.set_cons_succ]
    refine wpList_val 93 (by kernel_rfl) rfl (v:= .bool false) (by kernel_rfl) ?_
    simp only [List.setIfInBounds_toArray,List.set_cons_zero,List.set_cons_succ]
    refine wpList_val 94 (by kernel_rfl) rfl (v:= .bool false) (by kernel_rfl) ?_
    simp only [List.setIfInBounds_toArray,List.set_cons_zero,List.set_cons_succ]
    refine wpList_val 95 (by kernel_rfl) rfl (v:= .bool false) (by kernel_rfl) ?_
    simp only [List.setIfInBounds_toArray,List.set_cons_zero,List.set_cons_succ]
    refine wpList_val 96 (by kernel_rfl) rfl (v:= .bool false) (by kernel_rfl) ?_
    simp only [List.setIfInBounds_toArray,List.set_cons_zero,List.set_cons_succ]
    refine wpList_not 97 (by kernel_rfl) rfl ?_
    simp only [List.setIfInBounds_toArray,List.set_cons_zero,List.set_cons_succ]
    refine wpList_not 98 (by kernel_rfl) rfl ?_
    simp only [List.setIfInBounds_toArray,List.set_cons_zero,List.set_cons_succ]
    refine wpList_not 99 (by kernel_rfl) rfl ?_
    simp only [List.setIfInBounds_toArray,List.set_cons_zero,List.set_cons_succ]
    refine wpList_not 100 (by kernel_rfl) rfl ?_
    simp only [List.setIfInBounds_toArray,List.set_cons_zero,List.set_cons_succ]
    refine wpList_val 101 (by kernel_rfl) rfl (v:= .bool false) (by kernel_rfl) ?_
    simp only [List.setIfInBounds_toArray,List.set_cons_zero,List.set_cons_succ]
    refine wpList_val 102 (by kernel_rfl) rfl (v:= .bool false) (by kernel_rfl) ?_
    simp only [List.setIfInBounds_toArray,List.set_cons_zero,List.set_cons_succ]
    refine wpList_val 103 (by kernel_rfl) rfl (v:= .bool false) (by kernel_rfl) ?_
    simp only [List.setIfInBounds_toArray,List.set_cons_zero,List.set_cons_succ]
    refine wpList_val 104 (by kernel_rfl) rfl (v:= .bool false) (by kernel_rfl) ?_
    simp only [List.setIfInBounds_toArray,List.set_cons_zero,List.set_cons_succ]
    refine wpList_val 105 (by kernel_rfl) rfl (v:= .bool true) (by kernel_rfl) ?_
    simp only [List.setIfInBounds_toArray,List.set_cons_zero,List.set_cons_succ]
    refine wpList_val 106 (by kernel_rfl) rfl (v:= .bool true) (by kernel_rfl) ?_
    simp only [List.setIfInBounds_toArray,List.set_cons_zero,List.set_cons_succ]
    obtain⟨x15_0,x15_1,x15_2,x15_3,x15_4,x15_5⟩:=GB.c6 HG 3 rfl
    refine wpList_loadG 34 (.tmp 11) 107 (by kernel_rfl) rfl rfl (u:= .pointer (some ⟨g_q,0,none⟩)) (by kernel_rfl) (load_ba x15_0 x15_1 x15_2 x15_3 x15_4 x15_5) ?_
    simp only [List.setIfInBounds_toArray,List.set_cons_zero,List.set_cons_succ]
    clear x15_0 x15_1 x15_2 x15_3 x15_4 x15_5
    refine wpList_val 108 (by kernel_rfl) rfl (v:= .agg #[.bool false,.slice none 0 0,.int .i64 0,.bool false,.slice none 0 0,.int .i64 0]) (by kernel_rfl) ?_
    simp only [List.setIfInBounds_toArray,List.set_cons_zero,List.set_cons_succ]
    refine wpList_call 109 (by kernel_rfl) rfl (R:=fun v w'=>v= .bool true∧Only [] _ w') (by kernel_rfl) ((is5_z (FF.HNP.out rfl).2.2.1 (FF.HNP.out rfl).2.2.2 (isBC.mk (hid (isD.of (x:=ql) (WL.at (z:=ql.z) HI 2 rfl) HC_q)) (hid (isD.of (x:=qh) (WL.at (z:=qh.z) HI 3 rfl) HD_q)))).mono fun _ _ h=>⟨_,h.1,rfl,h.2⟩) ?_
    rintro _ w119 ⟨rfl,ho⟩
    simp only [List.setIfInBounds_toArray,List.set_cons_zero,List.set_cons_succ]
    replace HG:=hid (HG.out.step ho)
    replace HI:=hid (HI.out.step ho)
    replace HR:=hid (HR.out.step ho)
    clear ho
    refine wpList_val 110 (by kernel_rfl) rfl (v:= .bool false) (by kernel_rfl) ?_
    simp only [List.setIfInBounds_toArray,List.set_cons_zero,List.set_cons_succ]
    refine wpList_val 111 (by kernel_rfl) rfl (v:= .bool false) (by kernel_rfl) ?_
    simp only [List.setIfInBounds_toArray,List.set_cons_zero,List.set_cons_succ]
    refine wpList_val 112 (by kernel_rfl) rfl (v:= .bool false) (by kernel_rfl) ?_
    simp only [List.setIfInBounds_toArray,List.set_cons_zero,List.set_cons_succ]
    refine wpList_val 113 (by kernel_rfl) rfl (v:= .bool false) (by kernel_rfl) ?_
    simp only [List.setIfInBounds_toArray,List.set_cons_zero,List.set_cons_succ]
    refine wpList_val 114 (by kernel_rfl) rfl (v:= .bool true) (by kernel_rfl) ?_
    simp only [List.setIfInBounds_toArray,List.set_cons_zero,List.set_cons_succ]
    refine wpList_val 115 (by kernel_rfl) rfl (v:= .bool true) (by kernel_rfl) ?_
    simp only [List.setIfInBounds_toArray,List.set_cons_zero,List.set_cons_succ]
    obtain⟨x16_0,x16_1,x16_2,x16_3,x16_4,x16_5⟩:=GB.c6 HG 1 rfl
    refine wpList_loadG 34 (.tmp 15) 116 (by kernel_rfl) rfl rfl (u:= .pointer (some ⟨g_t,0,none⟩)) (by kernel_rfl) (load_ba x16_0 x16_1 x16_2 x16_3 x16_4 x16_5) ?_
    simp only [List.setIfInBounds_toArray,List.set_cons_zero,List.set_cons_succ]
    clear x16_0 x16_1 x16_2 x16_3 x16_4 x16_5
    obtain⟨x17_0,x17_1,x17_2,x17_3,x17_4,x17_5⟩:=GB.c6 HG 0 rfl
    refine wpList_loadG 40 (.tmp 17) 117 (by kernel_rfl) rfl rfl (u:= .pointer (some ⟨g_v,0,none⟩)) (by kernel_rfl) (load_rb x17_0 x17_1 x17_2 x17_3 x17_4 x17_5) ?_
    simp only [List.setIfInBounds_toArray,List.set_cons_zero,List.set_cons_succ]
    clear x17_0 x17_1 x17_2 x17_3 x17_4 x17_5
    refine wpList_call 118 (by kernel_rfl) rfl (R:=fun v w'=>v= .bool true∧Only [] _ w') (by kernel_rfl) ((is5_b (x:=tl) (y:=th) (isBC.mk (hid (isD.of (x:=tl) (WL.at (z:=tl.z) HI 0 rfl) HC_t)) (hid (isD.of (x:=th) (WL.at (z:=th.z) HI 1 rfl) HD_t))) (RBV.mk (RL.rd (x:=tl) HR 0 rfl) (RL.rd (x:=th) HR 1 rfl)) (FF.HCT.out rfl).1 (FF.HCT.out rfl).2 FF.Btl FF.Bth (by omega)).mono fun _ _ h=>⟨_,h.1,rfl,h.2⟩) ?_
    rintro _ w120 ⟨rfl,ho⟩
    simp only [List.setIfInBounds_toArray,List.set_cons_zero,List.set_cons_succ]
    replace HG:=hid (HG.out.step ho)
    replace HI:=hid (HI.out.step ho)
    replace HR:=hid (HR.out.step ho)
    clear ho
    refine wpList_val 119 (by kernel_rfl) rfl (v:= .bool false) (by kernel_rfl) ?_
    simp only [List.setIfInBounds_toArray,List.set_cons_zero,List.set_cons_succ]
    refine wpList_val 120 (by kernel_rfl) rfl (v:= .bool false) (by kernel_rfl) ?_
    simp only [List.setIfInBounds_toArray,List.set_cons_zero,List.set_cons_succ]
    refine wpList_val 121 (by kernel_rfl) rfl (v:= .bool false) (by kernel_rfl) ?_
    simp only [List.setIfInBounds_toArray,List.set_cons_zero,List.set_cons_succ]
    refine wpList_val 122 (by kernel_rfl) rfl (v:= .bool false) (by kernel_rfl) ?_
    simp only [List.setIfInBounds_toArray,List.set_cons_zero,List.set_cons_succ]
    refine wpList_val 123 (by kernel_rfl) rfl (v:= .bool true) (by kernel_rfl) ?_
    simp only [List.setIfInBounds_toArray,List.set_cons_zero,List.set_cons_succ]
    refine wpList_val 124 (by kernel_rfl) rfl (v:= .bool false) (by kernel_rfl) ?_
    simp only [List.setIfInBounds_toArray,List.set_cons_zero,List.set_cons_succ]
    refine wpList_val 125 (by kernel_rfl) rfl (v:= .bool false) (by kernel_rfl) ?_
    simp only [List.setIfInBounds_toArray,List.set_cons_zero,List.set_cons_succ]
    refine wpList_not 126 (by kernel_rfl) rfl ?_
    simp only [List.setIfInBounds_toArray,List.set_cons_zero,List.set_cons_succ]
    refine wpList_not 127 (by kernel_rfl) rfl ?_
    simp only [List.setIfInBounds_toArray,List.set_cons_zero,List.set_cons_succ]
    refine wpList_not 128 (by kernel_rfl) rfl ?_
    simp only [List.setIfInBounds_toArray,List.set_cons_zero,List.set_cons_succ]
    refine wpList_not 129 (by kernel_rfl) rfl ?_
    simp only [List.setIfInBounds_toArray,List.set_cons_zero,List.set_cons_succ]
    refine wpList_val 130 (by kernel_rfl) rfl (v:= .bool false) (by kernel_rfl) ?_
    simp only [List.setIfInBounds_toArray,List.set_cons_zero,List.set_cons_succ]
    refine wpList_val 131 (by kernel_rfl) rfl (v:= .bool false) (by kernel_rfl) ?_
    simp only [List.setIfInBounds_toArray,List.set_cons_zero,List.set_cons_succ]
    refine wpList_nil ?_
    go_wp2_with fail
    go_meet
    exact⟨rfl,HG,HI,HR⟩
  ·cases okt
   ·skip
    apply wp_region_lit
    refine wpList_val 86 (by kernel_rfl) rfl (v:= .bool true) (by kernel_rfl) ?_
    simp only [List.setIfInBounds_toArray,List.set_cons_zero,List.set_cons_succ]
    refine wpList_val 87 (by kernel_rfl) rfl (v:= .bool true) (by kernel_rfl) ?_
    simp only [List.setIfInBounds_toArray,List.set_cons_zero,List.set_cons_succ]
    refine wpList_val 88 (by kernel_rfl) rfl (v:= .bool false) (by kernel_rfl) ?_
    simp only [List.setIfInBounds_toArray,List.set_cons_zero,List.set_cons_succ]
    refine wpList_val 89 (by kernel_rfl) rfl (v:= .bool false) (by kernel_rfl) ?_
    simp only [List.setIfInBounds_toArray,List.set_cons_zero,List.set_cons_succ]
    refine wpList_val 90 (by kernel_rfl) rfl (v:= .bool false) (by kernel_rfl) ?_
    simp only [List.setIfInBounds_toArray,List.set_cons_zero,List.set_cons_succ]
    refine wpList_val 91 (by kernel_rfl) rfl (v:= .bool false) (by kernel_rfl) ?_
    simp only [List.setIfInBounds_toArray,List.set_cons_zero,List.set_cons_succ]
    refine wpList_val 92 (by kernel_rfl) rfl (v:= .bool false) (by kernel_rfl) ?_
    simp only [List.setIfInBounds_toArray,List.set_cons_zero,List.set_cons_succ]
    refine wpList_val 93 (by kernel_rfl) rfl (v:= .bool false) (by kernel_rfl) ?_
    simp only [List.setIfInBounds_toArray,List.set_cons_zero,List.set_cons_succ]
    refine wpList_val 94 (by kernel_rfl) rfl (v:= .bool false) (by kernel_rfl) ?_
    simp only [List.setIfInBounds_toArray,List.set_cons_zero,List.set_cons_succ]
    refine wpList_val 95 (by kernel_rfl) rfl (v:= .bool true) (by kernel_rfl) ?_
    simp only [List.setIfInBounds_toArray,List.set_cons_zero,List.set_cons_succ]
    refine wpList_val 96 (by kernel_rfl) rfl (v:= .bool true) (by kernel_rfl) ?_
    simp only [List.setIfInBounds_toArray,List.set_cons_zero,List.set_cons_succ]
    obtain⟨x15_0,x15_1,x15_2,x15_3,x15_4,x15_5⟩:=GB.c6 HG 3 rfl
    refine wpList_loadG 34 (.tmp 11) 97 (by kernel_rfl) rfl rfl (u:= .pointer (some ⟨g_q,0,none⟩)) (by kernel_rfl) (load_ba x15_0 x15_1 x15_2 x15_3 x15_4 x15_5) ?_
    simp only [List.setIfInBounds_toArray,List.set_cons_zero,List.set_cons_succ]
    clear x15_0 x15_1 x15_2 x15_3 x15_4 x15_5
    obtain⟨x16_0,x16_1,x16_2,x16_3,x16_4,x16_5⟩:=GB.c6 HG 2 rfl
    refine wpList_loadG 40 (.tmp 13) 98 (by kernel_rfl) rfl rfl (u:= .pointer (some ⟨g_u,0,none⟩)) (by kernel_rfl) (load_rb x16_0 x16_1 x16_2 x16_3 x16_4 x16_5) ?_
    simp only [List.setIfInBounds_toArray,List.set_cons_zero,List.set_cons_succ]
    clear x16_0 x16_1 x16_2 x16_3 x16_4 x16_5
    refine wpList_call 99 (by kernel_rfl) rfl (R:=fun v w'=>v= .bool true∧Only [] _ w') (by kernel_rfl) ((is5_b (x:=ql) (y:=qh) (isBC.mk (hid (isD.of (x:=ql) (WL.at (z:=ql.z) HI 2 rfl) HC_q)) (hid (isD.of (x:=qh) (WL.at (z:=qh.z) HI 3 rfl) HD_q))) (RBV.mk (RL.rd (x:=ql) HR 2 rfl) (RL.rd (x:=qh) HR 3 rfl)) (FF.HCQ.out rfl).1 (FF.HCQ.out rfl).2 FF.Bql FF.Bqh (by omega)).mono fun _ _ h=>⟨_,h.1,rfl,h.2⟩) ?_
    rintro _ w119 ⟨rfl,ho⟩
    simp only [List.setIfInBounds_toArray,List.set_cons_zero,List.set_cons_succ]
    replace HG:=hid (HG.out.step ho)
    replace HI:=hid (HI.out.step ho)
    replace HR:=hid (HR.out.step ho)
    clear ho
    refine wpList_val 100 (by kernel_rfl) rfl (v:= .bool false) (by kernel_rfl) ?_
    simp only [List.setIfInBounds_toArray,List.set_cons_zero,List.set_cons_succ]
    refine wpList_val 101 (by kernel_rfl) rfl (v:= .bool false) (by kernel_rfl) ?_
    simp only [List.setIfInBounds_toArray,List.set_cons_zero,List.set_cons_succ]
    refine wpList_val 102 (by kernel_rfl) rfl (v:= .bool false) (by kernel_rfl) ?_
    simp only [List.setIfInBounds_toArray,List.set_cons_zero,List.set_cons_succ]
    refine wpList_val 103 (by kernel_rfl) rfl (v:= .bool false) (by kernel_rfl) ?_
    simp only [List.setIfInBounds_toArray,List.set_cons_zero,List.set_cons_succ]
    refine wpList_val 104 (by kernel_rfl) rfl (v:= .bool true) (by kernel_rfl) ?_
    simp only [List.setIfInBounds_toArray,List.set_cons_zero,List.set_cons_succ]
    refine wpList_val 105 (by kernel_rfl) rfl (v:= .bool false) (by kernel_rfl) ?_
    simp only [List.setIfInBounds_toArray,List.set_cons_zero,List.set_cons_succ]
    refine wpList_val 106 (by kernel_rfl) rfl (v:= .bool false) (by kernel_rfl) ?_
    simp only [List.setIfInBounds_toArray,List.set_cons_zero,List.set_cons_succ]
    refine wpList_not 107 (by kernel_rfl) rfl ?_
    simp only [List.setIfInBounds_toArray,List.set_cons_zero,List.set_cons_succ]
    refine wpList_not 108 (by kernel_rfl) rfl ?_
    simp only [List.setIfInBounds_toArray,List.set_cons_zero,List.set_cons_succ]
    refine wpList_not 109 (by kernel_rfl) rfl ?_
    simp only [List.setIfInBounds_toArray,List.set_cons_zero,List.set_cons_succ]
    refine wpList_not 110 (by kernel_rfl) rfl ?_
    simp only [List.setIfInBounds_toArray,List.set_cons_zero,List.set_cons_succ]
    refine wpList_val 111 (by kernel_rfl) rfl (v:= .bool false) (by kernel_rfl) ?_
    simp only [List.setIfInBounds_toArray,List.set_cons_zero,List.set_cons_succ]
    refine wpList_val 112 (by kernel_rfl) rfl (v:= .bool false) (by kernel_rfl) ?_
    simp only [List.setIfInBounds_toArray,List.set_cons_zero,List.set_cons_succ]
    refine wpList_val 113 (by kernel_rfl) rfl (v:= .bool false) (by kernel_rfl) ?_
    simp only [List.setIfInBounds_toArray,List.set_cons_zero,List.set_cons_succ]
    refine wpList_val 114 (by kernel_rfl) rfl (v:= .bool false) (by kernel_rfl) ?_
    simp only [List.setIfInBounds_toArray,List.set_cons_zero,List.set_cons_succ]
    refine wpList_val 115 (by kernel_rfl) rfl (v:= .bool false) (by kernel_rfl) ?_
    simp only [List.setIfInBounds_toArray,List.set_cons_zero,List.set_cons_succ]
    refine wpList_not 116 (by kernel_rfl) rfl ?_
    simp only [List.setIfInBounds_toArray,List.set_cons_zero,List.set_cons_succ]
    refine wpList_not 117 (by kernel_rfl) rfl ?_
    simp only [List.setIfInBounds_toArray,List.set_cons_zero,List.set_cons_succ]
    refine wpList_not 118 (by kernel_rfl) rfl ?_
    simp only [List.setIfInBounds_toArray,List.set_cons_zero,List.set_cons_succ]
    refine wpList_not 119 (by kernel_rfl) rfl ?_
    simp only [List.setIfInBounds_toArray,List.set_cons_zero,List.set_cons_succ]
    refine wpList_val 120 (by kernel_rfl) rfl (v:= .bool false) (by kernel_rfl) ?_
    simp only [List.setIfInBounds_toArray,List.set_cons_zero,List.set_cons_succ]
    refine wpList_val 121 (by kernel_rfl) rfl (v:= .bool false) (by kernel_rfl) ?_
    simp only [List.setIfInBounds_toArray,List.set_cons_zero,List.set_cons_succ]
    refine wpList_val 122 (by kernel_rfl) rfl (v:= .bool false) (by kernel_rfl) ?_
    simp only [List.setIfInBounds_toArray,List.set_cons_zero,List.set_cons_succ]
    refine wpList_val 123 (by kernel_rfl) rfl (v:= .bool false) (by kernel_rfl) ?_
    simp only [List.setIfInBounds_toArray,List.set_cons_zero,List.set_cons_succ]
    refine wpList_val 124 (by kernel_rfl) rfl (v:= .bool true) (by kernel_rfl) ?_
    simp only [List.setIfInBounds_toArray,List.set_cons_zero,List.set_cons_succ]
    refine wpList_val 125 (by kernel_rfl) rfl (v:= .bool true) (by kernel_rfl) ?_
    simp only [List.setIfInBounds_toArray,List.set_cons_zero,List.set_cons_succ]
    obtain⟨x17_0,x17_1,x17_2,x17_3,x17_4,x17_5⟩:=GB.c6 HG 1 rfl
    refine wpList_loadG 34 (.tmp 15) 126 (by kernel_rfl) rfl rfl (u:= .pointer (some ⟨g_t,0,none⟩)) (by kernel_rfl) (load_ba x17_0 x17_1 x17_2 x17_3 x17_4 x17_5) ?_
    simp only [List.setIfInBounds_toArray,List.set_cons_zero,List.set_cons_succ]
    clear x17_0 x17_1 x17_2 x17_3 x17_4 x17_5
    refine wpList_val 127 (by kernel_rfl) rfl (v:= .agg #[.bool false,.slice none 0 0,.int .i64 0,.bool false,.slice none 0 0,.int .i64 0]) (by kernel_rfl) ?_
    simp only [List.setIfInBounds_toArray,List.set_cons_zero,List.set_cons_succ]
    refine wpList_call 128 (by kernel_rfl) rfl (R:=fun v w'=>v= .bool true∧Only [] _ w') (by kernel_rfl) ((is5_z (FF.HNT.out rfl).2.1 (FF.HNT.out rfl).2.2 (isBC.mk (hid (isD.of (x:=tl) (WL.at (z:=tl.z) HI 0 rfl) HC_t)) (hid (isD.of (x:=th) (WL.at (z:=th.z) HI 1 rfl) HD_t)))).mono fun _ _ h=>⟨_,h.1,rfl,h.2⟩) ?_
    rintro _ w120 ⟨rfl,ho⟩
    simp only [List.setIfInBounds_toArray,List.set_cons_zero,List.set_cons_succ]
    replace HG:=hid (HG.out.step ho)
    replace HI:=hid (HI.out.step ho)
    replace HR:=hid (HR.out.step ho)
    clear ho
    refine wpList_val 129 (by kernel_rfl) rfl (v:= .bool false) (by kernel_rfl) ?_
    simp only [List.setIfInBounds_toArray,List.set_cons_zero,List.set_cons_succ]
    refine wpList_val 130 (by kernel_rfl) rfl (v:= .bool false) (by kernel_rfl) ?_
    simp only [List.setIfInBounds_toArray,List.set_cons_zero,List.set_cons_succ]
    refine wpList_val 131 (by kernel_rfl) rfl (v:= .bool false) (by kernel_rfl) ?_
    simp only [List.setIfInBounds_toArray,List.set_cons_zero,List.set_cons_succ]
    refine wpList_nil ?_
    go_wp2_with fail
    go_meet
    exact⟨rfl,HG,HI,HR⟩
   ·skip
    apply wp_region_lit
    refine wpList_val 86 (by kernel_rfl) rfl (v:= .bool true) (by kernel_rfl) ?_
    simp only [List.setIfInBounds_toArray,List.set_cons_zero,List.set_cons_succ]
    refine wpList_val 87 (by kernel_rfl) rfl (v:= .bool true) (by kernel_rfl) ?_
    simp only [List.setIfInBounds_toArray,List.set_cons_zero,List.set_cons_succ]
    refine wpList_val 88 (by kernel_rfl) rfl (v:= .bool false) (by kernel_rfl) ?_
    simp only [List.setIfInBounds_toArray,List.set_cons_zero,List.set_cons_succ]
    refine wpList_val 89 (by kernel_rfl) rfl (v:= .bool false) (by kernel_rfl) ?_
    simp only [List.setIfInBounds_toArray,List.set_cons_zero,List.set_cons_succ]
    refine wpList_val 90 (by kernel_rfl) rfl (v:= .bool true) (by kernel_rfl) ?_
    simp only [List.setIfInBounds_toArray,List.set_cons_zero,List.set_cons_succ]
    refine wpList_val 91 (by kernel_rfl) rfl (v:= .bool true) (by kernel_rfl) ?_
    simp only [List.setIfInBounds_toArray,List.set_cons_zero,List.set_cons_succ]
    refine wpList_val 92 (by kernel_rfl) rfl (v:= .bool false) (by kernel_rfl) ?_
    simp only [List.setIfInBounds_toArray,List.set_cons_zero,List.set_cons_succ]
    refine wpList_val 93 (by kernel_rfl) rfl (v:= .bool false) (by kernel_rfl) ?_
    simp only [List.setIfInBounds_toArray,List.set_cons_zero,List.set_cons_succ]
    refine wpList_val 94 (by kernel_rfl) rfl (v:= .bool false) (by kernel_rfl) ?_
    simp only [List.setIfInBounds_toArray,List.set_cons_zero,List.set_cons_succ]
    refine wpList_val 95 (by kernel_rfl) rfl (v:= .bool true) (by kernel_rfl) ?_
    simp only [List.setIfInBounds_toArray,List.set_cons_zero,List.set_cons_succ]
    refine wpList_val 96 (by kernel_rfl) rfl (v:= .bool true) (by kernel_rfl) ?_
    simp only [List.setIfInBounds_toArray,List.set_cons_zero,List.set_cons_succ]
    obtain⟨x15_0,x15_1,x15_2,x15_3,x15_4,x15_5⟩:=GB.c6 HG 3 rfl
    refine wpList_loadG 34 (.tmp 11) 97 (by kernel_rfl) rfl rfl (u:= .pointer (some ⟨g_q,0,none⟩)) (by kernel_rfl) (load_ba x15_0 x15_1 x15_2 x15_3 x15_4 x15_5) ?_
    simp only [List.setIfInBounds_toArray,List.set_cons_zero,List.set_cons_succ]
    clear x15_0 x15_1 x15_2 x15_3 x15_4 x15_5
    obtain⟨x16_0,x16_1,x16_2,x16_3,x16_4,x16_5⟩:=GB.c6 HG 2 rfl
    refine wpList_loadG 40 (.tmp 13) 98 (by kernel_rfl) rfl rfl (u:= .pointer (some ⟨g_u,0,none⟩)) (by kernel_rfl) (load_rb x16_0 x16_1 x16_2 x16_3 x16_4 x16_5) ?_
    simp only [List.setIfInBounds_toArray,List.set_cons_zero,List.set_cons_succ]
    clear x16_0 x16_1 x16_2 x16_3 x16_4 x16_5
    refine wpList_call 99 (by kernel_rfl) rfl (R:=fun v w'=>v= .bool true∧Only [] _ w') (by kernel_rfl) ((is5_b (x:=ql) (y:=qh) (isBC.mk (hid (isD.of (x:=ql) (WL.at (z:=ql.z) HI 2 rfl) HC_q)) (hid (isD.of (x:=qh) (WL.at (z:=qh.z) HI 3 rfl) HD_q))) (RBV.mk (RL.rd (x:=ql) HR 2 rfl) (RL.rd (x:=qh) HR 3 rfl)) (FF.HCQ.out rfl).1 (FF.HCQ.out rfl).2 FF.Bql FF.Bqh (by omega)).mono fun _ _ h=>⟨_,h.1,rfl,h.2⟩) ?_
    rintro _ w119 ⟨rfl,ho⟩
    simp only [List.setIfInBounds_toArray,List.set_cons_zero,List.set_cons_succ]
    replace HG:=hid (HG.out.step ho)
    replace HI:=hid (HI.out.step ho)
    replace HR:=hid (HR.out.step ho)
    clear ho
    refine wpList_val 100 (by kernel_rfl) rfl (v:= .bool false) (by kernel_rfl) ?_
    simp only [List.setIfInBounds_toArray,List.set_cons_zero,List.set_cons_succ]
    refine wpList_val 101 (by kernel_rfl) rfl (v:= .bool false) (by kernel_rfl) ?_
    simp only [List.setIfInBounds_toArray,List.set_cons_zero,List.set_cons_succ]
    refine wpList_val 102 (by kernel_rfl) rfl (v:= .bool false) (by kernel_rfl) ?_
    simp only [List.setIfInBounds_toArray,List.set_cons_zero,List.set_cons_succ]
    refine wpList_val 103 (by kernel_rfl) rfl (v:= .bool false) (by kernel_rfl) ?_
    simp only [List.setIfInBounds_toArray,List.set_cons_zero,List.set_cons_succ]
    refine wpList_val 104 (by kernel_rfl) rfl (v:= .bool true) (by kernel_rfl) ?_
    simp only [List.setIfInBounds_toArray,List.set_cons_zero,List.set_cons_succ]
    refine wpList_val 105 (by kernel_rfl) rfl (v:= .bool false) (by kernel_rfl) ?_
    simp only [List.setIfInBounds_toArray,List.set_cons_zero,List.set_cons_succ]
    refine wpList_val 106 (by kernel_rfl) rfl (v:= .bool false) (by kernel_rfl) ?_
    simp only [List.setIfInBounds_toArray,List.set_cons_zero,List.set_cons_succ]
    refine wpList_not 107 (by kernel_rfl) rfl ?_
    simp only [List.setIfInBounds_toArray,List.set_cons_zero,List.set_cons_succ]
    refine wpList_not 108 (by kernel_rfl) rfl ?_
    simp only [List.setIfInBounds_toArray,List.set_cons_zero,List.set_cons_succ]
    refine wpList_not 109 (by kernel_rfl) rfl ?_
    simp only [List.setIfInBounds_toArray,List.set_cons_zero,List.set_cons_succ]
    refine wpList_not 110 (by kernel_rfl) rfl ?_
    simp only [List.setIfInBounds_toArray,List.set_cons_zero,List.set_cons_succ]
    refine wpList_val 111 (by kernel_rfl) rfl (v:= .bool false) (by kernel_rfl) ?_
    simp only [List.setIfInBounds_toArray,List.set_cons_zero,List.set_cons_succ]
    refine wpList_val 112 (by kernel_rfl) rfl (v:= .bool false) (by kernel_rfl) ?_
    simp only [List.setIfInBounds_toArray,List.set_cons_zero,List.set_cons_succ]
    refine wpList_val 113 (by kernel_rfl) rfl (v:= .bool false) (by kernel_rfl) ?_
    simp only [List.setIfInBounds_toArray,List.set_cons_zero,List.set_cons_succ]
    refine wpList_val 114 (by kernel_rfl) rfl (v:= .bool true) (by kernel_rfl) ?_
    simp only [List.setIfInBounds_toArray,List.set_cons_zero,List.set_cons_succ]
    refine wpList_val 115 (by kernel_rfl) rfl (v:= .bool true) (by kernel_rfl) ?_
    simp only [List.setIfInBounds_toArray,List.set_cons_zero,List.set_cons_succ]
    obtain⟨x17_0,x17_1,x17_2,x17_3,x17_4,x17_5⟩:=GB.c6 HG 1 rfl
    refine wpList_loadG 34 (.tmp 15) 116 (by kernel_rfl) rfl rfl (u:= .pointer (some ⟨g_t,0,none⟩)) (by kernel_rfl) (load_ba x17_0 x17_1 x17_2 x17_3 x17_4 x17_5) ?_
    simp only [List.setIfInBounds_toArray,List.set_cons_zero,List.set_cons_succ]
    clear x17_0 x17_1 x17_2 x17_3 x17_4 x17_5
    obtain⟨x18_0,x18_1,x18_2,x18_3,x18_4,x18_5⟩:=GB.c6 HG 0 rfl
    refine wpList_loadG 40 (.tmp 17) 117 (by kernel_rfl) rfl rfl (u:= .pointer (some ⟨g_v,0,none⟩)) (by kernel_rfl) (load_rb x18_0 x18_1 x18_2 x18_3 x18_4 x18_5) ?_
    simp only [List.setIfInBounds_toArray,List.set_cons_zero,List.set_cons_succ]
    clear x18_0 x18_1 x18_2 x18_3 x18_4 x18_5
    refine wpList_call 118 (by kernel_rfl) rfl (R:=fun v w'=>v= .bool true∧Only [] _ w') (by kernel_rfl) ((is5_b (x:=tl) (y:=th) (isBC.mk (hid (isD.of (x:=tl) (WL.at (z:=tl.z) HI 0 rfl) HC_t)) (hid (isD.of (x:=th) (WL.at (z:=th.z) HI 1 rfl) HD_t))) (RBV.mk (RL.rd (x:=tl) HR 0 rfl) (RL.rd (x:=th) HR 1 rfl)) (FF.HCT.out rfl).1 (FF.HCT.out rfl).2 FF.Btl FF.Bth (by omega)).mono fun _ _ h=>⟨_,h.1,rfl,h.2⟩) ?_
    rintro _ w120 ⟨rfl,ho⟩
    simp only [List.setIfInBounds_toArray,List.set_cons_zero,List.set_cons_succ]
    replace HG:=hid (HG.out.step ho)
    replace HI:=hid (HI.out.step ho)
    replace HR:=hid (HR.out.step ho)
    clear ho
    refine wpList_val 119 (by kernel_rfl) rfl (v:= .bool false) (by kernel_rfl) ?_
    simp only [List.setIfInBounds_toArray,List.set_cons_zero,List.set_cons_succ]
    refine wpList_val 120 (by kernel_rfl) rfl (v:= .bool false) (by kernel_rfl) ?_
    simp only [List.setIfInBounds_toArray,List.set_cons_zero,List.set_cons_succ]
    refine wpList_val 121 (by kernel_rfl) rfl (v:= .bool false) (by kernel_rfl) ?_
    simp only [List.setIfInBounds_toArray,List.set_cons_zero,List.set_cons_succ]
    refine wpList_val 122 (by kernel_rfl) rfl (v:= .bool false) (by kernel_rfl) ?_
    simp only [List.setIfInBounds_toArray,List.set_cons_zero,List.set_cons_succ]
    refine wpList_val 123 (by kernel_rfl) rfl (v:= .bool true) (by kernel_rfl) ?_
    simp only [List.setIfInBounds_toArray,List.set_cons_zero,List.set_cons_succ]
    refine wpList_val 124 (by kernel_rfl) rfl (v:= .bool false) (by kernel_rfl) ?_
    simp only [List.setIfInBounds_toArray,List.set_cons_zero,List.set_cons_succ]
    refine wpList_val 125 (by kernel_rfl) rfl (v:= .bool false) (by kernel_rfl) ?_
    simp only [List.setIfInBounds_toArray,List.set_cons_zero,List.set_cons_succ]
    refine wpList_not 126 (by kernel_rfl) rfl ?_
    simp only [List.setIfInBounds_toArray,List.set_cons_zero,List.set_cons_succ]
    refine wpList_not 127 (by kernel_rfl) rfl ?_
    simp only [List.setIfInBounds_toArray,List.set_cons_zero,List.set_cons_succ]
    refine wpList_not 128 (by kernel_rfl) rfl ?_
    simp only [List.setIfInBounds_toArray,List.set_cons_zero,List.set_cons_succ]
    refine wpList_not 129 (by kernel_rfl) rfl ?_
    simp only [List.setIfInBounds_toArray,List.set_cons_zero,List.set_cons_succ]
    refine wpList_val 130 (by kernel_rfl) rfl (v:= .bool false) (by kernel_rfl) ?_
    simp only [List.setIfInBounds_toArray,List.set_cons_zero,List.set_cons_succ]
    refine wpList_val 131 (by kernel_rfl) rfl (v:= .bool false) (by kernel_rfl) ?_
    simp only [List.setIfInBounds_toArray,List.set_cons_zero,List.set_cons_succ]
    refine wpList_nil ?_
    go_wp2_with fail
    go_meet
    exact⟨rfl,HG,HI,HR⟩
 obtain⟨rfl,HG2,HI2,HR2⟩:=hcut
 clear HG HI HR
 have HG:=HG2
 have HI:=HI2
 have HR:=HR2
 clear HG2 HI2 HR2
 go_upto_region 11 with fail
 obtain⟨x15_0,x15_1,x15_2,x15_3,x15_4,x15_5⟩:=GB.c6 HG 7 rfl
 apply wp_region_lit
 refine wpList_load 34 (.tmp 7) 133 rfl rfl rfl (u:= .pointer (some ⟨g_a,0,none⟩)) (by kernel_rfl) (load_ba x15_0 x15_1 x15_2 x15_3 x15_4 x15_5) ?_
 simp only [List.setIfInBounds_toArray,List.set_cons_zero,List.set_cons_succ]
 clear x15_0 x15_1 x15_2 x15_3 x15_4 x15_5
 go_wp2_with fail
 (with_reducible refine (bsign_b sgb okg FF.HSG.out FF.HOG.out (BV.of (x:=la) (y:=ha) (WL.at (z:=la.z) HI 6 rfl) (WL.at (z:=ha.z) HI 7 rfl))).mono ?_)
 rintro e w119 ⟨rfl,ho⟩
 replace HG:=hid (HG.out.step ho)
 replace HI:=hid (HI.out.step ho)
 replace HR:=hid (HR.out.step ho)
 clear ho
 go_upto_region 12 with fail
 obtain⟨x16_0,x16_1,x16_2,x16_3,x16_4,x16_5⟩:=GB.c6 HG 5 rfl
 apply wp_region_lit
 refine wpList_load 40 (.tmp 9) 138 rfl rfl rfl (u:= .pointer (some ⟨g_r,0,none⟩)) (by kernel_rfl) (load_rb x16_0 x16_1 x16_2 x16_3 x16_4 x16_5) ?_
 simp only [List.setIfInBounds_toArray,List.set_cons_zero,List.set_cons_succ]
 clear x16_0 x16_1 x16_2 x16_3 x16_4 x16_5
 go_wp2_with fail
 (with_reducible refine (psign_b sgx sgy sgb okg FF.HSX.out FF.HSY.out (by simpa [Int.not_lt] using FF.HCS.out) (RBV.mk (RL.rd (x:=pla) HR 6 rfl) (RL.rd (x:=pha) HR 7 rfl))).mono ?_)
 rintro e w120 ⟨rfl,ho⟩
 replace HG:=hid (HG.out.step ho)
 replace HI:=hid (HI.out.step ho)
 replace HR:=hid (HR.out.step ho)
 clear ho
 go_upto_region 13 with fail
 obtain⟨x17_0,x17_1,x17_2⟩:=GB.c3 HG 8 rfl
 go_wp2_with fail
 (with_reducible refine (numOfV_any nb5 nP5 L5 nr5 x5 _ FF.HZ5.out (hid (H5.out.only HG.out.only)) hl5).mono ?_)
 rintro e w121 ⟨sy5,Ay5,ky5,cy5,rfl,hv_,ho⟩
 have HV_:=hid hv_
 clear hv_
 clear x17_0 x17_1 x17_2
 have h_:=HG.out.step ho
 have i_:=HI.out.step ho
 have r_:=HR.out.step ho
 replace i_:=i_.cons HV_
 replace h_:=h_.new 32 [.bool sy5,.slice Ay5 ky5 cy5,.int .i64 x5.e] (noLimb3 _ _ _ _ _)
 replace i_:=i_.step ((Only.refl [] w121).alloc (.cells #[.bool sy5,.slice Ay5 ky5 cy5,.int .i64 x5.e] 32))
 replace r_:=r_.step ((Only.refl [] w121).alloc (.cells #[.bool sy5,.slice Ay5 ky5 cy5,.int .i64 x5.e] 32))
 replace HG:=hid h_
 replace HI:=hid i_
 replace HR:=hid r_
 clear h_ i_ r_ ho
 clear HV_
 go_upto_region 14 with fail
 generalize w121.heap.size=g_y at*
 generalize w121.alloc _=w122 at*
 go_cut [24] from 144 to 157 (fun v wx=>v= .bool hs∧Hid (GB w wx [⟨g_y,32,[.bool sy5,.slice Ay5 ky5 cy5,.int .i64 x5.e]⟩,⟨g_v,40,[.bool sv,.slice Av kv cv,.int .i64 tl.e,.bool tv,.slice Bv mv dv,.int .i64 th.e]⟩,⟨g_t,34,[.bool st,.slice At kt ct,.int .i64 tl.e,.bool tt,.slice Bt mt dt,.int .i64 th.e]⟩,⟨g_u,40,[.bool su,.slice Au ku cu,.int .i64 ql.e,.bool tu,.slice Bu mu du,.int .i64 qh.e]⟩,⟨g_q,34,[.bool sq,.slice Aq kq cq,.int .i64 ql.e,.bool tq,.slice Bq mq dq,.int .i64 qh.e]⟩,⟨g_s,40,[.bool s3,.slice A3 k3 c3,.int .i64 plb.e,.bool t3,.slice B3 m3 d3,.int .i64 phb.e]⟩,⟨g_r,40,[.bool s1,.slice A1 k1 c1,.int .i64 pla.e,.bool t1,.slice B1 m1 d1,.int .i64 pha.e]⟩,⟨g_b,34,[.bool s9,.slice A9 k9 c9,.int .i64 lb.e,.bool t9,.slice B9 m9 d9,.int .i64 hb.e]⟩,⟨g_a,34,[.bool s4,.slice A4 k4 c4,.int .i64 la.e,.bool t4,.slice B4 m4 d4,.int .i64 ha.e]⟩,⟨(w.heap.size+1),24,[.bool nb5,.slice nP5 L5.length nr5,.int .i64 x5.e]⟩,⟨w.heap.size,25,[.bool nb1,.slice nP1 L1.length nr1,.int .i64 x1.e,.bool nb2,.slice nP2 L2.length nr2,.int .i64 x2.e,.bool nb3,.slice nP3 L3.length nr3,.int .i64 x3.e,.bool nb4,.slice nP4 L4.length nr4,.int .i64 x4.e]⟩])∧Hid (WL wx [⟨sy5,Ay5,ky5,cy5,x5.z⟩,⟨st,At,kt,ct,tl.z⟩,⟨tt,Bt,mt,dt,th.z⟩,⟨sq,Aq,kq,cq,ql.z⟩,⟨tq,Bq,mq,dq,qh.z⟩,⟨s9,A9,k9,c9,lb.z⟩,⟨t9,B9,m9,d9,hb.z⟩,⟨s4,A4,k4,c4,la.z⟩,⟨t4,B4,m4,d4,ha.z⟩])∧Hid (RL wx [⟨sv,Av,kv,cv,tl⟩,⟨tv,Bv,mv,dv,th⟩,⟨su,Au,ku,cu,ql⟩,⟨tu,Bu,mu,du,qh⟩,⟨s3,A3,k3,c3,plb⟩,⟨t3,B3,m3,d3,phb⟩,⟨s1,A1,k1,c1,pla⟩,⟨t1,B1,m1,d1,pha⟩]))
 case first=>
  rcases FF.HG1.out with⟨hg1,hhs_⟩|⟨hg1,hhs_⟩
  ·have HH:=hid hhs_
   clear hhs_
   apply wp_region_typed2 (by kernel_rfl) [isV _,isRD ry,isV _,isV _,isV _,isV _,isV _,isV undef,isV undef,isV undef,isV undef,isV undef,isV undef,isV _,isV _] [[],[0],[],[2],[1,3],[4],[5],[6],[6,7],[6],[6,9],[6,8,10],[6,11],[6,12],[13]] (by kernel_rfl) (by kernel_rfl)
   case ho=>
    iterate 7
     refine owes2_cons (fun wx hox=>?_) ?_
     ·skip
      have hg:=hid (HG.out.step hox)
      have hi:=hid (HI.out.step hox)
      have hr:=hid (HR.out.step hox)
      obtain⟨x18_0,x18_1,x18_2⟩:=GB.c3 hg 0 rfl
      have dv_y5:=(WL.dv (x:=x5) hi 0 rfl)
      obtain⟨x19_0,x19_1,x19_2,x19_3,x19_4,x19_5⟩:=GB.c6 hg 6 rfl
      have rd_pla:=(RL.rd (x:=pla) hr 6 rfl)
      clear hg hi hr
      refine withs_plain rfl ?_
      simp only [withs,List.getElem?_cons_zero,List.getElem?_cons_succ,Option.bind,Option.getD]
      with_reducible repeat first|refine all_isV ?_|(refine all_isRD ?_;intro sx Ax kx cx hvx hwx)
      go_simp
      first
      |exact⟨Only.refl _ _,isV.self _ _⟩
      |with_reducible exact grow_rd (rrefB_d ry FF.HRYV.out dv_y5 FF.BX5 (by omega))
      |with_reducible exact grow_of (rcmp_d (x:=ry) (y:=pla) cpa (RD.of (by assumption) (by assumption)) rd_pla FF.Cry FF.Bry FF.Bpla (by omega) FF.HC1.out)
    refine owes2_cons (fun wx hox=>?_) ?_
    ·refine withs_guardM false rfl rfl rfl ?_
     simp only [withs,List.getElem?_cons_zero,List.getElem?_cons_succ,Option.bind,Option.getD]
     with_reducible repeat refine all_isV ?_
     exact⟨by kernel_rfl,isV.self _ _⟩
    refine owes2_cons (fun wx hox=>?_) ?_
    ·refine withs_guardM false rfl rfl rfl ?_
     simp only [withs,List.getElem?_cons_zero,List.getElem?_cons_succ,Option.bind,Option.getD]
     with_reducible repeat refine all_isV ?_
     exact⟨by kernel_rfl,isV.self _ _⟩
    refine owes2_cons (fun wx hox=>?_) ?_
    ·refine withs_guardM false rfl rfl rfl ?_
     simp only [withs,List.getElem?_cons_zero,List.getElem?_cons_succ,Option.bind,Option.getD]
     with_reducible repeat refine all_isV ?_
     exact⟨by kernel_rfl,isV.self _ _⟩
    refine owes2_cons (fun wx hox=>?_) ?_
    ·refine withs_guardM false rfl rfl rfl ?_
     simp only [withs,List.getElem?_cons_zero,List.getElem?_cons_succ,Option.bind,Option.getD]
     with_reducible repeat refine all_isV ?_
     exact⟨by kernel_rfl,isV.self _ _⟩
    refine owes2_cons (fun wx hox=>?_) ?_
    ·refine withs_guardM false rfl rfl rfl ?_
     simp only [withs,List.getElem?_cons_zero,List.getElem?_cons_succ,Option.bind,Option.getD]
     with_reducible repeat refine all_isV ?_
     exact⟨by kernel_rfl,isV.self _ _⟩
    refine owes2_cons (fun wx hox=>?_) ?_
    ·refine withs_guardM false rfl rfl rfl ?_
     simp only [withs,List.getElem?_cons_zero,List.getElem?_cons_succ,Option.bind,Option.getD]
     with_reducible repeat refine all_isV ?_
     exact⟨by kernel_rfl,isV.self _ _⟩
    refine owes2_cons (fun wx hox=>?_) ?_
    ·skip
     refine withs_plain rfl ?_
     simp only [withs,List.getElem?_cons_zero,List.getElem?_cons_succ,Option.bind,Option.getD]
     with_reducible repeat refine all_isV ?_
     go_simp
     exact⟨Only.refl _ _,isV.self _ _⟩
    refine owes2_cons (fun wx hox=>?_) ?_
    ·skip
     refine withs_plain rfl ?_
     simp only [withs,List.getElem?_cons_zero,List.getElem?_cons_succ,Option.bind,Option.getD]
     with_reducible repeat refine all_isV ?_
     go_simp
     exact⟨Only.refl _ _,isV.self _ _⟩
    exact owes2_nil
   case hl=>
    repeat (refine List.forall_mem_cons.2 ⟨?_,?_⟩;first|exact isV.lasts _|exact isRD.lasts _)
    exact fun _ h=>(by cases h)
   intro wx hox
   refine withs_of (by simp only [List.length,List.range,List.range.loop];exact rfl) ?_
   simp only [withs,List.getElem?_cons_zero,List.getElem?_cons_succ,Option.bind,Option.getD]
   repeat (first|(with_reducible refine all_isV ?_)|(with_reducible refine all_isRD ?_;intro sx Ax kx cx hvx hwx))
   go_simp
   replace HG:=hid (HG.out.step hox)
   replace HI:=hid (HI.out.step hox)
   replace HR:=hid (HR.out.step hox)
   clear hox
   go_wp2_with fail
   go_meet
   exact⟨by rw [HH.out],HG,HI,HR⟩
  ·have HH:=hid hhs_
   clear hhs_
   apply wp_region_typed2 (by kernel_rfl) [isV _,isRD ry,isV _,isV _,isV _,isV _,isV _,isV _,isRD ry,isV _,isV _,isV _,isV _,isV _,isV _] [[],[0],[],[2],[1,3],[4],[5],[6],[6,7],[6],[6,9],[6,8,10],[6,11],[6,12],[13]] (by kernel_rfl) (by kernel_rfl)
   case ho=>
    iterate 15
     refine owes2_cons (fun wx hox=>?_) ?_
     ·skip
      have hg:=hid (HG.out.step hox)
      have hi:=hid (HI.out.step hox)
      have hr:=hid (HR.out.step hox)
      obtain⟨x18_0,x18_1,x18_2⟩:=GB.c3 hg 0 rfl
      have dv_y5:=(WL.dv (x:=x5) hi 0 rfl)
      obtain⟨x19_0,x19_1,x19_2,x19_3,x19_4,x19_5⟩:=GB.c6 hg 6 rfl
      have rd_pla:=(RL.rd (x:=pla) hr 6 rfl)
      obtain⟨x20_0,x20_1,x20_2⟩:=GB.c3 hg 0 rfl
      obtain⟨x21_0,x21_1,x21_2,x21_3,x21_4,x21_5⟩:=GB.c6 hg 6 rfl
      have rd_pha:=(RL.rd (x:=pha) hr 7 rfl)
      clear hg hi hr
      first
      |refine withs_plain rfl ?_
       simp only [withs,List.getElem?_cons_zero,List.getElem?_cons_succ,Option.bind,Option.getD]
       with_reducible repeat first|refine all_isV ?_|(refine all_isRD ?_;intro sx Ax kx cx hvx hwx)
       go_simp
      |refine withs_guard rfl rfl ?_
       simp only [withs,List.getElem?_cons_zero,List.getElem?_cons_succ,Option.bind,Option.getD]
       with_reducible repeat first|refine all_isV ?_|(refine all_isRD ?_;intro sx Ax kx cx hvx hwx)
       refine⟨by kernel_rfl,?_⟩
       go_simp
      first
      |exact⟨Only.refl _ _,isV.self _ _⟩
      |with_reducible exact grow_rd (rrefB_d ry FF.HRYV.out dv_y5 FF.BX5 (by omega))
      |with_reducible exact grow_of (rcmp_d (x:=ry) (y:=pla) cpa (RD.of (by assumption) (by assumption)) rd_pla FF.Cry FF.Bry FF.Bpla (by omega) FF.HC1.out)
      |with_reducible exact grow_of (rcmp_d (x:=ry) (y:=pha) cpb (RD.of (by assumption) (by assumption)) rd_pha FF.Cry FF.Bry FF.Bpha (by omega) FF.HC2.out)
    exact owes2_nil
   case hl=>
    repeat (refine List.forall_mem_cons.2 ⟨?_,?_⟩;first|exact isV.lasts _|exact isRD.lasts _)
    exact fun _ h=>(by cases h)
   intro wx hox
   refine withs_of (by simp only [List.length,List.range,List.range.loop];exact rfl) ?_
   simp only [withs,List.getElem?_cons_zero,List.getElem?_cons_succ,Option.bind,Option.getD]
   repeat (first|(with_reducible refine all_isV ?_)|(with_reducible refine all_isRD ?_;intro sx Ax kx cx hvx hwx))
   go_simp
   replace HG:=hid (HG.out.step hox)
   replace HI:=hid (HI.out.step hox)
   replace HR:=hid (HR.out.step hox)
   clear hox
   go_wp2_with fail
   go_meet
   exact⟨by rw [HH.out],HG,HI,HR⟩
 obtain⟨rfl,HG2,HI2,HR2⟩:=hcut
 clear HG HI HR
 have HG:=HG2
 have HI:=HI2
 have HR:=HR2
 clear HG2 HI2 HR2
 go_upto_region 15 with fail
 simp only [List.append_eq,List.cons_append,List.nil_append]
 refine' wp_region_typed2 (by kernel_rfl) (isV (.agg #[.bool s4,.slice A4 k4 c4,.int .i64 la.e,.bool t4,.slice B4 m4 d4,.int .i64 ha.e])::isV (.agg #[.bool s9,.slice A9 k9 c9,.int .i64 lb.e,.bool t9,.slice B9 m9 d9,.int .i64 hb.e])::isV (.int .i64 p)::isBC AAl AAh::isV (.agg #[.bool s1,.slice A1 k1 c1,.int .i64 pla.e,.bool t1,.slice B1 m1 d1,.int .i64 pha.e])::isV (.agg #[.bool s3,.slice A3 k3 c3,.int .i64 plb.e,.bool t3,.slice B3 m3 d3,.int .i64 phb.e])::isV (.int .i64 p)::isRB AAl AAh::isV (.bool true)::isV (.bool true)::isV (.agg #[.bool s4,.slice A4 k4 c4,.int .i64 la.e,.bool t4,.slice B4 m4 d4,.int .i64 ha.e])::isV (.agg #[.bool s9,.slice A9 k9 c9,.int .i64 lb.e,.bool t9,.slice B9 m9 d9,.int .i64 hb.e])::isV (.int .i64 p)::isBC ASl ASh::isV (.agg #[.bool s1,.slice A1 k1 c1,.int .i64 pla.e,.bool t1,.slice B1 m1 d1,.int .i64 pha.e])::isV (.agg #[.bool s3,.slice A3 k3 c3,.int .i64 plb.e,.bool t3,.slice B3 m3 d3,.int .i64 phb.e])::isV (.int .i64 p)::isRB ASl ASh::isV (.bool true)::isV (.bool true)::isV (.bool true)::isV (.agg #[.bool s4,.slice A4 k4 c4,.int .i64 la.e,.bool t4,.slice B4 m4 d4,.int .i64 ha.e])::isV (.agg #[.bool s9,.slice A9 k9 c9,.int .i64 lb.e,.bool t9,.slice B9 m9 d9,.int .i64 hb.e])::isV (.int .i64 p)::isBC AMl AMh::isV (.agg #[.bool s1,.slice A1 k1 c1,.int .i64 pla.e,.bool t1,.slice B1 m1 d1,.int .i64 pha.e])::isV (.agg #[.bool s3,.slice A3 k3 c3,.int .i64 plb.e,.bool t3,.slice B3 m3 d3,.int .i64 phb.e])::isV (.int .i64 p)::isRB AMl AMh::isV (.bool true)::isV (.bool true)::isV (.bool true)::isV (.agg #[.bool s4,.slice A4 k4 c4,.int .i64 la.e,.bool t4,.slice B4 m4 d4,.int .i64 ha.e])::isB nh nl::isV (.pointer (some ⟨g_r,3,none⟩))::isV (.agg #[.bool t1,.slice B1 m1 d1,.int .i64 pha.e])::isRD rnh::isV (.pointer (some ⟨g_r,0,none⟩))::isV (.agg #[.bool s1,.slice A1 k1 c1,.int .i64 pla.e])::isRD rnl::isRB rnh rnl::isV (.bool true)::isV (.bool true)::isV (.bool true)::isV (.int .i64 sgb)::isV (.int .i64 sgb)::isV (.bool true)::isV (.bool true)::isV (.bool true)::isV (.bool okg)::isV (.bool okg)::isV (.bool true)::isV (.bool true)::isV (.bool true)::isV (.agg #[.bool s4,.slice A4 k4 c4,.int .i64 la.e,.bool t4,.slice B4 m4 d4,.int .i64 ha.e])::isV (.agg #[.bool sy5,.slice Ay5 ky5 cy5,.int .i64 x5.e])::isV (.bool hs)::isV (.bool hs)::isV (.bool true)::isV (.bool true)::isV (.bool true)::isV (.agg #[.bool s4,.slice A4 k4 c4,.int .i64 la.e,.bool t4,.slice B4 m4 d4,.int .i64 ha.e])::isV (.int .i64 (max tx ty))::isV (.pointer (some ⟨g_r,0,none⟩))::isV (.agg #[.bool s1,.slice A1 k1 c1,.int .i64 pla.e])::isV (.int .i64 tx)::isV (.pointer (some ⟨g_r,3,none⟩))::isV (.agg #[.bool t1,.slice B1 m1 d1,.int .i64 pha.e])::isV (.int .i64 ty)::isV (.int .i64 (max tx ty))::isV (.bool true)::isV (.bool true)::isV (.bool true)::isV (.pointer (some ⟨g_a,0,none⟩))::isV (.agg #[.bool s4,.slice A4 k4 c4,.int .i64 la.e])::isB pla pla::isV (.pointer (some ⟨g_r,0,none⟩))::isV (.agg #[.bool s1,.slice A1 k1 c1,.int .i64 pla.e])::isV (.pointer (some ⟨g_r,0,none⟩))::isV (.agg #[.bool s1,.slice A1 k1 c1,.int .i64 pla.e])::isRB pla pla::isV (.bool true)::isV (.bool true)::isV (.bool true)::isV (.pointer (some ⟨g_a,3,none⟩))::isV (.agg #[.bool t4,.slice B4 m4 d4,.int .i64 ha.e])::isV (.pointer (some ⟨g_a,0,none⟩))::isV (.agg #[.bool s4,.slice A4 k4 c4,.int .i64 la.e])::isB pla pha::isV (.agg #[.bool s1,.slice A1 k1 c1,.int .i64 pla.e,.bool t1,.slice B1 m1 d1,.int .i64 pha.e])::isV (.bool true)::isV (.bool true)::isV (.bool true)::[]) ([]::[]::[]::[0,1,2]::[]::[]::[]::[4,5,6]::[3,7]::[8]::[9]::[9]::[9]::[9,10,11,12]::[9]::[9]::[9]::[9,14,15,16]::[9,13,17]::[9,18]::[19]::[20]::[20]::[20]::[20,21,22,23]::[20]::[20]::[20]::[20,25,26,27]::[20,24,28]::[20,29]::[30]::[31]::[31,32]::[31]::[31,34]::[31,35]::[31]::[31,37]::[31,38]::[31,36,39]::[31,33,40]::[31,41]::[42]::[43]::[43]::[43,44,45]::[43,46]::[47]::[48]::[48]::[48,49,50]::[48,51]::[52]::[53]::[53]::[53,54,55]::[53]::[53,56,57]::[53,58]::[59]::[60]::[60,61]::[60]::[60,63]::[60,64]::[60]::[60,66]::[60,67]::[60,65,68]::[60,62,69]::[60,70]::[71]::[72]::[72,73]::[72,74]::[72]::[72,76]::[72]::[72,78]::[72,77,79]::[72,75,80]::[72,81]::[82]::[83]::[83,84]::[83]::[83,86]::[83,85,87]::[83]::[83,88,89]::[83,90]::[91]::[]) (by kernel_rfl) (by kernel_rfl) ?hlz ?hoz ?hez
 case hoz=>
  refine owes2_cons (fun wx hox=>?_) ?_
  ·have hg:=hid (HG.out.step hox)
   obtain⟨x18_0,x18_1,x18_2,x18_3,x18_4,x18_5⟩:=GB.c6 hg 8 rfl
   clear hg
   refine withs_plain rfl ?_
   simp only [withs,List.getElem?_cons_zero,List.getElem?_cons_succ,Option.bind,Option.getD]
   go_simp
   (exact⟨Only.refl _ _,isV.self _ _⟩)
  refine owes2_cons (fun wx hox=>?_) ?_
  ·have hg:=hid (HG.out.step hox)
   obtain⟨x19_0,x19_1,x19_2,x19_3,x19_4,x19_5⟩:=GB.c6 hg 7 rfl
   clear hg
   refine withs_plain rfl ?_
   simp only [withs,List.getElem?_cons_zero,List.getElem?_cons_succ,Option.bind,Option.getD]
   go_simp
   (exact⟨Only.refl _ _,isV.self _ _⟩)
  refine owes2_cons (fun wx hox=>?_) ?_
  ·refine withs_plain rfl ?_
   simp only [withs,List.getElem?_cons_zero,List.getElem?_cons_succ,Option.bind,Option.getD]
   go_simp
   (exact⟨Only.refl _ _,isV.self _ _⟩)
  refine owes2_cons (fun wx hox=>?_) ?_
  ·have hg:=hid (HG.out.step hox)
   have hi:=hid (HI.out.step hox)
   have bv_la_ha:=(BV.of (x:=la) (y:=ha) (WL.at (z:=la.z) hi 7 rfl) (WL.at (z:=ha.z) hi 8 rfl))
   have bv_lb_hb:=(BV.of (x:=lb) (y:=hb) (WL.at (z:=lb.z) hi 5 rfl) (WL.at (z:=hb.z) hi 6 rfl))
   have htx:=hid (hT.out.keep hg.out.only)
   clear hg hi
   refine withs_plain rfl ?_
   simp only [withs,List.getElem?_cons_zero,List.getElem?_cons_succ,Option.bind,Option.getD]
   with_reducible repeat refine all_isV ?_
   go_simp
   (with_reducible exact grow_bc (add_b p AAl AAh FF.HAAl.out FF.HAAh.out bv_la_ha bv_lb_hb FF.Bla FF.Bha FF.Blb FF.Bhb (by omega) htx))
  refine owes2_cons (fun wx hox=>?_) ?_
  ·have hg:=hid (HG.out.step hox)
   obtain⟨x20_0,x20_1,x20_2,x20_3,x20_4,x20_5⟩:=GB.c6 hg 6 rfl
   clear hg
   refine withs_plain rfl ?_
   simp only [withs,List.getElem?_cons_zero,List.getElem?_cons_succ,Option.bind,Option.getD]
   go_simp
   (exact⟨Only.refl _ _,isV.self _ _⟩)
  refine owes2_cons (fun wx hox=>?_) ?_
  ·have hg:=hid (HG.out.step hox)
   obtain⟨x21_0,x21_1,x21_2,x21_3,x21_4,x21_5⟩:=GB.c6 hg 5 rfl
   clear hg
   refine withs_plain rfl ?_
   simp only [withs,List.getElem?_cons_zero,List.getElem?_cons_succ,Option.bind,Option.getD]
   go_simp
   (exact⟨Only.refl _ _,isV.self _ _⟩)
  refine owes2_cons (fun wx hox=>?_) ?_
  ·refine withs_plain rfl ?_
   simp only [withs,List.getElem?_cons_zero,List.getElem?_cons_succ,Option.bind,Option.getD]
   go_simp
   (exact⟨Only.refl _ _,isV.self _ _⟩)
  refine owes2_cons (fun wx hox=>?_) ?_
  ·have hr:=hid (HR.out.step hox)
   have rd_pha:=(RL.rd (x:=pha) hr 7 rfl)
   have rd_phb:=(RL.rd (x:=phb) hr 5 rfl)
   have rd_pla:=(RL.rd (x:=pla) hr 6 rfl)
   have rd_plb:=(RL.rd (x:=plb) hr 4 rfl)
   clear hr
   refine withs_plain rfl ?_
   simp only [withs,List.getElem?_cons_zero,List.getElem?_cons_succ,Option.bind,Option.getD]
   with_reducible repeat refine all_isV ?_
   go_simp
   (with_reducible exact grow_rb (padd_b p ual uah AAl AAh FF.Hual.out FF.Huah.out FF.HRAl.out FF.HRAh.out (RBV.mk rd_pla rd_pha) (RBV.mk rd_plb rd_phb) FF.Cpla FF.Cpha FF.Cplb FF.Cphb FF.Bpla FF.Bpha FF.Bplb FF.Bphb FF.Bual FF.Buah (by omega) (by omega)))
  refine owes2_cons (fun wx hox=>?_) ?_
  ·refine withs_plain rfl ?_
   simp only [withs,List.getElem?_cons_zero,List.getElem?_cons_succ,Option.bind,Option.getD]
   with_reducible repeat first|(refine all_isRB ?_;intro sx Ax kx cx tx Bx mx dx hvx hwx)|(refine all_isBC ?_;intro sx Ax kx cx tx Bx mx dx hvx hwx)
   go_simp
   (with_reducible exact grow_of (is5_b (x:=AAl) (y:=AAh) (isBC.mk (by assumption) (by assumption)) (RBV.mk (by assumption) (by assumption)) FF.CAAl FF.CAAh FF.BAAl FF.BAAh (by omega)))
  refine owes2_cons (fun wx hox=>?_) ?_
  ·refine withs_plain rfl ?_
   simp only [withs,List.getElem?_cons_zero,List.getElem?_cons_succ,Option.bind,Option.getD]
   with_reducible repeat refine all_isV ?_
   go_simp
   (exact⟨Only.refl _ _,isV.self _ _⟩)
  refine owes2_cons (fun wx hox=>?_) ?_
  ·have hg:=hid (HG.out.step hox)
   obtain⟨x22_0,x22_1,x22_2,x22_3,x22_4,x22_5⟩:=GB.c6 hg 8 rfl
   clear hg
   refine withs_guard rfl rfl ?_
   simp only [withs,List.getElem?_cons_zero,List.getElem?_cons_succ,Option.bind,Option.getD]
   with_reducible repeat refine all_isV ?_
   refine⟨by kernel_rfl,?_⟩
   go_simp
   (exact⟨Only.refl _ _,isV.self _ _⟩)
  refine owes2_cons (fun wx hox=>?_) ?_
  ·have hg:=hid (HG.out.step hox)
   obtain⟨x23_0,x23_1,x23_2,x23_3,x23_4,x23_5⟩:=GB.c6 hg 7 rfl
   clear hg
   refine withs_guard rfl rfl ?_
   simp only [withs,List.getElem?_cons_zero,List.getElem?_cons_succ,Option.bind,Option.getD]
   with_reducible repeat refine all_isV ?_
   refine⟨by kernel_rfl,?_⟩
   go_simp
   (exact⟨Only.refl _ _,isV.self _ _⟩)
  refine owes2_cons (fun wx hox=>?_) ?_
  ·refine withs_guard rfl rfl ?_
   simp only [withs,List.getElem?_cons_zero,List.getElem?_cons_succ,Option.bind,Option.getD]
   with_reducible repeat refine all_isV ?_
   refine⟨by kernel_rfl,?_⟩
   go_simp
   (exact⟨Only.refl _ _,isV.self _ _⟩)
  refine owes2_cons (fun wx hox=>?_) ?_
  ·have hg:=hid (HG.out.step hox)
   have hi:=hid (HI.out.step hox)
   have bv_la_ha:=(BV.of (x:=la) (y:=ha) (WL.at (z:=la.z) hi 7 rfl) (WL.at (z:=ha.z) hi 8 rfl))
   have bv_lb_hb:=(BV.of (x:=lb) (y:=hb) (WL.at (z:=lb.z) hi 5 rfl) (WL.at (z:=hb.z) hi 6 rfl))
   have htx:=hid (hT.out.keep hg.out.only)
   clear hg hi
   refine withs_guard rfl rfl ?_
   simp only [withs,List.getElem?_cons_zero,List.getElem?_cons_succ,Option.bind,Option.getD]
   with_reducible repeat refine all_isV ?_
   refine⟨by kernel_rfl,?_⟩
   go_simp
   (with_reducible exact grow_bc (sub_b p ASl ASh FF.HASl.out FF.HASh.out bv_la_ha bv_lb_hb FF.Bla FF.Bha FF.Blb FF.Bhb (by omega) htx))
  refine owes2_cons (fun wx hox=>?_) ?_
  ·have hg:=hid (HG.out.step hox)
   obtain⟨x24_0,x24_1,x24_2,x24_3,x24_4,x24_5⟩:=GB.c6 hg 6 rfl
   clear hg
   refine withs_guard rfl rfl ?_
   simp only [withs,List.getElem?_cons_zero,List.getElem?_cons_succ,Option.bind,Option.getD]
   with_reducible repeat refine all_isV ?_
   refine⟨by kernel_rfl,?_⟩
   go_simp
   (exact⟨Only.refl _ _,isV.self _ _⟩)
  refine owes2_cons (fun wx hox=>?_) ?_
  ·have hg:=hid (HG.out.step hox)
   obtain⟨x25_0,x25_1,x25_2,x25_3,x25_4,x25_5⟩:=GB.c6 hg 5 rfl
   clear hg
   refine withs_guard rfl rfl ?_
   simp only [withs,List.getElem?_cons_zero,List.getElem?_cons_succ,Option.bind,Option.getD]
   with_reducible repeat refine all_isV ?_
   refine⟨by kernel_rfl,?_⟩
   go_simp
   (exact⟨Only.refl _ _,isV.self _ _⟩)
  refine owes2_cons (fun wx hox=>?_) ?_
  ·refine withs_guard rfl rfl ?_
   simp only [withs,List.getElem?_cons_zero,List.getElem?_cons_succ,Option.bind,Option.getD]
   with_reducible repeat refine all_isV ?_
   refine⟨by kernel_rfl,?_⟩
   go_simp
   (exact⟨Only.refl _ _,isV.self _ _⟩)
  refine owes2_cons (fun wx hox=>?_) ?_
  ·have hr:=hid (HR.out.step hox)
   have rd_pha:=(RL.rd (x:=pha) hr 7 rfl)
   have rd_phb:=(RL.rd (x:=phb) hr 5 rfl)
   have rd_pla:=(RL.rd (x:=pla) hr 6 rfl)
   have rd_plb:=(RL.rd (x:=plb) hr 4 rfl)
   clear hr
   refine withs_guard rfl rfl ?_
   simp only [withs,List.getElem?_cons_zero,List.getElem?_cons_succ,Option.bind,Option.getD]
   with_reducible repeat refine all_isV ?_
   refine⟨by kernel_rfl,?_⟩
   go_simp
   (with_reducible exact grow_rb (psub_b p usl ush ASl ASh FF.Husl.out FF.Hush.out FF.HRSl.out FF.HRSh.out (RBV.mk rd_pla rd_pha) (RBV.mk rd_plb rd_phb) FF.Cpla FF.Cpha FF.Bpla FF.Bpha FF.Bplb FF.Bphb FF.Busl FF.Bush (by omega) (by omega)))
  refine owes2_cons (fun wx hox=>?_) ?_
  ·refine withs_guard rfl rfl ?_
   simp only [withs,List.getElem?_cons_zero,List.getElem?_cons_succ,Option.bind,Option.getD]
   with_reducible repeat first|refine all_isV ?_|(refine all_isRB ?_;intro sx Ax kx cx tx Bx mx dx hvx hwx)|(refine all_isBC ?_;intro sx Ax kx cx tx Bx mx dx hvx hwx)
   refine⟨by kernel_rfl,?_⟩
   go_simp
   (with_reducible exact grow_of (is5_b (x:=ASl) (y:=ASh) (isBC.mk (by assumption) (by assumption)) (RBV.mk (by assumption) (by assumption)) FF.CASl FF.CASh FF.BASl FF.BASh (by omega)))
  refine owes2_cons (fun wx hox=>?_) ?_
  ·refine withs_plain rfl ?_
   simp only [withs,List.getElem?_cons_zero,List.getElem?_cons_succ,Option.bind,Option.getD]
   with_reducible repeat refine all_isV ?_
   go_simp
   (exact⟨Only.refl _ _,isV.self _ _⟩)
  refine owes2_cons (fun wx hox=>?_) ?_
  ·refine withs_plain rfl ?_
   simp only [withs,List.getElem?_cons_zero,List.getElem?_cons_succ,Option.bind,Option.getD]
   with_reducible repeat refine all_isV ?_
   go_simp
   (exact⟨Only.refl _ _,isV.self _ _⟩)
  refine owes2_cons (fun wx hox=>?_) ?_
  ·have hg:=hid (HG.out.step hox)
   obtain⟨x26_0,x26_1,x26_2,x26_3,x26_4,x26_5⟩:=GB.c6 hg 8 rfl
   clear hg
   refine withs_guard rfl rfl ?_
   simp only [withs,List.getElem?_cons_zero,List.getElem?_cons_succ,Option.bind,Option.getD]
   with_reducible repeat refine all_isV ?_
   refine⟨by kernel_rfl,?_⟩
   go_simp
   (exact⟨Only.refl _ _,isV.self _ _⟩)
  refine owes2_cons (fun wx hox=>?_) ?_
  ·have hg:=hid (HG.out.step hox)
   obtain⟨x27_0,x27_1,x27_2,x27_3,x27_4,x27_5⟩:=GB.c6 hg 7 rfl
   clear hg
   refine withs_guard rfl rfl ?_
   simp only [withs,List.getElem?_cons_zero,List.getElem?_cons_succ,Option.bind,Option.getD]
   with_reducible repeat refine all_isV ?_
   refine⟨by kernel_rfl,?_⟩
   go_simp
   (exact⟨Only.refl _ _,isV.self _ _⟩)
  refine owes2_cons (fun wx hox=>?_) ?_
  ·refine withs_guard rfl rfl ?_
   simp only [withs,List.getElem?_cons_zero,List.getElem?_cons_succ,Option.bind,Option.getD]
   with_reducible repeat refine all_isV ?_
   refine⟨by kernel_rfl,?_⟩
   go_simp
   (exact⟨Only.refl _ _,isV.self _ _⟩)
  refine owes2_cons (fun wx hox=>?_) ?_
  ·have hg:=hid (HG.out.step hox)
   have hi:=hid (HI.out.step hox)
   have bv_la_ha:=(BV.of (x:=la) (y:=ha) (WL.at (z:=la.z) hi 7 rfl) (WL.at (z:=ha.z) hi 8 rfl))
   have bv_lb_hb:=(BV.of (x:=lb) (y:=hb) (WL.at (z:=lb.z) hi 5 rfl) (WL.at (z:=hb.z) hi 6 rfl))
   have htx:=hid (hT.out.keep hg.out.only)
   clear hg hi
   refine withs_guard rfl rfl ?_
   simp only [withs,List.getElem?_cons_zero,List.getElem?_cons_succ,Option.bind,Option.getD]
   with_reducible repeat refine all_isV ?_
   refine⟨by kernel_rfl,?_⟩
   go_simp
   (with_reducible exact grow_bc (bmul_b p AMl AMh FF.HAMl.out FF.HAMh.out bv_la_ha bv_lb_hb FF.Bla FF.Bha FF.Blb FF.Bhb (by omega) htx))
  refine owes2_cons (fun wx hox=>?_) ?_
  ·have hg:=hid (HG.out.step hox)
   obtain⟨x28_0,x28_1,x28_2,x28_3,x28_4,x28_5⟩:=GB.c6 hg 6 rfl
   clear hg
   refine withs_guard rfl rfl ?_
   simp only [withs,List.getElem?_cons_zero,List.getElem?_cons_succ,Option.bind,Option.getD]
   with_reducible repeat refine all_isV ?_
   refine⟨by kernel_rfl,?_⟩
   go_simp
   (exact⟨Only.refl _ _,isV.self _ _⟩)
  refine owes2_cons (fun wx hox=>?_) ?_
  ·have hg:=hid (HG.out.step hox)
   obtain⟨x29_0,x29_1,x29_2,x29_3,x29_4,x29_5⟩:=GB.c6 hg 5 rfl
   clear hg
   refine withs_guard rfl rfl ?_
   simp only [withs,List.getElem?_cons_zero,List.getElem?_cons_succ,Option.bind,Option.getD]
   with_reducible repeat refine all_isV ?_
   refine⟨by kernel_rfl,?_⟩
   go_simp
   (exact⟨Only.refl _ _,isV.self _ _⟩)
  refine owes2_cons (fun wx hox=>?_) ?_
  ·refine withs_guard rfl rfl ?_
   simp only [withs,List.getElem?_cons_zero,List.getElem?_cons_succ,Option.bind,Option.getD]
   with_reducible repeat refine all_isV ?_
   refine⟨by kernel_rfl,?_⟩
   go_simp
   (exact⟨Only.refl _ _,isV.self _ _⟩)
  refine owes2_cons (fun wx hox=>?_) ?_
  ·have hr:=hid (HR.out.step hox)
   have rd_pha:=(RL.rd (x:=pha) hr 7 rfl)
   have rd_phb:=(RL.rd (x:=phb) hr 5 rfl)
   have rd_pla:=(RL.rd (x:=pla) hr 6 rfl)
   have rd_plb:=(RL.rd (x:=plb) hr 4 rfl)
   clear hr
   refine withs_guard rfl rfl ?_
   simp only [withs,List.getElem?_cons_zero,List.getElem?_cons_succ,Option.bind,Option.getD]
   with_reducible repeat refine all_isV ?_
   refine⟨by kernel_rfl,?_⟩
   go_simp
   (with_reducible exact grow_rb (pmul_b p me0 me1 me2 me3 AMl AMh FF.Hme0 FF.Hme1 FF.Hme2 FF.Hme3 FF.Cme0 FF.Bme0 FF.Cme1 FF.Bme1 FF.Cme2 FF.Bme2 FF.Cme3 FF.Bme3 FF.HRMl FF.HRMh (RBV.mk rd_pla rd_pha) (RBV.mk rd_plb rd_phb) FF.Bpla FF.Bpha FF.Bplb FF.Bphb (by omega) (by omega)))
  refine owes2_cons (fun wx hox=>?_) ?_
  ·refine withs_guard rfl rfl ?_
   simp only [withs,List.getElem?_cons_zero,List.getElem?_cons_succ,Option.bind,Option.getD]
   with_reducible repeat first|refine all_isV ?_|(refine all_isRB ?_;intro sx Ax kx cx tx Bx mx dx hvx hwx)|(refine all_isBC ?_;intro sx Ax kx cx tx Bx mx dx hvx hwx)
   refine⟨by kernel_rfl,?_⟩
   go_simp
   (with_reducible exact grow_of (is5_b (x:=AMl) (y:=AMh) (isBC.mk (by assumption) (by assumption)) (RBV.mk (by assumption) (by assumption)) FF.CAMl FF.CAMh FF.BAMl FF.BAMh (by omega)))
  refine owes2_cons (fun wx hox=>?_) ?_
  ·refine withs_plain rfl ?_
   simp only [withs,List.getElem?_cons_zero,List.getElem?_cons_succ,Option.bind,Option.getD]
   with_reducible repeat refine all_isV ?_
   go_simp
   (exact⟨Only.refl _ _,isV.self _ _⟩)
  refine owes2_cons (fun wx hox=>?_) ?_
  ·refine withs_plain rfl ?_
   simp only [withs,List.getElem?_cons_zero,List.getElem?_cons_succ,Option.bind,Option.getD]
   with_reducible repeat refine all_isV ?_
   go_simp
   (exact⟨Only.refl _ _,isV.self _ _⟩)
  refine owes2_cons (fun wx hox=>?_) ?_
  ·have hg:=hid (HG.out.step hox)
   obtain⟨x30_0,x30_1,x30_2,x30_3,x30_4,x30_5⟩:=GB.c6 hg 8 rfl
   clear hg
   refine withs_guard rfl rfl ?_
   simp only [withs,List.getElem?_cons_zero,List.getElem?_cons_succ,Option.bind,Option.getD]
   with_reducible repeat refine all_isV ?_
   refine⟨by kernel_rfl,?_⟩
   go_simp
   (exact⟨Only.refl _ _,isV.self _ _⟩)
  refine owes2_cons (fun wx hox=>?_) ?_
  ·have hg:=hid (HG.out.step hox)
   have hi:=hid (HI.out.step hox)
   have bv_la_ha:=(BV.of (x:=la) (y:=ha) (WL.at (z:=la.z) hi 7 rfl) (WL.at (z:=ha.z) hi 8 rfl))
   have htx:=hid (hT.out.keep hg.out.only)
   clear hg hi
   refine withs_guard rfl rfl ?_
   simp only [withs,List.getElem?_cons_zero,List.getElem?_cons_succ,Option.bind,Option.getD]
   with_reducible repeat refine all_isV ?_
   refine⟨by kernel_rfl,?_⟩
   go_simp
   (with_reducible exact grow_b (notB_b nh nl FF.Hnh.out FF.Hnl.out bv_la_ha FF.Bla FF.Bha (by omega) htx))
  refine owes2_cons (fun wx hox=>?_) ?_
  ·refine withs_guard rfl rfl ?_
   simp only [withs,List.getElem?_cons_zero,List.getElem?_cons_succ,Option.bind,Option.getD]
   with_reducible repeat refine all_isV ?_
   refine⟨by kernel_rfl,?_⟩
   go_simp
   (exact⟨Only.refl _ _,isV.self _ _⟩)
  refine owes2_cons (fun wx hox=>?_) ?_
  ·have hg:=hid (HG.out.step hox)
   obtain⟨x31_0,x31_1,x31_2,x31_3,x31_4,x31_5⟩:=GB.c6 hg 6 rfl
   clear hg
   refine withs_guard rfl rfl ?_
   simp only [withs,List.getElem?_cons_zero,List.getElem?_cons_succ,Option.bind,Option.getD]
   with_reducible repeat refine all_isV ?_
   refine⟨by kernel_rfl,?_⟩
   go_simp
   (exact⟨Only.refl _ _,isV.self _ _⟩)
  refine owes2_cons (fun wx hox=>?_) ?_
  ·have hr:=hid (HR.out.step hox)
   have rd_pha:=(RL.rd (x:=pha) hr 7 rfl)
   clear hr
   refine withs_guard rfl rfl ?_
   simp only [withs,List.getElem?_cons_zero,List.getElem?_cons_succ,Option.bind,Option.getD]
   with_reducible repeat refine all_isV ?_
   refine⟨by kernel_rfl,?_⟩
   go_simp
   (with_reducible exact grow_rd (rnotB_d rnh FF.Hrnh.out rd_pha FF.Bpha (by omega)))
  refine owes2_cons (fun wx hox=>?_) ?_
  ·refine withs_guard rfl rfl ?_
   simp only [withs,List.getElem?_cons_zero,List.getElem?_cons_succ,Option.bind,Option.getD]
   with_reducible repeat refine all_isV ?_
   refine⟨by kernel_rfl,?_⟩
   go_simp
   (exact⟨Only.refl _ _,isV.self _ _⟩)
  refine owes2_cons (fun wx hox=>?_) ?_
  ·have hg:=hid (HG.out.step hox)
   obtain⟨x32_0,x32_1,x32_2,x32_3,x32_4,x32_5⟩:=GB.c6 hg 6 rfl
   clear hg
   refine withs_guard rfl rfl ?_
   simp only [withs,List.getElem?_cons_zero,List.getElem?_cons_succ,Option.bind,Option.getD]
   with_reducible repeat refine all_isV ?_
   refine⟨by kernel_rfl,?_⟩
   go_simp
   (exact⟨Only.refl _ _,isV.self _ _⟩)
  refine owes2_cons (fun wx hox=>?_) ?_
  ·have hr:=hid (HR.out.step hox)
   have rd_pla:=(RL.rd (x:=pla) hr 6 rfl)
   clear hr
   refine withs_guard rfl rfl ?_
   simp only [withs,List.getElem?_cons_zero,List.getElem?_cons_succ,Option.bind,Option.getD]
   with_reducible repeat refine all_isV ?_
   refine⟨by kernel_rfl,?_⟩
   go_simp
   (with_reducible exact grow_rd (rnotB_d rnl FF.Hrnl.out rd_pla FF.Bpla (by omega)))
  refine owes2_cons (fun wx hox=>?_) ?_
  ·refine withs_guard rfl rfl ?_
   simp only [withs,List.getElem?_cons_zero,List.getElem?_cons_succ,Option.bind,Option.getD]
   with_reducible repeat first|refine all_isV ?_|(refine all_isRD ?_;intro sx Ax kx cx hvx hwx)
   refine⟨by kernel_rfl,?_⟩
   go_simp
   (exact⟨Only.refl _ _,(RBV.of (by assumption) (by assumption) (by assumption) (by assumption)).out⟩)
  refine owes2_cons (fun wx hox=>?_) ?_
  ·refine withs_guard rfl rfl ?_
   simp only [withs,List.getElem?_cons_zero,List.getElem?_cons_succ,Option.bind,Option.getD]
   with_reducible repeat first|refine all_isV ?_|(refine all_isRB ?_;intro sx Ax kx cx tx Bx mx dx hvx hwx)|(refine all_isB ?_;intro sx Ax kx cx tx Bx mx dx hvx hwx)
   refine⟨by kernel_rfl,?_⟩
   go_simp
   (with_reducible exact grow_of (alike_b (x:=nh) (y:=nl) (u:=rnh) (v:=rnl) FF.Hnnh.out FF.Hnnl.out (BV.of (by assumption) (by assumption)) (RBV.mk (by assumption) (by assumption)) FF.Crnh FF.Crnl FF.Bnh FF.Bnl FF.Brnh FF.Brnl (by omega)))
  refine owes2_cons (fun wx hox=>?_) ?_
  ·refine withs_plain rfl ?_
   simp only [withs,List.getElem?_cons_zero,List.getElem?_cons_succ,Option.bind,Option.getD]
   with_reducible repeat refine all_isV ?_
   go_simp
   (exact⟨Only.refl _ _,isV.self _ _⟩)
  refine owes2_cons (fun wx hox=>?_) ?_
  ·refine withs_plain rfl ?_
   simp only [withs,List.getElem?_cons_zero,List.getElem?_cons_succ,Option.bind,Option.getD]
   with_reducible repeat refine all_isV ?_
   go_simp
   (exact⟨Only.refl _ _,isV.self _ _⟩)
  refine owes2_cons (fun wx hox=>?_) ?_
  ·refine withs_guard rfl rfl ?_
   simp only [withs,List.getElem?_cons_zero,List.getElem?_cons_succ,Option.bind,Option.getD]
   with_reducible repeat refine all_isV ?_
   refine⟨by kernel_rfl,?_⟩
   go_simp
   (exact⟨Only.refl _ _,isV.self _ _⟩)
  refine owes2_cons (fun wx hox=>?_) ?_
  ·refine withs_guard rfl rfl ?_
   simp only [withs,List.getElem?_cons_zero,List.getElem?_cons_succ,Option.bind,Option.getD]
   with_reducible repeat refine all_isV ?_
   refine⟨by kernel_rfl,?_⟩
   go_simp
   (exact⟨Only.refl _ _,isV.self _ _⟩)
  refine owes2_cons (fun wx hox=>?_) ?_
  ·refine withs_guard rfl rfl ?_
   simp only [withs,List.getElem?_cons_zero,List.getElem?_cons_succ,Option.bind,Option.getD]
   with_reducible repeat refine all_isV ?_
   refine⟨by kernel_rfl,?_⟩
   go_simp
   (exact⟨Only.refl _ _,isV.self _ _⟩)
  refine owes2_cons (fun wx hox=>?_) ?_
  ·refine withs_plain rfl ?_
   simp only [withs,List.getElem?_cons_zero,List.getElem?_cons_succ,Option.bind,Option.getD]
   with_reducible repeat refine all_isV ?_
   go_simp
   (exact⟨Only.refl _ _,isV.self _ _⟩)
  refine owes2_cons (fun wx hox=>?_) ?_
  ·refine withs_plain rfl ?_
   simp only [withs,List.getElem?_cons_zero,List.getElem?_cons_succ,Option.bind,Option.getD]
   with_reducible repeat refine all_isV ?_
   go_simp
   (exact⟨Only.refl _ _,isV.self _ _⟩)
  refine owes2_cons (fun wx hox=>?_) ?_
  ·refine withs_guard rfl rfl ?_
   simp only [withs,List.getElem?_cons_zero,List.getElem?_cons_succ,Option.bind,Option.getD]
   with_reducible repeat refine all_isV ?_
   refine⟨by kernel_rfl,?_⟩
   go_simp
   (exact⟨Only.refl _ _,isV.self _ _⟩)
  refine owes2_cons (fun wx hox=>?_) ?_
  ·refine withs_guard rfl rfl ?_
   simp only [withs,List.getElem?_cons_zero,List.getElem?_cons_succ,Option.bind,Option.getD]
   with_reducible repeat refine all_isV ?_
   refine⟨by kernel_rfl,?_⟩
   go_simp
   (exact⟨Only.refl _ _,isV.self _ _⟩)
  refine owes2_cons (fun wx hox=>?_) ?_
  ·refine withs_guard rfl rfl ?_
   simp only [withs,List.getElem?_cons_zero,List.getElem?_cons_succ,Option.bind,Option.getD]
   with_reducible repeat refine all_isV ?_
   refine⟨by kernel_rfl,?_⟩
   go_simp
   (exact⟨Only.refl _ _,isV.self _ _⟩)
  refine owes2_cons (fun wx hox=>?_) ?_
  ·refine withs_plain rfl ?_
   simp only [withs,List.getElem?_cons_zero,List.getElem?_cons_succ,Option.bind,Option.getD]
   with_reducible repeat refine all_isV ?_
   go_simp
   (exact⟨Only.refl _ _,isV.self _ _⟩)
  refine owes2_cons (fun wx hox=>?_) ?_
  ·refine withs_plain rfl ?_
   simp only [withs,List.getElem?_cons_zero,List.getElem?_cons_succ,Option.bind,Option.getD]
   with_reducible repeat refine all_isV ?_
   go_simp
   (exact⟨Only.refl _ _,isV.self _ _⟩)
  refine owes2_cons (fun wx hox=>?_) ?_
  ·have hg:=hid (HG.out.step hox)
   obtain⟨x33_0,x33_1,x33_2,x33_3,x33_4,x33_5⟩:=GB.c6 hg 8 rfl
   clear hg
   refine withs_guard rfl rfl ?_
   simp only [withs,List.getElem?_cons_zero,List.getElem?_cons_succ,Option.bind,Option.getD]
   with_reducible repeat refine all_isV ?_
   refine⟨by kernel_rfl,?_⟩
   go_simp
   (exact⟨Only.refl _ _,isV.self _ _⟩)
  refine owes2_cons (fun wx hox=>?_) ?_
  ·have hg:=hid (HG.out.step hox)
   obtain⟨x34_0,x34_1,x34_2⟩:=GB.c3 hg 0 rfl
   clear hg
   refine withs_guard rfl rfl ?_
   simp only [withs,List.getElem?_cons_zero,List.getElem?_cons_succ,Option.bind,Option.getD]
   with_reducible repeat refine all_isV ?_
   refine⟨by kernel_rfl,?_⟩
   go_simp
   (exact⟨Only.refl _ _,isV.self _ _⟩)
  refine owes2_cons (fun wx hox=>?_) ?_
  ·have hi:=hid (HI.out.step hox)
   have dv_y5:=(WL.dv (x:=x5) hi 0 rfl)
   have bv_la_ha:=(BV.of (x:=la) (y:=ha) (WL.at (z:=la.z) hi 7 rfl) (WL.at (z:=ha.z) hi 8 rfl))
   clear hi
   refine withs_guard rfl rfl ?_
   simp only [withs,List.getElem?_cons_zero,List.getElem?_cons_succ,Option.bind,Option.getD]
   with_reducible repeat refine all_isV ?_
   refine⟨by kernel_rfl,?_⟩
   go_simp
   (with_reducible exact grow_of (has_b hs FF.HHAS.out bv_la_ha dv_y5 FF.Bla FF.Bha FF.BX5 (by omega)))
  refine owes2_cons (fun wx hox=>?_) ?_
  ·refine withs_guard rfl rfl ?_
   simp only [withs,List.getElem?_cons_zero,List.getElem?_cons_succ,Option.bind,Option.getD]
   with_reducible repeat refine all_isV ?_
   refine⟨by kernel_rfl,?_⟩
   go_simp
   (exact⟨Only.refl _ _,isV.self _ _⟩)
  refine owes2_cons (fun wx hox=>?_) ?_
  ·refine withs_guard rfl rfl ?_
   simp only [withs,List.getElem?_cons_zero,List.getElem?_cons_succ,Option.bind,Option.getD]
   with_reducible repeat refine all_isV ?_
   refine⟨by kernel_rfl,?_⟩
   go_simp
   (exact⟨Only.refl _ _,isV.self _ _⟩)
  refine owes2_cons (fun wx hox=>?_) ?_
  ·refine withs_plain rfl ?_
   simp only [withs,List.getElem?_cons_zero,List.getElem?_cons_succ,Option.bind,Option.getD]
   with_reducible repeat refine all_isV ?_
   go_simp
   (exact⟨Only.refl _ _,isV.self _ _⟩)
  refine owes2_cons (fun wx hox=>?_) ?_
  ·refine withs_plain rfl ?_
   simp only [withs,List.getElem?_cons_zero,List.getElem?_cons_succ,Option.bind,Option.getD]
   with_reducible repeat refine all_isV ?_
   go_simp
   (exact⟨Only.refl _ _,isV.self _ _⟩)
  refine owes2_cons (fun wx hox=>?_) ?_
  ·have hg:=hid (HG.out.step hox)
   obtain⟨x35_0,x35_1,x35_2,x35_3,x35_4,x35_5⟩:=GB.c6 hg 8 rfl
   clear hg
   refine withs_guard rfl rfl ?_
   simp only [withs,List.getElem?_cons_zero,List.getElem?_cons_succ,Option.bind,Option.getD]
   with_reducible repeat refine all_isV ?_
   refine⟨by kernel_rfl,?_⟩
   go_simp
   (exact⟨Only.refl _ _,isV.self _ _⟩)
  refine owes2_cons (fun wx hox=>?_) ?_
  ·have hi:=hid (HI.out.step hox)
   have bv_la_ha:=(BV.of (x:=la) (y:=ha) (WL.at (z:=la.z) hi 7 rfl) (WL.at (z:=ha.z) hi 8 rfl))
   clear hi
   refine withs_guard rfl rfl ?_
   simp only [withs,List.getElem?_cons_zero,List.getElem?_cons_succ,Option.bind,Option.getD]
   with_reducible repeat refine all_isV ?_
   refine⟨by kernel_rfl,?_⟩
   go_simp
   (with_reducible exact grow_of (btop_b tx ty FF.HTX.out FF.HTY.out bv_la_ha FF.Bla FF.Bha (by omega)))
  refine owes2_cons (fun wx hox=>?_) ?_
  ·refine withs_guard rfl rfl ?_
   simp only [withs,List.getElem?_cons_zero,List.getElem?_cons_succ,Option.bind,Option.getD]
   with_reducible repeat refine all_isV ?_
   refine⟨by kernel_rfl,?_⟩
   go_simp
   (exact⟨Only.refl _ _,isV.self _ _⟩)
  refine owes2_cons (fun wx hox=>?_) ?_
  ·have hg:=hid (HG.out.step hox)
   obtain⟨x36_0,x36_1,x36_2,x36_3,x36_4,x36_5⟩:=GB.c6 hg 6 rfl
   clear hg
   refine withs_guard rfl rfl ?_
   simp only [withs,List.getElem?_cons_zero,List.getElem?_cons_succ,Option.bind,Option.getD]
   with_reducible repeat refine all_isV ?_
   refine⟨by kernel_rfl,?_⟩
   go_simp
   (exact⟨Only.refl _ _,isV.self _ _⟩)
  refine owes2_cons (fun wx hox=>?_) ?_
  ·have hr:=hid (HR.out.step hox)
   have rd_pla:=(RL.rd (x:=pla) hr 6 rfl)
   clear hr
   refine withs_guard rfl rfl ?_
   simp only [withs,List.getElem?_cons_zero,List.getElem?_cons_succ,Option.bind,Option.getD]
   with_reducible repeat refine all_isV ?_
   refine⟨by kernel_rfl,?_⟩
   go_simp
   (with_reducible exact grow_of (rtop_d (x:=pla) tx rd_pla FF.Bpla (by omega) FF.HPX.out))
  refine owes2_cons (fun wx hox=>?_) ?_
  ·refine withs_guard rfl rfl ?_
   simp only [withs,List.getElem?_cons_zero,List.getElem?_cons_succ,Option.bind,Option.getD]
   with_reducible repeat refine all_isV ?_
   refine⟨by kernel_rfl,?_⟩
   go_simp
   (exact⟨Only.refl _ _,isV.self _ _⟩)
  refine owes2_cons (fun wx hox=>?_) ?_
  ·have hg:=hid (HG.out.step hox)
   obtain⟨x37_0,x37_1,x37_2,x37_3,x37_4,x37_5⟩:=GB.c6 hg 6 rfl
   clear hg
   refine withs_guard rfl rfl ?_
   simp only [withs,List.getElem?_cons_zero,List.getElem?_cons_succ,Option.bind,Option.getD]
   with_reducible repeat refine all_isV ?_
   refine⟨by kernel_rfl,?_⟩
   go_simp
   (exact⟨Only.refl _ _,isV.self _ _⟩)
  refine owes2_cons (fun wx hox=>?_) ?_
  ·have hr:=hid (HR.out.step hox)
   have rd_pha:=(RL.rd (x:=pha) hr 7 rfl)
   clear hr
   refine withs_guard rfl rfl ?_
   simp only [withs,List.getElem?_cons_zero,List.getElem?_cons_succ,Option.bind,Option.getD]
   with_reducible repeat refine all_isV ?_
   refine⟨by kernel_rfl,?_⟩
   go_simp
   (with_reducible exact grow_of (rtop_d (x:=pha) ty rd_pha FF.Bpha (by omega) FF.HPY.out))
  refine owes2_cons (fun wx hox=>?_) ?_
  ·refine withs_guard rfl rfl ?_
   simp only [withs,List.getElem?_cons_zero,List.getElem?_cons_succ,Option.bind,Option.getD]
   with_reducible repeat refine all_isV ?_
   refine⟨by kernel_rfl,?_⟩
   go_simp
   (exact⟨Only.refl _ _,isV.self _ _⟩)
  refine owes2_cons (fun wx hox=>?_) ?_
  ·refine withs_guard rfl rfl ?_
   simp only [withs,List.getElem?_cons_zero,List.getElem?_cons_succ,Option.bind,Option.getD]
   with_reducible repeat refine all_isV ?_
   refine⟨by kernel_rfl,?_⟩
   go_simp
   (exact⟨Only.refl _ _,isV.self _ _⟩)
  refine owes2_cons (fun wx hox=>?_) ?_
  ·refine withs_plain rfl ?_
   simp only [withs,List.getElem?_cons_zero,List.getElem?_cons_succ,Option.bind,Option.getD]
   with_reducible repeat refine all_isV ?_
   go_simp
   (exact⟨Only.refl _ _,isV.self _ _⟩)
  refine owes2_cons (fun wx hox=>?_) ?_
  ·refine withs_plain rfl ?_
   simp only [withs,List.getElem?_cons_zero,List.getElem?_cons_succ,Option.bind,Option.getD]
   with_reducible repeat refine all_isV ?_
   go_simp
   (exact⟨Only.refl _ _,isV.self _ _⟩)
  refine owes2_cons (fun wx hox=>?_) ?_
  ·refine withs_guard rfl rfl ?_
   simp only [withs,List.getElem?_cons_zero,List.getElem?_cons_succ,Option.bind,Option.getD]
   with_reducible repeat refine all_isV ?_
   refine⟨by kernel_rfl,?_⟩
   go_simp
   (exact⟨Only.refl _ _,isV.self _ _⟩)
  refine owes2_cons (fun wx hox=>?_) ?_
  ·have hg:=hid (HG.out.step hox)
   obtain⟨x38_0,x38_1,x38_2,x38_3,x38_4,x38_5⟩:=GB.c6 hg 8 rfl
   clear hg
   refine withs_guard rfl rfl ?_
   simp only [withs,List.getElem?_cons_zero,List.getElem?_cons_succ,Option.bind,Option.getD]
   with_reducible repeat refine all_isV ?_
   refine⟨by kernel_rfl,?_⟩
   go_simp
   (exact⟨Only.refl _ _,isV.self _ _⟩)
  refine owes2_cons (fun wx hox=>?_) ?_
  ·have hg:=hid (HG.out.step hox)
   have hi:=hid (HI.out.step hox)
   have dv_la:=(WL.dv (x:=la) hi 7 rfl)
   have htx:=hid (hT.out.keep hg.out.only)
   clear hg hi
   refine withs_guard rfl rfl ?_
   simp only [withs,List.getElem?_cons_zero,List.getElem?_cons_succ,Option.bind,Option.getD]
   with_reducible repeat refine all_isV ?_
   refine⟨by kernel_rfl,?_⟩
   go_simp
   (with_reducible exact grow_b (atV_b pla FF.Hpla.out dv_la FF.Bla (by omega) htx))
  refine owes2_cons (fun wx hox=>?_) ?_
  ·refine withs_guard rfl rfl ?_
   simp only [withs,List.getElem?_cons_zero,List.getElem?_cons_succ,Option.bind,Option.getD]
   with_reducible repeat refine all_isV ?_
   refine⟨by kernel_rfl,?_⟩
   go_simp
   (exact⟨Only.refl _ _,isV.self _ _⟩)
  refine owes2_cons (fun wx hox=>?_) ?_
  ·have hg:=hid (HG.out.step hox)
   obtain⟨x39_0,x39_1,x39_2,x39_3,x39_4,x39_5⟩:=GB.c6 hg 6 rfl
   clear hg
   refine withs_guard rfl rfl ?_
   simp only [withs,List.getElem?_cons_zero,List.getElem?_cons_succ,Option.bind,Option.getD]
   with_reducible repeat refine all_isV ?_
   refine⟨by kernel_rfl,?_⟩
   go_simp
   (exact⟨Only.refl _ _,isV.self _ _⟩)
  refine owes2_cons (fun wx hox=>?_) ?_
  ·refine withs_guard rfl rfl ?_
   simp only [withs,List.getElem?_cons_zero,List.getElem?_cons_succ,Option.bind,Option.getD]
   with_reducible repeat refine all_isV ?_
   refine⟨by kernel_rfl,?_⟩
   go_simp
   (exact⟨Only.refl _ _,isV.self _ _⟩)
  refine owes2_cons (fun wx hox=>?_) ?_
  ·have hg:=hid (HG.out.step hox)
   obtain⟨x40_0,x40_1,x40_2,x40_3,x40_4,x40_5⟩:=GB.c6 hg 6 rfl
   clear hg
   refine withs_guard rfl rfl ?_
   simp only [withs,List.getElem?_cons_zero,List.getElem?_cons_succ,Option.bind,Option.getD]
   with_reducible repeat refine all_isV ?_
   refine⟨by kernel_rfl,?_⟩
   go_simp
   (exact⟨Only.refl _ _,isV.self _ _⟩)
  refine owes2_cons (fun wx hox=>?_) ?_
  ·have hr:=hid (HR.out.step hox)
   have rd_pla:=(RL.rd (x:=pla) hr 6 rfl)
   clear hr
   refine withs_guard rfl rfl ?_
   simp only [withs,List.getElem?_cons_zero,List.getElem?_cons_succ,Option.bind,Option.getD]
   with_reducible repeat refine all_isV ?_
   refine⟨by kernel_rfl,?_⟩
   go_simp
   (exact⟨Only.refl _ _,(RBV.mk rd_pla rd_pla).out⟩)
  refine owes2_cons (fun wx hox=>?_) ?_
  ·refine withs_guard rfl rfl ?_
   simp only [withs,List.getElem?_cons_zero,List.getElem?_cons_succ,Option.bind,Option.getD]
   with_reducible repeat first|refine all_isV ?_|(refine all_isRB ?_;intro sx Ax kx cx tx Bx mx dx hvx hwx)|(refine all_isB ?_;intro sx Ax kx cx tx Bx mx dx hvx hwx)
   refine⟨by kernel_rfl,?_⟩
   go_simp
   (with_reducible exact grow_of (alike_b (x:=pla) (y:=pla) (u:=pla) (v:=pla) FF.Hnpla.out FF.Hnpla.out (BV.of (by assumption) (by assumption)) (RBV.mk (by assumption) (by assumption)) FF.Cpla FF.Cpla FF.Bpla FF.Bpla FF.Bpla FF.Bpla (by omega)))
  refine owes2_cons (fun wx hox=>?_) ?_
  ·refine withs_plain rfl ?_
   simp only [withs,List.getElem?_cons_zero,List.getElem?_cons_succ,Option.bind,Option.getD]
   with_reducible repeat refine all_isV ?_
   go_simp
   (exact⟨Only.refl _ _,isV.self _ _⟩)
  refine owes2_cons (fun wx hox=>?_) ?_
  ·refine withs_plain rfl ?_
   simp only [withs,List.getElem?_cons_zero,List.getElem?_cons_succ,Option.bind,Option.getD]
   with_reducible repeat refine all_isV ?_
   go_simp
   (exact⟨Only.refl _ _,isV.self _ _⟩)
  refine owes2_cons (fun wx hox=>?_) ?_
  ·refine withs_guard rfl rfl ?_
   simp only [withs,List.getElem?_cons_zero,List.getElem?_cons_succ,Option.bind,Option.getD]
   with_reducible repeat refine all_isV ?_
   refine⟨by kernel_rfl,?_⟩
   go_simp
   (exact⟨Only.refl _ _,isV.self _ _⟩)
  refine owes2_cons (fun wx hox=>?_) ?_
  ·have hg:=hid (HG.out.step hox)
   obtain⟨x41_0,x41_1,x41_2,x41_3,x41_4,x41_5⟩:=GB.c6 hg 8 rfl
   clear hg
   refine withs_guard rfl rfl ?_
   simp only [withs,List.getElem?_cons_zero,List.getElem?_cons_succ,Option.bind,Option.getD]
   with_reducible repeat refine all_isV ?_
   refine⟨by kernel_rfl,?_⟩
   go_simp
   (exact⟨Only.refl _ _,isV.self _ _⟩)
  refine owes2_cons (fun wx hox=>?_) ?_
  ·refine withs_guard rfl rfl ?_
   simp only [withs,List.getElem?_cons_zero,List.getElem?_cons_succ,Option.bind,Option.getD]
   with_reducible repeat refine all_isV ?_
   refine⟨by kernel_rfl,?_⟩
   go_simp
   (exact⟨Only.refl _ _,isV.self _ _⟩)
  refine owes2_cons (fun wx hox=>?_) ?_
  ·have hg:=hid (HG.out.step hox)
   obtain⟨x42_0,x42_1,x42_2,x42_3,x42_4,x42_5⟩:=GB.c6 hg 8 rfl
   clear hg
   refine withs_guard rfl rfl ?_
   simp only [withs,List.getElem?_cons_zero,List.getElem?_cons_succ,Option.bind,Option.getD]
   with_reducible repeat refine all_isV ?_
   refine⟨by kernel_rfl,?_⟩
   go_simp
   (exact⟨Only.refl _ _,isV.self _ _⟩)
  refine owes2_cons (fun wx hox=>?_) ?_
  ·have hg:=hid (HG.out.step hox)
   have hi:=hid (HI.out.step hox)
   have dv_ha:=(WL.dv (x:=ha) hi 8 rfl)
   have dv_la:=(WL.dv (x:=la) hi 7 rfl)
   have htx:=hid (hT.out.keep hg.out.only)
   clear hg hi
   refine withs_guard rfl rfl ?_
   simp only [withs,List.getElem?_cons_zero,List.getElem?_cons_succ,Option.bind,Option.getD]
   with_reducible repeat refine all_isV ?_
   refine⟨by kernel_rfl,?_⟩
   go_simp
   (with_reducible exact grow_b (between_b (x:=ha) (y:=la) cb pla pha FF.HCB.out FF.HB1.out (by simpa [Int.not_lt] using FF.HB2.out) dv_ha dv_la FF.Bha FF.Bla (by omega) htx))
  refine owes2_cons (fun wx hox=>?_) ?_
  ·have hg:=hid (HG.out.step hox)
   obtain⟨x43_0,x43_1,x43_2,x43_3,x43_4,x43_5⟩:=GB.c6 hg 6 rfl
   clear hg
   refine withs_guard rfl rfl ?_
   simp only [withs,List.getElem?_cons_zero,List.getElem?_cons_succ,Option.bind,Option.getD]
   with_reducible repeat refine all_isV ?_
   refine⟨by kernel_rfl,?_⟩
   go_simp
   (exact⟨Only.refl _ _,isV.self _ _⟩)
  refine owes2_cons (fun wx hox=>?_) ?_
  ·have hr:=hid (HR.out.step hox)
   have rd_pha:=(RL.rd (x:=pha) hr 7 rfl)
   have rd_pla:=(RL.rd (x:=pla) hr 6 rfl)
   clear hr
   refine withs_guard rfl rfl ?_
   simp only [withs,List.getElem?_cons_zero,List.getElem?_cons_succ,Option.bind,Option.getD]
   with_reducible repeat first|refine all_isV ?_|(refine all_isB ?_;intro sx Ax kx cx tx Bx mx dx hvx hwx)
   refine⟨by kernel_rfl,?_⟩
   go_simp
   (with_reducible exact grow_of (alike_b (x:=pla) (y:=pha) (u:=pla) (v:=pha) FF.Hnpla.out FF.Hnpha.out (BV.of (by assumption) (by assumption)) (RBV.mk rd_pla rd_pha) FF.Cpla FF.Cpha FF.Bpla FF.Bpha FF.Bpla FF.Bpha (by omega)))
  refine owes2_cons (fun wx hox=>?_) ?_
  ·refine withs_plain rfl ?_
   simp only [withs,List.getElem?_cons_zero,List.getElem?_cons_succ,Option.bind,Option.getD]
   with_reducible repeat refine all_isV ?_
   go_simp
   (exact⟨Only.refl _ _,isV.self _ _⟩)
  refine owes2_cons (fun wx hox=>?_) ?_
  ·refine withs_plain rfl ?_
   simp only [withs,List.getElem?_cons_zero,List.getElem?_cons_succ,Option.bind,Option.getD]
   with_reducible repeat refine all_isV ?_
   go_simp
   (exact⟨Only.refl _ _,isV.self _ _⟩)
  exact owes2_nil
 case hlz=>
  repeat (refine List.forall_mem_cons.2 ⟨?_,?_⟩;first|exact isV.lasts _|exact isRD.lasts _|exact isRB.lasts _ _|exact isBC.lasts _ _|exact isB.lasts _ _)
  exact fun _ h=>(by cases h)
 intro wx hox
 refine he_last 92 6 (.bool true) rfl (by kernel_rfl) (by kernel_rfl) (fun a' hde hsz=>?_)
 have hsz2:6<a'.tmps.size:=by rw [hsz];exact (by decide:6<250)
 replace HG:=hid (HG.out.step hox)
 replace HI:=hid (HI.out.step hox)
 replace HR:=hid (HR.out.step hox)
 clear hox
 go_wp2_with fail
 refine bodyPost_ret (v:= .bool true) (by simp [results,Tryz.results3,go_sem,hsz2]) rfl ⟨rfl,HG.out.only⟩
theorem btel_in (nb1 nb2 nb3 nb4 nb5:Bool) (nP1 nP2 nP3 nP4 nP5:Option Addr) (L1 L2 L3 L4 L5:List Nat) (nr1 nr2 nr3 nr4 nr5:Nat) (x1 x2 x3 x4 x5 la ha lb hb pla pha plb phb ql qh tl th ry AAl AAh ASl ASh AMl AMh ual uah usl ush me0 me1 me2 me3 nh nl rnh rnl:Dy) (p cm1 cm2 sgb sgx sgy cpa cpb tx ty cb:Int) (okq okt okg hs:Bool) (w:World) (N M:Nat) (hN:N≤25000) (hM:M≤900000) (hp: ¬300<p)
  (HZ1:Hid (sg nb1 (val L1)=x1.z)) (H1:Hid (LimbsIn w nP1 L1)) (hl1:(L1.length:Int)≤40) (he1: -3000≤x1.e∧x1.e≤3000) (BX1:Hid (Bnd N x1)) (HZ2:Hid (sg nb2 (val L2)=x2.z)) (H2:Hid (LimbsIn w nP2 L2)) (hl2:(L2.length:Int)≤40) (he2: -3000≤x2.e∧x2.e≤3000) (BX2:Hid (Bnd N x2)) (HZ3:Hid (sg nb3 (val L3)=x3.z)) (H3:Hid (LimbsIn w nP3 L3)) (hl3:(L3.length:Int)≤40) (he3: -3000≤x3.e∧x3.e≤3000) (BX3:Hid (Bnd N x3)) (HZ4:Hid (sg nb4 (val L4)=x4.z)) (H4:Hid (LimbsIn w nP4 L4)) (hl4:(L4.length:Int)≤40) (he4: -3000≤x4.e∧x4.e≤3000) (BX4:Hid (Bnd N x4)) (HZ5:Hid (sg nb5 (val L5)=x5.z)) (H5:Hid (LimbsIn w nP5 L5)) (hl5:(L5.length:Int)≤40) (he5: -3000≤x5.e∧x5.e≤3000) (BX5:Hid (Bnd N x5))
  (Hcm1:Hid (cmpQ x1.q x2.q=cm1)) (Hcm1L:Hid ((0<cm1→x2=la∧x1=ha)∧(¬ 0<cm1→x1=la∧x2=ha))) (Hcm2:Hid (cmpQ x3.q x4.q=cm2)) (Hcm2L:Hid ((0<cm2→x4=lb∧x3=hb)∧(¬ 0<cm2→x3=lb∧x4=hb)))
  (Bla:Hid (Bnd N la)) (Hpla:Hid (nrm la.z la.e=pla)) (Cpla:Hid (Can pla)) (Bpla:Hid (Bnd N pla)) (Bha:Hid (Bnd N ha)) (Hpha:Hid (nrm ha.z ha.e=pha)) (Cpha:Hid (Can pha)) (Bpha:Hid (Bnd N pha)) (Blb:Hid (Bnd N lb)) (Hplb:Hid (nrm lb.z lb.e=plb)) (Cplb:Hid (Can plb)) (Bplb:Hid (Bnd N plb)) (Bhb:Hid (Bnd N hb)) (Hphb:Hid (nrm hb.z hb.e=phb)) (Cphb:Hid (Can phb)) (Bphb:Hid (Bnd N phb))
  (HNQ:Hid (okq=false→(lb.z.sign=hb.z.sign→lb.z.sign=0)∧ql=⟨0,0⟩∧qh=⟨0,0⟩)) (HYQ:Hid (okq=true→lb.z.sign=hb.z.sign∧lb.z≠0∧qLo (widthP p) la ha lb hb=ql∧qHi (widthP p) la ha lb hb=qh))
  (HNP:Hid (okq=false→plb.z.sign≤0∧0≤phb.z.sign∧ql=⟨0,0⟩∧qh=⟨0,0⟩)) (HYP:Hid (okq=true→(0<plb.z.sign∨(plb.z.sign≤0∧phb.z.sign<0))∧plb.z≠0∧phb.z≠0∧qLo (widthP p) pla pha plb phb=ql∧qHi (widthP p) pla pha plb phb=qh))
  (HNS:Hid (okt=false→ha.z<0∧tl=⟨0,0⟩∧th=⟨0,0⟩)) (HYS:Hid (okt=true→0≤ha.z∧sqrtQ (widthP p) false (if la.z<0 then ⟨0,0⟩ else la)=tl∧sqrtQ (widthP p) true ha=th)) (HNT:Hid (okt=false→pha.z<0∧tl=⟨0,0⟩∧th=⟨0,0⟩)) (HYT:Hid (okt=true→0≤pha.z∧sqrtQ (widthP p) false (if pla.z<0 then ⟨0,0⟩ else pla)=tl∧sqrtQ (widthP p) true pha=th))
  (HCQ:Hid (okq=true→Hid (Can ql)∧Hid (Can qh))) (HCT:Hid (okt=true→Hid (Can tl)∧Hid (Can th))) (Bql:Hid (Bnd M ql)) (Bqh:Hid (Bnd M qh)) (Btl:Hid (Bnd M tl)) (Bth:Hid (Bnd M th))
  (HSG:Hid ((if la.z.sign=ha.z.sign then la.z.sign else 0)=sgb)) (HOG:Hid (decide (la.z.sign=ha.z.sign)=okg)) (HSX:Hid (pla.z.sign=sgx)) (HSY:Hid (pha.z.sign=sgy)) (HCS:Hid ((0<sgx∧sgb=1∧okg=true)∨(¬ 0<sgx∧sgy<0∧sgb= -1∧okg=true)∨(¬ 0<sgx∧ ¬sgy<0∧sgb=0∧((sgx=0∧sgy=0∧okg=true)∨(sgx≠0∧okg=false)∨(sgx=0∧sgy≠0∧okg=false)))))
  (HRYV:Hid (nrm x5.z x5.e=ry)) (Cry:Hid (Can ry)) (Bry:Hid (Bnd N ry)) (HC1:Hid (cmpQ ry.q pla.q=cpa)) (HC2:Hid (cmpQ ry.q pha.q=cpb)) (HG1:Hid ((decide (0≤cpa)=false∧hs=false)∨(decide (0≤cpa)=true∧hs=decide (cpb≤0)))) (HHS:Hid (hs=(decide (0≤cpa) && decide (cpb≤0)))) (HHAS:Hid ((decide (la.q≤x5.q) && decide (x5.q≤ha.q))=hs))
  (HAAl:Hid (rndD (widthP p) false (dAdd la lb)=AAl)) (HAAh:Hid (rndD (widthP p) true (dAdd ha hb)=AAh)) (Hual:Hid (dAdd pla plb=ual)) (Huah:Hid (dAdd pha phb=uah)) (HRAl:Hid (rndD (widthP p) false ual=AAl)) (HRAh:Hid (rndD (widthP p) true uah=AAh))
  (HASl:Hid (rndD (widthP p) false (dSub la hb)=ASl)) (HASh:Hid (rndD (widthP p) true (dSub ha lb)=ASh)) (Husl:Hid (dSub pla phb=usl)) (Hush:Hid (dSub pha plb=ush)) (HRSl:Hid (rndD (widthP p) false usl=ASl)) (HRSh:Hid (rndD (widthP p) true ush=ASh))
  (HAMl:Hid (rndD (widthP p) false (mulLo la ha lb hb)=AMl)) (HAMh:Hid (rndD (widthP p) true (mulHi la ha lb hb)=AMh)) (HRMl:Hid (rndD (widthP p) false (minD (minD (minD me0 me1) me2) me3)=AMl)) (HRMh:Hid (rndD (widthP p) true (maxD (maxD (maxD me0 me1) me2) me3)=AMh))
  (Hme0:Hid (dMul pla plb=me0)) (Cme0:Hid (Can me0)) (Bme0:Hid (Bnd M me0)) (Hme1:Hid (dMul pla phb=me1)) (Cme1:Hid (Can me1)) (Bme1:Hid (Bnd M me1)) (Hme2:Hid (dMul pha plb=me2)) (Cme2:Hid (Can me2)) (Bme2:Hid (Bnd M me2)) (Hme3:Hid (dMul pha phb=me3)) (Cme3:Hid (Can me3)) (Bme3:Hid (Bnd M me3))
  (Bual:Hid (Bnd M ual)) (Buah:Hid (Bnd M uah)) (Busl:Hid (Bnd M usl)) (Bush:Hid (Bnd M ush)) (CAAl:Hid (Can AAl)) (BAAl:Hid (Bnd M AAl)) (CAAh:Hid (Can AAh)) (BAAh:Hid (Bnd M AAh)) (CASl:Hid (Can ASl)) (BASl:Hid (Bnd M ASl)) (CASh:Hid (Can ASh)) (BASh:Hid (Bnd M ASh)) (CAMl:Hid (Can AMl)) (BAMl:Hid (Bnd M AMl)) (CAMh:Hid (Can AMh)) (BAMh:Hid (Bnd M AMh))
  (Hnh:Hid (dNot ha=nh)) (Hnl:Hid (dNot la=nl)) (Hrnh:Hid (dNot pha=rnh)) (Hrnl:Hid (dNot pla=rnl)) (Hnnh:Hid (nrm nh.z nh.e=rnh)) (Hnnl:Hid (nrm nl.z nl.e=rnl)) (Bnh:Hid (Bnd M nh)) (Bnl:Hid (Bnd M nl)) (Brnh:Hid (Bnd M rnh)) (Brnl:Hid (Bnd M rnl)) (Crnh:Hid (Can rnh)) (Crnl:Hid (Can rnl))
  (HTX:Hid (topD la=tx)) (HTY:Hid (topD ha=ty)) (HPX:Hid (topD pla=tx)) (HPY:Hid (topD pha=ty)) (Hnpla:Hid (nrm pla.z pla.e=pla)) (Hnpha:Hid (nrm pha.z pha.e=pha))
  (HCB:Hid (cmpQ ha.q la.q=cb)) (HB1:Hid (0<cb→nrm la.z la.e=pla∧nrm ha.z ha.e=pha)) (HB2:Hid (¬ 0<cb→nrm ha.z ha.e=pla∧nrm la.z la.e=pha)) (hT:Hid (Tab6 w)):
  Calls Tryz.prog 3 #[.agg #[.bool nb1,.slice nP1 L1.length nr1,.int .i64 x1.e,.bool nb2,.slice nP2 L2.length nr2,.int .i64 x2.e,.bool nb3,.slice nP3 L3.length nr3,.int .i64 x3.e,.bool nb4,.slice nP4 L4.length nr4,.int .i64 x4.e],.agg #[.bool nb5,.slice nP5 L5.length nr5,.int .i64 x5.e],.int .i64 p] w fun e w'=>e= .returned (.bool true)∧Only [] w w':=
 btel_inF nb1 nb2 nb3 nb4 nb5 nP1 nP2 nP3 nP4 nP5 L1 L2 L3 L4 L5 nr1 nr2 nr3 nr4 nr5 x1 x2 x3 x4 x5 la ha lb hb pla pha plb phb ql qh tl th ry AAl AAh ASl ASh AMl AMh ual uah usl ush me0 me1 me2 me3 nh nl rnh rnl p cm1 cm2 sgb sgx sgy cpa cpb tx ty cb okq okt okg hs w N M hN hM hp H1 hl1 he1 H2 hl2 he2 H3 hl3 he3 H4 hl4 he4 H5 hl5 he5 hT ⟨HZ1,BX1,HZ2,BX2,HZ3,BX3,HZ4,BX4,HZ5,BX5,Hcm1,Hcm1L,Hcm2,Hcm2L,Bla,Hpla,Cpla,Bpla,Bha,Hpha,Cpha,Bpha,Blb,Hplb,Cplb,Bplb,Bhb,Hphb,Cphb,Bphb,HNQ,HYQ,HNP,HYP,HNS,HYS,HNT,HYT,HCQ,HCT,Bql,Bqh,Btl,Bth,HSG,HOG,HSX,HSY,HCS,HRYV,Cry,Bry,HC1,HC2,HG1,HHS,HHAS,HAAl,HAAh,Hual,Huah,HRAl,HRAh,HASl,HASh,Husl,Hush,HRSl,HRSh,HAMl,HAMh,HRMl,HRMh,Hme0,Cme0,Bme0,Hme1,Cme1,Bme1,Hme2,Cme2,Bme2,Hme3,Cme3,Bme3,Bual,Buah,Busl,Bush,CAAl,BAAl,CAAh,BAAh,CASl,BASl,CASh,BASh,CAMl,BAMl,CAMh,BAMh,Hnh,Hnl,Hrnh,Hrnl,Hnnh,Hnnl,Bnh,Bnl,Brnh,Brnl,Crnh,Crnl,HTX,HTY,HPX,HPY,Hnpla,Hnpha,HCB,HB1,HB2⟩
end Go.Proofs.YtigpnopeacicpaaGreatDoor
