import Derived.Test.YtigpnopeacicpaaGreatDoorTcDyE
import Derived.Test.YtigpnopeacicpaaGreatDoorTcGDyP
namespace Go.Proofs.YtigpnopeacicpaaGreatDoor
open Go.Lib (hid)
set_option linter.unusedSimpArgs false
open Go.RowKit
set_option maxHeartbeats 1600000 in
set_option maxRecDepth 100000 in
theorem add_d {w:World} {a b:Value} {x y:Dy} {N:Nat} (ha:Hid (DV w a x)) (hb:Hid (DV w b y)) (hx:Hid (Bnd N x)) (hy:Hid (Bnd N y)) (hN:N≤2000000) (hT:Hid (Tab6 w)):Calls Tryz.prog 60 #[a,b] w (DPost (dAdd x y) w):=by
 obtain⟨s,A,k,c,rfl,hv⟩:=ha.out.form
 obtain⟨t,B,l,d,rfl,hv'⟩:=hb.out.form
 have hk:=(((KB.start w).new 32 [.bool s,.slice A k c,.int .i64 x.e]).new 32 [.bool t,.slice B l d,.int .i64 y.e]).new 32 [.bool false,.slice none 0 0,.int .i64 0]
 simp only [World.size_alloc] at hk
 have HX:=hid (hv.only hk.only)
 have HY:=hid (hv'.only hk.only)
 have HT:=hid (hT.out.keep hk.only)
 have HK:=hid hk
 clear hk hv hv' ha hb hT
 have hxe:=lim_i64 hx.out (by omega)
 have hye:=lim_i64 hy.out (by omega)
 have HBX:Hid (bitsN x.z.natAbs≤16777216):=bits_few hx.out.z (by omega)
 have HBY:Hid (bitsN y.z.natAbs≤16777216):=bits_few hy.out.z (by omega)
 by_cases hx0:x.z=0
 ·rw [dAdd_x0 hx0]
  have HP:Hid (x.z.sign=0):=by show _=_;rw [hx0];rfl
  clear hx0
  go_enter Tryz.func60,Tryz.ntmps60
  go_wp2_with fail
  (with_reducible refine (signV_d 0 (DV.of HX) HP.out).mono ?_)
  rintro e2 w2 ⟨rfl,ho⟩
  replace HK:=hid (HK.out.step ho)
  replace HX:=hid (HX.out.only ho)
  replace HY:=hid (HY.out.only ho)
  replace HT:=hid (HT.out.keep ho)
  obtain⟨a0,a1,a2,-,-,-⟩:=HK.out.c3 2 rfl
  obtain⟨b0,b1,b2,-,-,-⟩:=HK.out.c3 1 rfl
  clear ho
  go_wp2_with fail
  (with_reducible refine (make_d HY HBY (by omega) (by omega) HT).mono ?_)
  rintro e3 w3 ⟨s3,A3,k3,c3,rfl,hs3,hk3,hv3,ho⟩
  replace HK:=hid (HK.out.step ho)
  have HC:Hid (Cn s3 k3 (nrm y.z y.e).z):=⟨hs3,hk3⟩
  have HV:=hid hv3
  obtain⟨c0,c1',c2,f0,f1,f2⟩:=HK.out.c3 0 rfl
  clear ho hs3 hk3 hv3 HX HY a0 a1 a2 b0 b1 b2
  generalize nrm y.z y.e=r at*
  go_wp2_with fail
  refine bodyPost_ret (v:= .agg #[.bool s3,.slice A3 k3 c3,.int .i64 (r.e)]) (by simp [results,Tryz.results60,go_sem,c0,c1',c2]) rfl ?_
  exact dfin HC HV (by omega) (HK.out.blk 0 rfl) (noLimb3 _ _ _ _ _) HK.out.only (only_set3 _ _ _ _ _)
 obtain⟨p,hp⟩: ∃p,x.z.sign=p:=⟨_,rfl⟩
 have hp0:(p == 0)=false:=by rw [beq_eq_false_iff_ne];intro hc;subst hc;exact hx0 (Int.sign_eq_zero_iff_zero.1 hp)
 have HP:=hid hp
 clear hp
 by_cases hy0:y.z=0
 ·rw [dAdd_y0 hx0 hy0]
  have HQ:Hid (y.z.sign=0):=by show _=_;rw [hy0];rfl
  clear hx0 hy0
  go_enter Tryz.func60,Tryz.ntmps60
  go_wp2_with fail
  (with_reducible refine (signV_d p (DV.of HX) HP.out).mono ?_)
  rintro e2 w2 ⟨rfl,ho⟩
  replace HK:=hid (HK.out.step ho)
  replace HX:=hid (HX.out.only ho)
  replace HY:=hid (HY.out.only ho)
  replace HT:=hid (HT.out.keep ho)
  obtain⟨a0,a1,a2,-,-,-⟩:=HK.out.c3 2 rfl
  obtain⟨b0,b1,b2,-,-,-⟩:=HK.out.c3 1 rfl
  clear ho
  go_wp2_with fail
  clear a0 a1 a2 b0 b1 b2
  (with_reducible refine (signV_d 0 (DV.of HY) HQ.out).mono ?_)
  rintro e2 w2 ⟨rfl,ho⟩
  replace HK:=hid (HK.out.step ho)
  replace HX:=hid (HX.out.only ho)
  replace HY:=hid (HY.out.only ho)
  replace HT:=hid (HT.out.keep ho)
  obtain⟨a0,a1,a2,-,-,-⟩:=HK.out.c3 2 rfl
  obtain⟨b0,b1,b2,-,-,-⟩:=HK.out.c3 1 rfl
  clear ho
  go_wp2_with fail
  (with_reducible refine (make_d HX HBX (by omega) (by omega) HT).mono ?_)
  rintro e3 w3 ⟨s3,A3,k3,c3,rfl,hs3,hk3,hv3,ho⟩
  replace HK:=hid (HK.out.step ho)
  have HC:Hid (Cn s3 k3 (nrm x.z x.e).z):=⟨hs3,hk3⟩
  have HV:=hid hv3
  obtain⟨c0,c1',c2,f0,f1,f2⟩:=HK.out.c3 0 rfl
  clear ho hs3 hk3 hv3 HX HY a0 a1 a2 b0 b1 b2
  generalize nrm x.z x.e=r at*
  go_wp2_with fail
  refine bodyPost_ret (v:= .agg #[.bool s3,.slice A3 k3 c3,.int .i64 (r.e)]) (by simp [results,Tryz.results60,go_sem,c0,c1',c2]) rfl ?_
  exact dfin HC HV (by omega) (HK.out.blk 0 rfl) (noLimb3 _ _ _ _ _) HK.out.only (only_set3 _ _ _ _ _)
 ·rw [dAdd_al hx0 hy0]
  obtain⟨q,hq⟩: ∃p,y.z.sign=p:=⟨_,rfl⟩
  have hq0:(q == 0)=false:=by rw [beq_eq_false_iff_ne];intro hc;subst hc;exact hy0 (Int.sign_eq_zero_iff_zero.1 hq)
  have HQ:=hid hq
  have hal:=abs_add_lt (hx.out.alX hy.out) (hx.out.alY hy.out)
  have HB:Hid (bitsN (alX x y+alY x y).natAbs≤16777216):=bits_few hal (by omega)
  have HF:Hid (Few (alX x y+alY x y).natAbs):=few_two_pow hal (by omega)
  obtain⟨m,hm⟩: ∃m,min x.e y.e=m:=⟨_,rfl⟩
  have hmr: -8000000≤m∧m≤8000000:=by omega
  have HM:=hid hm
  rw [hm]
  clear hx0 hy0 hq hal hm
  go_enter Tryz.func60,Tryz.ntmps60
  go_wp2_with fail
  (with_reducible refine (signV_d p (DV.of HX) HP.out).mono ?_)
  rintro e2 w2 ⟨rfl,ho⟩
  replace HK:=hid (HK.out.step ho)
  replace HX:=hid (HX.out.only ho)
  replace HY:=hid (HY.out.only ho)
  replace HT:=hid (HT.out.keep ho)
  obtain⟨a0,a1,a2,-,-,-⟩:=HK.out.c3 2 rfl
  obtain⟨b0,b1,b2,-,-,-⟩:=HK.out.c3 1 rfl
  clear ho
  go_wp2_with fail
  clear a0 a1 a2 b0 b1 b2
  (with_reducible refine (signV_d q (DV.of HY) HQ.out).mono ?_)
  rintro e2 w2 ⟨rfl,ho⟩
  replace HK:=hid (HK.out.step ho)
  replace HX:=hid (HX.out.only ho)
  replace HY:=hid (HY.out.only ho)
  replace HT:=hid (HT.out.keep ho)
  obtain⟨a0,a1,a2,-,-,-⟩:=HK.out.c3 2 rfl
  obtain⟨b0,b1,b2,-,-,-⟩:=HK.out.c3 1 rfl
  clear ho
  go_wp2_with fail
  clear a0 a1 a2 b0 b1 b2
  (with_reducible refine (align_d (DV.of HX) (DV.of HY) hx hy hN).mono ?_)
  rintro e5 w5 ⟨s1,A1,k1,c1,t1,B1,l1,d1,rfl,hv1,hv2,ho⟩
  rw [HM.out]
  have ho':Only [] w5 (((w5.alloc (.cells #[.bool s1,.slice A1 k1 c1] 30)).alloc (.cells #[.bool t1,.slice B1 l1 d1] 30)).alloc (.cells #[.bool t1,.slice B1 l1 d1] 30)):=(((Only.refl [] _).alloc _).alloc _).alloc _
  have HV1:=hid (hv1.only ho')
  have HV2:=hid (hv2.only ho')
  replace HK:=hid ((HK.out.step ho).step ho')
  replace HT:=hid ((HT.out.keep ho).keep ho')
  have hrow:=(Blk.new ((w5.alloc (.cells #[.bool s1,.slice A1 k1 c1] 30)).alloc (.cells #[.bool t1,.slice B1 l1 d1] 30)) 30 [.bool t1,.slice B1 l1 d1])
  simp only [World.size_alloc] at hrow
  have HR:=hid hrow
  clear hv1 hv2 ho ho' HX HY hrow
  go_wp2_with fail
  (with_reducible refine (add1_w HR HV1 HV2 HF).mono ?_)
  rintro e6 w6 ⟨s6,A6,k6,c6,rfl,-,-,hv6,ho⟩
  replace HK:=hid (HK.out.step ho)
  replace HT:=hid (HT.out.keep ho)
  have HV6:=hid hv6
  clear hv6 ho HR HV1 HV2
  go_wp2_with fail
  (with_reducible refine (make_d HV6 HB (by omega) (by omega) HT).mono ?_)
  rintro e7 w7 ⟨s3,A3,k3,c3,rfl,hs3,hk3,hv3,ho⟩
  replace HK:=hid (HK.out.step ho)
  have HC:Hid (Cn s3 k3 (nrm (alX x y+alY x y) m).z):=⟨hs3,hk3⟩
  have HV:=hid hv3
  obtain⟨c0,c1',c2,f0,f1,f2⟩:=HK.out.c3 0 rfl
  clear ho hs3 hk3 hv3 HT HV6 HF HB
  generalize nrm (alX x y+alY x y) m=r at*
  go_wp2_with fail
  refine bodyPost_ret (v:= .agg #[.bool s3,.slice A3 k3 c3,.int .i64 (r.e)]) (by simp [results,Tryz.results60,go_sem,c0,c1',c2]) rfl ?_
  exact dfin HC HV (by omega) (HK.out.blk 0 rfl) (noLimb3 _ _ _ _ _) HK.out.only (only_set3 _ _ _ _ _)
set_option maxHeartbeats 1600000 in
set_option maxRecDepth 100000 in
theorem sub_d {w:World} {a b:Value} {x y:Dy} {N:Nat} (ha:Hid (DV w a x)) (hb:Hid (DV w b y)) (hx:Hid (Bnd N x)) (hy:Hid (Bnd N y)) (hN:N≤1000000) (hT:Hid (Tab6 w)):Calls Tryz.prog 64 #[a,b] w (DPost (dSub x y) w):=by
 unfold dSub
 obtain⟨s,A,k,c,rfl,hv⟩:=ha.out.form
 obtain⟨t,B,l,d,rfl,hv'⟩:=hb.out.form
 have hk:=(((KB.start w).new 32 [.bool s,.slice A k c,.int .i64 x.e]).new 32 [.bool t,.slice B l d,.int .i64 y.e]).new 32 [.bool false,.slice none 0 0,.int .i64 0]
 simp only [World.size_alloc] at hk
 have HX:=hid (hv.only hk.only)
 have HY:=hid (hv'.only hk.only)
 have HT:=hid (hT.out.keep hk.only)
 have HK:=hid hk
 clear hk hv hv' ha hb hT
 have HX2:Hid (Bnd (2*N) x):=hx.out.mono (by omega)
 have HY2:Hid (Bnd (2*N) (dNot y)):=hy.out.not (Nat.le_refl _)
 go_enter Tryz.func64,Tryz.ntmps64
 go_wp2_with fail
 generalize ((w.alloc (.cells #[.bool s,.slice A k c,.int .i64 x.e] 32)).alloc (.cells #[.bool t,.slice B l d,.int .i64 y.e] 32)).alloc (.cells #[.bool false,.slice none 0 0,.int .i64 0] 32)=w1 at*
 apply wp_region_typed_tail2 4 (by kernel_rfl) [isV _,isV _,isD (dNot y),isD (dAdd x (dNot y))] [[],[],[1],[0,2]] (by kernel_rfl) (by kernel_rfl) (by kernel_rfl)
 case ho=>
  simp only [List.take_succ_cons,List.take_zero]
  iterate 4
   refine owes2_cons (fun wx hox=>?_) ?_
   ·skip
    have hk:=HK.out.step hox
    obtain⟨a0,a1,a2,-,-,-⟩:=hk.c3 2 rfl
    obtain⟨b0,b1,b2,-,-,-⟩:=hk.c3 1 rfl
    have ivx:=hid (HX.out.only hox)
    have ivy:=hid (HY.out.only hox)
    have htx:=hid (HT.out.keep hox)
    clear hk
    refine withs_plain rfl ?_
    simp only [withs,List.getElem?_cons_zero,List.getElem?_cons_succ,Option.bind,Option.getD]
    with_reducible repeat first|refine all_isV ?_|(refine all_isD ?_;intro sx Ax kx cx hvx hwx)
    go_simp
    first
    |exact⟨Only.refl _ _,isV.self _ _⟩
    |with_reducible exact grow_d (not_d (DV.of ivy) hy (by omega) htx)
    |with_reducible exact grow_d (add_d (DV.of ivx) (DV.of (by assumption)) HX2 HY2 (by omega) htx)
  exact owes2_nil
 case he=>
  simp only [List.drop_succ_cons,List.drop_zero]
  intro wx hox
  refine withs_of (by simp only [List.length,List.range,List.range.loop];exact rfl) ?_
  simp only [withs,List.getElem?_cons_zero,List.getElem?_cons_succ,Option.bind,Option.getD]
  repeat (first|(with_reducible refine all_isV ?_)|(with_reducible refine all_isD ?_;intro sx Ax kx cx hvx hwx))
  go_simp
  have hk:=HK.out.step hox
  obtain⟨c0,c1',c2,f0,f1,f2⟩:=hk.c3 0 rfl
  replace hk:=hid hk
  clear hox
  go_wp2_with fail
  refine bodyPost_ret (v:= .agg #[.bool sx,.slice Ax kx cx,.int .i64 ((dAdd x (dNot y)).e)]) (by simp [results,Tryz.results64,go_sem,c0,c1',c2]) rfl ?_
  exact dfin (x:=dAdd x (dNot y)) (by assumption) (by assumption) (by omega) (hk.out.blk 0 rfl) (noLimb3 _ _ _ _ _) hk.out.only (only_set3 _ _ _ _ _)
 case hl=>
  repeat (refine List.forall_mem_cons.2 ⟨?_,?_⟩;first|exact isV.lasts _|exact isD.lasts _)
  exact fun _ h=>(by cases h)
theorem KB.set3 {w0 w:World} {L:List EB} (h:KB w0 w L) (i:Nat) {g:Nat} {t:TypeId} {a b c u v x:Value} (hi:L[i]? =some ⟨g,t,[a,b,c]⟩) (hne: ∀(j:Nat) (y:EB),L[j]? =some y→j≠i→y.g≠g) (hg:w0.heap.size≤g):
  KB w0 (((w.setCell ⟨g,0,none⟩ u).setCell ⟨g,1,none⟩ v).setCell ⟨g,2,none⟩ x) (L.set i ⟨g,t,[u,v,x]⟩):=
 ⟨h.only.trans (only_set3 w g u v x) (fun k hk=> .inr (by simp at hk;omega)),fun j y hj=>by
  by_cases hij:i=j
  ·subst hij
   rw [List.getElem?_set_self (by have:=List.getElem?_eq_some_iff.1 hi;exact this.1)] at hj
   obtain rfl:=(Option.some.inj hj).symm
   exact (((h.all i _ hi).set_ 0 u).set_ 1 v).set_ 2 x
  ·rw [List.getElem?_set_ne hij] at hj
   exact (h.all j y hj).only (only_set3 w g u v x) (by simp;exact hne j y hj (Ne.symm hij))⟩
set_option maxHeartbeats 800000 in
theorem width_any (p:Int) (w:World):Calls Tryz.prog 82 #[.int .i64 p] w fun e w'=>e= .returned (.int .i64 (widthP p:Int))∧w=w':=by
 have h:(widthP p:Int)=max 1 (min p 65536):=by unfold widthP;omega
 rw [h]
 clear h
 go_enter Tryz.func82,Tryz.ntmps82
 go_wp2
 go_ret
 exact⟨rfl,rfl⟩
set_option maxHeartbeats 800000 in
theorem outward_any (neg:Bool) (dir:Int) (w:World):Calls Tryz.prog 105 #[.bool neg,.int .i64 dir] w fun e w'=>e= .returned (.bool (neg != decide (0≤dir)))∧w=w':=by
 by_cases h:0≤dir
 ·have hd:decide (0≤dir)=true:=decide_eq_true h
  cases neg
  all_goals
   go_enter Tryz.func105,Tryz.ntmps105
   go_wp2
   go_ret
   exact⟨by simp [hd,h],rfl⟩
 ·have hd:decide (0≤dir)=false:=decide_eq_false h
  cases neg
  all_goals
   go_enter Tryz.func105,Tryz.ntmps105
   go_wp2
   go_ret
   exact⟨by simp [hd,h],rfl⟩
set_option maxHeartbeats 1600000 in
set_option maxRecDepth 100000 in
theorem round_d {w:World} {a:Value} {x:Dy} {N:Nat} (p dir:Int) (ha:Hid (DV w a x)) (hx:Hid (Bnd N x)) (hN:N≤1000000) (hT:Hid (Tab6 w)):Calls Tryz.prog 61 #[a,.int .i64 p,.int .i64 dir] w (DPost (rndD (widthP p) (decide (0≤dir)) x) w):=by
 obtain⟨s,A,k0,c,rfl,hv⟩:=ha.out.form
 have hk:=((KB.start w).new 32 [.bool s,.slice A k0 c,.int .i64 x.e]).new 32 [.bool false,.slice none 0 0,.int .i64 0]
 simp only [World.size_alloc] at hk
 have HX:=hid (hv.only hk.only)
 have HK:=hid hk
 have HT0:=hT
 have HT:=hid (hT.out.keep hk.only)
 have hxe:=lim_i64 hx.out (by omega)
 have HBX:Hid (bitsN x.z.natAbs≤16777216):=bits_few hx.out.z (by omega)
 have hpr:=widthP_range p
 have hyb:Bnd (2*N) (nrm x.z x.e):=hx.out.norm (Nat.le_refl _)
 have hye:=lim_i64 hyb (by omega)
 have hyz:=bitsN_le hyb.z
 unfold rndD
 obtain⟨⟨yz,ye⟩,hyd⟩: ∃y,nrm x.z x.e=y:=⟨_,rfl⟩
 rw [hyd] at hyb hyz hye ⊢
 have HYD:=hid hyd
 simp only at hyz hye ⊢
 obtain⟨P,hP⟩: ∃P,widthP p=P:=⟨_,rfl⟩
 rw [hP] at hpr ⊢
 have HP:=hid hP
 have hzb:yz.natAbs<2^(2*N):=hyb.z
 obtain⟨b,hb⟩: ∃b,bitsN yz.natAbs=b:=⟨_,rfl⟩
 rw [hb] at hyz ⊢
 have HBB:=hid hb
 clear hk hv ha hT hyb hyd hP hb
 by_cases hle:b≤P
 ·rw [if_pos hle]
  have hle2:(b:Int)-(P:Int)≤0:=by omega
  clear hzb
  go_enter Tryz.func61,Tryz.ntmps61
  go_wp2_with fail
  (with_reducible refine (make_d HX HBX (by omega) (by omega) HT).mono ?_)
  rintro e2 w2 ⟨s1,A1,k1,c1,rfl,hs1,hk1,hv1,ho⟩
  rw [HYD.out] at hs1 hk1 hv1 ⊢
  have hk2:=HK.out.step ho
  obtain⟨a0,a1,a2,f0,f1,f2⟩:=hk2.c3 1 rfl
  have hB:=hk2.blk 1 rfl
  have hk3:=hk2.set3 1 (u:= .bool s1) (v:= .slice A1 k1 c1) (x:= .int .i64 ye) rfl (fun j y hj hne=>by
   rcases j with _|_|j
   ·obtain rfl:=(Option.some.inj hj).symm;show _+1≠_;omega
   ·omega
   ·simp at hj) (Nat.le_refl _)
  have HV:=hid (hv1.farS (only_set3 w2 w.heap.size (.bool s1) (.slice A1 k1 c1) (.int .i64 ye)) (fun g hg=>by rw [List.mem_singleton] at hg;subst hg;exact hv1.far_blk hB (noLimb3 _ _ _ _ _)))
  have HC:Hid (Cn s1 k1 yz):=⟨hs1,hk1⟩
  simp only [List.set_cons_succ,List.set_cons_zero] at hk3
  replace HK:=hid hk3
  clear hs1 hk1 hv1 hk2 hk3 hB ho HX HT
  go_upto_region 2 with fail
  clear a0 a1 a2 f0 f1 f2
  generalize ((w2.setCell _ _).setCell _ _).setCell _ _=w3 at*
  obtain⟨a0,a1,a2,-,-,-⟩:=HK.out.c3 1 rfl
  have HM:=hid HV.out.mag
  go_wp2_with fail
  (with_reducible refine (bits_v HM).mono ?_)
  rintro e4 w4 ⟨rfl,rfl⟩
  go_wp2_with fail
  (with_reducible refine (width_any p _).mono ?_)
  rintro e5 w5 ⟨rfl,rfl⟩
  rw [HP.out,HBB.out]
  obtain⟨c0,c1',c2,f0,f1,f2⟩:=HK.out.c3 0 rfl
  go_wp2_with fail
  refine bodyPost_ret (v:= .agg #[.bool s1,.slice A1 k1 c1,.int .i64 (ye)]) (by simp [results,Tryz.results61,go_sem,c0,c1',c2]) rfl ?_
  exact dfin (x:=⟨yz,ye⟩) HC HV (by omega) (HK.out.blk 0 rfl) (noLimb3 _ _ _ _ _) HK.out.only (only_set3 _ _ _ _ _)
 ·rw [if_neg hle]
  obtain⟨k,hk⟩: ∃k,b-P=k:=⟨_,rfl⟩
  rw [hk]
  have hkk:(b:Int)-(P:Int)=(k:Int):=by omega
  have hk0:(0:Int)<(k:Int):=by omega
  have hk16:(k:Int)≤16777216:=by omega
  have hsum:IntKind.i64.wrap (ye+(k:Int))=ye+(k:Int):=wrap_i64 (by omega)
  have hml:yz.natAbs/2^k+1<2^(2*N+1):=by
   have:=Nat.div_le_self yz.natAbs (2^k)
   have h2:0<2^(2*N):=Nat.pow_pos (by omega)
   rw [Nat.pow_succ];omega
  have HML:=hid hml
  obtain⟨S,hS⟩: ∃S,decide (yz<0)=S:=⟨_,rfl⟩
  obtain⟨u,hu⟩: ∃u,decide (0≤dir)=u:=⟨_,rfl⟩
  rw [hS,hu]
  have HS:=hid hS
  have HU:=hid hu
  clear hzb hk hle hml hS hu
  by_cases hA:(S != u)=false
  ·rw [if_neg (by rw [hA];decide),Nat.add_zero]
   have HA:=hid hA
   have HB:Hid (bitsN (sg S (yz.natAbs/2^k)).natAbs≤16777216):=by show _≤_;rw [sg_abs];exact bits_few (N:=2*N+1) (by have:=HML.out;omega) (by omega)
   clear hA
   go_enter Tryz.func61,Tryz.ntmps61
   go_wp2_with fail
   (with_reducible refine (make_d HX HBX (by omega) (by omega) HT).mono ?_)
   rintro e2 w2 ⟨s1,A1,k1,c1,rfl,hs1,hk1,hv1,ho⟩
   rw [HYD.out] at hs1 hk1 hv1 ⊢
   have hk2:=HK.out.step ho
   obtain⟨a0,a1,a2,f0,f1,f2⟩:=hk2.c3 1 rfl
   have hB:=hk2.blk 1 rfl
   have hk3:=hk2.set3 1 (u:= .bool s1) (v:= .slice A1 k1 c1) (x:= .int .i64 ye) rfl (fun j y hj hne=>by
    rcases j with _|_|j
    ·obtain rfl:=(Option.some.inj hj).symm;show _+1≠_;omega
    ·omega
    ·simp at hj) (Nat.le_refl _)
   have HV:=hid (hv1.farS (only_set3 w2 w.heap.size (.bool s1) (.slice A1 k1 c1) (.int .i64 ye)) (fun g hg=>by rw [List.mem_singleton] at hg;subst hg;exact hv1.far_blk hB (noLimb3 _ _ _ _ _)))
   have HC:Hid (Cn s1 k1 yz):=⟨hs1,hk1⟩
   simp only [List.set_cons_succ,List.set_cons_zero] at hk3
   replace HK:=hid hk3
   clear hs1 hk1 hv1 hk2 hk3 hB ho HX HT
   go_upto_region 2 with fail
   clear a0 a1 a2 f0 f1 f2
   generalize ((w2.setCell _ _).setCell _ _).setCell _ _=w3 at*
   obtain⟨a0,a1,a2,-,-,-⟩:=HK.out.c3 1 rfl
   have HM:=hid HV.out.mag
   go_wp2_with fail
   (with_reducible refine (bits_v HM).mono ?_)
   rintro e4 w4 ⟨rfl,rfl⟩
   go_wp2_with fail
   (with_reducible refine (width_any p _).mono ?_)
   rintro e5 w5 ⟨rfl,rfl⟩
   rw [HP.out,HBB.out]
   obtain rfl:s1=S:=HC.out.1.trans HS.out
   go_wp2_with fail
   (with_reducible refine (right_d k hk16 HM).mono ?_)
   rintro e6 w6 ⟨A6,k6,c6,rfl,-,hv6,ho⟩
   replace HK:=hid (HK.out.step ho)
   have HN:=hid hv6
   clear hv6 ho a0 a1 a2 HM HV
   obtain⟨a0,a1,a2,-,-,-⟩:=HK.out.c3 1 rfl
   go_wp2_with fail
   (with_reducible refine (outward_any s1 dir _).mono ?_)
   rintro e7 w7 ⟨rfl,rfl⟩
   rw [HU.out,HA.out]
   clear a0 a1 a2
   have HM:=HN
   go_upto_region 8 with fail
   apply wp_region_typed_tail2 10 (by kernel_rfl) [isV _,isV _,isV _,isV _,isWC (sg s1 (yz.natAbs/2^k)),isV _,isV _,isV _,isV _,isD (nrm (sg s1 (yz.natAbs/2^k)) (ye+(k:Int)))] [[],[0],[1],[],[2,3],[],[5],[],[6,7],[4,8]] (by kernel_rfl) (by kernel_rfl) (by kernel_rfl)
   case ho=>
    simp only [List.take_succ_cons,List.take_zero]
    iterate 10
     refine owes2_cons (fun wx hox=>?_) ?_
     ·skip
      have hk:=HK.out.step hox
      obtain⟨a0,a1,a2,-,-,-⟩:=hk.c3 1 rfl
      have hmx:=hid (HM.out.only hox)
      have htx:=hid (HT0.out.keep hk.only)
      clear hk
      refine withs_plain rfl ?_
      simp only [withs,List.getElem?_cons_zero,List.getElem?_cons_succ,Option.bind,Option.getD]
      with_reducible repeat first|refine all_isV ?_|(refine all_isWC ?_;intro sx Ax kx cx hvx hwx)|(refine all_isD ?_;intro sx Ax kx cx hvx hwx)
      go_simp
      first
      |exact⟨Only.refl _ _,isV.self _ _⟩
      |with_reducible exact grow_wc (make_w s1 hmx)
      |with_reducible exact grow_d (make_d (by assumption) HB (by omega) (by omega) htx)
    exact owes2_nil
   case he=>
    simp only [List.drop_succ_cons,List.drop_zero]
    intro wx hox
    refine withs_of (by simp only [List.length,List.range,List.range.loop];exact rfl) ?_
    simp only [withs,List.getElem?_cons_zero,List.getElem?_cons_succ,Option.bind,Option.getD]
    repeat (first|(with_reducible refine all_isV ?_)|(with_reducible refine all_isWC ?_;intro sx Ax kx cx hvx hwx)|(with_reducible refine all_isD ?_;intro sx Ax kx cx hvx hwx))
    go_simp
    have hk:=HK.out.step hox
    obtain⟨c0,c1',c2,f0,f1,f2⟩:=hk.c3 0 rfl
    replace hk:=hid hk
    clear hox
    go_wp2_with fail
    refine bodyPost_ret (v:= .agg #[.bool sx,.slice Ax kx cx,.int .i64 ((nrm (sg s1 (yz.natAbs/2^k)) (ye+(k:Int))).e)]) (by simp [results,Tryz.results61,go_sem,c0,c1',c2]) rfl ?_
    exact dfin (x:=nrm (sg s1 (yz.natAbs/2^k)) (ye+(k:Int))) (by assumption) (by assumption) (by omega) (hk.out.blk 0 rfl) (noLimb3 _ _ _ _ _) hk.out.only (only_set3 _ _ _ _ _)
   case hl=>
    repeat (refine List.forall_mem_cons.2 ⟨?_,?_⟩;first|exact isV.lasts _|exact isD.lasts _|exact isWC.lasts _)
    exact fun _ h=>(by cases h)
  ·replace hA:(S != u)=true:=by simpa using hA
   rw [if_pos hA]
   have HA:=hid hA
   have HB:Hid (bitsN (sg S (yz.natAbs/2^k+1)).natAbs≤16777216):=by show _≤_;rw [sg_abs];exact bits_few (N:=2*N+1) HML.out (by omega)
   have HF:Hid (Few (yz.natAbs/2^k+1)):=few_two_pow HML.out (by omega)
   clear hA
   go_enter Tryz.func61,Tryz.ntmps61
   go_wp2_with fail
   (with_reducible refine (make_d HX HBX (by omega) (by omega) HT).mono ?_)
   rintro e2 w2 ⟨s1,A1,k1,c1,rfl,hs1,hk1,hv1,ho⟩
   rw [HYD.out] at hs1 hk1 hv1 ⊢
   have hk2:=HK.out.step ho
   obtain⟨a0,a1,a2,f0,f1,f2⟩:=hk2.c3 1 rfl
   have hB:=hk2.blk 1 rfl
   have hk3:=hk2.set3 1 (u:= .bool s1) (v:= .slice A1 k1 c1) (x:= .int .i64 ye) rfl (fun j y hj hne=>by
    rcases j with _|_|j
    ·obtain rfl:=(Option.some.inj hj).symm;show _+1≠_;omega
    ·omega
    ·simp at hj) (Nat.le_refl _)
   have HV:=hid (hv1.farS (only_set3 w2 w.heap.size (.bool s1) (.slice A1 k1 c1) (.int .i64 ye)) (fun g hg=>by rw [List.mem_singleton] at hg;subst hg;exact hv1.far_blk hB (noLimb3 _ _ _ _ _)))
   have HC:Hid (Cn s1 k1 yz):=⟨hs1,hk1⟩
   simp only [List.set_cons_succ,List.set_cons_zero] at hk3
   replace HK:=hid hk3
   clear hs1 hk1 hv1 hk2 hk3 hB ho HX HT
   go_upto_region 2 with fail
   clear a0 a1 a2 f0 f1 f2
   generalize ((w2.setCell _ _).setCell _ _).setCell _ _=w3 at*
   obtain⟨a0,a1,a2,-,-,-⟩:=HK.out.c3 1 rfl
   have HM:=hid HV.out.mag
   go_wp2_with fail
   (with_reducible refine (bits_v HM).mono ?_)
   rintro e4 w4 ⟨rfl,rfl⟩
   go_wp2_with fail
   (with_reducible refine (width_any p _).mono ?_)
   rintro e5 w5 ⟨rfl,rfl⟩
   rw [HP.out,HBB.out]
   obtain rfl:s1=S:=HC.out.1.trans HS.out
   go_wp2_with fail
   (with_reducible refine (right_d k hk16 HM).mono ?_)
   rintro e6 w6 ⟨A6,k6,c6,rfl,-,hv6,ho⟩
   replace HK:=hid (HK.out.step ho)
   have HN:=hid hv6
   clear hv6 ho a0 a1 a2 HM HV
   obtain⟨a0,a1,a2,-,-,-⟩:=HK.out.c3 1 rfl
   go_wp2_with fail
   (with_reducible refine (outward_any s1 dir _).mono ?_)
   rintro e7 w7 ⟨rfl,rfl⟩
   rw [HU.out,HA.out]
   clear a0 a1 a2
   go_wp2_with fail
   have hl:=of_lit 1 1 w6 (by show _<_;rw [BB_val];omega) rfl
   (with_reducible refine hl.mono ?_)
   clear hl
   rintro e8 w8 ⟨A8,k8,c8,rfl,-,hv8,ho⟩
   replace HK:=hid (HK.out.step ho)
   replace HN:=hid (HN.out.only ho)
   have HO:=hid hv8
   clear hv8 ho
   go_wp2_with fail
   (with_reducible refine (add2_v HN HO HF).mono ?_)
   rintro e9 w9 ⟨A9,k9,c9,rfl,-,hv9,ho⟩
   replace HK:=hid (HK.out.step ho)
   have HM:=hid hv9
   clear hv9 ho HN HO
   go_upto_region 8 with fail
   apply wp_region_typed_tail2 10 (by kernel_rfl) [isV _,isV _,isV _,isV _,isWC (sg s1 (yz.natAbs/2^k+1)),isV _,isV _,isV _,isV _,isD (nrm (sg s1 (yz.natAbs/2^k+1)) (ye+(k:Int)))] [[],[0],[1],[],[2,3],[],[5],[],[6,7],[4,8]] (by kernel_rfl) (by kernel_rfl) (by kernel_rfl)
   case ho=>
    simp only [List.take_succ_cons,List.take_zero]
    iterate 10
     refine owes2_cons (fun wx hox=>?_) ?_
     ·skip
      have hk:=HK.out.step hox
      obtain⟨a0,a1,a2,-,-,-⟩:=hk.c3 1 rfl
      have hmx:=hid (HM.out.only hox)
      have htx:=hid (HT0.out.keep hk.only)
      clear hk
      refine withs_plain rfl ?_
      simp only [withs,List.getElem?_cons_zero,List.getElem?_cons_succ,Option.bind,Option.getD]
      with_reducible repeat first|refine all_isV ?_|(refine all_isWC ?_;intro sx Ax kx cx hvx hwx)|(refine all_isD ?_;intro sx Ax kx cx hvx hwx)
      go_simp
      first
      |exact⟨Only.refl _ _,isV.self _ _⟩
      |with_reducible exact grow_wc (make_w s1 hmx)
      |with_reducible exact grow_d (make_d (by assumption) HB (by omega) (by omega) htx)
    exact owes2_nil
   case he=>
    simp only [List.drop_succ_cons,List.drop_zero]
    intro wx hox
    refine withs_of (by simp only [List.length,List.range,List.range.loop];exact rfl) ?_
    simp only [withs,List.getElem?_cons_zero,List.getElem?_cons_succ,Option.bind,Option.getD]
    repeat (first|(with_reducible refine all_isV ?_)|(with_reducible refine all_isWC ?_;intro sx Ax kx cx hvx hwx)|(with_reducible refine all_isD ?_;intro sx Ax kx cx hvx hwx))
    go_simp
    have hk:=HK.out.step hox
    obtain⟨c0,c1',c2,f0,f1,f2⟩:=hk.c3 0 rfl
    replace hk:=hid hk
    clear hox
    go_wp2_with fail
    refine bodyPost_ret (v:= .agg #[.bool sx,.slice Ax kx cx,.int .i64 ((nrm (sg s1 (yz.natAbs/2^k+1)) (ye+(k:Int))).e)]) (by simp [results,Tryz.results61,go_sem,c0,c1',c2]) rfl ?_
    exact dfin (x:=nrm (sg s1 (yz.natAbs/2^k+1)) (ye+(k:Int))) (by assumption) (by assumption) (by omega) (hk.out.blk 0 rfl) (noLimb3 _ _ _ _ _) hk.out.only (only_set3 _ _ _ _ _)
   case hl=>
    repeat (refine List.forall_mem_cons.2 ⟨?_,?_⟩;first|exact isV.lasts _|exact isD.lasts _|exact isWC.lasts _)
    exact fun _ h=>(by cases h)
set_option maxHeartbeats 1600000 in
set_option maxRecDepth 100000 in
theorem bet_d {w:World} {a:Value} {q K L:Nat} (neg more:Bool) (E p dir:Int) (ha:Hid (NV w a q)) (hq:Hid (q<2^K)) (h1: -(L:Int)≤E) (h2:E≤(L:Int)) (hKL:K+L+2≤1000000) (hT:Hid (Tab6 w)):
  Calls Tryz.prog 88 #[.bool neg,a,.int .i64 E,.bool more,.int .i64 p,.int .i64 dir] w (DPost (betD (widthP p) (decide (0≤dir)) neg q E more) w):=by
 unfold betD
 have hk:=(KB.start w).new 32 [.bool false,.slice none 0 0,.int .i64 0]
 have HK:=hid hk
 have HM:=hid (ha.out.only hk.only)
 have hL:(L:Int)≤1000000:=by omega
 obtain⟨A,k,c,rfl⟩: ∃A k c,a= .slice A k c:=by
  obtain⟨A,c,xs,h,-⟩:=ha.out
  exact⟨A,_,c,h⟩
 cases more
 ·simp only [Bool.false_eq_true,if_false]
  have hz:(sg neg q).natAbs<2^K:=by rw [sg_abs];exact hq.out
  have HB:Hid (bitsN (sg neg q).natAbs≤16777216):=bits_few hz (by omega)
  have HBN:Hid (Bnd (K+L+2) (nrm (sg neg q) E)):=bnd_nrm hz h1 h2 (by omega)
  clear hk ha hz
  go_enter Tryz.func88,Tryz.ntmps88
  go_wp2_with fail
  (with_reducible refine (make_w neg HM).mono ?_)
  rintro e5 w5 ⟨s5,A5,k5,c5,rfl,-,-,hv5,ho⟩
  replace HK:=hid (HK.out.step ho)
  have HV5:=hid hv5
  have HT5:=hid (hT.out.keep HK.out.only)
  clear hv5 ho HM
  go_wp2_with fail
  (with_reducible refine (make_d HV5 HB (by omega) (by omega) HT5).mono ?_)
  rintro e6 w6 ⟨s6,A6,k6,c6,rfl,-,-,hv6,ho⟩
  replace HK:=hid (HK.out.step ho)
  have HV6:=hid hv6
  have HT6:=hid (hT.out.keep HK.out.only)
  clear hv6 ho HV5 HT5
  go_wp2_with fail
  (with_reducible refine (round_d p dir (DV.of HV6) HBN (by omega) HT6).mono ?_)
  rintro e7 w7 ⟨s7,A7,k7,c7,rfl,hs7,hk7,hv7,ho⟩
  replace HK:=hid (HK.out.step ho)
  have HC:Hid (Cn s7 k7 (rndD (widthP p) (decide (0≤dir)) (nrm (sg neg (q)) (E))).z):=⟨hs7,hk7⟩
  have HV:=hid hv7
  obtain⟨c0,c1',c2,f0,f1,f2⟩:=HK.out.c3 0 rfl
  clear hv7 hs7 hk7 ho HV6 HT6
  generalize rndD (widthP p) (decide (0≤dir)) (nrm (sg neg (q)) (E))=r at*
  go_wp2_with fail
  refine bodyPost_ret (v:= .agg #[.bool s7,.slice A7 k7 c7,.int .i64 (r.e)]) (by simp [results,Tryz.results88,go_sem,c0,c1',c2]) rfl ?_
  exact dfin HC HV (by omega) (HK.out.blk 0 rfl) (noLimb3 _ _ _ _ _) HK.out.only (only_set3 _ _ _ _ _)
 ·simp only [if_true]
  have hz:(sg neg (q*2+1)).natAbs<2^(K+1):=by rw [sg_abs];have:=hq.out;rw [Nat.pow_succ];omega
  have HB:Hid (bitsN (sg neg (q*2+1)).natAbs≤16777216):=bits_few hz (by omega)
  have HBN:Hid (Bnd (K+L+2) (nrm (sg neg (q*2+1)) (E-1))):=bnd_nrm (M:=L+1) hz (by omega) (by omega) (by omega)
  have HF1:Hid (Few (q*2^1)):=few_two_pow (N:=K+1) (by have:=hq.out;rw [Nat.pow_succ];omega) (by omega)
  have HF2:Hid (Few (q*2^1+1)):=few_two_pow (N:=K+1) (by have:=hq.out;rw [Nat.pow_succ];omega) (by omega)
  clear hk ha hz
  go_enter Tryz.func88,Tryz.ntmps88
  go_wp2_with fail
  have hl:Calls Tryz.prog 84 #[.slice A k c,.int .i64 1] (w.alloc (.cells #[.bool false,.slice none 0 0,.int .i64 0] 32)) _:=left_d (w:=w.alloc (.cells #[.bool false,.slice none 0 0,.int .i64 0] 32)) 1 (by omega) HM HF1
  (with_reducible refine hl.mono ?_)
  clear hl
  rintro e2 w2 ⟨A2,k2,c2,rfl,-,hv2,ho⟩
  replace HK:=hid (HK.out.step ho)
  have HN:=hid hv2
  clear hv2 ho HM
  go_wp2_with fail
  have hl:=of_lit 1 1 w2 (by show _<_;rw [BB_val];omega) rfl
  (with_reducible refine hl.mono ?_)
  clear hl
  rintro e3 w3 ⟨A3,k3,c3,rfl,-,hv3,ho⟩
  replace HK:=hid (HK.out.step ho)
  replace HN:=hid (HN.out.only ho)
  have HO:=hid hv3
  clear hv3 ho
  go_wp2_with fail
  (with_reducible refine (add2_v HN HO HF2).mono ?_)
  rintro e4 w4 ⟨A4,k4,c4,rfl,-,hv4,ho⟩
  rw [Nat.pow_one] at hv4
  replace HK:=hid (HK.out.step ho)
  have HM:=hid hv4
  clear hv4 ho HN HO HF1 HF2
  go_wp2_with fail
  (with_reducible refine (make_w neg HM).mono ?_)
  rintro e5 w5 ⟨s5,A5,k5,c5,rfl,-,-,hv5,ho⟩
  replace HK:=hid (HK.out.step ho)
  have HV5:=hid hv5
  have HT5:=hid (hT.out.keep HK.out.only)
  clear hv5 ho HM
  go_wp2_with fail
  (with_reducible refine (make_d HV5 HB (by omega) (by omega) HT5).mono ?_)
  rintro e6 w6 ⟨s6,A6,k6,c6,rfl,-,-,hv6,ho⟩
  replace HK:=hid (HK.out.step ho)
  have HV6:=hid hv6
  have HT6:=hid (hT.out.keep HK.out.only)
  clear hv6 ho HV5 HT5
  go_wp2_with fail
  (with_reducible refine (round_d p dir (DV.of HV6) HBN (by omega) HT6).mono ?_)
  rintro e7 w7 ⟨s7,A7,k7,c7,rfl,hs7,hk7,hv7,ho⟩
  replace HK:=hid (HK.out.step ho)
  have HC:Hid (Cn s7 k7 (rndD (widthP p) (decide (0≤dir)) (nrm (sg neg (q*2+1)) (E-1))).z):=⟨hs7,hk7⟩
  have HV:=hid hv7
  obtain⟨c0,c1',c2,f0,f1,f2⟩:=HK.out.c3 0 rfl
  clear hv7 hs7 hk7 ho HV6 HT6
  generalize rndD (widthP p) (decide (0≤dir)) (nrm (sg neg (q*2+1)) (E-1))=r at*
  go_wp2_with fail
  refine bodyPost_ret (v:= .agg #[.bool s7,.slice A7 k7 c7,.int .i64 (r.e)]) (by simp [results,Tryz.results88,go_sem,c0,c1',c2]) rfl ?_
  exact dfin HC HV (by omega) (HK.out.blk 0 rfl) (noLimb3 _ _ _ _ _) HK.out.only (only_set3 _ _ _ _ _)
end Go.Proofs.YtigpnopeacicpaaGreatDoor
