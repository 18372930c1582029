import Derived.Test.YtigpnopeacicpaaGreatDoorTcDyN
namespace Go.Proofs.YtigpnopeacicpaaGreatDoor
open Go.Lib (hid)
set_option linter.unusedSimpArgs false
open Go.RowKit
theorem grow_nv {f:FuncId} {args:Array Value} {w0 w:World} {n:Nat} (h:Calls Tryz.prog f args w (NPostV n w0 w)):Calls Tryz.prog f args w fun e w''=> ∃u,e= .returned u∧Only [] w w''∧isNV n u w'':=
 h.mono fun _ _ ⟨A,k,c,he,_,hv,ho2⟩=>⟨_,he,ho2,A,k,c,rfl,hv⟩
set_option maxHeartbeats 1600000 in
set_option maxRecDepth 100000 in
theorem sqrtn_d {w:World} {a:Value} {x:Dy} (p dir:Int) (ha:Hid (DV w a x)) (hx0:x.z<0):Calls Tryz.prog 54 #[a,.int .i64 p,.int .i64 dir] w (QDPost ⟨0,0⟩ false w):=by
  obtain⟨s,A,k0,c,rfl,hv⟩:=ha.out.form
  have hk:=((KB.start w).new 32 [.bool s,.slice A k0 c,.int .i64 x.e]).new 32 [.bool false,.slice none 0 0,.int .i64 0]
  simp only [World.size_alloc] at hk
  have HX:=hid (hv.only hk.only)
  have HK:=hid hk
  clear hk hv ha
  have HP:Hid (x.z.sign= -1):=by have:=sign_of x.z;show _=_;omega
  clear hx0
  go_enter Tryz.func54,Tryz.ntmps54
  go_wp2_with fail
  (with_reducible refine (signV_d (-1) (DV.of HX) HP.out).mono ?_)
  rintro e2 w2 ⟨rfl,ho⟩
  replace HK:=hid (HK.out.step ho)
  obtain⟨c0,c1',c2,f0,f1,f2⟩:=HK.out.c3 0 rfl
  clear ho
  go_wp2_with fail
  refine bodyPost_ret (v:= .tuple #[.agg #[.bool false,.slice none 0 0,.int .i64 (0)],.bool false]) (by simp [results,Tryz.results54,go_sem,c0,c1',c2]) rfl ?_
  exact QDPost.of (dfin (x:=⟨0,0⟩) ⟨by decide,by show 0=(limbsOf 0).length;rw [limbsOf_zero];rfl⟩ (IV.zero _) (by omega) (HK.out.blk 0 rfl) (noLimb3 _ _ _ _ _) HK.out.only (only_set3 _ _ _ _ _))
set_option maxHeartbeats 1600000 in
set_option maxRecDepth 100000 in
theorem sqrtz_d {w:World} {a:Value} {x:Dy} (p dir:Int) (ha:Hid (DV w a x)) (hx0:x.z=0):Calls Tryz.prog 54 #[a,.int .i64 p,.int .i64 dir] w (QDPost ⟨0,0⟩ true w):=by
  obtain⟨s,A,k0,c,rfl,hv⟩:=ha.out.form
  have hk:=((KB.start w).new 32 [.bool s,.slice A k0 c,.int .i64 x.e]).new 32 [.bool false,.slice none 0 0,.int .i64 0]
  simp only [World.size_alloc] at hk
  have HX:=hid (hv.only hk.only)
  have HK:=hid hk
  clear hk hv ha
  have HP:Hid (x.z.sign=0):=by have:=sign_of x.z;show _=_;omega
  clear hx0
  go_enter Tryz.func54,Tryz.ntmps54
  go_wp2_with fail
  (with_reducible refine (signV_d 0 (DV.of HX) HP.out).mono ?_)
  rintro e2 w2 ⟨rfl,ho⟩
  replace HK:=hid (HK.out.step ho)
  obtain⟨c0,c1',c2,f0,f1,f2⟩:=HK.out.c3 0 rfl
  clear ho
  go_wp2_with fail
  refine bodyPost_ret (v:= .tuple #[.agg #[.bool false,.slice none 0 0,.int .i64 (0)],.bool true]) (by simp [results,Tryz.results54,go_sem,c0,c1',c2]) rfl ?_
  exact QDPost.of (dfin (x:=⟨0,0⟩) ⟨by decide,by show 0=(limbsOf 0).length;rw [limbsOf_zero];rfl⟩ (IV.zero _) (by omega) (HK.out.blk 0 rfl) (noLimb3 _ _ _ _ _) HK.out.only (only_set3 _ _ _ _ _))
theorem tdiv_even {z:Int} (h:z%2=0):z.tdiv 2=z/2:=Int.tdiv_eq_ediv_of_dvd (Int.dvd_of_emod_eq_zero h)
theorem and_one (z:Int):bits .and .i64 z 1=z%2:=by
 simp only [bits,BitVec.toNat_and]
 rw [show (BitVec.ofInt IntKind.i64.bits 1).toNat=1 by decide,Nat.and_one_is_mod]
 rw [show ((BitVec.ofInt IntKind.i64.bits z).toNat)=(z%18446744073709551616).toNat by rw [BitVec.toNat_ofInt];rfl]
 rw [IntKind.wrap_i64]
 omega
theorem left1_d {w:World} {a:Value} {n:Nat} (ha:Hid (NV w a n)) (hf:Hid (Few (n*2^1))):Calls Tryz.prog 84 #[a,.int .i64 1] w (NPostV (n*2^1) w w):=left_d 1 (by omega) ha hf
set_option maxHeartbeats 1600000 in
set_option maxRecDepth 100000 in
theorem sqrt_d {w:World} {a:Value} {x:Dy} {N:Nat} (p dir:Int) (ha:Hid (DV w a x)) (hx:Hid (Bnd N x)) (hN:N≤100000) (hx0:0<x.z) (hT:Hid (Tab6 w)):Calls Tryz.prog 54 #[a,.int .i64 p,.int .i64 dir] w (QDPost (sqrtD (widthP p) (decide (0≤dir)) x) true w):=by
  obtain⟨s,A,k0,c,rfl,hv⟩:=ha.out.form
  have hk:=((KB.start w).new 32 [.bool s,.slice A k0 c,.int .i64 x.e]).new 32 [.bool false,.slice none 0 0,.int .i64 0]
  simp only [World.size_alloc] at hk
  have HX:=hid (hv.only hk.only)
  have HK:=hid hk
  clear hk hv ha
  have HPS:Hid (x.z.sign=1):=by have:=sign_of x.z;show _=_;omega
  have hpr:=widthP_range p
  obtain⟨P,hP⟩: ∃P,widthP p=P:=⟨_,rfl⟩
  have HP:=hid hP
  rw [hP] at hpr ⊢
  have hxl:=sqX_lt hx.out
  have hnr:=sqN_range (P:=P) hx.out
  have hxe1:=hx.out.lo
  have hxe2:=hx.out.hi
  have hxz:=hx.out.z
  have hqd:sqrtD P (decide (0≤dir)) x=betD P (decide (0≤dir)) false (rootN (shN (sqX x) (sqN P (sqX x)))) ((sqE x-sqN P (sqX x))/2) (cutB (sqX x) (sqN P (sqX x)) || decide (0<shN (sqX x) (sqN P (sqX x))-rootN (shN (sqX x) (sqN P (sqX x)))*rootN (shN (sqX x) (sqN P (sqX x))))):=rfl
  rw [hqd]
  have hsh:=sh_lt (K:=N+2*P+6) (n:=sqN P (sqX x)) hxl (by omega) (by omega)
  have HQL:Hid (rootN (shN (sqX x) (sqN P (sqX x)))<2^(N+2*P+6)):=Nat.lt_of_le_of_lt (rootN_le _) hsh
  have hfx:Few (shN (sqX x) (sqN P (sqX x))):=few_two_pow hsh (by omega)
  have hbx:=bitsN_le hxl
  have hev:=(sqX_q hx0).2.2
  have hEe:sqE x=if x.e%2=1 then x.e-1 else x.e:=rfl
  have hXe:sqX x=if x.e%2=1 then x.z.natAbs*2 else x.z.natAbs:=rfl
  have hsq:sqN P (sqX x)=(2*((P:Int)+2)-(bitsN (sqX x):Int))+(2*((P:Int)+2)-(bitsN (sqX x):Int))%2:=rfl
  generalize sqX x=X0 at*
  obtain⟨b,hb⟩: ∃b,bitsN X0=b:=⟨_,rfl⟩
  have HBX:=hid hb
  rw [hb] at hbx hsq
  obtain⟨n0,hs0⟩: ∃n0,2*((P:Int)+2)-(b:Int)=n0:=⟨_,rfl⟩
  rw [hs0] at hsq
  obtain⟨r2,hr2⟩: ∃r,n0%2=r:=⟨_,rfl⟩
  have hand:=and_one n0
  rw [hr2] at hsq hand
  obtain⟨n,hn⟩: ∃n,sqN P X0=n:=⟨_,rfl⟩
  rw [hn] at hsq HQL hfx hnr ⊢
  have hs1:n0+r2=n:=hsq.symm
  obtain⟨H,hH⟩: ∃H,(sqE x-n)/2=H:=⟨_,rfl⟩
  rw [hH]
  have hP1:(P:Int)≤65536:=by omega
  have hN1:(N:Int)≤100000:=by omega
  have hb1:(b:Int)≤(N:Int)+1:=by omega
  have hn2:n%2=0:=by omega
  have hr3:0≤r2∧r2≤1:=by omega
  clear hqd hsh hxl hb hsq hn hP hx0 hbx
  by_cases hodd:x.e%2=1
  ·have ha1:bits .and .i64 x.e 1=1:=by rw [and_one];exact hodd
   rw [if_pos hodd] at hEe hXe
   rw [hEe] at hH hev
   have HX0:Hid (x.z.natAbs*2^1=X0):=by show _=_;rw [hXe,Nat.pow_one]
   have HF1:Hid (Few (x.z.natAbs*2^1)):=few_two_pow (N:=N+1) (by rw [Nat.pow_one,Nat.pow_succ];omega) (by omega)
   have hh1: -((N+P+4:Nat):Int)≤H:=by omega
   have hh2:H≤((N+P+4:Nat):Int):=by omega
   have hev2:(x.e-1-n)%2=0:=by omega
   clear hEe hXe hxz hr2
   by_cases hn0:0≤n
   ·obtain⟨k,hk⟩: ∃k:Nat,n=(k:Int):=⟨n.toNat,by omega⟩
    subst hk
    have hk16:(k:Int)≤16777216:=by omega
    have hxx:X0*2^k=shN X0 (k:Int):=by unfold shN;rw [if_pos (by omega)];rfl
    have hcb:cutB X0 (k:Int)=false:=by unfold cutB;rw [decide_eq_false (by omega)];rfl
    have HFX:Hid (Few (X0*2^k)):=by rw [hxx];exact hfx
    have HXX:=hid hxx
    have hd1:((x.e-1)-(k:Int)).tdiv 2=H:=by rw [← hH];exact tdiv_even (by omega)
    have hd2:((x.e-1)-(k:Int))/2=H:=hH
    rw [hcb,Bool.false_or]
    generalize shN X0 (k:Int)=X at*
    clear hxx hcb hn0 hfx hH
    obtain⟨r,hr⟩: ∃r,bitsN (X-rootN X*rootN X)=r:=⟨_,rfl⟩
    obtain⟨m,hm⟩: ∃m,decide (0<r)=m:=⟨_,rfl⟩
    have hm2:decide ((0:Int)<(r:Int))=m:=by rw [← hm];simp
    rw [show decide (0<X-rootN X*rootN X)=m by rw [← pos_bits,hr,hm]]
    have HBR:=hid hr
    clear hr
    go_enter Tryz.func54,Tryz.ntmps54
    go_wp2_with fail
    (with_reducible refine (signV_d 1 (DV.of HX) HPS.out).mono ?_)
    rintro e2 w2 ⟨rfl,ho⟩
    replace HK:=hid (HK.out.step ho)
    replace HX:=hid (HX.out.only ho)
    clear ho
    go_upto_region 6 with fail
    apply wp_region_typed2 (by kernel_rfl) [isV _,isV _,isV _,isNV x.z.natAbs,isV _,isV _,isNV x.z.natAbs,isV _] [[],[0],[1],[2],[],[4],[3],[5]] (by kernel_rfl) (by kernel_rfl)
    case ho=>
     iterate 8
      refine owes2_cons (fun wx hox=>?_) ?_
      ·skip
       have hk:=HK.out.step hox
       obtain⟨a0,a1,a2,-,-,-⟩:=hk.c3 1 rfl
       have hmx:=hid (HX.out.mag.only hox)
       clear hk
       refine withs_plain rfl ?_
       simp only [withs,List.getElem?_cons_zero,List.getElem?_cons_succ,Option.bind,Option.getD]
       with_reducible repeat first|refine all_isV ?_|(refine all_isNV ?_;intro Ax kx cx hvx)
       go_simp
       first
       |exact⟨Only.refl _ _,isV.self _ _⟩
       |with_reducible exact grow_nv (of_v hmx)
       |exact⟨Only.refl _ _,_,_,_,rfl,hvx.out⟩
     exact owes2_nil
    case he=>
     intro wx hox
     refine withs_of (by simp only [List.length,List.range,List.range.loop];exact rfl) ?_
     simp only [withs,List.getElem?_cons_zero,List.getElem?_cons_succ,Option.bind,Option.getD]
     with_reducible refine all_isV ?_
     with_reducible refine all_isV ?_
     with_reducible refine all_isV ?_
     with_reducible refine all_isNV ?_
     intro A3 k3 c3 hv3
     with_reducible refine all_isV ?_
     with_reducible refine all_isV ?_
     with_reducible refine all_isNV ?_
     intro A6 k6 c6 hv6
     with_reducible refine all_isV ?_
     go_simp
     replace HK:=hid (HK.out.step hox)
     have HMX:=hv6
     clear hox HX
     go_wp2_with fail
     (with_reducible refine (left1_d HMX HF1).mono ?_)
     rintro e3 w3 ⟨A7,k7,c7,rfl,-,hv7,ho⟩
     rw [HX0.out] at hv7
     replace HK:=hid (HK.out.step ho)
     replace HMX:=hid hv7
     clear hv7 ho
     go_wp2_with fail
     (with_reducible refine (width_any p _).mono ?_)
     rintro e4 w4 ⟨rfl,rfl⟩
     rw [HP.out]
     go_wp2_with fail
     (with_reducible refine (bits_v HMX).mono ?_)
     rintro e5 w5 ⟨rfl,rfl⟩
     rw [HBX.out]
     go_wp2_with fail
     (with_reducible refine (left_d k hk16 HMX HFX).mono ?_)
     rintro e7 w7 ⟨A8,k8,c8,rfl,-,hv8,ho⟩
     rw [HXX.out] at hv8
     replace HK:=hid (HK.out.step ho)
     replace HMX:=hid hv8
     clear hv8 ho
     go_wp2_with fail
     (with_reducible refine (sqrt_v HMX).mono ?_)
     rintro e8 w8 ⟨A9,k9,c9,B9,l9,d9,_,_,rfl,rfl,rfl,-,-,hq8,hr8,-,ho⟩
     replace HK:=hid (HK.out.step ho)
     have HMQ:=hid hq8
     have HMR:=hid hr8
     have HT8:=hid (hT.out.keep HK.out.only)
     clear hq8 hr8 ho HMX
     go_wp2_with fail
     (with_reducible refine (bits_v HMR).mono ?_)
     rintro e10 w10 ⟨rfl,rfl⟩
     rw [HBR.out]
     go_wp2_with fail
     (with_reducible refine (bet_d (K:=N+2*P+6) (L:=N+P+4) false m H p dir HMQ HQL hh1 hh2 (by omega) HT8).mono ?_)
     rintro e9 w9 ⟨s9,A10,k10,c10,rfl,hs9,hk9,hv9,ho⟩
     rw [HP.out] at hs9 hk9 hv9 ⊢
     replace HK:=hid (HK.out.step ho)
     have HC:=hid (⟨hs9,hk9⟩:Cn s9 k10 _)
     have HV:=hid hv9
     obtain⟨c0,c1',c2,f0,f1,f2⟩:=HK.out.c3 0 rfl
     clear hv9 hs9 hk9 ho HMQ HT8
     generalize betD P (decide (0≤dir)) false _ _ _=r at*
     go_wp2_with fail
     refine bodyPost_ret (v:= .tuple #[.agg #[.bool s9,.slice A10 k10 c10,.int .i64 (r.e)],.bool true]) (by simp [results,Tryz.results54,go_sem,c0,c1',c2]) rfl ?_
     exact QDPost.of (dfin HC HV (by omega) (HK.out.blk 0 rfl) (noLimb3 _ _ _ _ _) HK.out.only (only_set3 _ _ _ _ _))
    case hl=>
     repeat (refine List.forall_mem_cons.2 ⟨?_,?_⟩;first|exact isV.lasts _|exact isNV.lasts _)
     exact fun _ h=>(by cases h)
   ·obtain⟨k,hk⟩: ∃k:Nat,n= -(k:Int):=⟨(-n).toNat,by omega⟩
    subst hk
    have hk0:(0:Int)<(k:Int):=by omega
    have hk1:0<k:=by omega
    have hk2: ¬k=0:=by omega
    have hk4:decide ((0:Int)≤ -(k:Int))=false:=decide_eq_false (by omega)
    have hk16:(k:Int)≤16777216:=by omega
    have hxx:X0/2^k=shN X0 (-(k:Int)):=by unfold shN;rw [if_neg (by omega)];simp
    obtain⟨l,hl⟩: ∃l,lowN X0=l:=⟨_,rfl⟩
    have hcb:cutB X0 (-(k:Int))=decide (l<k):=by unfold cutB;rw [decide_eq_true (by omega),hl];simp
    have HXX:=hid hxx
    have HLW:=hid hl
    have hd1:((x.e-1)+(k:Int)).tdiv 2=H:=by rw [← hH,show (x.e-1)+(k:Int)=(x.e-1)- -(k:Int) by omega];exact tdiv_even (by omega)
    have hd2:((x.e-1)+(k:Int))/2=H:=by rw [← hH,show (x.e-1)+(k:Int)=(x.e-1)- -(k:Int) by omega]
    rw [hcb]
    generalize shN X0 (-(k:Int))=X at*
    clear hxx hcb hn0 hfx hl hH
    by_cases hlk:l<k
    ·rw [decide_eq_true hlk,Bool.true_or]
     have hl1:decide ((l:Int)<(k:Int))=true:=decide_eq_true (by omega)
     go_enter Tryz.func54,Tryz.ntmps54
     go_wp2_with fail
     (with_reducible refine (signV_d 1 (DV.of HX) HPS.out).mono ?_)
     rintro e2 w2 ⟨rfl,ho⟩
     replace HK:=hid (HK.out.step ho)
     replace HX:=hid (HX.out.only ho)
     clear ho
     go_upto_region 6 with fail
     apply wp_region_typed2 (by kernel_rfl) [isV _,isV _,isV _,isNV x.z.natAbs,isV _,isV _,isNV x.z.natAbs,isV _] [[],[0],[1],[2],[],[4],[3],[5]] (by kernel_rfl) (by kernel_rfl)
     case ho=>
      iterate 8
       refine owes2_cons (fun wx hox=>?_) ?_
       ·skip
        have hk:=HK.out.step hox
        obtain⟨a0,a1,a2,-,-,-⟩:=hk.c3 1 rfl
        have hmx:=hid (HX.out.mag.only hox)
        clear hk
        refine withs_plain rfl ?_
        simp only [withs,List.getElem?_cons_zero,List.getElem?_cons_succ,Option.bind,Option.getD]
        with_reducible repeat first|refine all_isV ?_|(refine all_isNV ?_;intro Ax kx cx hvx)
        go_simp
        first
        |exact⟨Only.refl _ _,isV.self _ _⟩
        |with_reducible exact grow_nv (of_v hmx)
        |exact⟨Only.refl _ _,_,_,_,rfl,hvx.out⟩
      exact owes2_nil
     case he=>
      intro wx hox
      refine withs_of (by simp only [List.length,List.range,List.range.loop];exact rfl) ?_
      simp only [withs,List.getElem?_cons_zero,List.getElem?_cons_succ,Option.bind,Option.getD]
      with_reducible refine all_isV ?_
      with_reducible refine all_isV ?_
      with_reducible refine all_isV ?_
      with_reducible refine all_isNV ?_
      intro A3 k3 c3 hv3
      with_reducible refine all_isV ?_
      with_reducible refine all_isV ?_
      with_reducible refine all_isNV ?_
      intro A6 k6 c6 hv6
      with_reducible refine all_isV ?_
      go_simp
      replace HK:=hid (HK.out.step hox)
      have HMX:=hv6
      clear hox HX
      go_wp2_with fail
      (with_reducible refine (left1_d HMX HF1).mono ?_)
      rintro e3 w3 ⟨A7,k7,c7,rfl,-,hv7,ho⟩
      rw [HX0.out] at hv7
      replace HK:=hid (HK.out.step ho)
      replace HMX:=hid hv7
      clear hv7 ho
      go_wp2_with fail
      (with_reducible refine (width_any p _).mono ?_)
      rintro e4 w4 ⟨rfl,rfl⟩
      rw [HP.out]
      go_wp2_with fail
      (with_reducible refine (bits_v HMX).mono ?_)
      rintro e5 w5 ⟨rfl,rfl⟩
      rw [HBX.out]
      go_wp2_with fail
      (with_reducible refine (low_v HMX (hid (hT.out.keep HK.out.only))).mono ?_)
      rintro e10 w10 ⟨rfl,rfl⟩
      rw [HLW.out]
      go_wp2_with fail
      (with_reducible refine (right_d k hk16 HMX).mono ?_)
      rintro e7 w7 ⟨A8,k8,c8,rfl,-,hv8,ho⟩
      rw [HXX.out] at hv8
      replace HK:=hid (HK.out.step ho)
      replace HMX:=hid hv8
      clear hv8 ho
      go_wp2_with fail
      (with_reducible refine (sqrt_v HMX).mono ?_)
      rintro e8 w8 ⟨A9,k9,c9,B9,l9,d9,_,_,rfl,rfl,rfl,-,-,hq8,hr8,-,ho⟩
      replace HK:=hid (HK.out.step ho)
      have HMQ:=hid hq8
      have HMR:=hid hr8
      have HT8:=hid (hT.out.keep HK.out.only)
      clear hq8 hr8 ho HMX
      go_wp2_with fail
      (with_reducible refine (bet_d (K:=N+2*P+6) (L:=N+P+4) false true H p dir HMQ HQL hh1 hh2 (by omega) HT8).mono ?_)
      rintro e9 w9 ⟨s9,A10,k10,c10,rfl,hs9,hk9,hv9,ho⟩
      rw [HP.out] at hs9 hk9 hv9 ⊢
      replace HK:=hid (HK.out.step ho)
      have HC:=hid (⟨hs9,hk9⟩:Cn s9 k10 _)
      have HV:=hid hv9
      obtain⟨c0,c1',c2,f0,f1,f2⟩:=HK.out.c3 0 rfl
      clear hv9 hs9 hk9 ho HMQ HT8
      generalize betD P (decide (0≤dir)) false _ _ _=r at*
      go_wp2_with fail
      refine bodyPost_ret (v:= .tuple #[.agg #[.bool s9,.slice A10 k10 c10,.int .i64 (r.e)],.bool true]) (by simp [results,Tryz.results54,go_sem,c0,c1',c2]) rfl ?_
      exact QDPost.of (dfin HC HV (by omega) (HK.out.blk 0 rfl) (noLimb3 _ _ _ _ _) HK.out.only (only_set3 _ _ _ _ _))
     case hl=>
      repeat (refine List.forall_mem_cons.2 ⟨?_,?_⟩;first|exact isV.lasts _|exact isNV.lasts _)
      exact fun _ h=>(by cases h)
    ·rw [decide_eq_false hlk,Bool.false_or]
     have hl1:decide ((l:Int)<(k:Int))=false:=decide_eq_false (by omega)
     obtain⟨r,hr⟩: ∃r,bitsN (X-rootN X*rootN X)=r:=⟨_,rfl⟩
     obtain⟨m,hm⟩: ∃m,decide (0<r)=m:=⟨_,rfl⟩
     have hm2:decide ((0:Int)<(r:Int))=m:=by rw [← hm];simp
     rw [show decide (0<X-rootN X*rootN X)=m by rw [← pos_bits,hr,hm]]
     have HBR:=hid hr
     clear hr
     go_enter Tryz.func54,Tryz.ntmps54
     go_wp2_with fail
     (with_reducible refine (signV_d 1 (DV.of HX) HPS.out).mono ?_)
     rintro e2 w2 ⟨rfl,ho⟩
     replace HK:=hid (HK.out.step ho)
     replace HX:=hid (HX.out.only ho)
     clear ho
     go_upto_region 6 with fail
     apply wp_region_typed2 (by kernel_rfl) [isV _,isV _,isV _,isNV x.z.natAbs,isV _,isV _,isNV x.z.natAbs,isV _] [[],[0],[1],[2],[],[4],[3],[5]] (by kernel_rfl) (by kernel_rfl)
     case ho=>
      iterate 8
       refine owes2_cons (fun wx hox=>?_) ?_
       ·skip
        have hk:=HK.out.step hox
        obtain⟨a0,a1,a2,-,-,-⟩:=hk.c3 1 rfl
        have hmx:=hid (HX.out.mag.only hox)
        clear hk
        refine withs_plain rfl ?_
        simp only [withs,List.getElem?_cons_zero,List.getElem?_cons_succ,Option.bind,Option.getD]
        with_reducible repeat first|refine all_isV ?_|(refine all_isNV ?_;intro Ax kx cx hvx)
        go_simp
        first
        |exact⟨Only.refl _ _,isV.self _ _⟩
        |with_reducible exact grow_nv (of_v hmx)
        |exact⟨Only.refl _ _,_,_,_,rfl,hvx.out⟩
      exact owes2_nil
     case he=>
      intro wx hox
      refine withs_of (by simp only [List.length,List.range,List.range.loop];exact rfl) ?_
      simp only [withs,List.getElem?_cons_zero,List.getElem?_cons_succ,Option.bind,Option.getD]
      with_reducible refine all_isV ?_
      with_reducible refine all_isV ?_
      with_reducible refine all_isV ?_
      with_reducible refine all_isNV ?_
      intro A3 k3 c3 hv3
      with_reducible refine all_isV ?_
      with_reducible refine all_isV ?_
      with_reducible refine all_isNV ?_
      intro A6 k6 c6 hv6
      with_reducible refine all_isV ?_
      go_simp
      replace HK:=hid (HK.out.step hox)
      have HMX:=hv6
      clear hox HX
      go_wp2_with fail
      (with_reducible refine (left1_d HMX HF1).mono ?_)
      rintro e3 w3 ⟨A7,k7,c7,rfl,-,hv7,ho⟩
      rw [HX0.out] at hv7
      replace HK:=hid (HK.out.step ho)
      replace HMX:=hid hv7
      clear hv7 ho
      go_wp2_with fail
      (with_reducible refine (width_any p _).mono ?_)
      rintro e4 w4 ⟨rfl,rfl⟩
      rw [HP.out]
      go_wp2_with fail
      (with_reducible refine (bits_v HMX).mono ?_)
      rintro e5 w5 ⟨rfl,rfl⟩
      rw [HBX.out]
      go_wp2_with fail
      (with_reducible refine (low_v HMX (hid (hT.out.keep HK.out.only))).mono ?_)
      rintro e10 w10 ⟨rfl,rfl⟩
      rw [HLW.out]
      go_wp2_with fail
      (with_reducible refine (right_d k hk16 HMX).mono ?_)
      rintro e7 w7 ⟨A8,k8,c8,rfl,-,hv8,ho⟩
      rw [HXX.out] at hv8
      replace HK:=hid (HK.out.step ho)
      replace HMX:=hid hv8
      clear hv8 ho
      go_wp2_with fail
      (with_reducible refine (sqrt_v HMX).mono ?_)
      rintro e8 w8 ⟨A9,k9,c9,B9,l9,d9,_,_,rfl,rfl,rfl,-,-,hq8,hr8,-,ho⟩
      replace HK:=hid (HK.out.step ho)
      have HMQ:=hid hq8
      have HMR:=hid hr8
      have HT8:=hid (hT.out.keep HK.out.only)
      clear hq8 hr8 ho HMX
      go_wp2_with fail
      (with_reducible refine (bits_v HMR).mono ?_)
      rintro e10 w10 ⟨rfl,rfl⟩
      rw [HBR.out]
      go_wp2_with fail
      (with_reducible refine (bet_d (K:=N+2*P+6) (L:=N+P+4) false m H p dir HMQ HQL hh1 hh2 (by omega) HT8).mono ?_)
      rintro e9 w9 ⟨s9,A10,k10,c10,rfl,hs9,hk9,hv9,ho⟩
      rw [HP.out] at hs9 hk9 hv9 ⊢
      replace HK:=hid (HK.out.step ho)
      have HC:=hid (⟨hs9,hk9⟩:Cn s9 k10 _)
      have HV:=hid hv9
      obtain⟨c0,c1',c2,f0,f1,f2⟩:=HK.out.c3 0 rfl
      clear hv9 hs9 hk9 ho HMQ HT8
      generalize betD P (decide (0≤dir)) false _ _ _=r at*
      go_wp2_with fail
      refine bodyPost_ret (v:= .tuple #[.agg #[.bool s9,.slice A10 k10 c10,.int .i64 (r.e)],.bool true]) (by simp [results,Tryz.results54,go_sem,c0,c1',c2]) rfl ?_
      exact QDPost.of (dfin HC HV (by omega) (HK.out.blk 0 rfl) (noLimb3 _ _ _ _ _) HK.out.only (only_set3 _ _ _ _ _))
     case hl=>
      repeat (refine List.forall_mem_cons.2 ⟨?_,?_⟩;first|exact isV.lasts _|exact isNV.lasts _)
      exact fun _ h=>(by cases h)
  ·have ha1:bits .and .i64 x.e 1=0:=by rw [and_one];omega
   rw [if_neg hodd] at hEe hXe
   rw [hEe] at hH hev
   have hh1: -((N+P+4:Nat):Int)≤H:=by omega
   have hh2:H≤((N+P+4:Nat):Int):=by omega
   have hev2:(x.e-n)%2=0:=by omega
   have HX0:Hid (x.z.natAbs=X0):=hXe.symm
   clear hEe hXe hxz hr2
   by_cases hn0:0≤n
   ·obtain⟨k,hk⟩: ∃k:Nat,n=(k:Int):=⟨n.toNat,by omega⟩
    subst hk
    have hk16:(k:Int)≤16777216:=by omega
    have hxx:X0*2^k=shN X0 (k:Int):=by unfold shN;rw [if_pos (by omega)];rfl
    have hcb:cutB X0 (k:Int)=false:=by unfold cutB;rw [decide_eq_false (by omega)];rfl
    have HFX:Hid (Few (X0*2^k)):=by rw [hxx];exact hfx
    have HXX:=hid hxx
    have hd1:(x.e-(k:Int)).tdiv 2=H:=by rw [← hH];exact tdiv_even (by omega)
    have hd2:(x.e-(k:Int))/2=H:=hH
    rw [hcb,Bool.false_or]
    generalize shN X0 (k:Int)=X at*
    clear hxx hcb hn0 hfx hH
    obtain⟨r,hr⟩: ∃r,bitsN (X-rootN X*rootN X)=r:=⟨_,rfl⟩
    obtain⟨m,hm⟩: ∃m,decide (0<r)=m:=⟨_,rfl⟩
    have hm2:decide ((0:Int)<(r:Int))=m:=by rw [← hm];simp
    rw [show decide (0<X-rootN X*rootN X)=m by rw [← pos_bits,hr,hm]]
    have HBR:=hid hr
    clear hr
    go_enter Tryz.func54,Tryz.ntmps54
    go_wp2_with fail
    (with_reducible refine (signV_d 1 (DV.of HX) HPS.out).mono ?_)
    rintro e2 w2 ⟨rfl,ho⟩
    replace HK:=hid (HK.out.step ho)
    replace HX:=hid (HX.out.only ho)
    clear ho
    go_upto_region 6 with fail
    apply wp_region_typed2 (by kernel_rfl) [isV _,isV _,isV _,isNV x.z.natAbs,isV _,isV _,isNV x.z.natAbs,isV _] [[],[0],[1],[2],[],[4],[3],[5]] (by kernel_rfl) (by kernel_rfl)
    case ho=>
     iterate 8
      refine owes2_cons (fun wx hox=>?_) ?_
      ·skip
       have hk:=HK.out.step hox
       obtain⟨a0,a1,a2,-,-,-⟩:=hk.c3 1 rfl
       have hmx:=hid (HX.out.mag.only hox)
       clear hk
       refine withs_plain rfl ?_
       simp only [withs,List.getElem?_cons_zero,List.getElem?_cons_succ,Option.bind,Option.getD]
       with_reducible repeat first|refine all_isV ?_|(refine all_isNV ?_;intro Ax kx cx hvx)
       go_simp
       first
       |exact⟨Only.refl _ _,isV.self _ _⟩
       |with_reducible exact grow_nv (of_v hmx)
       |exact⟨Only.refl _ _,_,_,_,rfl,hvx.out⟩
     exact owes2_nil
    case he=>
     intro wx hox
     refine withs_of (by simp only [List.length,List.range,List.range.loop];exact rfl) ?_
     simp only [withs,List.getElem?_cons_zero,List.getElem?_cons_succ,Option.bind,Option.getD]
     with_reducible refine all_isV ?_
     with_reducible refine all_isV ?_
     with_reducible refine all_isV ?_
     with_reducible refine all_isNV ?_
     intro A3 k3 c3 hv3
     with_reducible refine all_isV ?_
     with_reducible refine all_isV ?_
     with_reducible refine all_isNV ?_
     intro A6 k6 c6 hv6
     with_reducible refine all_isV ?_
     go_simp
     replace HK:=hid (HK.out.step hox)
     have HMX:=hv6
     clear hox HX
     have hq:=HMX.out
     rw [HX0.out] at hq
     replace HMX:=hid hq
     clear hq
     go_wp2_with fail
     (with_reducible refine (width_any p _).mono ?_)
     rintro e4 w4 ⟨rfl,rfl⟩
     rw [HP.out]
     go_wp2_with fail
     (with_reducible refine (bits_v HMX).mono ?_)
     rintro e5 w5 ⟨rfl,rfl⟩
     rw [HBX.out]
     go_wp2_with fail
     (with_reducible refine (left_d k hk16 HMX HFX).mono ?_)
     rintro e7 w7 ⟨A8,k8,c8,rfl,-,hv8,ho⟩
     rw [HXX.out] at hv8
     replace HK:=hid (HK.out.step ho)
     replace HMX:=hid hv8
     clear hv8 ho
     go_wp2_with fail
     (with_reducible refine (sqrt_v HMX).mono ?_)
     rintro e8 w8 ⟨A9,k9,c9,B9,l9,d9,_,_,rfl,rfl,rfl,-,-,hq8,hr8,-,ho⟩
     replace HK:=hid (HK.out.step ho)
     have HMQ:=hid hq8
     have HMR:=hid hr8
     have HT8:=hid (hT.out.keep HK.out.only)
     clear hq8 hr8 ho HMX
     go_wp2_with fail
     (with_reducible refine (bits_v HMR).mono ?_)
     rintro e10 w10 ⟨rfl,rfl⟩
     rw [HBR.out]
     go_wp2_with fail
     (with_reducible refine (bet_d (K:=N+2*P+6) (L:=N+P+4) false m H p dir HMQ HQL hh1 hh2 (by omega) HT8).mono ?_)
     rintro e9 w9 ⟨s9,A10,k10,c10,rfl,hs9,hk9,hv9,ho⟩
     rw [HP.out] at hs9 hk9 hv9 ⊢
     replace HK:=hid (HK.out.step ho)
     have HC:=hid (⟨hs9,hk9⟩:Cn s9 k10 _)
     have HV:=hid hv9
     obtain⟨c0,c1',c2,f0,f1,f2⟩:=HK.out.c3 0 rfl
     clear hv9 hs9 hk9 ho HMQ HT8
     generalize betD P (decide (0≤dir)) false _ _ _=r at*
     go_wp2_with fail
     refine bodyPost_ret (v:= .tuple #[.agg #[.bool s9,.slice A10 k10 c10,.int .i64 (r.e)],.bool true]) (by simp [results,Tryz.results54,go_sem,c0,c1',c2]) rfl ?_
     exact QDPost.of (dfin HC HV (by omega) (HK.out.blk 0 rfl) (noLimb3 _ _ _ _ _) HK.out.only (only_set3 _ _ _ _ _))
    case hl=>
     repeat (refine List.forall_mem_cons.2 ⟨?_,?_⟩;first|exact isV.lasts _|exact isNV.lasts _)
     exact fun _ h=>(by cases h)
   ·obtain⟨k,hk⟩: ∃k:Nat,n= -(k:Int):=⟨(-n).toNat,by omega⟩
    subst hk
    have hk0:(0:Int)<(k:Int):=by omega
    have hk1:0<k:=by omega
    have hk2: ¬k=0:=by omega
    have hk4:decide ((0:Int)≤ -(k:Int))=false:=decide_eq_false (by omega)
    have hk16:(k:Int)≤16777216:=by omega
    have hxx:X0/2^k=shN X0 (-(k:Int)):=by unfold shN;rw [if_neg (by omega)];simp
    obtain⟨l,hl⟩: ∃l,lowN X0=l:=⟨_,rfl⟩
    have hcb:cutB X0 (-(k:Int))=decide (l<k):=by unfold cutB;rw [decide_eq_true (by omega),hl];simp
    have HXX:=hid hxx
    have HLW:=hid hl
    have hd1:(x.e+(k:Int)).tdiv 2=H:=by rw [← hH,show x.e+(k:Int)=x.e- -(k:Int) by omega];exact tdiv_even (by omega)
    have hd2:(x.e+(k:Int))/2=H:=by rw [← hH,show x.e+(k:Int)=x.e- -(k:Int) by omega]
    rw [hcb]
    generalize shN X0 (-(k:Int))=X at*
    clear hxx hcb hn0 hfx hl hH
    by_cases hlk:l<k
    ·rw [decide_eq_true hlk,Bool.true_or]
     have hl1:decide ((l:Int)<(k:Int))=true:=decide_eq_true (by omega)
     go_enter Tryz.func54,Tryz.ntmps54
     go_wp2_with fail
     (with_reducible refine (signV_d 1 (DV.of HX) HPS.out).mono ?_)
     rintro e2 w2 ⟨rfl,ho⟩
     replace HK:=hid (HK.out.step ho)
     replace HX:=hid (HX.out.only ho)
     clear ho
     go_upto_region 6 with fail
     apply wp_region_typed2 (by kernel_rfl) [isV _,isV _,isV _,isNV x.z.natAbs,isV _,isV _,isNV x.z.natAbs,isV _] [[],[0],[1],[2],[],[4],[3],[5]] (by kernel_rfl) (by kernel_rfl)
     case ho=>
      iterate 8
       refine owes2_cons (fun wx hox=>?_) ?_
       ·skip
        have hk:=HK.out.step hox
        obtain⟨a0,a1,a2,-,-,-⟩:=hk.c3 1 rfl
        have hmx:=hid (HX.out.mag.only hox)
        clear hk
        refine withs_plain rfl ?_
        simp only [withs,List.getElem?_cons_zero,List.getElem?_cons_succ,Option.bind,Option.getD]
        with_reducible repeat first|refine all_isV ?_|(refine all_isNV ?_;intro Ax kx cx hvx)
        go_simp
        first
        |exact⟨Only.refl _ _,isV.self _ _⟩
        |with_reducible exact grow_nv (of_v hmx)
        |exact⟨Only.refl _ _,_,_,_,rfl,hvx.out⟩
      exact owes2_nil
     case he=>
      intro wx hox
      refine withs_of (by simp only [List.length,List.range,List.range.loop];exact rfl) ?_
      simp only [withs,List.getElem?_cons_zero,List.getElem?_cons_succ,Option.bind,Option.getD]
      with_reducible refine all_isV ?_
      with_reducible refine all_isV ?_
      with_reducible refine all_isV ?_
      with_reducible refine all_isNV ?_
      intro A3 k3 c3 hv3
      with_reducible refine all_isV ?_
      with_reducible refine all_isV ?_
      with_reducible refine all_isNV ?_
      intro A6 k6 c6 hv6
      with_reducible refine all_isV ?_
      go_simp
      replace HK:=hid (HK.out.step hox)
      have HMX:=hv6
      clear hox HX
      have hq:=HMX.out
      rw [HX0.out] at hq
      replace HMX:=hid hq
      clear hq
      go_wp2_with fail
      (with_reducible refine (width_any p _).mono ?_)
      rintro e4 w4 ⟨rfl,rfl⟩
      rw [HP.out]
      go_wp2_with fail
      (with_reducible refine (bits_v HMX).mono ?_)
      rintro e5 w5 ⟨rfl,rfl⟩
      rw [HBX.out]
      go_wp2_with fail
      (with_reducible refine (low_v HMX (hid (hT.out.keep HK.out.only))).mono ?_)
      rintro e10 w10 ⟨rfl,rfl⟩
      rw [HLW.out]
      go_wp2_with fail
      (with_reducible refine (right_d k hk16 HMX).mono ?_)
      rintro e7 w7 ⟨A8,k8,c8,rfl,-,hv8,ho⟩
      rw [HXX.out] at hv8
      replace HK:=hid (HK.out.step ho)
      replace HMX:=hid hv8
      clear hv8 ho
      go_wp2_with fail
      (with_reducible refine (sqrt_v HMX).mono ?_)
      rintro e8 w8 ⟨A9,k9,c9,B9,l9,d9,_,_,rfl,rfl,rfl,-,-,hq8,hr8,-,ho⟩
      replace HK:=hid (HK.out.step ho)
      have HMQ:=hid hq8
      have HMR:=hid hr8
      have HT8:=hid (hT.out.keep HK.out.only)
      clear hq8 hr8 ho HMX
      go_wp2_with fail
      (with_reducible refine (bet_d (K:=N+2*P+6) (L:=N+P+4) false true H p dir HMQ HQL hh1 hh2 (by omega) HT8).mono ?_)
      rintro e9 w9 ⟨s9,A10,k10,c10,rfl,hs9,hk9,hv9,ho⟩
      rw [HP.out] at hs9 hk9 hv9 ⊢
      replace HK:=hid (HK.out.step ho)
      have HC:=hid (⟨hs9,hk9⟩:Cn s9 k10 _)
      have HV:=hid hv9
      obtain⟨c0,c1',c2,f0,f1,f2⟩:=HK.out.c3 0 rfl
      clear hv9 hs9 hk9 ho HMQ HT8
      generalize betD P (decide (0≤dir)) false _ _ _=r at*
      go_wp2_with fail
      refine bodyPost_ret (v:= .tuple #[.agg #[.bool s9,.slice A10 k10 c10,.int .i64 (r.e)],.bool true]) (by simp [results,Tryz.results54,go_sem,c0,c1',c2]) rfl ?_
      exact QDPost.of (dfin HC HV (by omega) (HK.out.blk 0 rfl) (noLimb3 _ _ _ _ _) HK.out.only (only_set3 _ _ _ _ _))
     case hl=>
      repeat (refine List.forall_mem_cons.2 ⟨?_,?_⟩;first|exact isV.lasts _|exact isNV.lasts _)
      exact fun _ h=>(by cases h)
    ·rw [decide_eq_false hlk,Bool.false_or]
     have hl1:decide ((l:Int)<(k:Int))=false:=decide_eq_false (by omega)
     obtain⟨r,hr⟩: ∃r,bitsN (X-rootN X*rootN X)=r:=⟨_,rfl⟩
     obtain⟨m,hm⟩: ∃m,decide (0<r)=m:=⟨_,rfl⟩
     have hm2:decide ((0:Int)<(r:Int))=m:=by rw [← hm];simp
     rw [show decide (0<X-rootN X*rootN X)=m by rw [← pos_bits,hr,hm]]
     have HBR:=hid hr
     clear hr
     go_enter Tryz.func54,Tryz.ntmps54
     go_wp2_with fail
     (with_reducible refine (signV_d 1 (DV.of HX) HPS.out).mono ?_)
     rintro e2 w2 ⟨rfl,ho⟩
     replace HK:=hid (HK.out.step ho)
     replace HX:=hid (HX.out.only ho)
     clear ho
     go_upto_region 6 with fail
     apply wp_region_typed2 (by kernel_rfl) [isV _,isV _,isV _,isNV x.z.natAbs,isV _,isV _,isNV x.z.natAbs,isV _] [[],[0],[1],[2],[],[4],[3],[5]] (by kernel_rfl) (by kernel_rfl)
     case ho=>
      iterate 8
       refine owes2_cons (fun wx hox=>?_) ?_
       ·skip
        have hk:=HK.out.step hox
        obtain⟨a0,a1,a2,-,-,-⟩:=hk.c3 1 rfl
        have hmx:=hid (HX.out.mag.only hox)
        clear hk
        refine withs_plain rfl ?_
        simp only [withs,List.getElem?_cons_zero,List.getElem?_cons_succ,Option.bind,Option.getD]
        with_reducible repeat first|refine all_isV ?_|(refine all_isNV ?_;intro Ax kx cx hvx)
        go_simp
        first
        |exact⟨Only.refl _ _,isV.self _ _⟩
        |with_reducible exact grow_nv (of_v hmx)
        |exact⟨Only.refl _ _,_,_,_,rfl,hvx.out⟩
      exact owes2_nil
     case he=>
      intro wx hox
      refine withs_of (by simp only [List.length,List.range,List.range.loop];exact rfl) ?_
      simp only [withs,List.getElem?_cons_zero,List.getElem?_cons_succ,Option.bind,Option.getD]
      with_reducible refine all_isV ?_
      with_reducible refine all_isV ?_
      with_reducible refine all_isV ?_
      with_reducible refine all_isNV ?_
      intro A3 k3 c3 hv3
      with_reducible refine all_isV ?_
      with_reducible refine all_isV ?_
      with_reducible refine all_isNV ?_
      intro A6 k6 c6 hv6
      with_reducible refine all_isV ?_
      go_simp
      replace HK:=hid (HK.out.step hox)
      have HMX:=hv6
      clear hox HX
      have hq:=HMX.out
      rw [HX0.out] at hq
      replace HMX:=hid hq
      clear hq
      go_wp2_with fail
      (with_reducible refine (width_any p _).mono ?_)
      rintro e4 w4 ⟨rfl,rfl⟩
      rw [HP.out]
      go_wp2_with fail
      (with_reducible refine (bits_v HMX).mono ?_)
      rintro e5 w5 ⟨rfl,rfl⟩
      rw [HBX.out]
      go_wp2_with fail
      (with_reducible refine (low_v HMX (hid (hT.out.keep HK.out.only))).mono ?_)
      rintro e10 w10 ⟨rfl,rfl⟩
      rw [HLW.out]
      go_wp2_with fail
      (with_reducible refine (right_d k hk16 HMX).mono ?_)
      rintro e7 w7 ⟨A8,k8,c8,rfl,-,hv8,ho⟩
      rw [HXX.out] at hv8
      replace HK:=hid (HK.out.step ho)
      replace HMX:=hid hv8
      clear hv8 ho
      go_wp2_with fail
      (with_reducible refine (sqrt_v HMX).mono ?_)
      rintro e8 w8 ⟨A9,k9,c9,B9,l9,d9,_,_,rfl,rfl,rfl,-,-,hq8,hr8,-,ho⟩
      replace HK:=hid (HK.out.step ho)
      have HMQ:=hid hq8
      have HMR:=hid hr8
      have HT8:=hid (hT.out.keep HK.out.only)
      clear hq8 hr8 ho HMX
      go_wp2_with fail
      (with_reducible refine (bits_v HMR).mono ?_)
      rintro e10 w10 ⟨rfl,rfl⟩
      rw [HBR.out]
      go_wp2_with fail
      (with_reducible refine (bet_d (K:=N+2*P+6) (L:=N+P+4) false m H p dir HMQ HQL hh1 hh2 (by omega) HT8).mono ?_)
      rintro e9 w9 ⟨s9,A10,k10,c10,rfl,hs9,hk9,hv9,ho⟩
      rw [HP.out] at hs9 hk9 hv9 ⊢
      replace HK:=hid (HK.out.step ho)
      have HC:=hid (⟨hs9,hk9⟩:Cn s9 k10 _)
      have HV:=hid hv9
      obtain⟨c0,c1',c2,f0,f1,f2⟩:=HK.out.c3 0 rfl
      clear hv9 hs9 hk9 ho HMQ HT8
      generalize betD P (decide (0≤dir)) false _ _ _=r at*
      go_wp2_with fail
      refine bodyPost_ret (v:= .tuple #[.agg #[.bool s9,.slice A10 k10 c10,.int .i64 (r.e)],.bool true]) (by simp [results,Tryz.results54,go_sem,c0,c1',c2]) rfl ?_
      exact QDPost.of (dfin HC HV (by omega) (HK.out.blk 0 rfl) (noLimb3 _ _ _ _ _) HK.out.only (only_set3 _ _ _ _ _))
     case hl=>
      repeat (refine List.forall_mem_cons.2 ⟨?_,?_⟩;first|exact isV.lasts _|exact isNV.lasts _)
      exact fun _ h=>(by cases h)
end Go.Proofs.YtigpnopeacicpaaGreatDoor
