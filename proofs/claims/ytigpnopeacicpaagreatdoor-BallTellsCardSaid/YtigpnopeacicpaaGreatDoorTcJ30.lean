/-
  Joined texts.
-/
import Derived.Test.YtigpnopeacicpaaGreatDoorTcJ29
import Derived.Test.YtigpnopeacicpaaGreatDoorTcJ26
import Derived.Test.YtigpnopeacicpaaGreatDoorTcJ18
import Derived.Test.YtigpnopeacicpaaGreatDoorTcDyN
namespace Go.Proofs.YtigpnopeacicpaaGreatDoor
open Go.Lib (hid)
set_option linter.unusedSimpArgs false
open Go.RowKit
theorem rmulV_v {w:World} {a b:Value} {m n:Nat} (r:Nat) (hr:m*n=r) (ha:Hid (RV w a m)) (hb:Hid (RV w b n)) (hfa:Hid (Few m)) (hfb:Hid (Few n)):Calls Tryz.prog 98 #[a,b] w (RPost r w):=hr▸rmul_v ha hb hfa hfb
theorem rsqrtV_v {w:World} {a:Value} {m:Nat} (r:Nat) (hr:rootN m=r) (ha:Hid (RV w a m)) (hf:Hid (Few m)):Calls Tryz.prog 96 #[a] w (RPost r w):=hr▸rsqrt_v ha hf
theorem rcmpV_v {w:World} {a b:Value} {m n:Nat} (r:Int) (ha:Hid (RV w a m)) (hb:Hid (RV w b n)) (hfa:Hid (Few m)) (hfb:Hid (Few n)) (hr:cmpZ m n=r):Calls Tryz.prog 97 #[a,b] w fun e w'=>e= .returned (.int .i64 r)∧Only [] w w':=hr▸rcmp_v ha hb hfa hfb
set_option maxHeartbeats 8000000 in
set_option maxRecDepth 100000 in
theorem rdsqrt_even {w:World} {s:Bool} {A:Option Addr} {k c X K:Nat} {x:Dy} (p dir:Int) (P bX n0 n X2 rr sq:Nat) (p1 p2 p3 r0 e1 e2 cz:Int) (rest:Bool) (r:Dy) (HP:Hid (widthP p=P)) (HBX:Hid (bitsN X=bX)) (hW1:IntKind.i64.wrap (2*(P:Int))=p1) (hW2:IntKind.i64.wrap (p1+4)=p2) (hW3:IntKind.i64.wrap (p2-(bX:Int))=p3) (hmax:max p3 0=(n0:Int)) (hr0:(r0 == 0)=true) (hn:n=n0) (hrem:e1.tmod 2=r0)
  (hn9:(n:Int)≤90000000) (HXE:Hid (X*2^n=X2)) (HRT:Hid (rootN X2=rr)) (HSQ:Hid (rr*rr=sq)) (HCZ:Hid (cmpZ sq X2=cz)) (hcz:(cz != 0)=rest) (hW5:IntKind.i64.wrap (x.e-(n:Int))=e1) (hq5:e1.tdiv 2=e2) (hq6:IntKind.i64.wrap e2=e2) (HRR:Hid (cutR P (decide (0≤dir)) false rr e2 rest=r))
  (hv:RV w (.slice A k c) X) (HFX:Hid (Few X)) (HF2:Hid (Few X2)) (HFR:Hid (Few rr)) (HFS:Hid (Few sq)) (hm:Hid (rr<2^K)) (hK:K≤40000000) (hP1:1≤P) (hP2:P≤100000) (he1: -1000000000000≤e2) (he2:e2≤1000000000000):
  Calls Tryz.prog 55 #[.agg #[.bool s,.slice A k c,.int .i64 x.e],.int .i64 p,.int .i64 dir] w (RDP r w):=by
 have hk:=((KB.start w).new 38 [.bool s,.slice A k c,.int .i64 x.e]).new 38 [.bool false,.slice none 0 0,.int .i64 0]
 simp only [World.size_alloc] at hk
 have HX:=hid (hv.only hk.only)
 have HK:=hid hk
 clear hk hv
 go_enter Tryz.func55,Tryz.ntmps55
 go_wp2_with fail
 (with_reducible refine (qbits_v p P HP.out _).mono ?_)
 rintro e0 w1 ⟨rfl,rfl⟩
 obtain⟨i0,i1,i2,-,-,-⟩:=HK.out.c3 1 rfl
 go_wp2_with fail
 (with_reducible refine (rbitsV_v bX HX HFX HBX.out).mono ?_)
 rintro e0 w2 ⟨rfl,rfl⟩
 subst hn
 clear i0 i1 i2
 obtain⟨i0,i1,i2,-,-,-⟩:=HK.out.c3 1 rfl
 go_upto_region 5 with fail
 clear hW1 hW2 hW3 hmax hrem
 go_wp2_with fail
 (with_reducible refine (rshlV_v n X2 hn9 HX HFX HXE.out).mono ?_)
 rintro e w3 ⟨A3,k3,c3,rfl,hv,-,ho⟩
 have HX2:=hid hv
 replace HK:=hid (HK.out.step ho)
 clear hv ho i0 i1 i2 HX HFX HXE
 go_wp2_with fail
 (with_reducible refine (rsqrtV_v rr HRT.out HX2 HF2).mono ?_)
 rintro e w4 ⟨A4,k4,c4,rfl,hv,-,ho⟩
 have HR:=hid hv
 replace HX2:=hid (HX2.out.only ho)
 replace HK:=hid (HK.out.step ho)
 clear hv ho HRT
 go_upto_region 7 with fail
 apply wp_region_typed_tail2 15 (by kernel_rfl) [isRN rr,isV _,isV _,isV _,isV _,isV _,isRN rr,isRN rr,isRN sq,isRN X2,isV _,isV _,isV _,isV _,isRD r] [[],[],[1],[],[2,3],[4],[],[],[6,7],[],[8,9],[10],[],[],[0,5,11,12,13]] (by kernel_rfl) (by kernel_rfl) (by kernel_rfl)
 case ho=>
  simp only [List.take_succ_cons,List.take_zero]
  iterate 15
   refine owes2_cons (fun wx hox=>?_) ?_
   ·skip
    have hk:=HK.out.step hox
    obtain⟨i0,i1,i2,-,-,-⟩:=hk.c3 1 rfl
    clear hk
    refine withs_plain rfl ?_
    simp only [withs,List.getElem?_cons_zero,List.getElem?_cons_succ,Option.bind,Option.getD]
    with_reducible repeat first|refine all_isV ?_|(refine all_isRD ?_;intro sx Ax kx cx hvx hwx)|(refine all_isRN ?_;intro Ax kx cx hvx)
    go_simp
    first
    |exact⟨Only.refl _ _,isV.self _ _⟩
    |exact⟨Only.refl _ _,_,_,_,rfl,HR.out.only hox⟩
    |with_reducible exact grow_rn (rmulV_v sq HSQ.out (by assumption) (by assumption) HFR HFR)
    |exact⟨Only.refl _ _,_,_,_,rfl,HX2.out.only hox⟩
    |with_reducible exact grow_of (rcmpV_v cz (by assumption) (by assumption) HFS HF2 HCZ.out)
    |with_reducible exact grow_rd (rcut_d (K:=K) false rest e2 dir P r HRR.out (by assumption) hm.out hK hP1 hP2 he1 he2)
  exact owes2_nil
 case he=>
  simp only [List.drop_succ_cons,List.drop_zero]
  intro wx hox
  refine withs_of (by simp only [List.length,List.range,List.range.loop];exact rfl) ?_
  simp only [withs,List.getElem?_cons_zero,List.getElem?_cons_succ,Option.bind,Option.getD]
  with_reducible refine all_isRN ?_
  intro A0 k0 c0 hv0
  with_reducible refine all_isV ?_
  with_reducible refine all_isV ?_
  with_reducible refine all_isV ?_
  with_reducible refine all_isV ?_
  with_reducible refine all_isV ?_
  with_reducible refine all_isRN ?_
  intro A6 k6 c6 hv6
  with_reducible refine all_isRN ?_
  intro A7 k7 c7 hv7
  with_reducible refine all_isRN ?_
  intro A8 k8 c8 hv8
  with_reducible refine all_isRN ?_
  intro A9 k9 c9 hv9
  with_reducible refine all_isV ?_
  with_reducible refine all_isV ?_
  with_reducible refine all_isV ?_
  with_reducible refine all_isV ?_
  with_reducible refine all_isRD ?_
  intro s14 A14 k14 c14 hv14 hw14
  go_simp
  replace HK:=hid (HK.out.step hox)
  clear hox
  obtain⟨q0,q1,q2,f0,f1,f2⟩:=HK.out.c3 0 rfl
  go_wp2_with fail
  refine bodyPost_ret (v:= .agg #[.bool s14,.slice A14 k14 c14,.int .i64 (r.e)]) (by simp [results,Tryz.results55,go_sem,q0,q1,q2]) rfl ?_
  exact rdfin hv14 hw14 (by omega) (HK.out.blk 0 rfl) (noLimb3 _ _ _ _ _) HK.out.only (only_set3 _ _ _ _ _)
 case hl=>
  repeat (refine List.forall_mem_cons.2 ⟨?_,?_⟩;first|exact isV.lasts _|exact isRD.lasts _|exact isRN.lasts _)
  exact fun _ h=>(by cases h)
set_option maxHeartbeats 8000000 in
set_option maxRecDepth 100000 in
theorem rdsqrt_odd {w:World} {s:Bool} {A:Option Addr} {k c X K:Nat} {x:Dy} (p dir:Int) (P bX n0 n X2 rr sq:Nat) (p1 p2 p3 d0 r0 e1 e2 cz:Int) (rest:Bool) (r:Dy) (HP:Hid (widthP p=P)) (HBX:Hid (bitsN X=bX)) (hW1:IntKind.i64.wrap (2*(P:Int))=p1) (hW2:IntKind.i64.wrap (p1+4)=p2) (hW3:IntKind.i64.wrap (p2-(bX:Int))=p3) (hmax:max p3 0=(n0:Int)) (hW4:IntKind.i64.wrap (x.e-(n0:Int))=d0) (hrem:d0.tmod 2=r0) (hr0:(r0 == 0)=false) (hn:IntKind.i64.wrap ((n0:Int)+1)=(n:Int))
  (hn9:(n:Int)≤90000000) (HXE:Hid (X*2^n=X2)) (HRT:Hid (rootN X2=rr)) (HSQ:Hid (rr*rr=sq)) (HCZ:Hid (cmpZ sq X2=cz)) (hcz:(cz != 0)=rest) (hW5:IntKind.i64.wrap (x.e-(n:Int))=e1) (hq5:e1.tdiv 2=e2) (hq6:IntKind.i64.wrap e2=e2) (HRR:Hid (cutR P (decide (0≤dir)) false rr e2 rest=r))
  (hv:RV w (.slice A k c) X) (HFX:Hid (Few X)) (HF2:Hid (Few X2)) (HFR:Hid (Few rr)) (HFS:Hid (Few sq)) (hm:Hid (rr<2^K)) (hK:K≤40000000) (hP1:1≤P) (hP2:P≤100000) (he1: -1000000000000≤e2) (he2:e2≤1000000000000):
  Calls Tryz.prog 55 #[.agg #[.bool s,.slice A k c,.int .i64 x.e],.int .i64 p,.int .i64 dir] w (RDP r w):=by
 have hk:=((KB.start w).new 38 [.bool s,.slice A k c,.int .i64 x.e]).new 38 [.bool false,.slice none 0 0,.int .i64 0]
 simp only [World.size_alloc] at hk
 have HX:=hid (hv.only hk.only)
 have HK:=hid hk
 clear hk hv
 go_enter Tryz.func55,Tryz.ntmps55
 go_wp2_with fail
 (with_reducible refine (qbits_v p P HP.out _).mono ?_)
 rintro e0 w1 ⟨rfl,rfl⟩
 obtain⟨i0,i1,i2,-,-,-⟩:=HK.out.c3 1 rfl
 go_wp2_with fail
 (with_reducible refine (rbitsV_v bX HX HFX HBX.out).mono ?_)
 rintro e0 w2 ⟨rfl,rfl⟩
 clear i0 i1 i2
 obtain⟨i0,i1,i2,-,-,-⟩:=HK.out.c3 1 rfl
 go_upto_region 5 with fail
 clear hW1 hW2 hW3 hmax hW4 hrem
 go_wp2_with fail
 (with_reducible refine (rshlV_v n X2 hn9 HX HFX HXE.out).mono ?_)
 rintro e w3 ⟨A3,k3,c3,rfl,hv,-,ho⟩
 have HX2:=hid hv
 replace HK:=hid (HK.out.step ho)
 clear hv ho i0 i1 i2 HX HFX HXE
 go_wp2_with fail
 (with_reducible refine (rsqrtV_v rr HRT.out HX2 HF2).mono ?_)
 rintro e w4 ⟨A4,k4,c4,rfl,hv,-,ho⟩
 have HR:=hid hv
 replace HX2:=hid (HX2.out.only ho)
 replace HK:=hid (HK.out.step ho)
 clear hv ho HRT
 go_upto_region 7 with fail
 apply wp_region_typed_tail2 15 (by kernel_rfl) [isRN rr,isV _,isV _,isV _,isV _,isV _,isRN rr,isRN rr,isRN sq,isRN X2,isV _,isV _,isV _,isV _,isRD r] [[],[],[1],[],[2,3],[4],[],[],[6,7],[],[8,9],[10],[],[],[0,5,11,12,13]] (by kernel_rfl) (by kernel_rfl) (by kernel_rfl)
 case ho=>
  simp only [List.take_succ_cons,List.take_zero]
  iterate 15
   refine owes2_cons (fun wx hox=>?_) ?_
   ·skip
    have hk:=HK.out.step hox
    obtain⟨i0,i1,i2,-,-,-⟩:=hk.c3 1 rfl
    clear hk
    refine withs_plain rfl ?_
    simp only [withs,List.getElem?_cons_zero,List.getElem?_cons_succ,Option.bind,Option.getD]
    with_reducible repeat first|refine all_isV ?_|(refine all_isRD ?_;intro sx Ax kx cx hvx hwx)|(refine all_isRN ?_;intro Ax kx cx hvx)
    go_simp
    first
    |exact⟨Only.refl _ _,isV.self _ _⟩
    |exact⟨Only.refl _ _,_,_,_,rfl,HR.out.only hox⟩
    |with_reducible exact grow_rn (rmulV_v sq HSQ.out (by assumption) (by assumption) HFR HFR)
    |exact⟨Only.refl _ _,_,_,_,rfl,HX2.out.only hox⟩
    |with_reducible exact grow_of (rcmpV_v cz (by assumption) (by assumption) HFS HF2 HCZ.out)
    |with_reducible exact grow_rd (rcut_d (K:=K) false rest e2 dir P r HRR.out (by assumption) hm.out hK hP1 hP2 he1 he2)
  exact owes2_nil
 case he=>
  simp only [List.drop_succ_cons,List.drop_zero]
  intro wx hox
  refine withs_of (by simp only [List.length,List.range,List.range.loop];exact rfl) ?_
  simp only [withs,List.getElem?_cons_zero,List.getElem?_cons_succ,Option.bind,Option.getD]
  with_reducible refine all_isRN ?_
  intro A0 k0 c0 hv0
  with_reducible refine all_isV ?_
  with_reducible refine all_isV ?_
  with_reducible refine all_isV ?_
  with_reducible refine all_isV ?_
  with_reducible refine all_isV ?_
  with_reducible refine all_isRN ?_
  intro A6 k6 c6 hv6
  with_reducible refine all_isRN ?_
  intro A7 k7 c7 hv7
  with_reducible refine all_isRN ?_
  intro A8 k8 c8 hv8
  with_reducible refine all_isRN ?_
  intro A9 k9 c9 hv9
  with_reducible refine all_isV ?_
  with_reducible refine all_isV ?_
  with_reducible refine all_isV ?_
  with_reducible refine all_isV ?_
  with_reducible refine all_isRD ?_
  intro s14 A14 k14 c14 hv14 hw14
  go_simp
  replace HK:=hid (HK.out.step hox)
  clear hox
  obtain⟨q0,q1,q2,f0,f1,f2⟩:=HK.out.c3 0 rfl
  go_wp2_with fail
  refine bodyPost_ret (v:= .agg #[.bool s14,.slice A14 k14 c14,.int .i64 (r.e)]) (by simp [results,Tryz.results55,go_sem,q0,q1,q2]) rfl ?_
  exact rdfin hv14 hw14 (by omega) (HK.out.blk 0 rfl) (noLimb3 _ _ _ _ _) HK.out.only (only_set3 _ _ _ _ _)
 case hl=>
  repeat (refine List.forall_mem_cons.2 ⟨?_,?_⟩;first|exact isV.lasts _|exact isRD.lasts _|exact isRN.lasts _)
  exact fun _ h=>(by cases h)
theorem cmpZ_bne (m n:Nat):(cmpZ m n != 0)=decide (m≠n):=by
 unfold cmpZ
 by_cases h1:m<n
 ·rw [if_pos h1,decide_eq_true (by omega)];rfl
 ·by_cases h2:m=n
  ·subst h2;simp
  ·rw [decide_eq_true h2];simp [h1];omega
theorem rdsqrt_d {w:World} {a:Value} {x:Dy} {N:Nat} (p dir:Int) (r:Dy) (hr:sqrtQ (widthP p) (decide (0≤dir)) x=r) (hx0:0≤x.z) (ha:Hid (RD w a x)) (hx:Hid (Bnd N x)) (hN:N≤2000000):Calls Tryz.prog 55 #[a,.int .i64 p,.int .i64 dir] w (RDP r w):=by
 have hex:=rlim_i64 hx.out (by omega)
 obtain⟨P,hP⟩: ∃P,widthP p=P:=⟨_,rfl⟩
 have hw:=widthP_range p
 rw [hP] at hw hr
 obtain⟨s,A,k,c,rfl,hc,hv⟩:=ha.out
 have hs:s=false:=by rw [hc.1];exact decide_eq_false (by omega)
 subst hs
 have hX:=bitsN_le hx.out.z
 obtain⟨n0,hn0⟩: ∃n0:Nat,2*P+4-bitsN x.z.natAbs=n0:=⟨_,rfl⟩
 have hn:(max (2*(P:Int)+4-(bitsN x.z.natAbs:Int)) 0)=(n0:Int):=by omega
 have hnl:sqrRn P x≤2*P+5:=by unfold sqrRn;split<;>omega
 have hnr:sqrRn P x=if (x.e-(n0:Int))%2=0 then n0 else n0+1:=by unfold sqrRn;rw [hn0]
 have hev:(x.e-(sqrRn P x:Int))%2=0:=by rw [hnr];split<;>omega
 have hx2:x.z.natAbs*2^sqrRn P x<2^(N+(2*P+5)):=by
  rw [Nat.pow_add]
  have h1:x.z.natAbs*2^sqrRn P x≤x.z.natAbs*2^(2*P+5):=Nat.mul_le_mul_left _ (two_mono hnl)
  exact Nat.lt_of_le_of_lt h1 ((Nat.mul_lt_mul_right (Nat.pow_pos (by omega))).2 hx.out.z)
 have hroot:=(rootN_is (x.z.natAbs*2^sqrRn P x)).1
 have href:=sqr_ref (P:=P) (up:=decide (0≤dir)) (x:=x) hw.1 hx0
 unfold sqrR at href
 rw [hr] at href
 obtain⟨n,hne⟩: ∃n,sqrRn P x=n:=⟨_,rfl⟩
 rw [hne] at href hx2 hev hnl hnr hroot
 obtain⟨X2,hX2⟩: ∃X2,x.z.natAbs*2^n=X2:=⟨_,rfl⟩
 rw [hX2] at href hx2 hroot
 have hrl:rootN X2≤X2:=by
  rcases Nat.eq_zero_or_pos (rootN X2) with h|h
  ·omega
  ·exact Nat.le_trans (Nat.le_mul_of_pos_left _ h) hroot
 have hdv:(x.e-(n:Int)).tdiv 2=(x.e-(n:Int))/2:=Int.tdiv_eq_ediv_of_dvd (Int.dvd_of_emod_eq_zero hev)
 have HF:Hid (Few x.z.natAbs):=rd_few hx.out (by omega)
 have hre:(cmpZ (rootN X2*rootN X2) X2 != 0)=decide (rootN X2*rootN X2≠X2):=cmpZ_bne _ _
 by_cases hp:(x.e-(n0:Int))%2=0
 ·rw [if_pos hp] at hnr
  exact rdsqrt_even (K:=N+(2*P+5)) p dir P (bitsN x.z.natAbs) n0 n X2 _ _ (2*(P:Int)) (2*(P:Int)+4) (2*(P:Int)+4-(bitsN x.z.natAbs:Int)) 0 (x.e-(n:Int)) ((x.e-(n:Int))/2) _ _ r (hid hP) (hid rfl) (wrap_i64 (by omega)) (wrap_i64 (by omega)) (wrap_i64 (by omega)) hn rfl hnr (by rw [hnr];exact Int.tmod_eq_zero_of_dvd (Int.dvd_of_emod_eq_zero hp)) (by omega) (hid hX2) (hid rfl) (hid rfl) (hid rfl) hre (wrap_i64 (by omega)) hdv (wrap_i64 (by omega)) (hid href) hv HF (hid (few_two_pow hx2 (by omega))) (hid (few_two_pow (Nat.lt_of_le_of_lt hrl hx2) (by omega))) (hid (few_two_pow (Nat.lt_of_le_of_lt hroot hx2) (by omega))) (hid (Nat.lt_of_le_of_lt hrl hx2)) (by omega) hw.1 (by omega) (by omega) (by omega)
 ·rw [if_neg hp] at hnr
  have hr0:((x.e-(n0:Int)).tmod 2 == 0)=false:=by rw [beq_eq_false_iff_ne];exact fun hc=>hp (Int.emod_eq_zero_of_dvd (Int.dvd_of_tmod_eq_zero hc))
  exact rdsqrt_odd (K:=N+(2*P+5)) p dir P (bitsN x.z.natAbs) n0 n X2 _ _ (2*(P:Int)) (2*(P:Int)+4) (2*(P:Int)+4-(bitsN x.z.natAbs:Int)) (x.e-(n0:Int)) _ (x.e-(n:Int)) ((x.e-(n:Int))/2) _ _ r (hid hP) (hid rfl) (wrap_i64 (by omega)) (wrap_i64 (by omega)) (wrap_i64 (by omega)) hn (wrap_i64 (by omega)) rfl hr0 ((wrap_i64 (by omega)).trans (by omega)) (by omega) (hid hX2) (hid rfl) (hid rfl) (hid rfl) hre (wrap_i64 (by omega)) hdv (wrap_i64 (by omega)) (hid href) hv HF (hid (few_two_pow hx2 (by omega))) (hid (few_two_pow (Nat.lt_of_le_of_lt hrl hx2) (by omega))) (hid (few_two_pow (Nat.lt_of_le_of_lt hroot hx2) (by omega))) (hid (Nat.lt_of_le_of_lt hrl hx2)) (by omega) hw.1 (by omega) (by omega) (by omega)
theorem rrefB_d {w:World} {a:Value} {x:Dy} {N:Nat} (r:Dy) (hr:nrm x.z x.e=r) (ha:Hid (DV w a x)) (bx:Hid (Bnd N x)) (hN:N≤8000000):Calls Tryz.prog 18 #[a] w (RDP r w):=hr▸rref_d ha bx hN
theorem raddB_d {w:World} {a b:Value} {x y:Dy} {N:Nat} (r:Dy) (hr:dAdd x y=r) (ha:Hid (RD w a x)) (hb:Hid (RD w b y)) (cx:Hid (Can x)) (cy:Hid (Can y)) (bx:Hid (Bnd N x)) (by_:Hid (Bnd N y)) (hN:N≤2000000):Calls Tryz.prog 62 #[a,b] w (RDP r w):=hr▸radd_d ha hb cx cy bx by_ hN
theorem rsubB_d {w:World} {a b:Value} {x y:Dy} {N:Nat} (r:Dy) (hr:dSub x y=r) (ha:Hid (RD w a x)) (hb:Hid (RD w b y)) (cx:Hid (Can x)) (bx:Hid (Bnd N x)) (by_:Hid (Bnd N y)) (hN:N≤1000000):Calls Tryz.prog 59 #[a,b] w (RDP r w):=hr▸rsub_d ha hb cx bx by_ hN
theorem rmulB_d {w:World} {a b:Value} {x y:Dy} {N:Nat} (r:Dy) (hr:dMul x y=r) (ha:Hid (RD w a x)) (hb:Hid (RD w b y)) (bx:Hid (Bnd N x)) (by_:Hid (Bnd N y)) (hN:N≤2000000):Calls Tryz.prog 65 #[a,b] w (RDP r w):=hr▸rmul_d ha hb bx by_ hN
def RBV (w:World) (v:Value) (x y:Dy):Prop:= ∃s A k c t B m d,v= .agg #[.bool s,.slice A k c,.int .i64 x.e,.bool t,.slice B m d,.int .i64 y.e]∧RD w (.agg #[.bool s,.slice A k c,.int .i64 x.e]) x∧RD w (.agg #[.bool t,.slice B m d,.int .i64 y.e]) y
theorem RBV.only {w w':World} {v:Value} {x y:Dy} (h:RBV w v x y) (ho:Only [] w w'):RBV w' v x y:=by
 obtain⟨s,A,k,c,t,B,m,d,h1,h2,h3⟩:=h
 exact⟨s,A,k,c,t,B,m,d,h1,h2.only ho,h3.only ho⟩
theorem RBV.of {w:World} {x y:Dy} {s t:Bool} {A B:Option Addr} {k c m d:Nat} (h:Hid (RV w (.slice A k c) x.z.natAbs)) (hc:Hid (Cr s k x.z)) (h':Hid (RV w (.slice B m d) y.z.natAbs)) (hc':Hid (Cr t m y.z)):Hid (RBV w (.agg #[.bool s,.slice A k c,.int .i64 x.e,.bool t,.slice B m d,.int .i64 y.e]) x y):=
 ⟨s,A,k,c,t,B,m,d,rfl,(RD.of h hc).out,(RD.of h' hc').out⟩
theorem RBV.mk {w:World} {x y:Dy} {s t:Bool} {A B:Option Addr} {k c m d:Nat} (h:Hid (RD w (.agg #[.bool s,.slice A k c,.int .i64 x.e]) x)) (h':Hid (RD w (.agg #[.bool t,.slice B m d,.int .i64 y.e]) y)):Hid (RBV w (.agg #[.bool s,.slice A k c,.int .i64 x.e,.bool t,.slice B m d,.int .i64 y.e]) x y):=
 ⟨s,A,k,c,t,B,m,d,rfl,h.out,h'.out⟩
def RBP (x y:Dy) (w:World) (e:Ending) (w':World):Prop:= ∃s A k c t B m d,e= .returned (.agg #[.bool s,.slice A k c,.int .i64 x.e,.bool t,.slice B m d,.int .i64 y.e])∧(Cr s k x.z∧RV w' (.slice A k c) x.z.natAbs)∧(Cr t m y.z∧RV w' (.slice B m d) y.z.natAbs)∧Only [] w w'
def isRB (x y:Dy):VP:=fun v w=>RBV w v x y
theorem isRB.lasts (x y:Dy):Lasts (isRB x y):=fun _ _ _ h ho=>h.only ho
theorem rd_parts {w:World} {x:Dy} {s:Bool} {A:Option Addr} {k c:Nat} (h:RD w (.agg #[.bool s,.slice A k c,.int .i64 x.e]) x):Cr s k x.z∧RV w (.slice A k c) x.z.natAbs:=by
 obtain⟨s',A',k',c',e,h1,h2⟩:=h
 simp only [Value.agg.injEq,Array.mk.injEq,List.cons.injEq,Value.bool.injEq,Value.slice.injEq,and_true] at e
 obtain⟨rfl,rfl,rfl,rfl⟩:=e
 exact⟨h1,h2⟩
theorem all_isRB {x y:Dy} {w:World} {K:Value→Prop} (h: ∀s A k c t B m d,Hid (RD w (.agg #[.bool s,.slice A k c,.int .i64 x.e]) x)→Hid (RD w (.agg #[.bool t,.slice B m d,.int .i64 y.e]) y)→K (.agg #[.bool s,.slice A k c,.int .i64 x.e,.bool t,.slice B m d,.int .i64 y.e])): ∀v,isRB x y v w→K v:=fun v ⟨s,A,k,c,t,B,m,d,h1,h2,h3⟩=>by
 subst h1
 exact h s A k c t B m d h2 h3
theorem grow_rb {f:FuncId} {args:Array Value} {w:World} {x y:Dy} (h:Calls Tryz.prog f args w (RBP x y w)):
  Calls Tryz.prog f args w fun e w''=> ∃u,e= .returned u∧Only [] w w''∧isRB x y u w'':=
 h.mono fun _ _ ⟨s,A,k,c,t,B,m,d,h1,h2,h3,h4⟩=>⟨_,h1,h4,s,A,k,c,t,B,m,d,rfl,⟨s,A,k,c,rfl,h2.1,h2.2⟩,⟨t,B,m,d,rfl,h3.1,h3.2⟩⟩
theorem rbfin {x y:Dy} {w w1 w2:World} {b:Nat} {t:TypeId} {cs:List Value} {s s':Bool} {A A':Option Addr} {k c k' c':Nat} (hc:Hid (Cr s k x.z)) (hv:Hid (RV w1 (.slice A k c) x.z.natAbs)) (hc':Hid (Cr s' k' y.z)) (hv':Hid (RV w1 (.slice A' k' c') y.z.natAbs)) (hb:w.heap.size≤b) (hB:Blk w1 b t cs) (hn:NoLimb cs) (ho:Only [] w w1) (ho2:Only [b] w1 w2):
  RBP x y w (.returned (.agg #[.bool s,.slice A k c,.int .i64 x.e,.bool s',.slice A' k' c',.int .i64 y.e])) w2:=
 ⟨s,A,k,c,s',A',k',c',rfl,⟨hc.out,hv.out.farS ho2 (fun g hg=>by rw [List.mem_singleton] at hg;subst hg;exact hv.out.far_blk hB hn)⟩,⟨hc'.out,hv'.out.farS ho2 (fun g hg=>by rw [List.mem_singleton] at hg;subst hg;exact hv'.out.far_blk hB hn)⟩,ho.trans ho2 (fun k hk=> .inr (by simp at hk;omega))⟩
def isBC (x y:Dy):VP:=fun v w=> ∃s A k c t B m d,v= .agg #[.bool s,.slice A k c,.int .i64 x.e,.bool t,.slice B m d,.int .i64 y.e]∧isD x (.agg #[.bool s,.slice A k c,.int .i64 x.e]) w∧isD y (.agg #[.bool t,.slice B m d,.int .i64 y.e]) w
theorem isBC.lasts (x y:Dy):Lasts (isBC x y):=fun _ _ _ ⟨s,A,k,c,t,B,m,d,h1,h2,h3⟩ ho=>⟨s,A,k,c,t,B,m,d,h1,isD.lasts x _ _ _ h2 ho,isD.lasts y _ _ _ h3 ho⟩
theorem all_isBC {x y:Dy} {w:World} {K:Value→Prop} (h: ∀s A k c t B m d,Hid (isD x (.agg #[.bool s,.slice A k c,.int .i64 x.e]) w)→Hid (isD y (.agg #[.bool t,.slice B m d,.int .i64 y.e]) w)→K (.agg #[.bool s,.slice A k c,.int .i64 x.e,.bool t,.slice B m d,.int .i64 y.e])): ∀v,isBC x y v w→K v:=fun v ⟨s,A,k,c,t,B,m,d,h1,h2,h3⟩=>by
 subst h1
 exact h s A k c t B m d h2 h3
theorem isBC.mk {w:World} {x y:Dy} {s t:Bool} {A B:Option Addr} {k c m d:Nat} (h:Hid (isD x (.agg #[.bool s,.slice A k c,.int .i64 x.e]) w)) (h':Hid (isD y (.agg #[.bool t,.slice B m d,.int .i64 y.e]) w)):Hid (isBC x y (.agg #[.bool s,.slice A k c,.int .i64 x.e,.bool t,.slice B m d,.int .i64 y.e]) w):=
 ⟨s,A,k,c,t,B,m,d,rfl,h.out,h'.out⟩
theorem grow_bc {f:FuncId} {args:Array Value} {w:World} {x y:Dy} (h:Calls Tryz.prog f args w (BPost x y w)):
  Calls Tryz.prog f args w fun e w''=> ∃u,e= .returned u∧Only [] w w''∧isBC x y u w'':=
 h.mono fun _ _ ⟨s,A,k,c,t,B,m,d,h1,a1,h2,a2,h3,h4⟩=>⟨_,h1,h4,s,A,k,c,t,B,m,d,rfl,(isD.of (hid h2) (hid a1)),(isD.of (hid h3) (hid a2))⟩
set_option maxHeartbeats 8000000 in
set_option maxRecDepth 100000 in
theorem ref_b {w:World} {a:Value} {x y:Dy} {N:Nat} (rx ry:Dy) (hrx:nrm x.z x.e=rx) (hry:nrm y.z y.e=ry) (ha:Hid (BV w a x y)) (bx:Hid (Bnd N x)) (by_:Hid (Bnd N y)) (hN:N≤8000000):Calls Tryz.prog 9 #[a] w (RBP rx ry w):=by
 obtain⟨s1,A1,k1,c1,t1,B1,m1,d1,rfl,hx1,hy1⟩:=ha.out
 have hk:=((KB.start w).new 34 [.bool s1,.slice A1 k1 c1,.int .i64 x.e,.bool t1,.slice B1 m1 d1,.int .i64 y.e]).new 40 [.bool false,.slice none 0 0,.int .i64 0,.bool false,.slice none 0 0,.int .i64 0]
 simp only [World.size_alloc] at hk
 have HX:=hid (hx1.only hk.only)
 have HY:=hid (hy1.only hk.only)
 have HK:=hid hk
 have HRX:=hid hrx
 have HRY:=hid hry
 clear hk hx1 hy1 ha hrx hry
 go_enter Tryz.func9,Tryz.ntmps9
 go_upto_region 1 with fail
 apply wp_region_typed_tail2 6 (by kernel_rfl) [isV _,isV _,isRD rx,isV _,isV _,isRD ry] [[],[0],[1],[],[3],[4]] (by kernel_rfl) (by kernel_rfl) (by kernel_rfl)
 case ho=>
  simp only [List.take_succ_cons,List.take_zero]
  iterate 6
   refine owes2_cons (fun wx hox=>?_) ?_
   ·skip
    have hk:=HK.out.step hox
    obtain⟨i0,i1,i2,i3,i4,i5⟩:=hk.c6 1 rfl
    clear hk
    refine withs_plain rfl ?_
    simp only [withs,List.getElem?_cons_zero,List.getElem?_cons_succ,Option.bind,Option.getD]
    with_reducible repeat first|refine all_isV ?_|(refine all_isRD ?_;intro sx Ax kx cx hvx hwx)
    go_simp
    first
    |exact⟨Only.refl _ _,isV.self _ _⟩
    |with_reducible exact grow_rd (rrefB_d rx HRX.out (DV.of (hid (HX.out.only hox))) bx (by omega))
    |with_reducible exact grow_rd (rrefB_d ry HRY.out (DV.of (hid (HY.out.only hox))) by_ (by omega))
  exact owes2_nil
 case he=>
  simp only [List.drop_succ_cons,List.drop_zero]
  intro wx hox
  refine withs_of (by simp only [List.length,List.range,List.range.loop];exact rfl) ?_
  simp only [withs,List.getElem?_cons_zero,List.getElem?_cons_succ,Option.bind,Option.getD]
  with_reducible refine all_isV ?_
  with_reducible refine all_isV ?_
  with_reducible refine all_isRD ?_
  intro s2 A2 k2 c2 hv2 hw2
  with_reducible refine all_isV ?_
  with_reducible refine all_isV ?_
  with_reducible refine all_isRD ?_
  intro s5 A5 k5 c5 hv5 hw5
  go_simp
  have hk:=HK.out.step hox
  obtain⟨q0,q1,q2,q3,q4,q5⟩:=hk.c6 0 rfl
  obtain⟨f0,f1,f2,f3,f4,f5⟩:=hk.f6 0 rfl
  have HB:=hid (hk.blk 0 rfl)
  have HO:=hid hk.only
  clear hk hox HK
  go_wp2_with fail
  refine bodyPost_ret (v:= .agg #[.bool s2,.slice A2 k2 c2,.int .i64 (rx.e),.bool s5,.slice A5 k5 c5,.int .i64 (ry.e)]) (by simp [results,Tryz.results9,go_sem,q0,q1,q2,q3,q4,q5]) rfl ?_
  exact rbfin hw2 hv2 hw5 hv5 (by omega) HB.out (noLimb6 _ _ _ _ _ _ _ _ _ _) HO.out (only_set6 _ _ _ _ _ _ _ _)
 case hl=>
  repeat (refine List.forall_mem_cons.2 ⟨?_,?_⟩;first|exact isV.lasts _|exact isRD.lasts _)
  exact fun _ h=>(by cases h)
set_option maxHeartbeats 8000000 in
set_option maxRecDepth 100000 in
theorem is5_b {w:World} {a b:Value} {x y:Dy} {N:Nat} (ha:Hid (isBC x y a w)) (hb:Hid (RBV w b x y)) (cx:Hid (Can x)) (cy:Hid (Can y)) (bx:Hid (Bnd N x)) (by_:Hid (Bnd N y)) (hN:N≤1000000):Calls Tryz.prog 14 #[a,b] w fun e w'=>e= .returned (.bool true)∧Only [] w w':=by
 obtain⟨s1,A1,k1,c1,t1,B1,m1,d1,rfl,hx1,hy1⟩:=ha.out
 obtain⟨s2,A2,k2,c2,t2,B2,m2,d2,rfl,hx2,hy2⟩:=hb.out
 have hk:=((KB.start w).new 34 [.bool s1,.slice A1 k1 c1,.int .i64 x.e,.bool t1,.slice B1 m1 d1,.int .i64 y.e]).new 40 [.bool s2,.slice A2 k2 c2,.int .i64 x.e,.bool t2,.slice B2 m2 d2,.int .i64 y.e]
 simp only [World.size_alloc] at hk
 have HX1:=hid (isD.lasts _ _ _ _ hx1 hk.only)
 have HY1:=hid (isD.lasts _ _ _ _ hy1 hk.only)
 have HX2:=hid (hx2.only hk.only)
 have HY2:=hid (hy2.only hk.only)
 have HK:=hid hk
 clear hk hx1 hy1 hx2 hy2 ha hb
 go_enter Tryz.func14,Tryz.ntmps14
 obtain⟨i0,i1,i2,i3,i4,i5⟩:=HK.out.c6 1 rfl
 obtain⟨j0,j1,j2,j3,j4,j5⟩:=HK.out.c6 0 rfl
 go_wp2_with fail
 (with_reducible refine (is3_d (x:=x) HX1 HX2 cx bx hN).mono ?_)
 rintro e w3 ⟨rfl,ho⟩
 replace HK:=hid (HK.out.step ho)
 replace HY1:=hid (isD.lasts _ _ _ _ HY1.out ho)
 replace HY2:=hid (HY2.out.only ho)
 clear ho i0 i1 i2 i3 i4 i5 j0 j1 j2 j3 j4 j5 HX1 HX2
 obtain⟨i0,i1,i2,i3,i4,i5⟩:=HK.out.c6 1 rfl
 obtain⟨j0,j1,j2,j3,j4,j5⟩:=HK.out.c6 0 rfl
 go_wp2_with fail
 (with_reducible refine (is3_d (x:=y) HY1 HY2 cy by_ hN).mono ?_)
 rintro e w4 ⟨rfl,ho⟩
 replace HK:=hid (HK.out.step ho)
 clear ho
 go_wp2_with fail
 go_ret
 exact⟨rfl,HK.out.only⟩
set_option maxHeartbeats 8000000 in
set_option maxRecDepth 100000 in
theorem alike_b {w:World} {a b:Value} {x y u v:Dy} {N:Nat} (hu:nrm x.z x.e=u) (hv:nrm y.z y.e=v) (ha:Hid (BV w a x y)) (hb:Hid (RBV w b u v)) (cu:Hid (Can u)) (cv:Hid (Can v)) (bx:Hid (Bnd N x)) (by_:Hid (Bnd N y)) (bu:Hid (Bnd N u)) (bv:Hid (Bnd N v)) (hN:N≤1000000):Calls Tryz.prog 26 #[a,b] w fun e w'=>e= .returned (.bool true)∧Only [] w w':=by
 obtain⟨s1,A1,k1,c1,t1,B1,m1,d1,rfl,hx1,hy1⟩:=ha.out
 obtain⟨s2,A2,k2,c2,t2,B2,m2,d2,rfl,hx2,hy2⟩:=hb.out
 have hk:=((KB.start w).new 34 [.bool s1,.slice A1 k1 c1,.int .i64 x.e,.bool t1,.slice B1 m1 d1,.int .i64 y.e]).new 40 [.bool s2,.slice A2 k2 c2,.int .i64 u.e,.bool t2,.slice B2 m2 d2,.int .i64 v.e]
 simp only [World.size_alloc] at hk
 have HX:=hid (hx1.only hk.only)
 have HY:=hid (hy1.only hk.only)
 have HP:=hid (hx2.only hk.only)
 have HQ:=hid (hy2.only hk.only)
 have HK:=hid hk
 have HU:=hid hu
 have HV:=hid hv
 clear hk hx1 hy1 hx2 hy2 ha hb hu hv
 go_enter Tryz.func26,Tryz.ntmps26
 go_upto_region 1 with fail
 apply wp_region_typed2 (by kernel_rfl) [isV _,isV _,isRD u,isV _,isV _,isV _,isV _,isV _,isV _,isRD v,isV _,isV _,isV _,isV _,isV _] [[],[0],[1],[],[3],[2,4],[5],[6],[6,7],[6,8],[6],[6,10],[6,9,11],[6,12],[13]] (by kernel_rfl) (by kernel_rfl)
 case ho=>
  iterate 15
   refine owes2_cons (fun wx hox=>?_) ?_
   ·skip
    have hk:=HK.out.step hox
    obtain⟨i0,i1,i2,i3,i4,i5⟩:=hk.c6 1 rfl
    obtain⟨j0,j1,j2,j3,j4,j5⟩:=hk.c6 0 rfl
    clear hk
    first
    |refine withs_plain rfl ?_
     simp only [withs,List.getElem?_cons_zero,List.getElem?_cons_succ,Option.bind,Option.getD]
     with_reducible repeat first|refine all_isV ?_|(refine all_isRD ?_;intro sx Ax kx cx hvx hwx)
     go_simp
    |refine withs_guard rfl rfl ?_
     simp only [withs,List.getElem?_cons_zero,List.getElem?_cons_succ,Option.bind,Option.getD]
     with_reducible repeat first|refine all_isV ?_|(refine all_isRD ?_;intro sx Ax kx cx hvx hwx)
     refine⟨by kernel_rfl,?_⟩
     go_simp
    first
    |exact⟨Only.refl _ _,isV.self _ _⟩
    |with_reducible exact grow_rd (rrefB_d u HU.out (DV.of (hid (HX.out.only hox))) bx (by omega))
    |with_reducible exact grow_of (rsame_d (x:=u) (y:=u) (RD.of (by assumption) (by assumption)) (hid (HP.out.only hox)) cu bu bu (by omega) rfl)
    |with_reducible exact grow_rd (rrefB_d v HV.out (DV.of (hid (HY.out.only hox))) by_ (by omega))
    |with_reducible exact grow_of (rsame_d (x:=v) (y:=v) (RD.of (by assumption) (by assumption)) (hid (HQ.out.only hox)) cv bv bv (by omega) rfl)
  exact owes2_nil
 case he=>
  intro wx hox
  refine withs_of (by simp only [List.length,List.range,List.range.loop];exact rfl) ?_
  simp only [withs,List.getElem?_cons_zero,List.getElem?_cons_succ,Option.bind,Option.getD]
  repeat (first|(with_reducible refine all_isV ?_)|(with_reducible refine all_isRD ?_;intro sx Ax kx cx hvx hwx))
  go_simp
  have ho:=(HK.out.step hox).only
  clear hox HK
  go_wp2_with fail
  go_ret
  exact⟨rfl,ho⟩
 case hl=>
  repeat (refine List.forall_mem_cons.2 ⟨?_,?_⟩;first|exact isV.lasts _|exact isRD.lasts _)
  exact fun _ h=>(by cases h)
set_option maxHeartbeats 8000000 in
set_option maxRecDepth 100000 in
theorem btop_b {w:World} {a:Value} {x y:Dy} {N:Nat} (tx ty:Int) (htx:topD x=tx) (hty:topD y=ty) (ha:Hid (BV w a x y)) (bx:Hid (Bnd N x)) (by_:Hid (Bnd N y)) (hN:N≤8000000):Calls Tryz.prog 30 #[a] w fun e w'=>e= .returned (.int .i64 (max tx ty))∧Only [] w w':=by
 obtain⟨s1,A1,k1,c1,t1,B1,m1,d1,rfl,hx1,hy1⟩:=ha.out
 have hk:=(KB.start w).new 34 [.bool s1,.slice A1 k1 c1,.int .i64 x.e,.bool t1,.slice B1 m1 d1,.int .i64 y.e]
 have HX:=hid (hx1.only hk.only)
 have HY:=hid (hy1.only hk.only)
 have HK:=hid hk
 have HTX:=hid htx
 have HTY:=hid hty
 clear hk hx1 hy1 ha htx hty
 go_enter Tryz.func30,Tryz.ntmps30
 go_upto_region 1 with fail
 apply wp_region_typed2 (by kernel_rfl) [isV _,isV _,isV _,isV _,isV _,isV _,isV _,isV _] [[],[0],[1],[],[3],[4],[2,5],[6]] (by kernel_rfl) (by kernel_rfl)
 case ho=>
  refine owes2_cons (fun wx hox=>?_) ?_
  ·skip
   skip
   refine withs_plain rfl ?_
   simp only [withs,List.getElem?_cons_zero,List.getElem?_cons_succ,Option.bind,Option.getD]
   repeat (with_reducible refine all_isV ?_)
   go_simp
   exact⟨Only.refl _ _,isV.self _ _⟩
  refine owes2_cons (fun wx hox=>?_) ?_
  ·skip
   have hk:=HK.out.step hox
   obtain⟨i0,i1,i2,i3,i4,i5⟩:=hk.c6 0 rfl
   clear hk
   refine withs_plain rfl ?_
   simp only [withs,List.getElem?_cons_zero,List.getElem?_cons_succ,Option.bind,Option.getD]
   repeat (with_reducible refine all_isV ?_)
   go_simp
   exact⟨Only.refl _ _,isV.self _ _⟩
  refine owes2_cons (fun wx hox=>?_) ?_
  ·skip
   have hk:=HK.out.step hox
   obtain⟨i0,i1,i2,i3,i4,i5⟩:=hk.c6 0 rfl
   clear hk
   refine withs_plain rfl ?_
   simp only [withs,List.getElem?_cons_zero,List.getElem?_cons_succ,Option.bind,Option.getD]
   repeat (with_reducible refine all_isV ?_)
   go_simp
   (with_reducible exact grow_of (topV_d (x:=x) tx (DV.of (hid (HX.out.only hox))) bx (by omega) HTX.out))
  refine owes2_cons (fun wx hox=>?_) ?_
  ·skip
   skip
   refine withs_plain rfl ?_
   simp only [withs,List.getElem?_cons_zero,List.getElem?_cons_succ,Option.bind,Option.getD]
   repeat (with_reducible refine all_isV ?_)
   go_simp
   exact⟨Only.refl _ _,isV.self _ _⟩
  refine owes2_cons (fun wx hox=>?_) ?_
  ·skip
   have hk:=HK.out.step hox
   obtain⟨i0,i1,i2,i3,i4,i5⟩:=hk.c6 0 rfl
   clear hk
   refine withs_plain rfl ?_
   simp only [withs,List.getElem?_cons_zero,List.getElem?_cons_succ,Option.bind,Option.getD]
   repeat (with_reducible refine all_isV ?_)
   go_simp
   exact⟨Only.refl _ _,isV.self _ _⟩
  refine owes2_cons (fun wx hox=>?_) ?_
  ·skip
   have hk:=HK.out.step hox
   obtain⟨i0,i1,i2,i3,i4,i5⟩:=hk.c6 0 rfl
   clear hk
   refine withs_plain rfl ?_
   simp only [withs,List.getElem?_cons_zero,List.getElem?_cons_succ,Option.bind,Option.getD]
   repeat (with_reducible refine all_isV ?_)
   go_simp
   (with_reducible exact grow_of (topV_d (x:=y) ty (DV.of (hid (HY.out.only hox))) by_ (by omega) HTY.out))
  refine owes2_cons (fun wx hox=>?_) ?_
  ·skip
   skip
   refine withs_plain rfl ?_
   simp only [withs,List.getElem?_cons_zero,List.getElem?_cons_succ,Option.bind,Option.getD]
   repeat (with_reducible refine all_isV ?_)
   go_simp
   exact⟨Only.refl _ _,isV.self _ _⟩
  refine owes2_cons (fun wx hox=>?_) ?_
  ·skip
   skip
   refine withs_plain rfl ?_
   simp only [withs,List.getElem?_cons_zero,List.getElem?_cons_succ,Option.bind,Option.getD]
   repeat (with_reducible refine all_isV ?_)
   go_simp
   exact⟨Only.refl _ _,isV.self _ _⟩
  exact owes2_nil
 case he=>
  intro wx hox
  refine withs_of (by simp only [List.length,List.range,List.range.loop];exact rfl) ?_
  simp only [withs,List.getElem?_cons_zero,List.getElem?_cons_succ,Option.bind,Option.getD]
  repeat (with_reducible refine all_isV ?_)
  go_simp
  have ho:=(HK.out.step hox).only
  clear hox HK
  go_wp2_with fail
  go_ret
  exact⟨rfl,ho⟩
 case hl=>
  repeat (refine List.forall_mem_cons.2 ⟨?_,?_⟩;exact isV.lasts _)
  exact fun _ h=>(by cases h)
end Go.Proofs.YtigpnopeacicpaaGreatDoor
