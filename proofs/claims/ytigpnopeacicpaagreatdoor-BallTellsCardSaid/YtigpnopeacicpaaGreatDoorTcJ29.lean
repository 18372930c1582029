/-
  Joined texts.
-/
import Derived.Test.YtigpnopeacicpaaGreatDoorTcRefI
import Derived.Test.YtigpnopeacicpaaGreatDoorTcGRef
import Derived.Test.YtigpnopeacicpaaGreatDoorTcJ26
import Derived.Test.YtigpnopeacicpaaGreatDoorTcGRd
namespace Go.Proofs.YtigpnopeacicpaaGreatDoor
open Go.Lib (hid)
open Go.RowKit
theorem rdivmod_v {w:World} {a b:Value} {m n:Nat} (ha:Hid (RV w a m)) (hb:Hid (RV w b n)) (hfa:Hid (Few m)) (hfb:Hid (Few n)) (hn:0<n):Calls Tryz.prog 90 #[a,b] w (RDPost m n w):=by
 by_cases hlt:m<n
 ·exact rdivmod_lt ha hb hfa hfb (hid hlt)
 ·have h2:(R.limbsOf n).length≠0:=fun h=>by rw [R.limbsOf_len0] at h;omega
  by_cases h1:(R.limbsOf n).length=1
  ·exact rdivmod_one ha hb hfa hfb (hid (by omega)) (hid h1)
  ·exact rdivmod_long ha hb hfa hfb (hid (by omega)) (hid (by omega))
theorem RV.same {w:World} {v:Value} {m n:Nat} (h:RV w v m) (h':RV w v n):m=n:=by
 obtain⟨A,c,rfl,h2,h3⟩:=h
 obtain⟨A',c',e,k2,k3⟩:=h'
 injection e with e1 e2 e3
 subst e1 e3
 have e:R.limbsOf m=R.limbsOf n:=by
  apply List.ext_getElem e2
  intro i h4 h5
  obtain⟨b,o,rfl,hc⟩:=h2 i h4
  obtain⟨b',o',e,hc'⟩:=k2 i h5
  injection e with e
  injection e with e7 e8 _
  subst e7 e8
  rw [hc] at hc'
  rw [List.getElem?_eq_getElem h4,List.getElem?_eq_getElem h5] at hc'
  simp only [Option.getD_some,Option.some.injEq,Value.int.injEq,true_and] at hc'
  omega
 rw [← R.val_limbsOf m,e,R.val_limbsOf]
noncomputable def rvAt (w:World) (v:Value):Nat:= @dite _ (∃ n,RV w v n) (Classical.propDecidable _) (fun h=>Classical.choose h) (fun _=>0)
theorem rvAt_eq {w:World} {v:Value} {n:Nat} (h:RV w v n):rvAt w v=n:=by
 have hx: ∃n,RV w v n:=⟨n,h⟩
 unfold rvAt
 rw [dif_pos hx]
 exact (Classical.choose_spec hx).same h
theorem rroot_start {m s b:Nat} (hs:IsRoot m s) (hb:bitsN m=b):s≤1*2^((b+1)/2):=by
 have h1:=hs.1
 have h2:m<2^b:=by
  rw [← hb]
  unfold bitsN
  by_cases h0:m=0
  ·rw [if_pos h0];omega
  ·rw [if_neg h0];exact Nat.lt_log2_self
 have h3:2^b≤2^((b+1)/2)*2^((b+1)/2):=by
  rw [← Nat.pow_add]
  exact Nat.pow_le_pow_right (by omega) (by omega)
 rw [Nat.one_mul]
 generalize 2^((b+1)/2)=p at*
 apply Nat.le_of_not_lt
 intro hc
 have h4:=Nat.mul_le_mul (Nat.le_of_lt hc) (Nat.le_of_lt hc)
 omega
set_option maxHeartbeats 1600000 in
set_option maxRecDepth 100000 in
theorem rsqrt_v {w:World} {a:Value} {m:Nat} (ha:Hid (RV w a m)) (hf:Hid (Few m)):Calls Tryz.prog 96 #[a] w (RPost (rootN m) w):=by
 have hl:=hf.out.digits
 obtain⟨A,c,rfl,p1,p2⟩:=ha.out
 clear p1 p2
 by_cases h0:m=0
 ·subst h0
  rw [R.limbsOf_zero]
  go_enter Tryz.func96,Tryz.ntmps96
  go_wp2_with fail
  go_ret
  exact⟨none,0,0,rfl,by rw [show rootN 0=0 by rw [rootN];rfl];exact RV.nil _,fun x hx=>(by cases hx),Only.refl _ _⟩
 ·have hl0:(R.limbsOf m).length≠0:=fun h=>by rw [R.limbsOf_len0] at h;omega
  obtain⟨b,hb⟩: ∃b,bitsN m=b:=⟨_,rfl⟩
  have HIs:=hid (rootN_is m)
  have HSt:=hid (rroot_start HIs.out hb)
  have hb64:(b:Int)≤64000000:=by
   have h1:m<2^(64*MX):=by
    have h2:=hf.out
    unfold Few at h2
    rw [BB_pow,←Nat.pow_mul] at h2
    exact h2
   rw [← hb]
   unfold bitsN
   rw [if_neg h0]
   have:=(Nat.log2_lt h0).2 h1
   rw [MX_val] at this
   omega
  obtain⟨ln,hln⟩: ∃ln,(R.limbsOf m).length=ln:=⟨_,rfl⟩
  rw [hln] at hl hl0 ha ⊢
  have hz:((ln:Int) == 0)=false:=by rw [beq_eq_false_iff_ne];omega
  obtain⟨h2,hh2⟩: ∃h2,(b+1)/2=h2:=⟨_,rfl⟩
  rw [hh2] at HSt
  obtain⟨b1,hb1⟩: ∃b1,b+1=b1:=⟨_,rfl⟩
  have e1:(b:Int)+1=(b1:Int):=by omega
  have e2:(b1:Int)/2=(h2:Int):=by omega
  have e3:(b1:Int).tdiv 2=(h2:Int):=by rw [Int.tdiv_eq_ediv_of_nonneg (by omega)];exact e2
  have hh:(h2:Int)≤40000000:=by omega
  have HBe:=hid hb
  have HX0:Hid (0<rootN m):=by
   apply Nat.pos_of_ne_zero
   intro h
   have h1:=HIs.out.2
   rw [h] at h1
   omega
  have HF1:Hid (Few 1):=few_small (by rw [BB_val];omega)
  have HF0:Hid (Few (1*2^h2)):=by
   show Few _
   rw [Nat.one_mul]
   unfold Few
   rw [BB_pow,←Nat.pow_mul]
   exact Nat.pow_lt_pow_right (by omega) (by rw [MX_val];omega)
  clear hb hln hh2 hb1 h0
  go_enter Tryz.func96,Tryz.ntmps96
  go_wp2_with fail
  refine (rsmall_lit 1 1 w (hid (by rw [BB_val];omega)) (hid rfl)).mono ?_
  rintro e w1 ⟨A1,k1,c1,rfl,hv1,-,ho1⟩
  have HV1:=hid hv1
  have HO1:=hid ho1
  clear hv1 ho1
  go_wp2_with fail
  refine (rbits_v (hid (ha.out.only HO1.out)) hf).mono ?_
  rintro e w1' ⟨rfl,rfl⟩
  rw [HBe.out]
  go_wp2_with fail
  refine (rshl_v h2 (by omega) HV1 HF1).mono ?_
  rintro e w2 ⟨A2,k2,c2,rfl,hv2,hf2,ho2⟩
  have HV2:=hid hv2
  have HF2:Hid (∀ x,A2=some x→w.heap.size≤x.block):=fun x hx=>Nat.le_trans HO1.out.size (hf2 x hx)
  have HO2:=hid (HO1.out.nil_trans ho2)
  clear hv2 hf2 ho2
  go_wp2_with fail
  go_loopw [3] (fun rv wr=> ∃(r k c:Nat) (A:Option Addr),rv= .slice A k c∧RV wr (.slice A k c) r∧rootN m≤r∧r≤1*2^h2∧(∀ x,A=some x→w.heap.size≤x.block)∧Only [] w wr) (fun rv wr=>rvAt wr rv)
  case atStart=>exact⟨_,k2,c2,A2,rfl,HV2.out,HSt.out,Nat.le_refl _,HF2.out,HO2.out⟩
  case round=>
   obtain⟨r,kr,cr,Ar,rfl,hvr,hr1,hr2,hfr,hor⟩:=hrel
   have HVr:=hid hvr
   have HMe:=hid (rvAt_eq hvr)
   have HFr:=hid hfr
   have HOr:=hid hor
   have HR12:Hid (rootN m≤r∧r≤1*2^h2):=⟨hr1,hr2⟩
   have HRp:Hid (0<r):=Nat.lt_of_lt_of_le HX0.out hr1
   have HFewR:Hid (Few r):=HF0.out.le hr2
   have HDone:=hid (newton_done HRp.out HIs.out hr1)
   have HStep:=hid (newton_step HRp.out HIs.out hr1)
   have HQle:Hid (m/r≤rootN m+2):=by
    have h1:m/r≤m/rootN m:=Nat.div_le_div_left hr1 HX0.out
    have h2:m/rootN m<rootN m+3:=by
     rw [Nat.div_lt_iff_lt_mul HX0.out]
     have h3:=HIs.out.2
     have h4:=HX0.out
     generalize rootN m=rt at*
     rw [Nat.add_mul,Nat.mul_add,Nat.mul_one,Nat.one_mul] at h3
     rw [Nat.add_mul]
     omega
    show _≤_
    omega
   clear hvr hr1 hr2 hfr hor
   go_wp2_with fail
   refine (rdivmod_v (hid (ha.out.only HOr.out)) HVr hf HFewR HRp.out).mono ?_
   rintro e w6 ⟨A6,k6,c6,A7,k7,c7,rfl,hq,-,-,ho6⟩
   obtain⟨q,hqe⟩: ∃q,m/r=q:=⟨_,rfl⟩
   rw [hqe] at hq HDone HStep HQle
   have HV6:=hid hq
   have HO6:=hid ho6
   have HFewS:Hid (Few (r+q)):=by
    have h1:=HR12.out
    have h6:=HQle.out
    show _<_
    have h3:1*2^h2+(1*2^h2+2)≤2^(h2+2):=by
     have:0<2^h2:=Nat.pow_pos (by omega)
     rw [Nat.pow_add]
     omega
    have h4:2^(h2+2)<BB^MX:=by
     rw [BB_pow,←Nat.pow_mul]
     exact Nat.pow_lt_pow_right (by omega) (by rw [MX_val];omega)
    omega
   have HFewQ:Hid (Few q):=HFewS.out.le (by omega)
   clear hq ho6 hqe
   go_wp2_with fail
   refine (radd_v (hid (HVr.out.only HO6.out)) HV6 HFewR HFewQ).mono ?_
   rintro e w8 ⟨A8,k8,c8,rfl,hv8,-,ho8⟩
   have HV8:=hid hv8
   have HO8:=hid (HO6.out.nil_trans ho8)
   clear hv8 ho8
   go_wp2_with fail
   have hsh:=rshr_v 1 (by omega) HV8 HFewS
   rw [show ((1:Nat):Int)=1 from rfl,Nat.pow_one] at hsh
   refine hsh.mono ?_
   clear hsh
   rintro e w9 ⟨A9,k9,c9,rfl,hv9,hf9,ho9⟩
   have HV9:=hid hv9
   have HO9:=hid (HO8.out.nil_trans ho9)
   have HF9:Hid (∀ x,A9=some x→w.heap.size≤x.block):=fun x hx=>by
    have h1:=hf9 x hx
    have h2:=HOr.out.size
    have h3:=HO8.out.size
    omega
   clear hv9 ho9 hf9
   have HFew9:Hid (Few ((r+q)/2)):=HFewS.out.le (Nat.div_le_self _ _)
   go_wp2_with fail
   refine (rcmp_v HV9 (hid (HVr.out.only HO9.out)) HFew9 HFewR).mono ?_
   rintro e w10 ⟨rfl,ho10⟩
   have HO10:=hid (HO9.out.nil_trans ho10)
   have HV10:=hid (HV9.out.only ho10)
   clear ho10
   by_cases hle:r≤q
   ·have hcz:(0:Int)≤cmpZ ((r+q)/2) r:=by
     rcases Nat.lt_or_eq_of_le (show r≤(r+q)/2 by omega) with h|h
     ·rw [cmp_gt h];omega
     ·rw [cmp_eq h.symm];omega
    have HE:Hid (r=rootN m):=HDone.out hle
    generalize cmpZ ((r+q)/2) r=z at*
    clear hle
    go_wp2_with fail
    go_ret
    exact⟨_,_,_,rfl,by rw [← HE.out];exact HVr.out.only HO10.out,HFr.out,HOr.out.nil_trans HO10.out⟩
   ·have hcz: ¬(0:Int)≤cmpZ ((r+q)/2) r:=by rw [cmp_le (by omega)];omega
    have HG:=hid (HStep.out (by omega))
    generalize cmpZ ((r+q)/2) r=z at*
    clear hle
    go_wp2_with fail
    go_roundw
    case rel=>exact⟨_,_,_,_,rfl,HV10.out,HG.out.1,by have:=HG.out.2;have:=HR12.out.2;omega,HF9.out,HOr.out.nil_trans HO10.out⟩
    case measure=>rw [HMe.out,rvAt_eq HV10.out];exact HG.out.2
def RVs (w:World):List Value→List Nat→Prop
 |[],[]=>True
 |v::vs,n::ns=>RV w v n∧RVs w vs ns
 |_,_=>False
theorem RVs.only {w w':World} (ho:Only [] w w'): ∀{vs:List Value} {ns:List Nat},RVs w vs ns→RVs w' vs ns
 |[],[],h=>h
 |[],_::_,h=>h.elim
 |_::_,[],h=>h.elim
 |_::_,_::_,h=>⟨h.1.only ho,RVs.only ho h.2⟩
theorem RVs.get {w:World}: ∀{vs:List Value} {ns:List Nat} (i:Nat) {v:Value} {n:Nat},RVs w vs ns→vs[i]? =some v→ns[i]? =some n→RV w v n
 |[],[],i,v,n,_,h1,_=>by simp at h1
 |[],_::_,_,_,_,h,_,_=>h.elim
 |_::_,[],_,_,_,h,_,_=>h.elim
 |v::vs,n::ns,0,_,_,h,h1,h2=>by
  simp only [List.getElem?_cons_zero,Option.some.injEq] at h1 h2
  subst h1 h2
  exact h.1
 |v::vs,n::ns,i+1,_,_,h,h1,h2=>RVs.get i h.2 (by simpa using h1) (by simpa using h2)
theorem RVs.at {w:World} {vs:List Value} {ns:List Nat} (h:Hid (RVs w vs ns)) (i:Nat) {v:Value} {n:Nat} (h1:vs[i]? =some v) (h2:ns[i]? =some n):Hid (RV w v n):=RVs.get i h.out h1 h2
theorem RVs.step {w w':World} {vs:List Value} {ns:List Nat} (h:RVs w vs ns) (ho:Only [] w w'):RVs w' vs ns:=RVs.only ho h
theorem RVs.push {w:World} {vs:List Value} {ns:List Nat} (h:RVs w vs ns) {v:Value} {n:Nat} (hv:RV w v n):RVs w (v::vs) (n::ns):=⟨hv,h⟩
theorem RVs.start (w:World):RVs w [] []:=trivial
set_option linter.unusedSimpArgs false
set_option maxHeartbeats 3200000 in
set_option maxRecDepth 100000 in
theorem rcut_core {w:World} {a:Value} {m:Nat} (neg rest q1 dd:Bool) (e e1 nn dir cz:Int) (b P m1 m2 N:Nat) (r:Dy) (hb:Hid (bitsN m=b)) (hnn:IntKind.i64.wrap ((b:Int)-(P:Int))=nn) (hdd:(neg == decide (dir<0))=dd)
  (hcase:Hid ((nn≤0∧m1=m∧e1=e∧q1=rest)∨(0<nn∧nn=(N:Int)∧m/2^N=m1∧IntKind.i64.wrap (e+(N:Int))=e1∧rest=true∧q1=true)∨(0<nn∧nn=(N:Int)∧m/2^N=m1∧IntKind.i64.wrap (e+(N:Int))=e1∧rest=false∧cmpZ (m1*2^N) m=cz∧(cz != 0)=q1)))
  (hm2:Hid (((q1 && dd)=true→m1+1=m2)∧((q1 && dd)=false→m1=m2))) (hr:Hid (nrm (sg neg m2) e1=r)) (ha:Hid (RV w a m)) (hf:Hid (Few m)) (hf1:Hid (Few m1)) (hf2:Hid (Few m2)) (hf3:Hid (Few (m1*2^N))) (hN:(N:Int)≤90000000) (he1: -4000000000000000000≤e1) (he2:e1≤4000000000000000000):
  Calls Tryz.prog 92 #[.bool neg,a,.int .i64 e,.bool rest,.int .i64 (P:Int),.int .i64 dir] w (RDP r w):=by
 have hk:=(KB.start w).new 38 [.bool false,.slice none 0 0,.int .i64 0]
 have HR:=hid (((RVs.start w).push ha.out).step hk.only)
 have HK:=hid hk
 clear hk
 go_enter Tryz.func92,Tryz.ntmps92
 go_wp2_with fail
 (with_reducible refine (rbitsV_v b (RVs.at HR 0 rfl rfl) hf hb.out).mono ?_)
 rintro e0 w1 ⟨rfl,rfl⟩
 rcases hcase.out with⟨h1,rfl,rfl,rfl⟩|⟨h1,h2,h3,h4,rfl,rfl⟩|⟨h1,h2,h3,h4,rfl,h5,h6⟩
 ·clear hcase hf3
  go_upto_region 6 with fail
  cases q1
  ·have h3:=hm2.out.2 (by simp)
   subst h3
   go_wp2_with fail
   (with_reducible refine (rmake_d neg e1 (RVs.at HR 0 rfl rfl) hf2 he1 he2 hr.out).mono ?_)
   rintro e w9 ⟨s9,A9,k9,c9,rfl,hc,hv,ho⟩
   replace HK:=hid (HK.out.step ho)
   have HC:=hid hc
   have HV:=hid hv
   clear hc hv ho
   obtain⟨q0,q1_,q2,f0,f1,f2⟩:=HK.out.c3 0 rfl
   go_wp2_with fail
   refine bodyPost_ret (v:= .agg #[.bool s9,.slice A9 k9 c9,.int .i64 (r.e)]) (by simp [results,Tryz.results92,go_sem,q0,q1_,q2]) rfl ?_
   exact rdfin HV HC (by omega) (HK.out.blk 0 rfl) (noLimb3 _ _ _ _ _) HK.out.only (only_set3 _ _ _ _ _)
  ·skip
   cases dd
   ·have h3:=hm2.out.2 (by simp)
    subst h3
    go_wp2_with fail
    (with_reducible refine (rmake_d neg e1 (RVs.at HR 0 rfl rfl) hf2 he1 he2 hr.out).mono ?_)
    rintro e w9 ⟨s9,A9,k9,c9,rfl,hc,hv,ho⟩
    replace HK:=hid (HK.out.step ho)
    have HC:=hid hc
    have HV:=hid hv
    clear hc hv ho
    obtain⟨q0,q1_,q2,f0,f1,f2⟩:=HK.out.c3 0 rfl
    go_wp2_with fail
    refine bodyPost_ret (v:= .agg #[.bool s9,.slice A9 k9 c9,.int .i64 (r.e)]) (by simp [results,Tryz.results92,go_sem,q0,q1_,q2]) rfl ?_
    exact rdfin HV HC (by omega) (HK.out.blk 0 rfl) (noLimb3 _ _ _ _ _) HK.out.only (only_set3 _ _ _ _ _)
   ·have h3:=hm2.out.1 (by simp)
    have H3:=hid h3
    clear h3
    go_wp2_with fail
    (with_reducible refine (rsmall_lit 1 1 _ (hid (by unfold BB;omega)) (hid rfl)).mono ?_)
    rintro e w5 ⟨A5,k5,c5,rfl,hv,-,ho⟩
    replace HK:=hid (HK.out.step ho)
    replace HR:=hid ((HR.out.step ho).push hv)
    clear hv ho
    go_wp2_with fail
    (with_reducible refine (radd_v (RVs.at HR 1 rfl rfl) (RVs.at HR 0 rfl rfl) hf1 (hid (few_small (by unfold BB;omega)))).mono ?_)
    rintro e w6 ⟨A6,k6,c6,rfl,hv,-,ho⟩
    rw [H3.out] at hv
    replace HK:=hid (HK.out.step ho)
    replace HR:=hid ((HR.out.step ho).push hv)
    clear hv ho
    go_wp2_with fail
    (with_reducible refine (rmake_d neg e1 (RVs.at HR 0 rfl rfl) hf2 he1 he2 hr.out).mono ?_)
    rintro e w9 ⟨s9,A9,k9,c9,rfl,hc,hv,ho⟩
    replace HK:=hid (HK.out.step ho)
    have HC:=hid hc
    have HV:=hid hv
    clear hc hv ho
    obtain⟨q0,q1_,q2,f0,f1,f2⟩:=HK.out.c3 0 rfl
    go_wp2_with fail
    refine bodyPost_ret (v:= .agg #[.bool s9,.slice A9 k9 c9,.int .i64 (r.e)]) (by simp [results,Tryz.results92,go_sem,q0,q1_,q2]) rfl ?_
    exact rdfin HV HC (by omega) (HK.out.blk 0 rfl) (noLimb3 _ _ _ _ _) HK.out.only (only_set3 _ _ _ _ _)
 ·clear hcase hf3
  subst h2
  have H3:=hid h3
  clear h3
  go_wp2_with fail
  (with_reducible refine (rshr_v N hN (RVs.at HR 0 rfl rfl) hf).mono ?_)
  rintro e0 w2 ⟨A2,k2,c2,rfl,hv,-,ho⟩
  rw [H3.out] at hv
  replace HK:=hid (HK.out.step ho)
  replace HR:=hid ((HR.out.step ho).push hv)
  clear hv ho
  go_upto_region 6 with fail
  cases dd
  ·have h3:=hm2.out.2 (by simp)
   subst h3
   go_wp2_with fail
   (with_reducible refine (rmake_d neg e1 (RVs.at HR 0 rfl rfl) hf2 he1 he2 hr.out).mono ?_)
   rintro e w9 ⟨s9,A9,k9,c9,rfl,hc,hv,ho⟩
   replace HK:=hid (HK.out.step ho)
   have HC:=hid hc
   have HV:=hid hv
   clear hc hv ho
   obtain⟨q0,q1_,q2,f0,f1,f2⟩:=HK.out.c3 0 rfl
   go_wp2_with fail
   refine bodyPost_ret (v:= .agg #[.bool s9,.slice A9 k9 c9,.int .i64 (r.e)]) (by simp [results,Tryz.results92,go_sem,q0,q1_,q2]) rfl ?_
   exact rdfin HV HC (by omega) (HK.out.blk 0 rfl) (noLimb3 _ _ _ _ _) HK.out.only (only_set3 _ _ _ _ _)
  ·have h3:=hm2.out.1 (by simp)
   have H3:=hid h3
   clear h3
   go_wp2_with fail
   (with_reducible refine (rsmall_lit 1 1 _ (hid (by unfold BB;omega)) (hid rfl)).mono ?_)
   rintro e w5 ⟨A5,k5,c5,rfl,hv,-,ho⟩
   replace HK:=hid (HK.out.step ho)
   replace HR:=hid ((HR.out.step ho).push hv)
   clear hv ho
   go_wp2_with fail
   (with_reducible refine (radd_v (RVs.at HR 1 rfl rfl) (RVs.at HR 0 rfl rfl) hf1 (hid (few_small (by unfold BB;omega)))).mono ?_)
   rintro e w6 ⟨A6,k6,c6,rfl,hv,-,ho⟩
   rw [H3.out] at hv
   replace HK:=hid (HK.out.step ho)
   replace HR:=hid ((HR.out.step ho).push hv)
   clear hv ho
   go_wp2_with fail
   (with_reducible refine (rmake_d neg e1 (RVs.at HR 0 rfl rfl) hf2 he1 he2 hr.out).mono ?_)
   rintro e w9 ⟨s9,A9,k9,c9,rfl,hc,hv,ho⟩
   replace HK:=hid (HK.out.step ho)
   have HC:=hid hc
   have HV:=hid hv
   clear hc hv ho
   obtain⟨q0,q1_,q2,f0,f1,f2⟩:=HK.out.c3 0 rfl
   go_wp2_with fail
   refine bodyPost_ret (v:= .agg #[.bool s9,.slice A9 k9 c9,.int .i64 (r.e)]) (by simp [results,Tryz.results92,go_sem,q0,q1_,q2]) rfl ?_
   exact rdfin HV HC (by omega) (HK.out.blk 0 rfl) (noLimb3 _ _ _ _ _) HK.out.only (only_set3 _ _ _ _ _)
 ·clear hcase
  subst h2
  have H3:=hid h3
  have H5:=hid h5
  clear h3 h5
  go_wp2_with fail
  (with_reducible refine (rshr_v N hN (RVs.at HR 0 rfl rfl) hf).mono ?_)
  rintro e0 w2 ⟨A2,k2,c2,rfl,hv,-,ho⟩
  rw [H3.out] at hv
  replace HK:=hid (HK.out.step ho)
  replace HR:=hid ((HR.out.step ho).push hv)
  clear hv ho
  go_wp2_with fail
  (with_reducible refine (rshl_v N hN (RVs.at HR 0 rfl rfl) hf1).mono ?_)
  rintro e0 w3 ⟨A3,k3,c3,rfl,hv,-,ho⟩
  replace HK:=hid (HK.out.step ho)
  replace HR:=hid ((HR.out.step ho).push hv)
  clear hv ho
  go_wp2_with fail
  (with_reducible refine (rcmp_v (RVs.at HR 0 rfl rfl) (RVs.at HR 2 rfl rfl) hf3 hf).mono ?_)
  rw [H5.out]
  rintro e0 w4 ⟨rfl,ho⟩
  replace HK:=hid (HK.out.step ho)
  have hr2:=(HR.out.step ho)
  replace HR:=hid hr2.2
  clear ho hr2
  go_upto_region 6 with fail
  cases q1
  ·have h3:=hm2.out.2 (by simp)
   subst h3
   go_wp2_with fail
   (with_reducible refine (rmake_d neg e1 (RVs.at HR 0 rfl rfl) hf2 he1 he2 hr.out).mono ?_)
   rintro e w9 ⟨s9,A9,k9,c9,rfl,hc,hv,ho⟩
   replace HK:=hid (HK.out.step ho)
   have HC:=hid hc
   have HV:=hid hv
   clear hc hv ho
   obtain⟨q0,q1_,q2,f0,f1,f2⟩:=HK.out.c3 0 rfl
   go_wp2_with fail
   refine bodyPost_ret (v:= .agg #[.bool s9,.slice A9 k9 c9,.int .i64 (r.e)]) (by simp [results,Tryz.results92,go_sem,q0,q1_,q2]) rfl ?_
   exact rdfin HV HC (by omega) (HK.out.blk 0 rfl) (noLimb3 _ _ _ _ _) HK.out.only (only_set3 _ _ _ _ _)
  ·skip
   cases dd
   ·have h3:=hm2.out.2 (by simp)
    subst h3
    go_wp2_with fail
    (with_reducible refine (rmake_d neg e1 (RVs.at HR 0 rfl rfl) hf2 he1 he2 hr.out).mono ?_)
    rintro e w9 ⟨s9,A9,k9,c9,rfl,hc,hv,ho⟩
    replace HK:=hid (HK.out.step ho)
    have HC:=hid hc
    have HV:=hid hv
    clear hc hv ho
    obtain⟨q0,q1_,q2,f0,f1,f2⟩:=HK.out.c3 0 rfl
    go_wp2_with fail
    refine bodyPost_ret (v:= .agg #[.bool s9,.slice A9 k9 c9,.int .i64 (r.e)]) (by simp [results,Tryz.results92,go_sem,q0,q1_,q2]) rfl ?_
    exact rdfin HV HC (by omega) (HK.out.blk 0 rfl) (noLimb3 _ _ _ _ _) HK.out.only (only_set3 _ _ _ _ _)
   ·have h3:=hm2.out.1 (by simp)
    have H3:=hid h3
    clear h3
    go_wp2_with fail
    (with_reducible refine (rsmall_lit 1 1 _ (hid (by unfold BB;omega)) (hid rfl)).mono ?_)
    rintro e w5 ⟨A5,k5,c5,rfl,hv,-,ho⟩
    replace HK:=hid (HK.out.step ho)
    replace HR:=hid ((HR.out.step ho).push hv)
    clear hv ho
    go_wp2_with fail
    (with_reducible refine (radd_v (RVs.at HR 1 rfl rfl) (RVs.at HR 0 rfl rfl) hf1 (hid (few_small (by unfold BB;omega)))).mono ?_)
    rintro e w6 ⟨A6,k6,c6,rfl,hv,-,ho⟩
    rw [H3.out] at hv
    replace HK:=hid (HK.out.step ho)
    replace HR:=hid ((HR.out.step ho).push hv)
    clear hv ho
    go_wp2_with fail
    (with_reducible refine (rmake_d neg e1 (RVs.at HR 0 rfl rfl) hf2 he1 he2 hr.out).mono ?_)
    rintro e w9 ⟨s9,A9,k9,c9,rfl,hc,hv,ho⟩
    replace HK:=hid (HK.out.step ho)
    have HC:=hid hc
    have HV:=hid hv
    clear hc hv ho
    obtain⟨q0,q1_,q2,f0,f1,f2⟩:=HK.out.c3 0 rfl
    go_wp2_with fail
    refine bodyPost_ret (v:= .agg #[.bool s9,.slice A9 k9 c9,.int .i64 (r.e)]) (by simp [results,Tryz.results92,go_sem,q0,q1_,q2]) rfl ?_
    exact rdfin HV HC (by omega) (HK.out.blk 0 rfl) (noLimb3 _ _ _ _ _) HK.out.only (only_set3 _ _ _ _ _)
theorem cmpZ_same (m:Nat):cmpZ m m=0:=by unfold cmpZ;simp
theorem cmpZ_ne {a b:Nat} (h:a≠b):cmpZ a b≠0:=by unfold cmpZ;split<;>(try split)<;>omega
theorem rcut_d {w:World} {a:Value} {m K:Nat} (neg rest:Bool) (e dir:Int) (P:Nat) (r:Dy) (hr:cutR P (decide (0≤dir)) neg m e rest=r) (ha:Hid (RV w a m)) (hm:m<2^K) (hK:K≤40000000) (hP:1≤P) (hP2:P≤100000) (he1: -1000000000000≤e) (he2:e≤1000000000000):
  Calls Tryz.prog 92 #[.bool neg,a,.int .i64 e,.bool rest,.int .i64 (P:Int),.int .i64 dir] w (RDP r w):=by
 subst hr
 have hfm: ∀{n:Nat},n≤m+1→Few n:=fun {n} h=>few_two_pow (N:=K+1) (by have:2^(K+1)=2^K*2:=Nat.pow_succ 2 K;omega) (by omega)
 obtain⟨b,hb⟩: ∃b,bitsN m=b:=⟨_,rfl⟩
 have hbK:b≤K:=by rw [← hb];exact bitsN_le hm
 obtain⟨N,hN⟩: ∃N,b-P=N:=⟨_,rfl⟩
 have hw1:IntKind.i64.wrap ((b:Int)-(P:Int))=(b:Int)-(P:Int):=wrap_i64 (by omega)
 have hw2:IntKind.i64.wrap (e+(N:Int))=e+(N:Int):=wrap_i64 (by omega)
 have hdn:decide (dir<0)= !decide (0≤dir):=by
  by_cases h:dir<0
  ·rw [decide_eq_true h,decide_eq_false (by omega)];rfl
  ·rw [decide_eq_false h,decide_eq_true (by omega)];rfl
 have hdd:(neg == decide (dir<0))=(decide (0≤dir) != neg):=by rw [hdn];cases neg<;>cases decide (0≤dir)<;>rfl
 have hle:m/2^N≤m:=Nat.div_le_self _ _
 have hlow:m/2^N*2^N≤m:=Nat.div_mul_le_self _ _
 have hcz:(cmpZ (m/2^N*2^N) m != 0)=decide (m%2^N≠0):=by
  have hda:=Nat.div_add_mod m (2^N)
  rw [Nat.mul_comm] at hda
  by_cases h0:m%2^N=0
  ·have e0:m/2^N*2^N=m:=by omega
   rw [e0,cmpZ_same,h0];rfl
  ·have e0:cmpZ (m/2^N*2^N) m≠0:=cmpZ_ne (by omega)
   rw [decide_eq_true h0]
   simpa using e0
 obtain⟨q1,hq1⟩: ∃q:Bool,(rest || decide (m%2^N≠0))=q:=⟨_,rfl⟩
 have hm2:((q1 && (decide (0≤dir) != neg))=true→m/2^N+1=(if q1 && (decide (0≤dir) != neg) then m/2^N+1 else m/2^N))∧((q1 && (decide (0≤dir) != neg))=false→m/2^N=(if q1 && (decide (0≤dir) != neg) then m/2^N+1 else m/2^N)):=
  ⟨fun h=>by rw [if_pos h],fun h=>by rw [if_neg (by rw [h];decide)]⟩
 refine rcut_core neg rest q1 _ e (e+(N:Int)) _ dir (cmpZ (m/2^N*2^N) m) b P (m/2^N) _ N _ (hid hb) hw1 hdd (hid ?_) (hid hm2) (hid ?_) ha (hid (hfm (by omega))) (hid (hfm (by omega))) (hid (hfm (by split<;>omega))) (hid (hfm (by omega))) (by omega) (by omega) (by omega)
 ·by_cases h0:b≤P
  ·have eN:N=0:=by omega
   subst eN
   left
   rw [Nat.pow_zero,Nat.mod_one] at hq1
   exact⟨by omega,by rw [Nat.pow_zero,Nat.div_one],by simp,by simpa using hq1.symm⟩
  ·right
   cases rest
   ·right
    exact⟨by omega,by omega,rfl,hw2,rfl,rfl,by rw [hcz];simpa using hq1⟩
   ·left
    exact⟨by omega,by omega,rfl,hw2,rfl,by simpa using hq1.symm⟩
 ·unfold cutR
  rw [hb,hN,hq1]
def isRP (m n:Nat):VP:=fun u w=> ∃A k c B j d,u= .tuple #[.slice A k c,.slice B j d]∧RV w (.slice A k c) m∧RV w (.slice B j d) n
theorem isRP.lasts (m n:Nat):Lasts (isRP m n):=fun _ _ _ ⟨A,k,c,B,j,d,h1,h2,h3⟩ ho=>⟨A,k,c,B,j,d,h1,h2.only ho,h3.only ho⟩
theorem all_isRP {m n:Nat} {w:World} {K:Value→Prop} (h: ∀A k c B j d,Hid (RV w (.slice A k c) m)→Hid (RV w (.slice B j d) n)→K (.tuple #[.slice A k c,.slice B j d])): ∀v,isRP m n v w→K v:=fun v ⟨A,k,c,B,j,d,h1,h2,h3⟩=>by
 subst h1
 exact h A k c B j d h2 h3
theorem grow_rp {f:FuncId} {args:Array Value} {w:World} {m n:Nat} (h:Calls Tryz.prog f args w (RDPost m n w)):
  Calls Tryz.prog f args w fun e w''=> ∃u,e= .returned u∧Only [] w w''∧isRP (m/n) (m%n) u w'':=
 h.mono fun _ _ ⟨A,k,c,A',k',c',he,h1,h2,_,ho⟩=>⟨_,he,ho,A,k,c,A',k',c',rfl,h1,h2⟩
theorem qbits_v (p:Int) (P:Nat) (hP:widthP p=P) (w:World):Calls Tryz.prog 89 #[.int .i64 p] w fun e w'=>e= .returned (.int .i64 (P:Int))∧w=w':=by
 have h:(P:Int)=min (max p 1) 65536:=by rw [← hP];unfold widthP;omega
 rw [h]
 clear h hP
 go_enter Tryz.func89,Tryz.ntmps89
 go_wp2
 go_ret
 exact⟨rfl,rfl⟩
set_option maxHeartbeats 8000000 in
set_option maxRecDepth 100000 in
theorem rround_core {w:World} {s:Bool} {A:Option Addr} {k c n K:Nat} {x:Dy} (p dir:Int) (P:Nat) (r:Dy) (HP:Hid (widthP p=P)) (HR:Hid (cutR P (decide (0≤dir)) s n x.e false=r)) (hv:RV w (.slice A k c) n) (hm:Hid (n<2^K)) (hK:K≤40000000) (hP1:1≤P) (hP2:P≤100000) (he1: -1000000000000≤x.e) (he2:x.e≤1000000000000):
  Calls Tryz.prog 63 #[.agg #[.bool s,.slice A k c,.int .i64 x.e],.int .i64 p,.int .i64 dir] w (RDP r w):=by
 have hk:=((KB.start w).new 38 [.bool s,.slice A k c,.int .i64 x.e]).new 38 [.bool false,.slice none 0 0,.int .i64 0]
 simp only [World.size_alloc] at hk
 have HV:=hid (hv.only hk.only)
 have HK:=hid hk
 clear hk hv
 go_enter Tryz.func63,Tryz.ntmps63
 go_upto_region 1 with fail
 apply wp_region_typed_tail2 10 (by kernel_rfl) [isV _,isV _,isV _,isV _,isV _,isV _,isV _,isV _,isV _,isRD r] [[],[0],[],[2],[],[4],[],[6],[],[1,3,5,7,8]] (by kernel_rfl) (by kernel_rfl) (by kernel_rfl)
 case ho=>
  simp only [List.take_succ_cons,List.take_zero]
  iterate 10
   refine owes2_cons (fun wx hox=>?_) ?_
   ·skip
    have hk:=HK.out.step hox
    obtain⟨i0,i1,i2,-,-,-⟩:=hk.c3 1 rfl
    clear hk
    refine withs_plain rfl ?_
    simp only [withs,List.getElem?_cons_zero,List.getElem?_cons_succ,Option.bind,Option.getD]
    with_reducible repeat first|refine all_isV ?_|(refine all_isRD ?_;intro sx Ax kx cx hvx hwx)
    go_simp
    first
    |exact⟨Only.refl _ _,isV.self _ _⟩
    |with_reducible exact grow_same (qbits_v p P HP.out _)
    |with_reducible exact grow_rd (rcut_d (K:=K) s false x.e dir P r HR.out (hid (HV.out.only hox)) hm.out hK hP1 hP2 he1 he2)
  exact owes2_nil
 case he=>
  simp only [List.drop_succ_cons,List.drop_zero]
  intro wx hox
  refine withs_of (by simp only [List.length,List.range,List.range.loop];exact rfl) ?_
  simp only [withs,List.getElem?_cons_zero,List.getElem?_cons_succ,Option.bind,Option.getD]
  with_reducible refine all_isV ?_
  with_reducible refine all_isV ?_
  with_reducible refine all_isV ?_
  with_reducible refine all_isV ?_
  with_reducible refine all_isV ?_
  with_reducible refine all_isV ?_
  with_reducible refine all_isV ?_
  with_reducible refine all_isV ?_
  with_reducible refine all_isV ?_
  with_reducible refine all_isRD ?_
  intro s9 A9 k9 c9 hv9 hw9
  go_simp
  have hk:=HK.out.step hox
  obtain⟨q0,q1,q2,f0,f1,f2⟩:=hk.c3 0 rfl
  have HB:=hid (hk.blk 0 rfl)
  have HO:=hid hk.only
  clear hk hox HK
  go_wp2_with fail
  refine bodyPost_ret (v:= .agg #[.bool s9,.slice A9 k9 c9,.int .i64 (r.e)]) (by simp [results,Tryz.results63,go_sem,q0,q1,q2]) rfl ?_
  exact rdfin hv9 hw9 (by omega) HB.out (noLimb3 _ _ _ _ _) HO.out (only_set3 _ _ _ _ _)
 case hl=>
  repeat (refine List.forall_mem_cons.2 ⟨?_,?_⟩;first|exact isV.lasts _|exact isRD.lasts _)
  exact fun _ h=>(by cases h)
theorem rround_d {w:World} {a:Value} {x:Dy} {N:Nat} (p dir:Int) (r:Dy) (hr:rndD (widthP p) (decide (0≤dir)) x=r) (ha:Hid (RD w a x)) (hb:Hid (Bnd N x)) (hN:N≤8000000):Calls Tryz.prog 63 #[a,.int .i64 p,.int .i64 dir] w (RDP r w):=by
 have he:=rlim_i64 hb.out hN
 have hw:=widthP_range p
 obtain⟨s,A,k,c,rfl,hc,hv⟩:=ha.out
 refine rround_core (K:=N) p dir _ r (hid rfl) (hid ?_) hv (hid hb.out.z) (by omega) hw.1 (by omega) (by omega) (by omega)
 rw [hc.1,rnd_ref hw.1]
 exact hr
theorem grow_rp' {f:FuncId} {args:Array Value} {w:World} {m n q r:Nat} (h:Calls Tryz.prog f args w (RDPost m n w)) (hq:m/n=q) (hr:m%n=r):
  Calls Tryz.prog f args w fun e w''=> ∃u,e= .returned u∧Only [] w w''∧isRP q r u w'':=hq▸hr▸grow_rp h
set_option maxHeartbeats 8000000 in
set_option maxRecDepth 100000 in
theorem rquo_core {w:World} {s t:Bool} {A B:Option Addr} {k c m d X Y K:Nat} {x y:Dy} (p dir:Int) (P bX bY n X2 qq rr:Nat) (p2 p3 p4 e1 e2:Int) (ng rest:Bool) (r:Dy) (HP:Hid (widthP p=P)) (HBX:Hid (bitsN X=bX)) (HBY:Hid (bitsN Y=bY)) (hW1:IntKind.i64.wrap ((P:Int)+2)=p2) (hW2:IntKind.i64.wrap (p2+(bY:Int))=p3) (hW3:IntKind.i64.wrap (p3-(bX:Int))=p4) (hmax:max p4 0=(n:Int))
  (hn9:(n:Int)≤90000000) (HX2:Hid (X*2^n=X2)) (HQ:Hid (X2/Y=qq)) (HR0:Hid (X2%Y=rr)) (hW4:IntKind.i64.wrap (x.e-y.e)=e1) (hW5:IntKind.i64.wrap (e1-(n:Int))=e2) (hng:(!(s == t))=ng) (HKR:Hid (∀ k11:Nat,k11=(R.limbsOf rr).length→decide (0<k11)=rest)) (hr:Hid (cutR P (decide (0≤dir)) ng qq e2 rest=r))
  (hv:RV w (.slice A k c) X) (hu:RV w (.slice B m d) Y) (HFX:Hid (Few X)) (HFY:Hid (Few Y)) (HF2:Hid (Few X2)) (hY0:0<Y) (hm:Hid (qq<2^K)) (hK:K≤40000000) (hP1:1≤P) (hP2:P≤100000) (he1: -1000000000000≤e2) (he2:e2≤1000000000000):
  Calls Tryz.prog 51 #[.agg #[.bool s,.slice A k c,.int .i64 x.e],.agg #[.bool t,.slice B m d,.int .i64 y.e],.int .i64 p,.int .i64 dir] w (RDP r w):=by
 have hk:=(((KB.start w).new 38 [.bool s,.slice A k c,.int .i64 x.e]).new 38 [.bool t,.slice B m d,.int .i64 y.e]).new 38 [.bool false,.slice none 0 0,.int .i64 0]
 simp only [World.size_alloc] at hk
 have HX:=hid (hv.only hk.only)
 have HY:=hid (hu.only hk.only)
 have HK:=hid hk
 clear hk hv hu
 go_enter Tryz.func51,Tryz.ntmps51
 go_wp2_with fail
 (with_reducible refine (qbits_v p P HP.out _).mono ?_)
 rintro e0 w1 ⟨rfl,rfl⟩
 go_upto_region 2 with fail
 apply wp_region_typed2 (by kernel_rfl) [isV _,isV _,isV _,isV _,isV _,isV _,isV _,isV _,isV _,isV _,isV _,isV _] [[],[0],[],[2],[3],[1,4],[],[6],[7],[5,8],[9],[10]] (by kernel_rfl) (by kernel_rfl)
 case ho=>
  refine owes2_cons (fun wx hox=>?_) ?_
  ·skip
   skip
   refine withs_plain rfl ?_
   simp only [withs,List.getElem?_cons_zero,List.getElem?_cons_succ,Option.bind,Option.getD]
   repeat (with_reducible refine all_isV ?_)
   go_simp
   exact⟨Only.refl _ _,isV.self _ _⟩
  refine owes2_cons (fun wx hox=>?_) ?_
  ·skip
   skip
   refine withs_plain rfl ?_
   simp only [withs,List.getElem?_cons_zero,List.getElem?_cons_succ,Option.bind,Option.getD]
   repeat (with_reducible refine all_isV ?_)
   go_simp
   exact⟨Only.refl _ _,isV.self _ _⟩
  refine owes2_cons (fun wx hox=>?_) ?_
  ·skip
   skip
   refine withs_plain rfl ?_
   simp only [withs,List.getElem?_cons_zero,List.getElem?_cons_succ,Option.bind,Option.getD]
   repeat (with_reducible refine all_isV ?_)
   go_simp
   exact⟨Only.refl _ _,isV.self _ _⟩
  refine owes2_cons (fun wx hox=>?_) ?_
  ·skip
   have hk:=HK.out.step hox
   obtain⟨j0,j1,j2,-,-,-⟩:=hk.c3 1 rfl
   clear hk
   refine withs_plain rfl ?_
   simp only [withs,List.getElem?_cons_zero,List.getElem?_cons_succ,Option.bind,Option.getD]
   repeat (with_reducible refine all_isV ?_)
   go_simp
   exact⟨Only.refl _ _,isV.self _ _⟩
  refine owes2_cons (fun wx hox=>?_) ?_
  ·skip
   skip
   refine withs_plain rfl ?_
   simp only [withs,List.getElem?_cons_zero,List.getElem?_cons_succ,Option.bind,Option.getD]
   repeat (with_reducible refine all_isV ?_)
   go_simp
   (with_reducible exact grow_same (rbitsV_v bY (hid (HY.out.only hox)) HFY HBY.out))
  refine owes2_cons (fun wx hox=>?_) ?_
  ·skip
   skip
   refine withs_plain rfl ?_
   simp only [withs,List.getElem?_cons_zero,List.getElem?_cons_succ,Option.bind,Option.getD]
   repeat (with_reducible refine all_isV ?_)
   go_simp
   exact⟨Only.refl _ _,isV.self _ _⟩
  refine owes2_cons (fun wx hox=>?_) ?_
  ·skip
   skip
   refine withs_plain rfl ?_
   simp only [withs,List.getElem?_cons_zero,List.getElem?_cons_succ,Option.bind,Option.getD]
   repeat (with_reducible refine all_isV ?_)
   go_simp
   exact⟨Only.refl _ _,isV.self _ _⟩
  refine owes2_cons (fun wx hox=>?_) ?_
  ·skip
   have hk:=HK.out.step hox
   obtain⟨i0,i1,i2,-,-,-⟩:=hk.c3 2 rfl
   clear hk
   refine withs_plain rfl ?_
   simp only [withs,List.getElem?_cons_zero,List.getElem?_cons_succ,Option.bind,Option.getD]
   repeat (with_reducible refine all_isV ?_)
   go_simp
   exact⟨Only.refl _ _,isV.self _ _⟩
  refine owes2_cons (fun wx hox=>?_) ?_
  ·skip
   skip
   refine withs_plain rfl ?_
   simp only [withs,List.getElem?_cons_zero,List.getElem?_cons_succ,Option.bind,Option.getD]
   repeat (with_reducible refine all_isV ?_)
   go_simp
   (with_reducible exact grow_same (rbitsV_v bX (hid (HX.out.only hox)) HFX HBX.out))
  refine owes2_cons (fun wx hox=>?_) ?_
  ·skip
   skip
   refine withs_plain rfl ?_
   simp only [withs,List.getElem?_cons_zero,List.getElem?_cons_succ,Option.bind,Option.getD]
   repeat (with_reducible refine all_isV ?_)
   go_simp
   exact⟨Only.refl _ _,isV.self _ _⟩
  refine owes2_cons (fun wx hox=>?_) ?_
  ·skip
   skip
   refine withs_plain rfl ?_
   simp only [withs,List.getElem?_cons_zero,List.getElem?_cons_succ,Option.bind,Option.getD]
   repeat (with_reducible refine all_isV ?_)
   go_simp
   exact⟨Only.refl _ _,isV.self _ _⟩
  refine owes2_cons (fun wx hox=>?_) ?_
  ·skip
   skip
   refine withs_plain rfl ?_
   simp only [withs,List.getElem?_cons_zero,List.getElem?_cons_succ,Option.bind,Option.getD]
   repeat (with_reducible refine all_isV ?_)
   go_simp
   exact⟨Only.refl _ _,isV.self _ _⟩
  exact owes2_nil
 case he=>
  intro wx hox
  refine withs_of (by simp only [List.length,List.range,List.range.loop];exact rfl) ?_
  simp only [withs,List.getElem?_cons_zero,List.getElem?_cons_succ,Option.bind,Option.getD]
  with_reducible refine all_isV ?_
  with_reducible refine all_isV ?_
  with_reducible refine all_isV ?_
  with_reducible refine all_isV ?_
  with_reducible refine all_isV ?_
  with_reducible refine all_isV ?_
  with_reducible refine all_isV ?_
  with_reducible refine all_isV ?_
  with_reducible refine all_isV ?_
  with_reducible refine all_isV ?_
  with_reducible refine all_isV ?_
  with_reducible refine all_isV ?_
  go_simp
  replace HK:=hid (HK.out.step hox)
  replace HX:=hid (HX.out.only hox)
  replace HY:=hid (HY.out.only hox)
  clear hox HBY HBX
  go_upto_region 3 with fail
  clear hW1 hW2 hW3 hmax
  apply wp_region_typed2 (by kernel_rfl) [isV _,isV _,isV _,isRN X2,isV _,isV _,isRP qq rr,isRP qq rr,isRN qq,isRN rr,isRN qq,isRN rr] [[],[0],[],[1,2],[],[4],[3,5],[6],[7],[7],[8],[9]] (by kernel_rfl) (by kernel_rfl)
  case ho=>
   iterate 12
    refine owes2_cons (fun wx hox=>?_) ?_
    ·skip
     have hk:=HK.out.step hox
     obtain⟨i0,i1,i2,-,-,-⟩:=hk.c3 2 rfl
     obtain⟨j0,j1,j2,-,-,-⟩:=hk.c3 1 rfl
     clear hk
     refine withs_plain rfl ?_
     simp only [withs,List.getElem?_cons_zero,List.getElem?_cons_succ,Option.bind,Option.getD]
     with_reducible repeat first|refine all_isV ?_|(refine all_isRN ?_;intro Ax kx cx hvx)|(refine all_isRP ?_;intro Ax kx cx Bx mx dx hvx hwx)
     go_simp
     first
     |exact⟨Only.refl _ _,isV.self _ _⟩
     |with_reducible exact grow_rn (rshlV_v n X2 hn9 (hid (HX.out.only hox)) HFX HX2.out)
     |with_reducible exact grow_rp' (rdivmod_v (by assumption) (hid (HY.out.only hox)) HF2 HFY hY0) HQ.out HR0.out
     |exact⟨Only.refl _ _,_,_,_,_,_,_,rfl,hvx.out,hwx.out⟩
     |exact⟨Only.refl _ _,_,_,_,rfl,hvx.out⟩
     |exact⟨Only.refl _ _,_,_,_,rfl,hwx.out⟩
   exact owes2_nil
  case he=>
   intro wx hox
   refine withs_of (by simp only [List.length,List.range,List.range.loop];exact rfl) ?_
   simp only [withs,List.getElem?_cons_zero,List.getElem?_cons_succ,Option.bind,Option.getD]
   with_reducible refine all_isV ?_
   with_reducible refine all_isV ?_
   with_reducible refine all_isV ?_
   with_reducible refine all_isRN ?_
   intro A3 k3 c3 hv3
   with_reducible refine all_isV ?_
   with_reducible refine all_isV ?_
   with_reducible refine all_isRP ?_
   intro A6 k6 c6 B6 j6 d6 hv6 hw6
   with_reducible refine all_isRP ?_
   intro A7 k7 c7 B7 j7 d7 hv7 hw7
   with_reducible refine all_isRN ?_
   intro A8 k8 c8 hv8
   with_reducible refine all_isRN ?_
   intro A9 k9 c9 hv9
   with_reducible refine all_isRN ?_
   intro A10 k10 c10 hv10
   with_reducible refine all_isRN ?_
   intro A11 k11 c11 hv11
   go_simp
   replace HK:=hid (HK.out.step hox)
   clear hox HX HY HX2 HQ HR0
   have hkk:=HKR.out k11 hv11.out.len
   obtain⟨i0,i1,i2,-,-,-⟩:=HK.out.c3 2 rfl
   obtain⟨j0,j1,j2,-,-,-⟩:=HK.out.c3 1 rfl
   go_wp2_with fail
   (with_reducible refine (rcut_d (K:=K) ng rest e2 dir P r hr.out hv10 hm.out hK hP1 hP2 he1 he2).mono ?_)
   rintro e w5 ⟨s5,A5,k5,c5,rfl,hc,hv,ho⟩
   replace HK:=hid (HK.out.step ho)
   have HC5:=hid hc
   have HV5:=hid hv
   clear hc hv ho i0 i1 i2 j0 j1 j2 hkk hW4 hW5 hng
   obtain⟨q0,q1,q2,f0,f1,f2⟩:=HK.out.c3 0 rfl
   go_wp2_with fail
   refine bodyPost_ret (v:= .agg #[.bool s5,.slice A5 k5 c5,.int .i64 (r.e)]) (by simp [results,Tryz.results51,go_sem,q0,q1,q2]) rfl ?_
   exact rdfin HV5 HC5 (by omega) (HK.out.blk 0 rfl) (noLimb3 _ _ _ _ _) HK.out.only (only_set3 _ _ _ _ _)
  case hl=>
   repeat (refine List.forall_mem_cons.2 ⟨?_,?_⟩;first|exact isV.lasts _|exact isRN.lasts _|exact isRP.lasts _ _)
   exact fun _ h=>(by cases h)
 case hl=>
  repeat (refine List.forall_mem_cons.2 ⟨?_,?_⟩;exact isV.lasts _)
  exact fun _ h=>(by cases h)
theorem rquo_d {w:World} {a b:Value} {x y:Dy} {N:Nat} (p dir:Int) (r:Dy) (hr:quoQ (widthP p) (decide (0≤dir)) x y=r) (hy0:y.z≠0) (ha:Hid (RD w a x)) (hb:Hid (RD w b y)) (hx:Hid (Bnd N x)) (hy:Hid (Bnd N y)) (hN:N≤2000000):Calls Tryz.prog 51 #[a,b,.int .i64 p,.int .i64 dir] w (RDP r w):=by
 have hex:=rlim_i64 hx.out (by omega)
 have hey:=rlim_i64 hy.out (by omega)
 obtain⟨P,hP⟩: ∃P,widthP p=P:=⟨_,rfl⟩
 have hw:=widthP_range p
 rw [hP] at hw hr
 obtain⟨s,A,k,c,rfl,hc,hv⟩:=ha.out
 obtain⟨t,B,m,d,rfl,hd,hu⟩:=hb.out
 have hX:=bitsN_le hx.out.z
 have hY:=bitsN_le hy.out.z
 have hn:(max ((P:Int)+2+(bitsN y.z.natAbs:Int)-(bitsN x.z.natAbs:Int)) 0)=((quoRn P x y:Nat):Int):=by unfold quoRn;omega
 have hnl:quoRn P x y≤P+2+N:=by unfold quoRn;omega
 have hx2:x.z.natAbs*2^quoRn P x y<2^(N+(P+2+N)):=by
  rw [Nat.pow_add]
  have h1:x.z.natAbs*2^quoRn P x y≤x.z.natAbs*2^(P+2+N):=Nat.mul_le_mul_left _ (two_mono hnl)
  exact Nat.lt_of_le_of_lt h1 ((Nat.mul_lt_mul_right (Nat.pow_pos (by omega))).2 hx.out.z)
 refine rquo_core (K:=N+(P+2+N)) p dir P (bitsN x.z.natAbs) (bitsN y.z.natAbs) (quoRn P x y) _ _ _ ((P:Int)+2) ((P:Int)+2+(bitsN y.z.natAbs:Int)) ((P:Int)+2+(bitsN y.z.natAbs:Int)-(bitsN x.z.natAbs:Int)) (x.e-y.e) (x.e-y.e-(quoRn P x y:Int)) _ (decide (0<x.z.natAbs*2^quoRn P x y%y.z.natAbs)) r (hid hP) (hid rfl) (hid rfl) (wrap_i64 (by omega)) (wrap_i64 (by omega)) (wrap_i64 (by omega)) hn (by omega) (hid rfl) (hid rfl) (hid rfl) (wrap_i64 (by omega)) (wrap_i64 (by omega)) rfl (hid fun k11 h=>?_) (hid ?_) hv hu (hid (rd_few hx.out (by omega))) (hid (rd_few hy.out (by omega))) (hid (few_two_pow hx2 (by omega))) (by omega) (hid (Nat.lt_of_le_of_lt (Nat.div_le_self _ _) hx2)) (by omega) hw.1 (by omega) (by omega) (by omega)
 ·rw [h]
  by_cases h0:x.z.natAbs*2^quoRn P x y%y.z.natAbs=0
  ·rw [h0,R.limbsOf_zero];rfl
  ·have h1:(R.limbsOf (x.z.natAbs*2^quoRn P x y%y.z.natAbs)).length≠0:=fun hc=>h0 (by
    have e:=R.val_limbsOf (x.z.natAbs*2^quoRn P x y%y.z.natAbs)
    rw [List.eq_nil_of_length_eq_zero hc] at e
    exact e.symm)
   rw [decide_eq_true (Nat.pos_of_ne_zero h1),decide_eq_true (Nat.pos_of_ne_zero h0)]
 ·rw [hc.1,hd.1]
  have h:=quo_ref (P:=P) (up:=decide (0≤dir)) (x:=x) (y:=y) hw.1 hy0
  unfold quoR at h
  exact h.trans hr
end Go.Proofs.YtigpnopeacicpaaGreatDoor
