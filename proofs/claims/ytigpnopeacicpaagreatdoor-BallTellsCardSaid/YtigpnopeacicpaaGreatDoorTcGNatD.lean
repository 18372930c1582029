import Derived.Test.YtigpnopeacicpaaGreatDoorTcGNatC
import Derived.Test.YtigpnopeacicpaaGreatDoorTcGNatA
import Derived.Test.YtigpnopeacicpaaGreatDoorTcJ0
import Derived.StillTailTactics
import Derived.Test.YtigpnopeacicpaaGreatDoorTcGNatB
namespace Go.Proofs.YtigpnopeacicpaaGreatDoor
open Go.Lib (hid)
open Go.RowKit
set_option maxRecDepth 100000 in
theorem slice_mid (b n c l h:Nat) (h1:l≤h) (h2:h≤c) (hc:l≠c) (w:World):(Instr.slice 28 (.slice (some ⟨b,0,none⟩) n c) (some (.int .i64 (l:Int))) (some (.int .i64 (h:Int))) none).run Tryz.prog w= .ok (.slice (some ⟨b,l,none⟩) (h-l) (c-l)) w:=by
 have hs:(sizeOf (Tryz.prog.elem 28)).run Tryz.prog w= .ok 1 w:=by kernel_rfl
 rw [run_slice_lh (P:=Tryz.prog) (w:=w) 28 (some ⟨b,0,none⟩) n c (by kernel_rfl) .i64 .i64 (l:Int) (h:Int) (by omega) (by omega) (by omega),hs]
 simp only [Result.andThen,sliced,Int.toNat_natCast]
 simp [addr_plus,Ne.symm hc]
structure LW (w wr:World) (gu gq:Nat) (us qs:List Nat) (U0 V m q k:Nat):Prop where
 li:LI us qs U0 V k
 bu:Blk wr gu 133 (limbV us)
 bq:Blk wr gq 133 (limbV qs)
 ul:us.length=m+1
 ql:qs.length=q
 only:Only [gu,gq] w wr
structure DW (w wr:World) (gu:Nat) (us us':List Nat) (V j n d b:Nat):Prop where
 di:DI us us' V j n d b
 bu:Blk wr gu 133 (limbV us')
 only:Only [gu] w wr
def LongPost (a b:Nat) (w:World) (e:Ending) (w':World):Prop:=
 ∃u v,e= .returned (.tuple #[u,v])∧Res w w' u (a/b)∧Res w w' v (a%b)∧(∀ g g',u.ownBlock=some g→v.ownBlock=some g'→g≠g')∧Only [] w w'
set_option maxHeartbeats 3200000 in
set_option maxRecDepth 100000 in
theorem long_any (A B:Option Addr) (c d m n:Nat) (xs ys:List Nat) (w:World) (hA:Hid (Arg w A xs)) (hB:Hid (Arg w B ys)) (hm:xs.length=m) (hn:ys.length=n) (h2:2≤(n:Int)) (hnm:(n:Int)≤m) (hml:(m:Int)≤3999998)
  (htop:Hid (ys[n-1]?.getD 0≠0)):
  Calls Tryz.prog 129 #[.slice A m c,.slice B n d] w (LongPost (val xs) (val ys) w):=by
 have HM:=hid hm
 have HN:=hid hn
 obtain⟨f1,hf1⟩: ∃f1,n-1=f1:=⟨_,rfl⟩
 obtain⟨f0,hf0⟩: ∃f0,n-2=f0:=⟨_,rfl⟩
 have hfi:(n:Int)-1=(f1:Int):=by omega
 have hfl:(f1:Int)<(n:Int):=by omega
 have hgl:(f0:Int)<(n:Int):=by omega
 rw [hf1] at htop
 obtain⟨b,o,rfl,cv⟩:=hB.out.read f1 (by omega)
 have HT:=hid (hB.out.limb.get f1)
 obtain⟨k1,k2,k3,k4⟩:=lead_norm htop.out HT.out
 have HTop:=hid htop.out
 generalize hty:ys[f1]?.getD 0=ty at cv HT k1 k2 k3 k4 HTop
 obtain⟨s,hs⟩: ∃s,64-Lib.bitLen ty=s:=⟨_,rfl⟩
 have hsi:64-(Lib.bitLen ty:Int)=(s:Int):=by omega
 have hs63:s<64:=by omega
 rw [hs] at k3
 have HLT:=hid (long_top (s:=s) hB.out.limb (by omega) hn (by rw [hf1,hty];exact HTop.out) (by rw [hf1,hty];exact k3))
 have HSn:Hid (s=0*64+s):=by show _=_;omega
 have HSl:=hid hs63
 clear k1 k2 k3 k4 hs hs63 htop
 go_enter Tryz.func129,Tryz.ntmps129
 go_wp2_with fail
 refine (lead64_any ty HT.out _).mono ?_
 rintro e w' ⟨rfl,rfl⟩
 rw [hsi]
 go_wp2_with fail
 have hl1:=left_any (some ⟨b,o,none⟩) d s 0 s ys w hB HSn HSl (by omega)
 rw [hn] at hl1
 refine hl1.mono ?_
 clear hl1
 rintro e w1 ⟨uv,rfl,hrv,hov⟩
 obtain⟨VV,hVV⟩: ∃VV,val ys*2^s=VV:=⟨_,rfl⟩
 have HVV:=hid hVV
 rw [hVV] at hrv HLT
 obtain⟨vA,vc,q,rfl,hql,hqc,hAv,hfv⟩:=hrv.shape2 (by rw [HLT.out.1];omega)
 rw [HLT.out.1] at hql
 subst hql
 have HAv:=hid hAv
 have HFv:=hid hfv
 have HOv:=hid hov
 have HA1:=hid (hA.out.only hov)
 obtain⟨w2,hmk,hb2,ho2,hs2⟩:=make_nat w1 (m+1) (by omega)
 rw [show ((m+1:Nat):Int)=(m:Int)+1 by push_cast;rfl] at hmk
 have HB2:=hid hb2
 have HO2:=hid ho2
 have HA2:=hid (HA1.out.only ho2)
 obtain⟨gu,hgu⟩: ∃gu,w1.heap.size=gu:=⟨_,rfl⟩
 rw [hgu] at hmk HB2
 have HGu:=hid hgu
 have HS2:=hid hs2
 clear hb2 ho2 hs2 hgu hrv hAv hfv hov hVV
 go_wp2_with fail
 have hl2:=left_any A c s 0 s xs w2 HA2 HSn HSl (by omega)
 rw [hm] at hl2
 refine hl2.mono ?_
 clear hl2
 rintro e w3 ⟨uu,rfl,hru,hou⟩
 have HOu:=hid hou
 have HLu:Hid ((limbsOf (val xs*2^s)).length≤m+1):=by
  show _≤_
  apply limbsOf_len_le
  have h1:=val_lt hA.out.limb
  rw [hm] at h1
  have h2:val xs*2^s<BB^m*2^s:=Nat.mul_lt_mul_of_pos_right h1 (Nat.pow_pos (by omega))
  have h3:BB^m*2^s≤BB^m*BB:=Nat.mul_le_mul_left _ (by rw [BB_pow];exact Nat.pow_le_pow_right (by omega) (by have:=HSl.out;omega))
  rw [Nat.pow_succ]
  omega
 obtain⟨uA,uc,uq,rfl,hul,huc,hAu,hfu⟩:=hru.shape2 (by have:=HLu.out;omega)
 have HB3:=hid (HB2.out.only hou (by simp))
 have HAu:=hid hAu
 clear hru hou hAu hfu
 obtain⟨lq,hlq⟩: ∃lq,m-n+1=lq:=⟨_,rfl⟩
 go_wp2_with (with_reducible refine wpList_copy_limbs rfl _ _ rfl gu (List.replicate (m+1) 0) _ _ rfl (by simp) HB3.out uA (limbsOf (val xs*2^s)) _ _ rfl (by first|rfl|exact hul.symm) HAu.out.read (by rw [List.length_replicate];exact HLu.out) ?_;intro w4 hb4 ho4 hs4;have HB4:=hid hb4;have HO4:=hid ho4;have HZ4:=hid hs4;clear hb4 ho4 hs4;obtain⟨w5,hmk2,hb5,ho5,hs5⟩:=make_nat w4 lq (by omega);rw [show (lq:Int)=(m:Int)-(n:Int)+1 by omega] at hmk2)
 obtain⟨gq,hgq⟩: ∃gq,w4.heap.size=gq:=⟨_,rfl⟩
 rw [hgq] at hb5 hs5
 have HBq:=hid hb5
 have HO5:=hid ho5
 have HGne:Hid (gu≠gq):=by
  have h1:=HS2.out
  have h2:=HOu.out.size
  have h3:=HZ4.out
  have h4:=HGu.out
  show _≠_
  omega
 have HGa:Hid (w.heap.size≤gu∧w.heap.size≤gq):=by
  have h1:=HS2.out
  have h2:=HOu.out.size
  have h3:=HZ4.out
  have h4:=HGu.out
  have h5:=HOv.out.size
  show _∧_
  constructor<;>omega
 obtain⟨us0,hus0⟩: ∃us0,limbsOf (val xs*2^s)++List.drop (limbsOf (val xs*2^s)).length (List.replicate (m+1) 0)=us0:=⟨_,rfl⟩
 rw [hus0] at HB4
 have HBu:=hid (HB4.out.only HO5.out (by simp))
 have HU0:Hid (Limb us0∧us0.length=m+1∧val us0=val xs*2^s):=by
  have h1:=HLu.out
  rw [← hus0]
  refine⟨(limb_limbsOf _).append ((Limb.zeros _).drop _),by rw [List.length_append,List.length_drop,List.length_replicate];omega,?_⟩
  rw [val_append,val_limbsOf,List.drop_replicate,val_zeros,Nat.mul_zero,Nat.add_zero]
 have HV5:Hid (∀ wr,Only [gu,gq] w5 wr→Arg wr vA (limbsOf VV)):=fun wr hwr=>by
  have h1:=HGu.out
  have h6:=HGne.out
  have h7:gu<gq:=by
   have h1:=HS2.out
   have h2:=HOu.out.size
   have h3:=HZ4.out
   have h4:=HGu.out
   omega
  have hn: ∀a,vA=some a→a.block∉[gu,gq]:=fun a ha=>by
   have:=(HFv.out a ha).2
   simp
   omega
  exact ((((HAv.out.only HO2.out).only HOu.out).onlyS HO4.out (fun a ha=>by have:=hn a ha;simp at this ⊢;exact this.1)).only HO5.out).onlyS hwr hn
 have HVg:Hid (∀ a,vA=some a→a.block≠gu∧a.block≠gq):=fun a ha=>by
  have h1:=HGu.out
  have h7:gu<gq:=by
   have h1:=HS2.out
   have h2:=HOu.out.size
   have h3:=HZ4.out
   omega
  have:=(HFv.out a ha).2
  constructor<;>omega
 have HO:Hid (∀ wr,Only [gu,gq] w5 wr→Only [] w wr):=fun wr hwr=>by
  have h1:=HGa.out
  have h2:Only [] w w3:=(HOv.out.nil_trans HO2.out).nil_trans HOu.out
  have h3:Only [] w w4:=h2.trans HO4.out (fun k hk=> .inr (by simp at hk;rw [hk];exact h1.1))
  exact (h3.nil_trans HO5.out).trans hwr (fun k hk=> .inr (by simp at hk;rcases hk with rfl|rfl;exact h1.1;exact h1.2))
 have HVl:=hid HLT.out.1
 have HStart:Hid (LW w5 w5 gu gq us0 (List.replicate lq 0) (val xs*2^s) VV m lq lq):=by
  refine⟨?_,HBu.out,HBq.out,HU0.out.2.1,by simp,Only.refl _ _⟩
  have h1:=LI.start (xs:=xs) (ys:=ys) (us:=us0) (qs:=List.replicate lq 0) (s:=s) (n:=n) (m:=m) hA.out.limb hm (by omega) (by omega) (by rw [HVV.out];exact HLT.out.2) HU0.out.1 HU0.out.2.2 (Limb.zeros _) (by rw [List.length_replicate];exact hlq.symm)
  rw [HVV.out,hlq] at h1
  exact h1
 clear HLT HB4 HBu HU0 HO5 HBq HAu HB3 HLu HOu hul huc hus0 HO2 HA2 HA1 HB2 hmk hmk2 hb5 ho5 hs5 HOv HFv HAv HZ4 HS2 HGu
 rw [hgq]
 clear hgq hA cv
 go_loopw [11] (fun jv wr=> ∃(k:Nat) (us qs:List Nat),k≤lq∧jv= .int .i64 ((k:Int)-1)∧LW w5 wr gu gq us qs (val xs*2^s) VV m lq k) (fun jv _=>(intOf jv+1).toNat)
 case atStart=>exact⟨lq,_,_,Nat.le_refl _,by congr 1;omega,HStart.out⟩
 case round=>
  obtain⟨k,us,qs,hk,rfl,hR⟩:=hrel
  have HR:=hid hR
  clear hR HStart
  rcases k with _|j
  ·have hi:((0:Nat):Int)-1= -1:=rfl
   rw [hi]
   clear hi
   have HQ:Hid (val qs=val xs/val ys∧val us/2^s=val xs%val ys):=by
    have h:=HR.out.li
    rw [← HVV.out] at h
    exact h.done
   have HAu:Hid (Arg wr (some ⟨gu,0,none⟩) us):=⟨.of_blk HR.out.bu,HR.out.li.ul,by rw [HR.out.ul];omega⟩
   have HUl:=hid HR.out.ul
   have HQl:=hid HR.out.ql
   have hlqb:(lq:Int)≤4000000:=by omega
   go_wp2_with fail
   (with_reducible refine (trim_row gq lq lq qs wr HR.out.bq HR.out.li.ql HQl.out.symm (Nat.le_refl _) hlqb).mono ?_)
   rintro e w6 ⟨rfl,rfl⟩
   go_wp2_with fail
   (with_reducible refine (trim_row gu (m+1) (m+1) us wr HR.out.bu HR.out.li.ul HUl.out.symm (Nat.le_refl _) (by omega)).mono ?_)
   rintro e w6 ⟨rfl,rfl⟩
   go_wp2_with fail
   refine (right_any (some ⟨gu,0,none⟩) (m+1) s 0 s (limbsOf (val us)) wr (hid HAu.out.trim) HSn HSl (by omega)).mono ?_
   rintro e w7 ⟨ur,rfl,hrr,hor⟩
   have HRr:=hid hrr
   have HOr:=hid hor
   clear hrr hor
   go_wp2_with fail
   go_ret2
   have hq:=res_of_blk (w0:=w) HR.out.bq HR.out.li.ql HGa.out.2 (by rw [HQl.out];omega)
   rw [HQl.out] at hq
   have hr:=HRr.out.pre (w0:=w) (HO.out wr HR.out.only).size
   rw [val_limbsOf,HQ.out.2] at hr
   refine⟨_,_,rfl,by rw [← HQ.out.1];exact hq.nil HOr.out,hr,?_,(HO.out wr HR.out.only).nil_trans HOr.out⟩
   intro g g' hg hg'
   have h1:gq=g:=by simpa [Value.ownBlock] using hg
   have h2:=HRr.out.fresh g' hg'
   have h3:=HR.out.bq.lt
   omega
  ·have hi:((j+1:Nat):Int)-1=(j:Int):=by omega
   rw [hi]
   clear hi
   clear hfi
   obtain⟨e2,he2⟩: ∃e2,j+n=e2:=⟨_,rfl⟩
   obtain⟨e1,he1⟩: ∃e1,e2-1=e1:=⟨_,rfl⟩
   obtain⟨e0,he0⟩: ∃e0,e2-2=e0:=⟨_,rfl⟩
   have hm1:IntKind.i64.wrap ((j:Int)+(n:Int))=(e2:Int):=by rw [IntKind.wrap_i64];omega
   have hm2:IntKind.i64.wrap ((e2:Int)-1)=(e1:Int):=by rw [IntKind.wrap_i64];omega
   have hm3:IntKind.i64.wrap ((e2:Int)-2)=(e0:Int):=by rw [IntKind.wrap_i64];omega
   have hm4:IntKind.i64.wrap ((n:Int)-1)=(f1:Int):=by rw [IntKind.wrap_i64];omega
   have hm5:IntKind.i64.wrap ((n:Int)-2)=(f0:Int):=by rw [IntKind.wrap_i64];omega
   have hb2:(e2:Int)<(m:Int)+1:=by omega
   have hb1:(e1:Int)<(m:Int)+1:=by omega
   have hb0:(e0:Int)<(m:Int)+1:=by omega
   have c2:=HR.out.bu.cell e2
   rw [limbV_get _ _ (by rw [HR.out.ul];omega)] at c2
   have c1:=HR.out.bu.cell e1
   rw [limbV_get _ _ (by rw [HR.out.ul];omega)] at c1
   have c0:=HR.out.bu.cell e0
   rw [limbV_get _ _ (by rw [HR.out.ul];omega)] at c0
   have HVr:=hid (HV5.out wr HR.out.only)
   obtain⟨vb,vo,rfl,d1⟩:=HVr.out.read f1 (by rw [HVl.out];omega)
   obtain⟨vb',vo',e',d0⟩:=HVr.out.read f0 (by rw [HVl.out];omega)
   injection e' with e'
   injection e' with x1 x2 _
   subst x1 x2
   have HU2:Hid (us[e2]?.getD 0≤(limbsOf VV)[f1]?.getD 0):=by
    have h:=long_u2 (us:=us) (vs:=limbsOf VV) (j:=j) (n:=n) (limb_limbsOf VV) (by omega) HVl.out (by rw [val_limbsOf];exact HR.out.li.lt)
    rw [he2,hf1] at h
    exact h
   have HE:Hid (∀ dd,EstOk (us[e2]?.getD 0) (us[e1]?.getD 0) (us[e0]?.getD 0) ((limbsOf VV)[f1]?.getD 0) ((limbsOf VV)[f0]?.getD 0) dd→val us<BB^j*((dd+1)*VV)):=fun dd hdd=>by
    have h:=est_ge (us:=us) (vs:=limbsOf VV) (j:=j) (n:=n) (d:=dd) HR.out.li.ul (limb_limbsOf VV) (by omega) HVl.out (by rw [HR.out.ul];omega) (by rw [val_limbsOf];exact HR.out.li.lt) (by rw [he2,he1,he0,hf1,hf0];exact hdd)
    rw [val_limbsOf] at h
    exact h
   have HL1:=hid (HR.out.li.ul.get e1)
   have HL0:=hid (HR.out.li.ul.get e0)
   have HL3:=hid ((limb_limbsOf VV).get f1)
   have HL4:=hid ((limb_limbsOf VV).get f0)
   have HP:Hid (0<(limbsOf VV)[f1]?.getD 0):=by
    have h:=canon_limbsOf VV (by rw [HVl.out];omega)
    have h3:(limbsOf VV).length-1=f1:=by rw [HVl.out];exact hf1
    simp only [h3] at h
    rw [List.getElem?_eq_getElem (by rw [HVl.out];omega)]
    exact Nat.pos_of_ne_zero h
   generalize us[e2]?.getD 0=u2 at*
   generalize us[e1]?.getD 0=u1 at*
   generalize us[e0]?.getD 0=u0 at*
   generalize (limbsOf VV)[f1]?.getD 0=v1 at*
   generalize (limbsOf VV)[f0]?.getD 0=v0 at*
   go_wp2_with fail
   go_still_tail 30,(by kernel_rfl)
   change wpList _ _ _ _ _ wr.drew
   have HOd:Hid (Only [] wr wr.drew):=(Only.refl [] wr).drew
   generalize wr.drew=wd at HOd ⊢
   go_wp2_with fail
   refine (estimate_any u2 u1 u0 v1 v0 HU2 HL1 HL0 HL3 HL4 HP _).mono ?_
   rintro e we ⟨dg,rfl,hest,hoe⟩
   have HDe:Hid (dg<BB∧val us<BB^j*((dg+1)*VV)):=⟨hest.1,HE.out dg hest⟩
   have HOe:Hid (Only [] wr we):=HOd.out.nil_trans hoe
   clear hest hoe HE HL1 HL0 HL3 HL4 HP HU2 c2 c1 c0 d1 d0 hm1 hm2 hm3 hm4 hm5 hb2 hb1 hb0 HOd
   obtain⟨e3,he3⟩: ∃e3,e2+1=e3:=⟨_,rfl⟩
   obtain⟨cp,hcp⟩: ∃cp,m+1-j=cp:=⟨_,rfl⟩
   have hj1:(j:Int)+(n:Int)=(e2:Int):=by omega
   have hj2:(e2:Int)+1=(e3:Int):=by omega
   have sl:=slice_mid gu (m+1) (m+1) j e3 (by omega) (by omega) (by omega)
   rw [show e3-j=n+1 by omega,hcp] at sl
   have HBe:=hid (HR.out.bu.only HOe.out (by simp))
   have HVe:=hid (HVr.out.only HOe.out)
   have HUlimb:=hid HR.out.li.ul
   have HUlen:=hid HR.out.ul
   have HAg:Hid (0<(limbsOf VV).length→ ∀a,some (⟨vb,vo,none⟩:Addr)=some a→a.block≠gu):=fun _ a ha=>(HVg.out a ha).1
   have hDq:=hid HDe.out.1
   go_wp2_with fail
   refine (take_any gu j cp us (some ⟨vb,vo,none⟩) vc n dg (limbsOf VV) _ HBe HUlimb HVe HAg HVl.out (by rw [HUlen.out];omega) (by rw [HUlen.out];omega) hDq).mono ?_
   rintro e wt ⟨bo,us1,rfl,hbo,htc⟩
   have HTc:=hid htc
   have HBo:=hid hbo
   have HD0:Hid (DW we wt gu us us1 VV j n dg bo):=by
    have h1:=long_bound (us:=us) (vs:=limbsOf VV) (j:=j) (n:=n) (limb_limbsOf VV) HVl.out (by rw [val_limbsOf];exact HR.out.li.lt)
    have h2:=HTc.out.val_
    rw [val_limbsOf] at h2
    exact⟨⟨HTc.out.limb,HTc.out.len,h2,high_bound HUlimb.out HTc.out.limb HTc.out.len (by rw [HUlen.out];omega) HTc.out.high h1,HDe.out.2,hDq.out,hbo⟩,HTc.out.blk,HTc.out.only⟩
   clear htc hbo HTc HBo
   go_wp2_with fail
   go_loopw [12,13] (fun dv bv wx=> ∃(dd bb:Nat) (us':List Nat),dv= .int .u64 (dd:Int)∧bv= .int .u64 (bb:Int)∧DW we wx gu us us' VV j n dd bb) (fun dv _ _=>(intOf dv).toNat)
   case atStart=>exact⟨_,_,_,rfl,rfl,HD0.out⟩
   case round=>
    obtain⟨dd,bb,us',rfl,rfl,hW⟩:=hrel
    have HW:=hid hW
    clear hW HD0
    rcases (show bb=0∨bb=1 by have:=HW.out.di.bl;omega) with rfl|rfl
    ·have HBq:Hid (Blk _ gq 133 (limbV qs)):=(HR.out.bq.only HOe.out (by simp)).only HW.out.only (by have:=HGne.out;simp;omega)
     have HQl:=hid HR.out.ql
     have cq:=HBq.out.cell j
     rw [limbV_get _ _ (by rw [HQl.out];omega)] at cq
     have fq:=HBq.out.frozen j
     have hjq:(j:Int)<(lq:Int):=by omega
     go_wp2_with fail
     go_roundw
     case rel=>
      refine⟨j,us',qs.set j dd,by omega,rfl,HR.out.li.step HW.out.di (by rw [HQl.out];omega),HW.out.bu.far (by have:=HGne.out;simpa using this) _,?_,by rw [HW.out.di.len,HUlen.out],by rw [List.length_set,HQl.out],(((HR.out.only.nil_trans HOe.out).trans HW.out.only (fun k hk=> .inl (by simp at hk ⊢;exact .inl hk))).setCell (.inl (by simp)) _)⟩
      rw [← limbV_set]
      exact HBq.out.set_ j _
     case measure=>simp [intOf]
    ·have hp:=HW.out.di.pos
     have hw1:IntKind.u64.wrap ((dd:Int)-1)=((dd-1:Nat):Int):=u64_dec hp HW.out.di.dl
     have HBx:=hid HW.out.bu
     have HXl:=hid HW.out.di.limb
     have HXn:Hid (us'.length=m+1):=by show _=_;rw [HW.out.di.len,HUlen.out]
     have HVx:=hid (HVe.out.onlyS HW.out.only (fun a ha=>by have:=(HVg.out a ha).1;simpa using this))
     have HPp:=hid hp
     clear hp
     go_wp2_with fail
     refine (giveBack_any gu j cp us' (some ⟨vb,vo,none⟩) vc n (limbsOf VV) _ HBx HXl HVx HAg HVl.out (by rw [HXn.out];omega) (by rw [HXn.out];omega)).mono ?_
     rintro e wg ⟨cy,us2,rfl,hgc⟩
     have HGc:=hid hgc
     have hw2:IntKind.u64.wrap (1-(cy:Int))=((1-cy:Nat):Int):=by
      have:=hgc.cyle
      rw [show (1:Int)-(cy:Int)=((1-cy:Nat):Int) by omega]
      exact u64_wrap (by rw [BB_val];omega)
     clear hgc
     go_wp2_with fail
     go_roundw
     case rel=>
      have hv:=HGc.out.val_
      rw [val_limbsOf] at hv
      exact⟨dd-1,1-cy,us2,rfl,rfl,HW.out.di.step HGc.out.limb HGc.out.len (by rw [HXn.out];omega) HGc.out.high HGc.out.cyle hv,HGc.out.blk,HW.out.only.trans HGc.out.only (by simp)⟩
     case measure=>have:=HPp.out;simp [intOf];omega
def DMPost (a b:Nat) (w:World) (e:Ending) (w':World):Prop:=
 ∃u v,e= .returned (.tuple #[u,v,.bool (decide (b≠0))])∧Res w w' u (a/b)∧Res w w' v (if b=0 then 0 else a%b)∧(∀ g g',u.ownBlock=some g→v.ownBlock=some g'→g≠g')∧Only [] w w'
theorem of_one (r:Nat) (w:World) (hr:Hid (r<BB)):Calls Tryz.prog 94 #[.slice (some ⟨w.heap.size,0,none⟩) 1 1] (w.alloc (Obj.cells #[.int .u64 (r:Int)] 133)) fun e w'=> ∃u,e= .returned u∧Res w w' u r∧(∀ g,u.ownBlock=some g→w.heap.size<g)∧Only [] w w':=by
 have hb:Blk (w.alloc (Obj.cells #[.int .u64 (r:Int)] 133)) w.heap.size 133 (limbV [r]):=Blk.new w 133 (limbV [r])
 have hA:Hid (Arg (w.alloc (Obj.cells #[.int .u64 (r:Int)] 133)) (some ⟨w.heap.size,0,none⟩) [r]):=⟨.of_blk hb,limb_one hr.out,by simp⟩
 have ho:Only [] w (w.alloc (Obj.cells #[.int .u64 (r:Int)] 133)):=(Only.refl [] w).alloc _
 refine (of_any (some ⟨w.heap.size,0,none⟩) 1 [r] _ hA (Nat.le_refl _)).mono ?_
 rintro e w' ⟨u,rfl,hu,ho2⟩
 have hv:val [r]=r:=by simp [val]
 rw [hv] at hu
 refine⟨u,rfl,hu.pre ho.size,fun g hg=>?_,ho.nil_trans ho2⟩
 have h1:=hu.fresh g hg
 have h2:=hb.lt
 omega
set_option maxHeartbeats 1600000 in
set_option maxRecDepth 100000 in
theorem divMod_any (A B:Option Addr) (c d:Nat) (xs ys:List Nat) (w:World) (hA:Hid (Arg w A xs)) (hB:Hid (Arg w B ys)) (hc:xs.length≤c) (hd:ys.length≤d) (hl:(xs.length:Int)≤3999998):
  Calls Tryz.prog 87 #[.slice A xs.length c,.slice B ys.length d] w (DMPost (val xs) (val ys) w):=by
 have HA:=hid hA.out.trim
 have HB:=hid hB.out.trim
 have HLx:Hid ((limbsOf (val xs)).length≤c):=Nat.le_trans (limbsOf_len hA.out.limb) hc
 have HLy:Hid ((limbsOf (val ys)).length≤d):=Nat.le_trans (limbsOf_len hB.out.limb) hd
 by_cases h0:val ys=0
 ·have hz:(limbsOf (val ys)).length=0:=by rw [h0,limbsOf_zero];rfl
  have HZ:=hid h0
  clear h0
  go_enter Tryz.func87,Tryz.ntmps87
  go_wp2_with fail
  (with_reducible refine (trim_any A c xs _ hA hc).mono ?_)
  rintro e w' ⟨rfl,rfl⟩
  go_wp2_with fail
  (with_reducible refine (trim_any B d ys _ hB hd).mono ?_)
  rintro e w' ⟨rfl,rfl⟩
  go_wp2_with fail
  go_returns
  exact⟨_,_,by rw [HZ.out];rfl,by rw [HZ.out,Nat.div_zero];exact res_nil _ _,by rw [if_pos HZ.out];exact res_nil _ _,fun g g' hg=>by simp [Value.ownBlock] at hg,Only.refl _ _⟩
 ·have HNZ:Hid (val ys≠0):=h0
  have hq0:(limbsOf (val ys)).length≠0:=by
   intro h
   exact h0 (limbsOf_len0.1 h)
  have hzi:(((limbsOf (val ys)).length:Int) == 0)=false:=by rw [beq_eq_false_iff_ne];omega
  by_cases hlt:val xs<val ys
  ·have HCmp:Hid (cmpZ (val xs) (val ys)= -1):=cmp_le hlt
   have HLt:=hid hlt
   clear h0 hlt
   go_enter Tryz.func87,Tryz.ntmps87
   go_wp2_with fail
   (with_reducible refine (trim_any A c xs _ hA hc).mono ?_)
   rintro e w' ⟨rfl,rfl⟩
   go_wp2_with fail
   (with_reducible refine (trim_any B d ys _ hB hd).mono ?_)
   rintro e w' ⟨rfl,rfl⟩
   go_wp2_with fail
   (with_reducible refine (ncmp_any A B c d (limbsOf (val xs)) (limbsOf (val ys)) _ HA HB HLx.out HLy.out).mono ?_)
   rintro e w1 ⟨rfl,ho1⟩
   rw [cmp_self,HCmp.out]
   have HO1:=hid ho1
   clear ho1
   go_wp2_with fail
   refine (of_any A c (limbsOf (val xs)) w1 (hid (HA.out.only HO1.out)) HLx.out).mono ?_
   rintro e w2 ⟨u,rfl,hr,ho2⟩
   have HR:=hid hr
   have HO2:=hid ho2
   clear hr ho2
   go_wp2_with fail
   go_returns
   refine⟨_,u,by rw [decide_eq_true HNZ.out];rfl,by rw [Nat.div_eq_of_lt HLt.out];exact res_nil _ _,?_,fun g g' hg=>by simp [Value.ownBlock] at hg,HO1.out.nil_trans HO2.out⟩
   rw [if_neg HNZ.out,Nat.mod_eq_of_lt HLt.out]
   have:=HR.out.pre HO1.out.size
   rwa [val_limbsOf] at this
  ·have hcmp:cmpZ (val xs) (val ys)=0∨cmpZ (val xs) (val ys)=1:=by
    by_cases e:val xs=val ys
    ·exact .inl (cmp_eq e)
    ·exact .inr (cmp_gt (by omega))
   have HGe:Hid ((limbsOf (val ys)).length≤(limbsOf (val xs)).length):=limbsOf_len_mono (by omega)
   have HLX:Hid ((limbsOf (val xs)).length≤xs.length):=limbsOf_len hA.out.limb
   by_cases h1:(limbsOf (val ys)).length=1
   ·have hone:(((limbsOf (val ys)).length:Int) == 1)=true:=by rw [h1];rfl
    obtain⟨y,hy⟩:=List.length_eq_one_iff.1 h1
    have HY:Hid (val ys=y):=by
     have:=val_limbsOf (val ys)
     rw [hy] at this
     show _=_
     rw [← this]
     simp [val]
    obtain⟨bb,bo,rfl,cy⟩:=HB.out.read 0 (by omega)
    have HYl:Hid (y<BB):=limb_limbsOf (val ys) y (by rw [hy];simp)
    rw [hy] at cy
    have cy:w.cell? ⟨bb,bo,none⟩=some (.int .u64 (y:Int)):=cy
    have HYp:Hid (0<y):=Nat.pos_of_ne_zero (by rw [← HY.out];exact HNZ.out)
    have hyl:(((limbsOf (val ys)).length:Nat):Int)=1:=by omega
    have hql:(((limbsOf (val xs)).length:Nat):Int)≤4000000:=by have:=HLX.out;omega
    clear h0 hlt h1 hq0 hy
    rcases hcmp with hcmp|hcmp
    all_goals
     have HCmp:=hid hcmp
     clear hcmp
     go_enter Tryz.func87,Tryz.ntmps87
     go_wp2_with fail
     (with_reducible refine (trim_any A c xs _ hA hc).mono ?_)
     rintro e w' ⟨rfl,rfl⟩
     go_wp2_with fail
     (with_reducible refine (trim_any (some ⟨bb,bo,none⟩) d ys _ hB hd).mono ?_)
     rintro e w' ⟨rfl,rfl⟩
     go_wp2_with fail
     (with_reducible refine (ncmp_any A (some ⟨bb,bo,none⟩) c d (limbsOf (val xs)) (limbsOf (val ys)) _ HA HB HLx.out HLy.out).mono ?_)
     rintro e w1 ⟨rfl,ho1⟩
     rw [cmp_self,HCmp.out]
     have HO1:=hid ho1
     have cy1:=ho1.cell cy (by simp)
     clear ho1 cy
     obtain⟨q,hq⟩: ∃q,(limbsOf (val xs)).length=q:=⟨_,rfl⟩
     rw [hq] at hql ⊢
     obtain⟨w2,hmk,hb2,ho2,hs2⟩:=make_nat w1 q (by omega)
     obtain⟨gq,hgq⟩: ∃gq,w1.heap.size=gq:=⟨_,rfl⟩
     rw [hgq] at hmk hb2
     have HB2:=hid hb2
     have HO2:=hid ho2
     have HA2:=hid ((HA.out.only HO1.out).only ho2)
     have cy2:=ho2.cell cy1 (by simp)
     have HGq:=hid hgq
     have HBg:Hid (bb≠gq):=by
      have:=World.block_lt_of_cell? w1 _ cy1
      simp only at this
      show _≠_
      omega
     have HQ:=hid hq
     clear hb2 ho2 hs2 hgq cy1
     go_wp2_with (with_reducible refine wpList_copy_limbs rfl _ _ rfl gq (List.replicate q 0) _ _ rfl (by simp) HB2.out A (limbsOf (val xs)) _ _ rfl (by first|rfl|exact HQ.out.symm) HA2.out.read (by rw [List.length_replicate];exact Nat.le_of_eq HQ.out) ?_;intro w3 hb3 ho3 hs3;have HB3:=hid hb3;have HO3:=hid ho3;have HZ3:=hid hs3;have cy3:=ho3.cell cy2 (by have:=HBg.out;simpa using this);clear hb3 ho3 hs3)
     have HB4:Hid (Blk w3 gq 133 (limbV (limbsOf (val xs)))):=by
      have h:=HB3.out
      rw [HQ.out,List.drop_replicate,Nat.sub_self,List.replicate_zero,List.append_nil] at h
      exact h
     have HXl:Hid (Limb (limbsOf (val xs))):=limb_limbsOf _
     refine (short_any gq q q y (limbsOf (val xs)) w3 HB4 HXl HQ (by omega) HYp HYl).mono ?_
     rintro e w4 ⟨zs,rfl,hb5,hzl,hzn,hzv,ho5⟩
     have HB5:=hid hb5
     have HZl:=hid hzl
     have HZn:Hid (zs.length=q):=hzn.trans HQ.out
     have HO5:=hid ho5
     rw [val_limbsOf] at hzv ⊢
     have HZv:=hid hzv
     clear hb5 hzl hzn hzv ho5
     obtain⟨rr,hrr⟩: ∃rr,val xs%y=rr:=⟨_,rfl⟩
     have HRr:=hid hrr
     rw [hrr]
     clear hrr
     go_wp2_with fail
     (with_reducible refine (trim_row gq q q zs w4 HB5.out HZl.out HZn.out.symm (Nat.le_refl _) (by omega)).mono ?_)
     rintro e w' ⟨rfl,rfl⟩
     go_wp2_with fail
     have HRl:Hid (rr<BB):=by
      show _<_
      rw [← HRr.out]
      exact Nat.lt_trans (Nat.mod_lt _ HYp.out) HYl.out
     refine (of_one rr w4 HRl).mono ?_
     rintro e w6 ⟨u,rfl,hu,hug,ho6⟩
     have HU:=hid hu
     have HUg:=hid hug
     have HO6:=hid ho6
     clear hu hug ho6
     go_wp2_with fail
     go_returns
     have ho3:Only [] w w4:=((HO1.out.nil_trans HO2.out).trans (HO3.out.trans HO5.out (by simp)) (fun k hk=> .inr (by simp at hk;rw [hk,←HGq.out];exact HO1.out.size)))
     have hr:=res_of_blk (w0:=w) HB5.out HZl.out (by rw [← HGq.out];exact HO1.out.size) (by rw [HZn.out];omega)
     rw [HZn.out] at hr
     refine⟨_,u,by rw [decide_eq_true HNZ.out];rfl,?_,?_,fun g g' hg hg'=>?_,ho3.nil_trans HO6.out⟩
     ·rw [HY.out,←HZv.out]
      exact hr.nil HO6.out
     ·rw [if_neg HNZ.out,HY.out,HRr.out]
      exact HU.out.pre ho3.size
     ·have h1:gq=g:=by simpa [Value.ownBlock] using hg
      have h2:=HUg.out g' hg'
      have h3:=HB5.out.lt
      omega
   ·have hone:(((limbsOf (val ys)).length:Int) == 1)=false:=by rw [beq_eq_false_iff_ne];omega
    have HTop:Hid ((limbsOf (val ys))[(limbsOf (val ys)).length-1]?.getD 0≠0):=by
     have h:=canon_limbsOf (val ys) (by omega)
     show _≠_
     rw [List.getElem?_eq_getElem (by omega)]
     exact h
    have HTwo:Hid (2≤(((limbsOf (val ys)).length:Nat):Int)):=by show (2:Int)≤_;omega
    clear h0 hlt h1 hq0
    rcases hcmp with hcmp|hcmp
    all_goals
     have HCmp:=hid hcmp
     clear hcmp
     go_enter Tryz.func87,Tryz.ntmps87
     go_wp2_with fail
     (with_reducible refine (trim_any A c xs _ hA hc).mono ?_)
     rintro e w' ⟨rfl,rfl⟩
     go_wp2_with fail
     (with_reducible refine (trim_any B d ys _ hB hd).mono ?_)
     rintro e w' ⟨rfl,rfl⟩
     go_wp2_with fail
     (with_reducible refine (ncmp_any A B c d (limbsOf (val xs)) (limbsOf (val ys)) _ HA HB HLx.out HLy.out).mono ?_)
     rintro e w1 ⟨rfl,ho1⟩
     rw [cmp_self,HCmp.out]
     have HO1:=hid ho1
     clear ho1
     go_wp2_with fail
     refine (long_any A B c d _ _ (limbsOf (val xs)) (limbsOf (val ys)) w1 (hid (HA.out.only HO1.out)) (hid (HB.out.only HO1.out)) rfl rfl HTwo.out (by have:=HGe.out;omega) (by have:=HLX.out;omega) HTop).mono ?_
     rintro e w2 ⟨u,v,rfl,hr,hv,hdj,ho2⟩
     have HR:=hid hr
     have HV:=hid hv
     have HO2:=hid ho2
     have HDj:=hid hdj
     clear hr hv ho2 hdj
     go_wp2_with fail
     go_returns
     refine⟨u,v,by rw [decide_eq_true HNZ.out];rfl,?_,?_,HDj.out,HO1.out.nil_trans HO2.out⟩
     ·have:=HR.out.pre HO1.out.size
      rwa [val_limbsOf,val_limbsOf] at this
     ·rw [if_neg HNZ.out]
      have:=HV.out.pre HO1.out.size
      rwa [val_limbsOf,val_limbsOf] at this
def bitsN (n:Nat):Nat:=if n=0 then 0 else Nat.log2 n+1
theorem bitsN_top {xs:List Nat} {k:Nat} (hx:Limb xs) (hl:xs.length=k+1) (ht:xs[k]?.getD 0≠0):bitsN (val xs)=64*k+Lib.bitLen (xs[k]?.getD 0):=by
 have c1:=val_take_succ xs k (by omega)
 rw [show xs.take (k+1)=xs by rw [← hl,List.take_length]] at c1
 have c0:=val_lt (hx.take k)
 rw [List.length_take,Nat.min_eq_left (by omega)] at c0
 have htb:=hx.get k
 rw [BB_pow] at htb
 obtain⟨b1,b2,b3⟩:=Lib.bitLenAux_bounds 64 (xs[k]?.getD 0) htb ht
 have e:Lib.bitLenAux 64 (xs[k]?.getD 0)=Lib.bitLen (xs[k]?.getD 0):=rfl
 rw [e] at b1 b2 b3
 generalize Lib.bitLen (xs[k]?.getD 0)=L at*
 generalize xs[k]?.getD 0=t at*
 have hp:BB^k=2^(64*k):=by rw [BB_pow,←Nat.pow_mul]
 have h1:2^(64*k+(L-1))≤val xs:=by
  rw [Nat.pow_add,←hp]
  have:=Nat.mul_le_mul_left (BB^k) b2
  omega
 have h2:val xs<2^(64*k+L):=by
  rw [Nat.pow_add,←hp]
  have h3:BB^k*(t+1)≤BB^k*2^L:=Nat.mul_le_mul_left _ b3
  rw [Nat.mul_add] at h3
  omega
 have h0:val xs≠0:=by
  have:0<2^(64*k+(L-1)):=Nat.pow_pos (by omega)
  omega
 unfold bitsN
 rw [if_neg h0]
 have h4:Nat.log2 (val xs)=64*k+(L-1):=(Nat.log2_eq_iff h0).2 ⟨h1,by rw [show 64*k+(L-1)+1=64*k+L by omega];exact h2⟩
 omega
theorem len64_any (x:Nat) (hx:x<BB) (w:World):Calls Tryz.prog 124 #[.int .u64 (x:Int)] w fun e w'=>e= .returned (.int .i64 (Lib.bitLen x:Int))∧w=w':=by
 rw [BB_val] at hx
 refine (Tryz.bits_Len64 (x:Int) w (by omega) (by omega)).mono ?_
 rintro e w' ⟨he,hw⟩
 rw [Int.toNat_natCast] at he
 exact⟨he,hw.symm⟩
set_option maxRecDepth 100000 in
theorem nbits_any (A:Option Addr) (c:Nat) (xs:List Nat) (w:World) (hA:Hid (Arg w A xs)) (hc:xs.length≤c):
  Calls Tryz.prog 83 #[.slice A xs.length c] w fun e w'=>e= .returned (.int .i64 (bitsN (val xs):Int))∧w=w':=by
 have HA:=hid hA.out.trim
 by_cases h0:val xs=0
 ·have hz:(limbsOf (val xs)).length=0:=by rw [h0,limbsOf_zero];rfl
  have HZ:Hid (bitsN (val xs)=0):=by show _=_;rw [h0];rfl
  clear h0
  go_enter Tryz.func83,Tryz.ntmps83
  go_wp2_with fail
  (with_reducible refine (trim_any A c xs _ hA hc).mono ?_)
  rintro e w' ⟨rfl,rfl⟩
  go_wp2_with fail
  go_ret
  exact⟨by rw [HZ.out];rfl,rfl⟩
 ·obtain⟨k,hk⟩: ∃k,(limbsOf (val xs)).length=k+1:=⟨(limbsOf (val xs)).length-1,by have:(limbsOf (val xs)).length≠0:=fun h=>h0 (limbsOf_len0.1 h);omega⟩
  obtain⟨q,hq⟩: ∃q,(limbsOf (val xs)).length=q:=⟨_,rfl⟩
  have ht:(limbsOf (val xs))[k]?.getD 0≠0:=by
   have h:=canon_limbsOf (val xs) (by omega)
   rw [List.getElem?_eq_getElem (by omega)]
   simpa [hk] using h
  have hb:=bitsN_top (limb_limbsOf (val xs)) hk ht
  rw [val_limbsOf] at hb
  obtain⟨b,o,rfl,ct⟩:=HA.out.read k (by omega)
  have HT:=hid ((limb_limbsOf (val xs)).get k)
  have HBt:=hid hb
  generalize (limbsOf (val xs))[k]?.getD 0=t at*
  have hqz:((q:Int) == 0)=false:=by rw [beq_eq_false_iff_ne];omega
  have hqk:(q:Int)-1=(k:Int):=by omega
  have hkq:(k:Int)<(q:Int):=by omega
  have hql:(q:Int)≤4000000:=by have:=HA.out.len;omega
  have HBl:Hid (Lib.bitLen t≤64):=Lib.bitLen_le t 64 (by omega) (by rw [← BB_pow];exact HT.out)
  clear h0 ht hb hk
  go_enter Tryz.func83,Tryz.ntmps83
  go_wp2_with fail
  (with_reducible refine (trim_any (some ⟨b,o,none⟩) c xs _ hA hc).mono ?_)
  rintro e w' ⟨rfl,rfl⟩
  rw [hq]
  go_wp2_with fail
  refine (len64_any t HT.out _).mono ?_
  rintro e w' ⟨rfl,rfl⟩
  have hbl:(Lib.bitLen t:Int)≤64:=by have:=HBl.out;omega
  go_wp2_with fail
  go_ret
  refine⟨?_,rfl⟩
  rw [HBt.out,show ((64*k+Lib.bitLen t:Nat):Int)=64*(k:Int)+(Lib.bitLen t:Int) by push_cast;rfl]
  rfl
theorem limb_guess {x:Nat} (h0:x≠0) (hx:x<BB): ∃h,(Lib.bitLen x+1)/2=h∧h≤32∧rootN x≤2^h:=by
 have hxb:=hx
 rw [BB_pow] at hxb
 obtain⟨b1,b2,b3⟩:=Lib.bitLenAux_bounds 64 x hxb h0
 have e:Lib.bitLenAux 64 x=Lib.bitLen x:=rfl
 rw [e] at b1 b2 b3
 have hl:Lib.bitLen x≤64:=Lib.bitLen_le x 64 (by omega) hxb
 generalize Lib.bitLen x=L at*
 refine⟨_,rfl,by omega,?_⟩
 have h1:=(rootN_is x).1
 apply Nat.le_of_lt
 apply Nat.lt_of_not_le
 intro h
 have h2:=Nat.mul_le_mul h h
 rw [← Nat.pow_add] at h2
 have h3:2^L≤2^((L+1)/2+(L+1)/2):=Nat.pow_le_pow_right (by omega) (by omega)
 omega
theorem shl_one {h:Nat} (hh:h≤32):IntKind.u64.wrap ((1:Int)*2^h)=((2^h:Nat):Int)∧IntKind.u64.wrap ((2:Int)^h)=((2^h:Nat):Int)∧2^h≤4294967296:=by
 have h1:2^h≤2^32:=Nat.pow_le_pow_right (by omega) hh
 have h2:(2:Int)^h=((2^h:Nat):Int):=by simp
 have h3:IntKind.u64.wrap ((2^h:Nat):Int)=((2^h:Nat):Int):=u64_wrap (by rw [BB_val];omega)
 rw [h2,Int.one_mul]
 exact⟨h3,h3,h1⟩
set_option maxHeartbeats 800000 in
set_option maxRecDepth 100000 in
theorem limbRoot_any (A:Option Addr) (c:Nat) (xs:List Nat) (w:World) (hA:Hid (Arg w A xs)) (hl:(xs.length:Int)≤1) (hcan:Hid (Canon xs)):
  Calls Tryz.prog 152 #[.slice A xs.length c] w fun e w'=>e= .returned (.int .u64 (rootN (val xs):Int))∧Only [] w w':=by
 rcases xs with _|⟨x,rest⟩
 ·have hz:(([]:List Nat).length:Int)=0:=rfl
  go_enter Tryz.func152,Tryz.ntmps152
  go_wp2_with fail
  go_ret
  exact⟨by rw [val_nil,rootN];rfl,Only.refl _ _⟩
 ·have hr:rest=[]:=by
   simp at hl
   exact List.length_eq_zero_iff.1 (by omega)
  subst hr
  have hv:Hid (val [x]=x):=by show _=_;simp [val]
  have HX:Hid (x<BB):=hA.out.limb x (by simp)
  have hx0:x≠0:=hcan.out (by simp)
  have HX0:=hid hx0
  obtain⟨b,o,rfl,ct⟩:=hA.out.read 0 (by simp)
  have ct:w.cell? ⟨b,o,none⟩=some (.int .u64 (x:Int)):=ct
  obtain⟨h,hg1,hg2,hg3⟩:=limb_guess hx0 HX.out
  obtain⟨s1,s2,s3⟩:=shl_one hg2
  have HSr:Hid (rootN x≤2^h∧2^h≤4294967296):=⟨hg3,s3⟩
  have HIs:=hid (rootN_is x)
  have HPos:Hid (0<rootN x):=by
   have:=HIs.out.2
   apply Nat.pos_of_ne_zero
   intro h0
   rw [h0] at this
   omega
  have hn1:(([x]:List Nat).length:Int)=1:=rfl
  have hq1:((Lib.bitLen x:Int)+1)/2=(h:Int):=by omega
  have hq2:((Lib.bitLen x:Int)+1).tdiv 2=(h:Int):=by rw [Int.tdiv_eq_ediv_of_nonneg (by omega)];exact hq1
  have hbl:(Lib.bitLen x:Int)≤64:=by
   have:=Lib.bitLen_le x 64 (by omega) (by rw [← BB_pow];exact HX.out)
   omega
  rw [hv.out]
  generalize rootN x=rt at*
  clear hg3 s3 hx0 hg1 hcan
  go_enter Tryz.func152,Tryz.ntmps152
  go_wp2_with fail
  refine (len64_any x HX.out _).mono ?_
  rintro e w' ⟨rfl,rfl⟩
  go_wp2_with fail
  go_loop [3] (fun rv=> ∃r:Nat,rv= .int .u64 (r:Int)∧rt≤r∧r≤4294967296) (fun rv=>(intOf rv).toNat)
  case atStart=>exact⟨_,rfl,HSr.out.1,HSr.out.2⟩
  case round=>
   obtain⟨r,rfl,hr1,hr2⟩:=hrel
   have hrp:0<r:=Nat.lt_of_lt_of_le HPos.out hr1
   have hri:(1:Int)≤(r:Int):=by omega
   have HDone:=hid (newton_done hrp HIs.out hr1)
   have HStep:=hid (newton_step hrp HIs.out hr1)
   have hqB:x/r<BB:=Nat.lt_of_le_of_lt (Nat.div_le_self _ _) HX.out
   obtain⟨q,hq⟩: ∃q,x/r=q:=⟨_,rfl⟩
   rw [hq] at HDone HStep hqB
   have hqd:(x:Int)/(r:Int)=(q:Int):=by rw [← Int.natCast_ediv,hq]
   have hqw:IntKind.u64.wrap (q:Int)=(q:Int):=u64_wrap hqB
   clear hq hrp
   by_cases hle:r≤q
   ·have hli:(r:Int)≤(q:Int):=by omega
    have HE:Hid (r=rt):=HDone.out hle
    clear hle
    go_wp2_with fail
    go_ret
    exact⟨by rw [← HE.out];rfl,Only.refl _ _⟩
   ·obtain⟨g1,g2⟩:=HStep.out (by omega)
    obtain⟨sm,hsm⟩: ∃sm,r+q=sm:=⟨_,rfl⟩
    rw [hsm] at g1 g2
    have hs1:IntKind.u64.wrap ((r:Int)+(q:Int))=(sm:Int):=u64_add hsm (by rw [BB_val];omega)
    have hs2:(sm:Int)/2=((sm/2:Nat):Int):=by omega
    have hs3:IntKind.u64.wrap ((sm/2:Nat):Int)=((sm/2:Nat):Int):=u64_wrap (by rw [BB_val];omega)
    have hli: ¬(r:Int)≤(q:Int):=by omega
    generalize sm/2=r2 at*
    have HG:Hid (rt≤r2∧r2<r∧r≤4294967296):=⟨g1,g2,hr2⟩
    clear hle g1 g2 hsm
    go_wp2_with fail
    go_round
    case rel=>exact⟨r2,rfl,HG.out.1,by have:=HG.out;omega⟩
    case measure=>have:=HG.out;simp [intOf];omega
theorem LimbsAt.inj {w:World} {u:Value} {xs ys:List Nat} (h:LimbsAt w u xs) (h':LimbsAt w u ys):xs=ys:=by
 obtain⟨A,c,rfl,r1,_,_⟩:=h.shape
 obtain⟨A',c',e,r2,_,_⟩:=h'.shape
 injection e with e1 e2 _
 subst e1
 apply List.ext_getElem e2
 intro k h1 h2
 obtain⟨b,o,rfl,c1⟩:=r1 k h1
 obtain⟨b',o',e',c2⟩:=r2 k h2
 injection e' with e'
 injection e' with e3 e4 _
 subst e3 e4
 rw [c1] at c2
 injection c2 with c2
 injection c2 with _ c2
 have c3:xs[k]?.getD 0=ys[k]?.getD 0:=by omega
 rw [List.getElem?_eq_getElem h1,List.getElem?_eq_getElem h2] at c3
 exact c3
open Classical in
noncomputable def valAt (w:World) (u:Value):Nat:=if h: ∃n,LimbsAt w u (limbsOf n) then h.choose else 0
theorem valAt_eq {w:World} {u:Value} {n:Nat} (h:LimbsAt w u (limbsOf n)):valAt w u=n:=by
 have he: ∃n,LimbsAt w u (limbsOf n):=⟨n,h⟩
 unfold valAt
 rw [dif_pos he]
 exact limbsOf_inj (he.choose_spec.inj h)
theorem limbsOf_succ_len (a:Nat):(limbsOf (a+1)).length≤(limbsOf a).length+1:=by
 apply limbsOf_len_le
 have h1:=lt_limbsOf a
 have h2:BB^(limbsOf a).length*2≤BB^(limbsOf a).length*BB:=Nat.mul_le_mul_left _ BB_two
 have h3:=BB_pow_pos (limbsOf a).length
 rw [Nat.pow_succ]
 omega
theorem limbsOf_shl_len (a h:Nat):(limbsOf (a*2^h)).length≤(limbsOf a).length+(h/64+1):=by
 apply limbsOf_len_le
 have h1:=lt_limbsOf a
 have h2:a*2^h<BB^(limbsOf a).length*2^h:=Nat.mul_lt_mul_of_pos_right h1 (Nat.pow_pos (by omega))
 have h3:BB^(limbsOf a).length*2^h≤BB^(limbsOf a).length*BB^(h/64+1):=by
  refine Nat.mul_le_mul_left _ ?_
  rw [BB_pow,←Nat.pow_mul]
  exact Nat.pow_le_pow_right (by omega) (by omega)
 rw [Nat.pow_add]
 omega
def RootAll (N:Nat):Prop:= ∀(A:Option Addr) (c:Nat) (xs:List Nat) (w:World),Hid (Arg w A xs)→xs.length≤c→Hid (Canon xs)→val xs<N→(xs.length:Int)≤1000000→Calls Tryz.prog 130 #[.slice A xs.length c] w (NPost (rootN (val xs)) w)
set_option maxHeartbeats 1600000 in
set_option maxRecDepth 100000 in
theorem root_step (N:Nat) (ih:RootAll N):RootAll (N+1):=by
 intro A c xs w hA hc hcan hN hl
 by_cases h2:xs.length<2
 ·have hi:(xs.length:Int)<2:=by omega
  have HL:Hid ((xs.length:Int)≤1):=by show (xs.length:Int)≤1;omega
  have HB:Hid (rootN (val xs)<BB):=by
   have h1:=(rootN_is (val xs)).1
   have h2:=val_lt hA.out.limb
   have h3:BB^xs.length≤BB^1:=pow_le (by omega)
   rw [Nat.pow_one] at h3
   have h4:=Nat.le_mul_self (rootN (val xs))
   show _<_
   exact Nat.lt_of_le_of_lt (Nat.le_trans h4 h1) (Nat.lt_of_lt_of_le h2 h3)
  clear h2
  go_enter Tryz.func130,Tryz.ntmps130
  go_wp2_with fail
  refine (limbRoot_any A c xs _ hA HL.out hcan).mono ?_
  rintro e w1 ⟨rfl,ho1⟩
  have HO1:=hid ho1
  clear ho1
  go_wp2_with fail
  refine (of_one (rootN (val xs)) w1 HB).mono ?_
  rintro e w2 ⟨u,rfl,hu,_,ho2⟩
  have HU:=hid hu
  have HO2:=hid ho2
  clear hu ho2
  go_wp2_with fail
  go_ret
  exact⟨u,rfl,HU.out.pre HO1.out.size,HO1.out.nil_trans HO2.out⟩
 ·have hi: ¬(xs.length:Int)<2:=by omega
  obtain⟨h,hh⟩: ∃h,bitsN (val xs)/4=h:=⟨_,rfl⟩
  have hq1:(bitsN (val xs):Int)/4=(h:Int):=by omega
  have hq2:(bitsN (val xs):Int).tdiv 4=(h:Int):=by rw [Int.tdiv_eq_ediv_of_nonneg (by omega)];exact hq1
  obtain⟨k,hk⟩: ∃k,xs.length=k+1:=⟨xs.length-1,by omega⟩
  have htop:xs[k]?.getD 0≠0:=by
   have h:=hcan.out (by omega)
   rw [List.getElem?_eq_getElem (by omega)]
   simpa [hk] using h
  have hbt:=bitsN_top hA.out.limb hk htop
  have htb:=hA.out.limb.get k
  rw [BB_pow] at htb
  have hbl:=Lib.bitLen_le _ 64 (by omega) htb
  have hbb:(bitsN (val xs):Int)≤64000000:=by omega
  have hh16:16≤h:=by omega
  obtain⟨n2,hn2⟩: ∃n2,2*h=n2:=⟨_,rfl⟩
  have hni:2*(h:Int)=(n2:Int):=by omega
  have HLen:=hid hl
  have HN2:Hid (n2=(n2/64)*64+n2%64):=by show _=_;omega
  have HN3:Hid (n2%64<64):=Nat.mod_lt _ (by omega)
  have HN4:Hid ((((n2/64:Nat)):Int)≤1000000000):=by show (((n2/64:Nat)):Int)≤_;omega
  have HH2:Hid (h=(h/64)*64+h%64):=by show _=_;omega
  have HH3:Hid (h%64<64):=Nat.mod_lt _ (by omega)
  have HH4:Hid ((((h/64:Nat)):Int)≤1000000):=by show (((h/64:Nat)):Int)≤_;omega
  have HE2:=hid hn2
  obtain⟨V1,hV1⟩: ∃V1,val xs/2^n2=V1:=⟨_,rfl⟩
  have HV1:=hid hV1
  have HV1l:Hid (V1<N):=by
   have h1:val xs≠0:=by
    intro h0
    rw [h0] at hbt
    have:bitsN 0=0:=rfl
    omega
   have h3:2≤2^n2:=by
    have:2^1≤2^n2:=Nat.pow_le_pow_right (by omega) (by omega)
    omega
   have h4:val xs/2^n2<val xs:=Nat.div_lt_self (by omega) h3
   show _<_
   omega
  have HV1n:Hid (((limbsOf V1).length:Int)≤1000000):=by
   have h1:=limbsOf_len_mono (m:=V1) (n:=val xs) (by rw [← hV1];exact Nat.div_le_self _ _)
   have h2:=limbsOf_len hA.out.limb
   show (_:Int)≤_
   omega
  have HIs:=hid (rootN_is (val xs))
  have HGuess:Hid (rootN (val xs)≤(rootN V1+1)*2^h):=by
   have:=root_guess (h:=h) HIs.out
   rw [hn2,hV1] at this
   exact this
  clear hbt htb hbl htop hk hh hn2 hV1 h2
  go_enter Tryz.func130,Tryz.ntmps130
  go_wp2_with fail
  refine (nbits_any A c xs _ hA hc).mono ?_
  rintro e w1 ⟨rfl,rfl⟩
  go_wp2_with fail
  refine (right_any A c n2 (n2/64) (n2%64) xs _ hA HN2 HN3 HN4.out).mono ?_
  rintro e w1 ⟨ua,rfl,hra,hoa⟩
  rw [HV1.out] at hra
  obtain⟨A1,c1,q1,rfl,hq1',hqc1,hA1,hf1⟩:=hra.shape2 (by have:=HV1n.out;omega)
  have HO1:=hid hoa
  have HA1:=hid hA1
  have HQ1:=hid hq1'
  clear hra hoa hA1 hf1 hq1'
  go_wp2_with fail
  have hrec:=ih A1 c1 (limbsOf V1) w1 HA1 (by rw [HQ1.out];exact hqc1) (canon_limbsOf V1) (by rw [val_limbsOf];exact HV1l.out) HV1n.out
  rw [HQ1.out,val_limbsOf] at hrec
  refine hrec.mono ?_
  clear hrec
  rintro e w2 ⟨ub,rfl,hrb,hob⟩
  obtain⟨R1,hR1⟩: ∃R1,rootN V1=R1:=⟨_,rfl⟩
  rw [hR1] at HGuess hrb
  have HR1l:Hid ((limbsOf R1).length≤(limbsOf V1).length):=by
   apply limbsOf_len_mono
   have h1:=(rootN_is V1).1
   rw [hR1] at h1
   exact Nat.le_trans (Nat.le_mul_self R1) h1
  obtain⟨A2,c2,q2,rfl,hq2',hqc2,hA2,hf2⟩:=hrb.shape2 (by have:=HV1n.out;have:=HR1l.out;omega)
  have HO2:=hid hob
  have HA2:=hid hA2
  have HQ2:=hid hq2'
  clear hrb hob hA2 hf2 hq2' hR1
  go_wp2_with fail
  obtain⟨w3,hw3⟩: ∃w3,w2.alloc (Obj.cells #[.int .u64 1] 133)=w3:=⟨_,rfl⟩
  have HOa:Hid (Only [] w2 w3):=by
   show Only [] w2 w3
   rw [← hw3]
   exact (Only.refl [] w2).alloc _
  have HB3:Hid (Arg w3 (some ⟨w2.heap.size,0,none⟩) [1]):=by
   show Arg w3 _ _
   rw [← hw3]
   exact⟨.of_blk (Blk.new w2 133 (limbV [1])),limb_one (by rw [BB_val];omega),by simp⟩
  have HA3:=hid (HA2.out.only HOa.out)
  rw [hw3]
  clear hw3
  have hadd:=nadd_any A2 (some ⟨w2.heap.size,0,none⟩) c2 1 (limbsOf R1) [1] w3 HA3 HB3 (by have:=HV1n.out;have:=HR1l.out;omega) (by simp)
  rw [HQ2.out,val_limbsOf,show val [1]=1 by simp [val]] at hadd
  refine hadd.mono ?_
  clear hadd
  rintro e w4 ⟨uc,rfl,hrc,hoc⟩
  have HS1:=hid (limbsOf_succ_len R1)
  obtain⟨A4,c4,q4,rfl,hq4',hqc4,hA4,hf4⟩:=hrc.shape2 (by have:=HS1.out;have:=HV1n.out;have:=HR1l.out;omega)
  have HO4:=hid hoc
  have HA4:=hid hA4
  have HQ4:=hid hq4'
  clear hrc hoc hA4 hf4 hq4'
  go_wp2_with fail
  have hleft:=left_any A4 c4 h (h/64) (h%64) (limbsOf (R1+1)) w4 HA4 HH2 HH3 (by have:=HS1.out;have:=HV1n.out;have:=HR1l.out;have:=HH4.out;omega)
  rw [HQ4.out,val_limbsOf] at hleft
  refine hleft.mono ?_
  clear hleft
  rintro e w5 ⟨ud,rfl,hrd,hod⟩
  have HOd:Hid (Only [] w w5):=(((HO1.out.nil_trans HO2.out).nil_trans HOa.out).nil_trans HO4.out).nil_trans hod
  have HL0:Hid (((limbsOf ((R1+1)*2^h)).length:Int)≤2100000):=by
   have h1:=limbsOf_shl_len (R1+1) h
   have:=HS1.out
   have:=HV1n.out
   have:=HR1l.out
   have:=HH4.out
   show (_:Int)≤_
   omega
  have HRd:=hid (hrd.pre (w0:=w) ((((HO1.out.nil_trans HO2.out).nil_trans HOa.out).nil_trans HO4.out)).size)
  obtain⟨R0,hR0⟩: ∃R0,(R1+1)*2^h=R0:=⟨_,rfl⟩
  rw [hR0] at HL0 HRd HGuess
  obtain⟨rt,hrt⟩: ∃rt,rootN (val xs)=rt:=⟨_,rfl⟩
  rw [hrt] at HIs HGuess
  have HRt:=hid hrt
  clear hrd hod hR0 hrt
  go_wp2_with fail
  have HX0:Hid (0<rt):=by
   apply Nat.pos_of_ne_zero
   intro h0
   have h1:=HIs.out.2
   rw [h0] at h1
   have h2:val xs=0:=by omega
   rw [h2] at hq1
   have h3:bitsN 0=0:=rfl
   rw [h3] at hq1
   omega
  go_loopw [4] (fun rv wr=> ∃R:Nat,Res w wr rv R∧rt≤R∧R≤R0∧Only [] w wr) (fun rv wr=>valAt wr rv)
  case atStart=>exact⟨R0,HRd.out,HGuess.out,Nat.le_refl _,HOd.out⟩
  case round=>
   obtain⟨R,hres,hr1,hr2,hor⟩:=hrel
   have HMe:=hid (valAt_eq hres.at_)
   have HRn:Hid (((limbsOf R).length:Int)≤2100000):=by
    have h1:=limbsOf_len_mono hr2
    have:=HL0.out
    show (_:Int)≤_
    omega
   have HRes:=hid hres
   obtain⟨Ar,cr,qr,rfl,hqr,hqcr,hAr,hfr⟩:=hres.shape2 (by have:=HRn.out;omega)
   have HR12:Hid (rt≤R∧R≤R0):=⟨hr1,hr2⟩
   have HOr:=hid hor
   have HAr:=hid hAr
   have HQr:=hid hqr
   have HRp:Hid (0<R):=Nat.lt_of_lt_of_le HX0.out hr1
   have HDone:=hid (newton_done HRp.out HIs.out hr1)
   have HStep:=hid (newton_step HRp.out HIs.out hr1)
   clear hres hr1 hr2 hor hAr hfr hqr
   go_wp2_with fail
   have hdm:=divMod_any A Ar c cr xs (limbsOf R) wr (hid (hA.out.only HOr.out)) HAr hc (by rw [HQr.out];exact hqcr) (by omega)
   rw [HQr.out] at hdm
   refine hdm.mono ?_
   clear hdm
   rintro e w6 ⟨uq,ur,rfl,hq6,_,_,ho6⟩
   rw [val_limbsOf] at hq6 ⊢
   obtain⟨Q,hQ⟩: ∃Q,val xs/R=Q:=⟨_,rfl⟩
   rw [hQ] at hq6 HDone HStep
   have HQn:Hid (((limbsOf Q).length:Int)≤1000000):=by
    have h1:=limbsOf_len_mono (m:=Q) (n:=val xs) (by rw [← hQ];exact Nat.div_le_self _ _)
    have h2:=limbsOf_len hA.out.limb
    show (_:Int)≤_
    omega
   obtain⟨Aq,cq,qq,rfl,hqq,hqcq,hAq,hfq⟩:=hq6.shape2 (by have:=HQn.out;omega)
   have HO6:=hid ho6
   have HAq:=hid hAq
   have HQq:=hid hqq
   have HAr6:=hid (HAr.out.only ho6)
   have HR6:=hid (HRes.out.nil ho6)
   clear hq6 ho6 hAq hfq hqq hQ
   go_wp2_with fail
   have hcm:=ncmp_any Aq Ar cq cr (limbsOf Q) (limbsOf R) w6 HAq HAr6 (by rw [HQq.out];exact hqcq) (by rw [HQr.out];exact hqcr)
   rw [HQq.out,HQr.out,cmp_self] at hcm
   by_cases hle:R≤Q
   ·have hcz:(0:Int)≤cmpZ Q R:=by
     rcases Nat.lt_or_eq_of_le hle with h|h
     ·rw [cmp_gt h];omega
     ·rw [cmp_eq h.symm];omega
    have HE:Hid (R=rt):=HDone.out hle
    clear hle
    refine hcm.mono ?_
    clear hcm
    rintro e w7 ⟨rfl,ho7⟩
    have HO7:=hid ho7
    clear ho7
    go_wp2_with fail
    go_ret
    exact⟨_,rfl,by rw [HRt.out,←HE.out];exact HR6.out.nil HO7.out,(HOr.out.nil_trans HO6.out).nil_trans HO7.out⟩
   ·have hcz: ¬(0:Int)≤cmpZ Q R:=by rw [cmp_le (by omega)];omega
    have HG:=hid (HStep.out (by omega))
    clear hle
    refine hcm.mono ?_
    clear hcm
    rintro e w7 ⟨rfl,ho7⟩
    have HO7:=hid ho7
    have HAr7:=hid (HAr6.out.only ho7)
    have HAq7:=hid (HAq.out.only ho7)
    clear ho7
    go_wp2_with fail
    have hadd:=nadd_any Ar Aq cr cq (limbsOf R) (limbsOf Q) w7 HAr7 HAq7 (by have:=HRn.out;omega) (by have:=HQn.out;omega)
    rw [HQr.out,HQq.out,val_limbsOf,val_limbsOf] at hadd
    refine hadd.mono ?_
    clear hadd
    rintro e w8 ⟨us,rfl,hr8,ho8⟩
    have HSn:Hid (((limbsOf (R+Q)).length:Int)≤3200000):=by
     have h1:(limbsOf (R+Q)).length≤(limbsOf R).length+(limbsOf Q).length+1:=by
      apply limbsOf_len_le
      have a1:=lt_limbsOf R
      have a2:=lt_limbsOf Q
      have a3:BB^(limbsOf R).length≤BB^((limbsOf R).length+(limbsOf Q).length):=pow_le (by omega)
      have a4:BB^(limbsOf Q).length≤BB^((limbsOf R).length+(limbsOf Q).length):=pow_le (by omega)
      have a5:=Nat.mul_le_mul_left (BB^((limbsOf R).length+(limbsOf Q).length)) BB_two
      rw [Nat.pow_succ]
      omega
     have:=HRn.out
     have:=HQn.out
     show (_:Int)≤_
     omega
    obtain⟨As,cs,qs,rfl,hqs,hqcs,hAs,hfs⟩:=hr8.shape2 (by have:=HSn.out;omega)
    have HO8:=hid ho8
    have HAs:=hid hAs
    have HQs:=hid hqs
    clear hr8 ho8 hAs hfs hqs
    go_wp2_with fail
    have hrt:=right_any As cs 1 0 1 (limbsOf (R+Q)) w8 HAs (hid (by omega)) (hid (by omega)) (by omega)
    rw [HQs.out,val_limbsOf,Nat.pow_one] at hrt
    refine hrt.mono ?_
    clear hrt
    rintro e w9 ⟨u9,rfl,hr9,ho9⟩
    have HR9:=hid hr9
    have HO9:=hid ho9
    clear hr9 ho9
    go_wp2_with fail
    have HOall:Hid (Only [] w w9):=(((HOr.out.nil_trans HO6.out).nil_trans HO7.out).nil_trans HO8.out).nil_trans HO9.out
    go_roundw
    case rel=>exact⟨_,HR9.out.pre ((((HOr.out.nil_trans HO6.out).nil_trans HO7.out).nil_trans HO8.out)).size,HG.out.1,by have:=HG.out.2;have:=HR12.out.2;omega,HOall.out⟩
    case measure=>rw [HMe.out,valAt_eq HR9.out.at_];exact HG.out.2
theorem root_all: ∀N:Nat,RootAll N
 |0=>fun _ _ _ _ _ _ _ h _=>absurd h (Nat.not_lt_zero _)
 |N+1=>root_step N (root_all N)
theorem root_any (A:Option Addr) (c:Nat) (xs:List Nat) (w:World) (hA:Hid (Arg w A xs)) (hc:xs.length≤c) (hcan:Hid (Canon xs)) (hl:(xs.length:Int)≤1000000):
  Calls Tryz.prog 130 #[.slice A xs.length c] w (NPost (rootN (val xs)) w):=root_all (val xs+1) A c xs w hA hc hcan (Nat.lt_succ_self _) hl
def SqrtPost (a:Nat) (w:World) (e:Ending) (w':World):Prop:=
 ∃u v,e= .returned (.tuple #[u,v])∧Res w w' u (rootN a)∧Res w w' v (a-rootN a*rootN a)∧(∀ g g',u.ownBlock=some g→v.ownBlock=some g'→g≠g')∧Only [] w w'
set_option maxHeartbeats 800000 in
theorem sqrt_any (A:Option Addr) (c:Nat) (xs:List Nat) (w:World) (hA:Hid (Arg w A xs)) (hc:xs.length≤c) (hl:(xs.length:Int)≤1000000):
  Calls Tryz.prog 95 #[.slice A xs.length c] w (SqrtPost (val xs) w):=by
 have HA:=hid hA.out.trim
 obtain⟨q,hq⟩: ∃q,(limbsOf (val xs)).length=q:=⟨_,rfl⟩
 have HQ:=hid hq
 have HQx:Hid ((limbsOf (val xs)).length≤xs.length):=limbsOf_len hA.out.limb
 have hql:(q:Int)≤1000000:=by have:=HQx.out;omega
 go_enter Tryz.func95,Tryz.ntmps95
 go_wp2_with fail
 (with_reducible refine (trim_any A c xs _ hA hc).mono ?_)
 rintro e w' ⟨rfl,rfl⟩
 rw [hq]
 go_wp2_with fail
 have hr:=root_any A c (limbsOf (val xs)) w HA (by have:=HQx.out;omega) (hid (canon_limbsOf _)) (by omega)
 rw [hq,val_limbsOf] at hr
 refine hr.mono ?_
 clear hr
 rintro e w1 ⟨u,rfl,hu,ho1⟩
 obtain⟨R,hR⟩: ∃R,rootN (val xs)=R:=⟨_,rfl⟩
 have HR:=hid hR
 rw [hR] at hu
 have HRR:Hid (R*R≤val xs):=by have:=(rootN_is (val xs)).1;rw [hR] at this;exact this
 have HRn:Hid ((limbsOf R).length≤q):=by
  show _≤_
  rw [← hq]
  exact limbsOf_len_mono (Nat.le_trans (Nat.le_mul_self R) HRR.out)
 have HSn:Hid ((limbsOf (R*R)).length≤q):=by
  show _≤_
  rw [← hq]
  exact limbsOf_len_mono HRR.out
 have HU:=hid hu
 obtain⟨Ar,cr,qr,rfl,hqr,hqcr,hAr,hfr⟩:=hu.shape2 (by have:=HRn.out;omega)
 have HO1:=hid ho1
 have HAr:=hid hAr
 have HFr:=hid hfr
 have HQr:=hid hqr
 clear hu ho1 hAr hfr hqr hR
 go_wp2_with fail
 have hm:=nmul_any 40 (by omega) Ar Ar cr cr (limbsOf R) (limbsOf R) w1 HAr HAr (by rw [HQr.out];exact hqcr) (by rw [HQr.out];exact hqcr) (by have:=HRn.out;omega)
 rw [HQr.out,val_limbsOf] at hm
 refine hm.mono ?_
 clear hm
 rintro e w2 ⟨um,rfl,hm2,ho2⟩
 obtain⟨Am,cm,qm,rfl,hqm,hqcm,hAm,hfm⟩:=hm2.shape2 (by have:=HSn.out;omega)
 have HO2:=hid ho2
 have HAm:=hid hAm
 have HQm:=hid hqm
 have HA2:=hid ((HA.out.only HO1.out).only ho2)
 clear hm2 ho2 hAm hfm hqm
 go_wp2_with fail
 have hs:=nsub_any A Am c cm (limbsOf (val xs)) (limbsOf (R*R)) w2 HA2 HAm (by have:=HSn.out;omega) (by omega) (by show _≤_;rw [val_limbsOf,val_limbsOf];exact HRR.out)
 rw [HQ.out,HQm.out,val_limbsOf,val_limbsOf] at hs
 refine hs.mono ?_
 clear hs
 rintro e w3 ⟨v,rfl,hv,ho3⟩
 have HV:=hid hv
 have HO3:=hid ho3
 clear hv ho3
 go_wp2_with fail
 go_ret2
 refine⟨_,v,rfl,?_,?_,?_,(HO1.out.nil_trans HO2.out).nil_trans HO3.out⟩
 ·rw [HR.out]
  exact (HU.out.nil HO2.out).nil HO3.out
 ·rw [HR.out]
  exact HV.out.pre (HO1.out.nil_trans HO2.out).size
 ·intro g g' hg hg'
  have h1:=HU.out.at_.lt g hg
  have h2:=HV.out.fresh g' hg'
  have h3:=HO2.out.size
  omega
end Go.Proofs.YtigpnopeacicpaaGreatDoor
