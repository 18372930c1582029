import Derived.Test.YtigpnopeacicpaaGreatDoorTcJ27
import Derived.StillTailTactics
import Derived.Deep.CutBlock
namespace Go.Proofs.YtigpnopeacicpaaGreatDoor
open Go.Lib (hid)
open Go.RowKit
structure RW (w wr:World) (gu gq:Nat) (tl:List Value) (us qs:List Nat) (U0 V lu lq k:Nat):Prop where
 li:R.LI us qs U0 V k
 bu:Blk wr gu 133 (limbV us++tl)
 bq:Blk wr gq 133 (limbV qs)
 ul:us.length=lu
 ql:qs.length=lq
 only:Only [gu,gq] w wr
theorem wpList_append_full {w:World} {ops:Array Oper} {rest:List Oper} {o:Oper} {a:Act} {Q:Exit→Act→World→Prop} (T:TypeId) (hT:Tryz.prog.underlying T=some (.slice 133)) (hgd:o.guard=none) (s x:Operand)
  (ho:o.op= .call {callee:= .builtin .append,args:= #[s,x],argTypes:= #[T,T]}) (A:Option Addr) (xs:List Nat) (n:Nat) (hs:a.eval s= .slice A n n) (hn:n=xs.length) (hA:A=none→n=0) (hr:LRead w A xs) (hl:(n:Int)≤15000000) (g m:Nat) (zs:List Nat) (hx:a.eval x= .slice (some ⟨g,0,none⟩) m m) (hm:m=zs.length) (hm0:0<zs.length) (hb:Blk w g 133 (limbV zs)) (hml:(m:Int)≤1000000)
  (h: ∀g' c' w',LimbsAt w' (.slice (some ⟨g',0,none⟩) (n+m) c') (xs++zs)→w.heap.size≤g'→Only [] w w'→wpList Tryz.prog ops Q rest (a.put o.dst (.slice (some ⟨g',0,none⟩) (n+m) c')) w'):wpList Tryz.prog ops Q (o::rest) a w:=by
 refine wpList_plain hgd fun K hK=>?_
 obtain⟨g',c',w',hrun,h1,h2,h3⟩:=run_append_full T hT w o.type A xs n hn hA hr hl g m zs hm hm0 hb hml
 unfold Oper.wp execOp
 simp only [ho,resolve,invoke,builtin,Sem.run_bind,Sem.run_pure,Result.andThen_ok,List.map_toArray,List.map_cons,List.map_nil,hs,hx,hrun]
 exact hK _ _ (h g' c' w' h1 h2 h3)
theorem ucell {w:World} {g:Nat} {us:List Nat} {tl:List Value} (h:Blk w g 133 (limbV us++tl)) {i:Nat} (hi:i<us.length):w.cell? ⟨g,i,none⟩=some (.int .u64 ((us[i]?.getD 0:Nat):Int))∧w.frozen? ⟨g,i,none⟩=false:=by
 have h1:=h.cell i
 rw [List.getElem?_append_left (by rw [limbV_len];exact hi),limbV_get _ _ hi] at h1
 exact⟨h1,h.frozen i⟩
theorem uset {w:World} {g:Nat} {us:List Nat} {tl:List Value} (h:Blk w g 133 (limbV us++tl)) {i:Nat} (hi:i<us.length) (v:Nat):Blk (w.setCell ⟨g,i,none⟩ (.int .u64 (v:Int))) g 133 (limbV (us.set i v)++tl):=by
 have h1:=h.set_ i (.int .u64 (v:Int))
 rwa [List.set_append_left _ _ (by rw [limbV_len];exact hi),limbV_set] at h1
theorem RW.step {w w6 wa:World} {gu gq:Nat} {tl:List Value} {us us' qs:List Nat} {U0 V lu lq j n d:Nat} (h:RW w w6 gu gq tl us qs U0 V lu lq (j+1)) (hne:gu≠gq) (ho:Only [gu] w6 wa) (hb:Blk wa gu 133 (limbV us'++tl)) (hd:R.DI us us' V j n d 0) (hj:j<lq):
  RW w (wa.setCell ⟨gq,j,none⟩ (.int .u64 (d:Int))) gu gq tl us' (qs.set j d) U0 V lu lq j∧(∃ q:Nat,wa.cell? ⟨gq,j,none⟩=some (.int .u64 (q:Int)))∧wa.frozen? ⟨gq,j,none⟩=false:=by
 have hbq:=h.bq.only ho (by simp;exact fun e=>hne e.symm)
 have hql:=h.ql
 refine⟨⟨h.li.step hd (by omega),hb.far hne _,?_,by rw [hd.len];exact h.ul,by rw [List.length_set];exact hql,(h.only.trans ho (by simp)).trans ((Only.refl [gq] wa).setCell (.inl (by simp)) _) (by simp)⟩,⟨qs[j]?.getD 0,?_⟩,hbq.frozen j⟩
 ·rw [← limbV_set]
  exact hbq.set_ j _
 ·rw [hbq.cell,limbV_get _ _ (by omega)]
structure RM (wr wx:World) (g:Nat) (tl:List Value) (us us' vs:List Nat) (j d i c lo:Nat):Prop where
 ms:R.MS us us' vs j d i c lo
 blk:Blk wx g 133 (limbV us'++tl)
 only:Only [g] wr wx
theorem RM.step {wr wx wy:World} {g:Nat} {tl:List Value} {us us' vs:List Nat} {j d i c lo t y lo':Nat} (h:RM wr wx g tl us us' vs j d i c lo) (hi:i<vs.length) (hj:j+i<us'.length) (hd:d<R.BB) (hv:R.Limb vs) (ht:c+d*(vs[i]?.getD 0)=t) (hl:lo'≤1) (hy:y<R.BB) (he:y+(t%R.BB+lo)=us'[j+i]?.getD 0+R.BB*lo')
  (hb:Blk wy g 133 (limbV (us'.set (j+i) y)++tl)) (ho:Only [g] wx wy):RM wr wy g tl us (us'.set (j+i) y) vs j d (i+1) (t/R.BB) lo':=
 ⟨h.ms.step hi hj hd hv ht hl hy he,hb,h.only.trans ho (by simp)⟩
structure RA (wr wx:World) (g:Nat) (tl:List Value) (us us' vs:List Nat) (j i c:Nat):Prop where
 st:R.AS us us' vs j i c
 blk:Blk wx g 133 (limbV us'++tl)
 only:Only [g] wr wx
theorem RA.step {wr wx wy:World} {g:Nat} {tl:List Value} {us us' vs:List Nat} {j i c t:Nat} (h:RA wr wx g tl us us' vs j i c) (hi:i<vs.length) (hj:j+i<us'.length) (hv:R.Limb vs) (ht:c+us'[j+i]?.getD 0+vs[i]?.getD 0=t)
  (hb:Blk wy g 133 (limbV (us'.set (j+i) (t%R.BB))++tl)) (ho:Only [g] wx wy):RA wr wy g tl us (us'.set (j+i) (t%R.BB)) vs j (i+1) (t/R.BB):=
 ⟨h.st.step hi hj hv ht,hb,h.only.trans ho (by simp)⟩
theorem RA.drewN {wr wx:World} {g:Nat} {tl:List Value} {us us' vs:List Nat} {j i c:Nat} (h:RA wr wx g tl us us' vs j i c) (n:Nat):RA wr (wx.drewN n) g tl us us' vs j i c:=⟨h.st,h.blk.drewN n,h.only.drewN n⟩
set_option maxHeartbeats 6400000 in
set_option maxRecDepth 100000 in
theorem rdivmod_long {w:World} {a b:Value} {m n:Nat} (ha:Hid (RV w a m)) (hb:Hid (RV w b n)) (hfa:Hid (Few m)) (hfb:Hid (Few n)) (hlt:Hid (n≤m)) (h2:Hid (2≤(R.limbsOf n).length)):Calls Tryz.prog 90 #[a,b] w (RDPost m n w):=by
 have hr:=rcmp_v ha hb hfa hfb
 have hrb:=rbits_v hb hfb
 obtain⟨s,hs32,hsc,hVl,hVg⟩:=norm_s (n:=n) (by have:=h2.out;omega)
 have hla:=hfa.out.digits
 have hlb:=R.limbsOf_len_mono hlt.out
 have hls:(R.limbsOf m).length≤(R.limbsOf (m*2^s)).length:=R.limbsOf_len_mono (Nat.le_mul_of_pos_right _ (Nat.pow_pos (by omega)))
 have hlu:(R.limbsOf (m*2^s)).length≤(R.limbsOf m).length+1:=by
  apply R.limbsOf_len_le
  have h3:=R.lt_limbsOf m
  have h4:m*2^s<R.BB^(R.limbsOf m).length*2^s:=Nat.mul_lt_mul_of_pos_right h3 (Nat.pow_pos (by omega))
  have h5:R.BB^(R.limbsOf m).length*2^s≤R.BB^(R.limbsOf m).length*R.BB:=Nat.mul_le_mul_left _ (by rw [R.BB_pow];exact Nat.pow_le_pow_right (by omega) (by omega))
  rw [Nat.pow_succ]
  omega
 obtain⟨A,ca,rfl,p1,p2⟩:=ha.out
 obtain⟨B,cb,rfl,k1,k2⟩:=hb.out
 have hz0: ¬(cmpZ m n<0):=by have:=hlt.out;unfold cmpZ;split<;>(try split)<;>omega
 have HR:=hid hr
 have HRb:=hid hrb
 have HV:=hid hVl
 have HVg:=hid hVg
 clear hr hrb p1 p2 k1 k2 hVl hVg
 generalize cmpZ m n=z at*
 obtain⟨L,hL⟩: ∃L,(R.limbsOf n).length=L:=⟨_,rfl⟩
 have HL:=hid hL
 obtain⟨la,hlae⟩: ∃la,(R.limbsOf m).length=la:=⟨_,rfl⟩
 have HLa:=hid hlae
 obtain⟨lu,hlue⟩: ∃lu,(R.limbsOf (m*2^s)).length=lu:=⟨_,rfl⟩
 have HLu:=hid hlue
 have H2:Hid (2≤L):=by rw [← hL];exact h2
 have hL1:((L:Int) == 1)=false:=by rw [beq_eq_false_iff_ne];have:=H2.out;omega
 obtain⟨tb,htb⟩: ∃tb,bitsN n=tb:=⟨_,rfl⟩
 rw [htb] at HRb hsc
 have HTb:=hid htb
 obtain⟨t32,ht32⟩: ∃t,tb%32=t:=⟨_,rfl⟩
 have hm1:(tb:Int)%32=(t32:Int):=by omega
 have hm2:(tb:Int).tmod 32=(t32:Int):=by rw [Int.tmod_eq_emod_of_nonneg (by omega)];exact hm1
 rw [ht32] at hsc
 have HT32:Hid (t32<32):=by show _<_;omega
 rw [hL,hlae] at HR hlb
 rw [hlae] at ha hla hls hlu ⊢
 rw [hL] at hb HRb HV HVg ⊢
 rw [hlue] at hls hlu
 clear hL hlae hlue htb ht32
 have HSc:=hid hsc
 have HS32:=hid hs32
 obtain⟨k9,hk9⟩: ∃k,32-t32=k:=⟨_,rfl⟩
 have h9:(32:Int)-(t32:Int)=(k9:Int):=by have:=HT32.out;omega
 have HK9:=hid hk9
 have hk32:(k9:Int)≤32:=by omega
 clear hsc hs32 hk9
 go_enter Tryz.func90,Tryz.ntmps90
 go_wp2_with fail
 refine HR.out.mono ?_
 rintro e w1 ⟨rfl,ho⟩
 have HO1:=hid ho
 clear ho
 go_wp2_with fail
 refine (rbits_v (hid (hb.out.only HO1.out)) hfb).mono ?_
 rintro e w1' ⟨rfl,rfl⟩
 rw [HTb.out]
 go_upto_if 71 with fail
 go_cut [9] from 68 to 71 (fun sv wx=>sv= .int .i64 (s:Int)∧w1=wx)
 case first=>
  rcases HSc.out with⟨h0,h1⟩|⟨h0,h1⟩
  ·have hk:((k9:Int) == 32)=true:=by have:=HK9.out;rw [beq_iff_eq];omega
   go_wp2_with fail
   go_meet
   case rel=>exact⟨by rw [h1];rfl,rfl⟩
  ·have hk:((k9:Int) == 32)=false:=by have:=HK9.out;rw [beq_eq_false_iff_ne];omega
   go_wp2_with fail
   go_meet
   case rel=>exact⟨by rw [h1,HK9.out],rfl⟩
 case rest=>
  obtain⟨rfl,rfl⟩:=hcut
  clear HSc HK9 h9 hk32
  go_wp2_with fail
  refine (rshl_c s (by have:=HS32.out;omega) (hid (ha.out.only HO1.out)) hfa).mono ?_
  rintro e w2 ⟨A2,k2,rfl,hv2,hf2,ho2⟩
  have HV2:=hid hv2
  have HO2:=hid (HO1.out.trans ho2 (by simp))
  obtain⟨A2',c2',e2,hr2,_⟩:=hv2
  injection e2 with e3 e4 e5
  subst e3
  have HK2:Hid (k2=lu):=e4.trans HLu.out
  have HR2:=hid hr2
  clear hf2 ho2 hr2 e4 e5
  have HBn:Hid (Blk (w2.alloc (Obj.cells #[.int .u64 0] 133)) w2.heap.size 133 (limbV [0])):=Blk.new w2 133 (limbV [0])
  have HR2n:=hid (HR2.out.only ((Only.refl [] w2).alloc (Obj.cells #[.int .u64 0] 133)))
  go_wp2_with (at_builtin;refine wpList_append_full 36 Tryz.underlying36 rfl _ _ rfl A2 (R.limbsOf (m*2^s)) k2 rfl (HK2.out.trans HLu.out.symm) ?hnil HR2n.out (by have:=HK2.out;omega) w2.heap.size 1 [0] rfl rfl (by decide) HBn.out (by omega) ?hap;rotate_left;intro g3 c3 w3 h1 h2 h3;have HA3:=hid h1;have HF3:=hid h2;have HO3:=hid h3;clear h1 h2 h3)
  case hnil=>
   intro hA
   subst hA
   have h3:=HK2.out
   have h4:(R.limbsOf (m*2^s)).length=0:=by
    rcases Nat.eq_zero_or_pos (R.limbsOf (m*2^s)).length with h5|h5
    ·exact h5
    ·obtain⟨_,_,h6,_⟩:=HR2.out 0 h5
     cases h6
   rw [h3,←HLu.out,h4]
  refine (rshl_v s (by have:=HS32.out;omega) (hid (hb.out.only (HO2.out.trans ((((Only.refl [] w2).alloc _).trans HO3.out (by simp))) (by simp)))) hfb).mono ?_
  rintro e w4 ⟨B4,k4,c4,rfl,hv4,hf4,ho4⟩
  have HO4:=hid (HO2.out.trans ((((Only.refl [] w2).alloc _).trans HO3.out (by simp)).trans ho4 (by simp)) (by simp))
  obtain⟨B4',c4',e4,hr4,_⟩:=hv4
  injection e4 with e5 e6 e7
  subst e5
  have HK4:Hid (k4=L):=e6.trans HV.out
  have HR4:=hid hr4
  have HF4:Hid (∀ x,B4=some x→w3.heap.size≤x.block):=hf4
  have HSz:Hid (w3.heap.size≤w4.heap.size):=ho4.size
  obtain⟨tl,hbk,htc,hcm,-⟩:=HA3.out.row
  have HBk:=hid (hbk.only ho4 (by simp))
  have HC3:Hid (lu+1≤c3):=by
   have h1:=HLu.out
   rw [List.length_append,h1] at htc
   simp at htc
   show _≤_
   omega
  have HLt:Hid (g3<w3.heap.size):=(World.ownsRow.lt HA3.out _ rfl).2
  clear hbk htc hcm hf4 ho4 hr4 e6 e7
  generalize hlu1:k2+1=lu1 at HA3 ⊢
  have HU1:=hid hlu1
  have hki:(la:Int)<(lu1:Int):=by have:=HK2.out;omega
  obtain⟨lq,hlq⟩: ∃lq,lu1-L=lq:=⟨_,rfl⟩
  have HLq:Hid (lq+L=lu1):=by have:=HK2.out;show _=_;omega
  have hlqi:(lu1:Int)-(L:Int)=(lq:Int):=by have:=HLq.out;omega
  have hlq0:(lq:Int)≤2100000:=by have:=HK2.out;omega
  have h4L:k4=L:=HK4.out
  subst h4L
  clear hlu1 hlq
  go_wp2_with fail
  go_loopw [10] (fun uv wr=>uv= .slice (some ⟨g3,0,none⟩) lu1 c3∧wr=w4) (fun _ _=>0)
  case atStart=>exact⟨rfl,rfl⟩
  obtain⟨rfl,rfl⟩:=hrel
  obtain⟨w5,hmk,hb5,ho5,hs5⟩:=make_limbs 36 Tryz.underlying36 wr lq (by omega)
  have HB5:=hid hb5
  have HO5:=hid ho5
  have HS5:=hid hs5
  clear hb5 ho5 hs5
  have HLI:Hid (R.LI (R.limbsOf (m*2^s)++[0]) (List.replicate lq 0) (m*2^s) (n*2^s) lq):=by
   have h:=rlong_start (L:=k4) (us0:=R.limbsOf (m*2^s)++[0]) HLu.out HL.out (by have:=H2.out;omega) (by omega) rfl HVg.out
   have e:lu+1-k4=lq:=by have:=HLq.out;have:=HU1.out;have:=HK2.out;omega
   rw [e] at h
   exact h
  have HUl:Hid ((R.limbsOf (m*2^s)++[0]).length=lu1):=by
   have:=HU1.out;have:=HK2.out;have:=HLu.out
   show _=_
   rw [List.length_append]
   show _+1=_
   omega
  have HVv:Hid (R.val (R.limbsOf (n*2^s))=n*2^s):=R.val_limbsOf _
  have HStart:Hid (RW w5 w5 g3 wr.heap.size tl (R.limbsOf (m*2^s)++[0]) (List.replicate lq 0) (m*2^s) (n*2^s) lu1 lq lq):=⟨HLI.out,HBk.out.only HO5.out (by simp),HB5.out,HUl.out,by simp,Only.refl _ _⟩
  have HGne:Hid (g3≠wr.heap.size):=by
   have h1:=HLt.out
   have h2:w3.heap.size≤wr.heap.size:=HSz.out
   show _≠_
   omega
  have HRV:Hid (LRead w5 B4 (R.limbsOf (n*2^s))):=HR4.out.only HO5.out
  have HLV:Hid ((R.limbsOf (n*2^s)).length=k4):=HV.out
  have HNa:Hid (∀ (j b' o':Nat),B4=some ⟨b',o',none⟩→j<k4→b'≠g3∧b'≠wr.heap.size):=by
   intro j b' o' e hj
   obtain⟨b2,o2,e2,hc2⟩:=HR4.out j (by rw [HLV.out];exact hj)
   have h5:=HF4.out _ e
   have h6:=HLt.out
   rw [e2] at e
   injection e with e
   injection e with e _ _
   subst e
   have:=World.block_lt_of_cell? wr _ hc2
   simp only at*
   constructor<;>omega
  have HG3:Hid (w.heap.size≤g3):=by
   have h1:=HO2.out.size
   have h2:=HF3.out
   simp only [World.size_alloc] at h2
   show _≤_
   omega
  have HGq:Hid (w.heap.size≤wr.heap.size):=HO4.out.size
  have HOw5:Hid (Only [] w w5):=HO4.out.trans HO5.out (by simp)
  obtain⟨gq,hgq⟩: ∃gq,wr.heap.size=gq:=⟨_,rfl⟩
  rw [hgq] at HGq
  rw [hgq] at HGne HNa HStart
  go_wp2_with fail
  go_loopw [14] (fun iv wr=> ∃(k:Nat) (us qs:List Nat),k≤lq∧iv= .int .i64 ((k:Int)-1)∧RW w5 wr g3 gq tl us qs (m*2^s) (n*2^s) lu1 lq k) (fun iv _=>(intOf iv+1).toNat)
  case atStart=>exact⟨lq,_,_,Nat.le_refl _,rfl,HStart.out⟩
  case round=>
   obtain⟨k,us,qs,hk,rfl,hR⟩:=hrel
   obtain⟨w6,hw6⟩: ∃x,x=wr:=⟨_,rfl⟩
   subst hw6
   have HR0:=hid hR
   clear hR HStart
   rcases k with _|j
   ·as_aux_lemma=>
    have hdone:=HR0.out.li.done
    have HQ:Hid (R.val qs=m/n):=hdone.1
    have HRm:Hid (R.val us/2^s=m%n):=hdone.2
    have hlt0:=HR0.out.li.lt
    have hvlt:=R.val_lt (R.limb_limbsOf (n*2^s))
    rw [HLV.out,HVv.out] at hvlt
    have hult:R.val us<R.BB^k4:=by simp only [Nat.pow_zero,Nat.one_mul] at hlt0;omega
    have hcap:=R.val_cap (us:=us) (m:=k4) (by rw [HR0.out.ul];have:=HLq.out;omega) hult
    have HFu:Hid (Few (R.val us)):=by
     show _<_
     have h1:R.BB^k4≤R.BB^(2*MX):=Nat.pow_le_pow_right R.BB_pos (by rw [MX_val];omega)
     rw [Nat.pow_mul,Nat.pow_two,←R.bb_sq] at h1
     omega
    have HS9:Hid ((s:Int)≤90000000):=by have:=HS32.out;show _≤_;omega
    have HRdq:Hid (LRead w6.drew (some ⟨gq,0,none⟩) qs):=LRead.of_blk HR0.out.bq
    have HRdu:Hid (LRead w6.drew (some ⟨g3,0,none⟩) (us.take k4)):=(LRead.of_tl HR0.out.bu).take k4
    have HUt:Hid (k4=(us.take k4).length):=by show _=_;rw [List.length_take,HR0.out.ul];have:=HLq.out;omega
    have htq:=rtrim_any (some ⟨gq,0,none⟩) lq lq qs w6.drew HRdq (hid HR0.out.li.ql) (hid HR0.out.ql.symm) (Nat.le_refl _) (by omega)
    have htu:=rtrim_any (some ⟨g3,0,none⟩) k4 k4 (us.take k4) w6.drew HRdu (hid (HR0.out.li.ul.take k4)) HUt (Nat.le_refl _) (by omega)
    rw [HQ.out] at htq
    rw [← hcap] at htu
    have HTq:=hid htq
    have HTu:=hid htu
    have HRq:Hid (RV w6.drew (.slice (some ⟨gq,0,none⟩) (R.limbsOf (m/n)).length (R.limbsOf (m/n)).length) (m/n)):=by
     have h2:=RV.of_row HRdq.out HR0.out.li.ql
     rw [HQ.out] at h2
     exact⟨_,_,rfl,h2,Nat.le_refl _⟩
    have HRu:Hid (RV w6.drew (.slice (some ⟨g3,0,none⟩) (R.limbsOf (R.val us)).length (R.limbsOf (R.val us)).length) (R.val us)):=by
     have h2:=RV.of_row HRdu.out (HR0.out.li.ul.take k4)
     rw [← hcap] at h2
     exact⟨_,_,rfl,h2,Nat.le_refl _⟩
    have HOf:Hid (Only [] w w6):=HOw5.out.trans HR0.out.only (fun x hx=> .inr (by
     simp at hx
     rcases hx with rfl|rfl
     ·exact HG3.out
     ·exact HGq.out))
    have h3: ∀wx,(Instr.slice 36 (.slice (some ⟨g3,0,none⟩) lu1 c3) none (some (.int .i64 (k4:Int))) (some (.int .i64 (k4:Int)))).run Tryz.prog wx= .ok (.slice (some ⟨g3,0,none⟩) k4 k4) wx:=fun wx=>slice_three _ lu1 c3 k4 (by have:=HC3.out;have:=HLq.out;have:=HU1.out;have:=HK2.out;omega) wx
    have hi:((0:Nat):Int)-1= -1:=rfl
    rw [hi]
    clear hi hdone hlt0 hvlt hult hcap htq htu hk
    go_wp2_with fail
    go_region_held3 (fun w'=>True) (trivial) (first
     |(go_at_call 102;(with_reducible refine (rshr_v s HS9.out HRu HFu).mono ?_);rintro e x3 ⟨A3,k3,c3',rfl,hv3,-,ho3⟩;have X3:=hid (And.intro hv3 ho3);clear hv3 ho3)
     |(go_at_call 103;(with_reducible refine HTu.out.mono ?_);rintro e x2 ⟨rfl,rfl⟩)
     |(go_at_call 103;(with_reducible refine HTq.out.mono ?_);rintro e x1 ⟨rfl,rfl⟩))
    all_goals
     go_wp2_with fail
     go_ret2
     refine⟨_,_,_,_,_,_,rfl,HRq.out.only X3.out.2,?_,fun x hx=>?_,?_⟩
     ·rw [← HRm.out];exact X3.out.1
     ·injection hx with hx
      subst hx
      exact HGq.out
     ·exact HOf.out.drew.nil_trans X3.out.2
   ·as_aux_lemma=>
    have hi:((j+1:Nat):Int)-1=(j:Int):=by omega
    rw [hi]
    clear hi
    obtain⟨i2,hi2⟩: ∃i2,j+k4=i2:=⟨_,rfl⟩
    obtain⟨i1,hi1⟩: ∃i1,i2-1=i1:=⟨_,rfl⟩
    obtain⟨i0,hi0⟩: ∃i0,i2-2=i0:=⟨_,rfl⟩
    obtain⟨f1,hf1⟩: ∃f1,k4-1=f1:=⟨_,rfl⟩
    obtain⟨f0,hf0⟩: ∃f0,k4-2=f0:=⟨_,rfl⟩
    have e2:=H2.out
    have e3:=HLq.out
    have j2:(j:Int)+(k4:Int)=(i2:Int):=by omega
    have j1:(i2:Int)-1=(i1:Int):=by omega
    have j0:(i2:Int)-2=(i0:Int):=by omega
    have l2:(i2:Int)<(lu1:Int):=by omega
    have l1:(i1:Int)<(lu1:Int):=by omega
    have l0:(i0:Int)<(lu1:Int):=by omega
    have g1:(k4:Int)-1=(f1:Int):=by omega
    have g0:(k4:Int)-2=(f0:Int):=by omega
    have m1:(f1:Int)<(k4:Int):=by omega
    have m0:(f0:Int)<(k4:Int):=by omega
    have HI:Hid (j+k4=i2∧i2-1=i1∧i2-2=i0∧k4-1=f1∧k4-2=f0):=⟨hi2,hi1,hi0,hf1,hf0⟩
    have cu: ∀i,i<lu1→w6.cell? ⟨g3,i,none⟩=some (.int .u64 ((us[i]?.getD 0:Nat):Int)):=by
     intro i hi
     have h:=HR0.out.bu.cell i
     rw [List.getElem?_append_left (by rw [limbV_len,HR0.out.ul];exact hi),limbV_get _ _ (by rw [HR0.out.ul];exact hi)] at h
     exact h
    have cu2:=cu i2 (by omega)
    have cu1:=cu i1 (by omega)
    have cu0:=cu i0 (by omega)
    obtain⟨vb,vo,rfl,cv1⟩:=HRV.out f1 (by rw [HLV.out];omega)
    obtain⟨vb',vo',e6,cv0⟩:=HRV.out f0 (by rw [HLV.out];omega)
    injection e6 with e6
    injection e6 with e7 e8 _
    subst e7 e8
    have hvn:=HNa.out f1 vb vo rfl (by omega)
    have cw1:=HR0.out.only.cell cv1 (by simpa using hvn)
    have cw0:=HR0.out.only.cell cv0 (by simpa using hvn)
    clear cv1 cv0 cu e2 e3 hi2 hi1 hi0 hf1 hf0
    have HG:Hid _:=R.GS.start (u2:=us[i2]?.getD 0) (u1:=us[i1]?.getD 0) (u0:=us[i0]?.getD 0) (v1:=(R.limbsOf (n*2^s))[f1]?.getD 0) (v0:=(R.limbsOf (n*2^s))[f0]?.getD 0)
     (by
      have h:=R.canon_limbsOf (n*2^s) (by rw [HLV.out];omega)
      have e:(R.limbsOf (n*2^s)).length-1=f1:=by rw [HLV.out];exact HI.out.2.2.2.1
      rw [List.getElem?_eq_getElem (by rw [HLV.out];omega)]
      simp only [Option.getD_some]
      simp only [e] at h
      omega)
     (by
      have h:=R.long_u2 (us:=us) (vs:=R.limbsOf (n*2^s)) (j:=j) (n:=k4) (R.limb_limbsOf _) (by have:=H2.out;omega) HLV.out (by rw [R.val_limbsOf];exact HR0.out.li.lt)
      rw [HI.out.1,HI.out.2.2.2.1] at h
      exact h)
     (HR0.out.li.ul.get i1) (HR0.out.li.ul.get i0) ((R.limb_limbsOf _).get f1) ((R.limb_limbsOf _).get f0)
    have HX2:=hid (HR0.out.li.ul.get i2)
    have HX1:=hid (HR0.out.li.ul.get i1)
    have HX0:=hid (HR0.out.li.ul.get i0)
    have HY1:=hid ((R.limb_limbsOf (n*2^s)).get f1)
    have HY0:=hid ((R.limb_limbsOf (n*2^s)).get f0)
    obtain⟨u2,hu2⟩: ∃u,us[i2]?.getD 0=u:=⟨_,rfl⟩
    obtain⟨u1,hu1⟩: ∃u,us[i1]?.getD 0=u:=⟨_,rfl⟩
    obtain⟨u0,hu0⟩: ∃u,us[i0]?.getD 0=u:=⟨_,rfl⟩
    obtain⟨v1,hv1⟩: ∃u,(R.limbsOf (n*2^s))[f1]?.getD 0=u:=⟨_,rfl⟩
    obtain⟨v0,hv0⟩: ∃u,(R.limbsOf (n*2^s))[f0]?.getD 0=u:=⟨_,rfl⟩
    rw [hu2] at cu2 HX2
    rw [hu1] at cu1 HX1
    rw [hu0] at cu0 HX0
    rw [hv1] at cw1 HY1
    rw [hv0] at cw0 HY0
    have hG:=HG.out
    rw [hu2,hu1,hu0,hv1,hv0] at hG
    have HG':=hid hG
    have HUs:Hid (us[i2]?.getD 0=u2∧us[i1]?.getD 0=u1∧us[i0]?.getD 0=u0∧(R.limbsOf (n*2^s))[f1]?.getD 0=v1∧(R.limbsOf (n*2^s))[f0]?.getD 0=v0):=⟨hu2,hu1,hu0,hv1,hv0⟩
    have hx2:=HX2.out
    have hx1:=HX1.out
    have hv1p:=hG.v1l
    have hu2l:=hG.u2l
    have hy1:=HY1.out
    rw [R.BB_val] at hx2 hx1 hy1 hG
    obtain⟨t0,ht0⟩: ∃t0,u2*4294967296=t0:=⟨_,rfl⟩
    obtain⟨t,ht⟩: ∃t,t0+u1=t:=⟨_,rfl⟩
    have hw1:IntKind.u64.wrap ((u2:Int)*4294967296)=(t0:Int):=by
     rw [show (u2:Int)*4294967296=(t0:Int) by omega]
     exact u64_wrap (by rw [BB_val];omega)
    have hw2:IntKind.u64.wrap ((t0:Int)+(u1:Int))=(t:Int):=u64_add ht (by rw [BB_val];omega)
    have hnz:(v1:Int)≠0:=by omega
    obtain⟨d0,hd0⟩: ∃q,t/v1=q:=⟨_,rfl⟩
    obtain⟨r0,hr0⟩: ∃q,t%v1=q:=⟨_,rfl⟩
    have hq1:(t:Int).tdiv (v1:Int)=(d0:Int):=by rw [← hd0];rfl
    have hq2:(t:Int)/(v1:Int)=(d0:Int):=by rw [← hd0];rfl
    have hq3:(t:Int).tmod (v1:Int)=(r0:Int):=by rw [← hr0];rfl
    have hq4:(t:Int)%(v1:Int)=(r0:Int):=by rw [← hr0];rfl
    have hql:d0≤t:=by rw [← hd0];exact Nat.div_le_self _ _
    have hrl:r0≤t:=by rw [← hr0];exact Nat.mod_le _ _
    have hw3:IntKind.u64.wrap (d0:Int)=(d0:Int):=u64_wrap (by rw [BB_val];omega)
    have hw4:IntKind.u64.wrap (r0:Int)=(r0:Int):=u64_wrap (by rw [BB_val];omega)
    rw [ht0,ht,hd0,hr0] at hG
    have HGs:Hid (R.GS u2 u1 u0 v1 v0 d0 r0):=hG
    have HV1p:Hid (0<v1):=hv1p
    have HR0b:Hid (r0<R.BB):=by
     have h1:=Nat.mod_lt t hv1p
     rw [hr0] at h1
     have h2:=HY1.out
     show _<_
     omega
    clear hu2 hu1 hu0 hv1 hv0 HG HG' hG hx2 hx1 hy1 ht0 ht hd0 hr0 hql hrl hu2l hv1p
    go_upto_region 24 with fail
    go_quiet (fail)
    go_upto_region 25 with fail
    go_quiet (fail)
    rename ¬lu1≤la=>hle
    clear hle
    go_upto_block 6 with fail
    generalize hw7:(w6.drewN _).drewN _=w7
    have HO7:Hid (Only [] w6 w7):=by rw [← hw7];exact ((Only.refl [] w6).drewN _).drewN _
    clear hw7
    go_cut [16] from 133 to 165 (fun dv wx=> ∃d:Nat,dv= .int .u64 (d:Int)∧R.EstOk u2 u1 u0 v1 v0 d∧d*(v1*R.BB+v0)≤(u2*R.BB+u1)*R.BB+u0∧Only [] w6 wx)
    case first=>
     as_aux_lemma=>
     clear cu2 cu1 hw1 hw2 hnz hq1 hq2 hq3 hq4 hw3 hw4 l2 l1 j1 HUs
     go_wp2_with fail
     go_loopw [16,17] (fun dv rv wx=> ∃d r:Nat,dv= .int .u64 (d:Int)∧rv= .int .u64 (r:Int)∧R.GS u2 u1 u0 v1 v0 d r∧r<R.BB∧Only [] w6 wx) (fun dv _ _=>(intOf dv).toNat)
     case atStart=>exact⟨d0,r0,rfl,rfl,HGs.out,HR0b.out,HO7.out⟩
     case round=>
      obtain⟨d,r,rfl,rfl,hgs,hrb,ho⟩:=hrel
      have q0:=ho.cell cu0 (by simp)
      have p0:=ho.cell cw0 (by simp)
      have p1:=ho.cell cw1 (by simp)
      have HG:=hid hgs
      have HRb:=hid hrb
      have HO:=hid ho
      obtain⟨r1,hr1⟩: ∃q,r+v1=q:=⟨_,rfl⟩
      have hdl:d<18446744073709551616:=by
       have h1:=Nat.mul_le_mul_left d hgs.v1l
       have h2:=hgs.eq;have h3:=hgs.u1l;have h4:=hgs.u2l;have h5:=hgs.v1b
       rw [R.BB_val] at h2 h3 h5
       omega
      have hv1b:=hgs.v1b
      have hv0b:=hgs.v0b
      have hu0b:=hgs.u0l
      rw [R.BB_val] at hrb hv1b hv0b hu0b
      have hwr:IntKind.u64.wrap ((r:Int)+(v1:Int))=(r1:Int):=u64_add hr1 (by rw [BB_val];omega)
      clear hgs ho cu0 cw0 cw1 HGs HR0b
      by_cases hdb:d<4294967296
      ·have hgf:decide ((4294967296:Int)≤(d:Int))=false:=decide_eq_false (by omega)
       obtain⟨a1,ha1⟩: ∃q,d*v0=q:=⟨_,rfl⟩
       obtain⟨a2,ha2⟩: ∃q,r*4294967296=q:=⟨_,rfl⟩
       obtain⟨a3,ha3⟩: ∃q,a2+u0=q:=⟨_,rfl⟩
       have ha1l:a1<18446744073709551616:=by
        have h1:=Nat.mul_lt_mul'' hdb hv0b
        omega
       have hwa1:IntKind.u64.wrap ((d:Int)*(v0:Int))=(a1:Int):=by
        rw [show (d:Int)*(v0:Int)=(a1:Int) by rw [← ha1];push_cast;rfl]
        exact u64_wrap (by rw [BB_val];omega)
       have hwa2:IntKind.u64.wrap ((r:Int)*4294967296)=(a2:Int):=by
        rw [show (r:Int)*4294967296=(a2:Int) by omega]
        exact u64_wrap (by rw [BB_val];omega)
       have hwa3:IntKind.u64.wrap ((a2:Int)+(u0:Int))=(a3:Int):=u64_add ha3 (by rw [BB_val];omega)
       by_cases hc:a3<a1
       ·have hci:(a3:Int)<(a1:Int):=by omega
        have hlow:R.GS u2 u1 u0 v1 v0 (d-1) r1:=by
         rw [← hr1]
         exact HG.out.lower (.inr (by rw [R.BB_val];omega))
        have hd1p:0<d:=R.GS.pos (u0:=u0) (v0:=v0) (r:=r) (.inr (by rw [R.BB_val];omega))
        clear ha1 ha2 ha3 hc ha1l
        go_upto_region 26 with fail
        go_quiet (fail)
        obtain⟨d1,hd1⟩: ∃q,d-1=q:=⟨_,rfl⟩
        have hwd:IntKind.u64.wrap ((d:Int)-1)=(d1:Int):=by
         rw [show (d:Int)-1=(d1:Int) by omega]
         exact u64_wrap (by rw [BB_val];omega)
        rw [hd1] at hlow
        have HLow:=hid hlow
        have HD:Hid (d1<d):=by show _<_;omega
        by_cases hb:r1<4294967296
        ·have hbi:decide ((4294967296:Int)≤(r1:Int))=false:=decide_eq_false (by omega)
         have HB1:=hid hb
         clear hd1 hlow hr1 hb hdl hd1p
         go_wp2_with fail
         go_roundw
         case rel=>exact⟨d1,r1,rfl,rfl,HLow.out,by rw [R.BB_val];exact HB1.out,HO.out.drewN _⟩
         case measure=>have:=HD.out;simp [intOf];omega
        ·have hbi:(4294967296:Int)≤(r1:Int):=by omega
         have hbk:=HLow.out.brk (by rw [R.BB_val];omega)
         have HFin:=hid (HLow.out.done hbk.1 hbk.2)
         clear hd1 hlow hr1 hb hdl hbk hd1p
         go_wp2_with fail
         go_meet
         case rel=>exact⟨d1,rfl,HFin.out.1,HFin.out.2,HO.out.drewN _⟩
       ·have hci: ¬(a3:Int)<(a1:Int):=by omega
        have hfin:=HG.out.done (by rw [R.BB_val];exact hdb) (by rw [R.BB_val];omega)
        clear ha1 ha2 ha3 hc ha1l hwr hdl
        go_upto_region 26 with fail
        go_quiet (fail)
        go_wp2_with fail
        go_meet
        case rel=>exact⟨d,rfl,hfin.1,hfin.2,HO.out.drewN _⟩
      ·have hgt:(4294967296:Int)≤(d:Int):=by omega
       have hlow:R.GS u2 u1 u0 v1 v0 (d-1) r1:=by
        rw [← hr1]
        exact HG.out.lower (.inl (by rw [R.BB_val];omega))
       have hd1p:0<d:=by omega
       go_upto_region 26 with fail
       go_quiet (fail)
       obtain⟨d1,hd1⟩: ∃q,d-1=q:=⟨_,rfl⟩
       have hwd:IntKind.u64.wrap ((d:Int)-1)=(d1:Int):=by
        rw [show (d:Int)-1=(d1:Int) by omega]
        exact u64_wrap (by rw [BB_val];omega)
       rw [hd1] at hlow
       have HLow:=hid hlow
       have HD:Hid (d1<d):=by show _<_;omega
       by_cases hb:r1<4294967296
       ·have hbi:decide ((4294967296:Int)≤(r1:Int))=false:=decide_eq_false (by omega)
        have HB1:=hid hb
        clear hd1 hlow hr1 hb hdl hd1p
        go_wp2_with fail
        go_roundw
        case rel=>exact⟨d1,r1,rfl,rfl,HLow.out,by rw [R.BB_val];exact HB1.out,HO.out.drewN _⟩
        case measure=>have:=HD.out;simp [intOf];omega
       ·have hbi:(4294967296:Int)≤(r1:Int):=by omega
        have hbk:=HLow.out.brk (by rw [R.BB_val];omega)
        have HFin:=hid (HLow.out.done hbk.1 hbk.2)
        clear hd1 hlow hr1 hb hdl hbk hd1p
        go_wp2_with fail
        go_meet
        case rel=>exact⟨d1,rfl,HFin.out.1,HFin.out.2,HO.out.drewN _⟩
    case rest=>
     as_aux_lemma=>
     obtain⟨d,rfl,hest,hup,ho⟩:=hcut
     have HEst:=hid hest
     have HUp:=hid hup
     have HO8:=hid ho
     clear hest hup ho HO7 hq1 hq2 hq3 hq4 hw1 hw2 hw3 hw4 hnz cu2 cu1 cu0 cw1 cw0 HGs HR0b
     obtain⟨vs,hvs⟩: ∃x,R.limbsOf (n*2^s)=x:=⟨_,rfl⟩
     have HVb:Hid (R.Limb vs):=hvs▸R.limb_limbsOf _
     rw [hvs] at HRV HLV HUs HVv HR4 HV
     clear hvs
     have HDl:Hid (d<R.BB):=HEst.out.1
     have HLt6:Hid (R.val us<R.BB^(j+1)*R.val vs):=by have h:=HR0.out.li.lt;show _<_;rw [HVv.out];exact h
     have HEst2:Hid (R.val us<R.BB^j*((d+1)*R.val vs)):=by
      have h:=HEst.out
      have hi:=HI.out
      have hu:=HUs.out
      refine R.est_ge HR0.out.li.ul HVb.out H2.out HLV.out (by rw [HR0.out.ul];have:=HI.out.1;omega) HLt6.out ?_
      rw [hi.1,hi.2.1,hi.2.2.1,hi.2.2.2.1,hi.2.2.2.2,hu.1,hu.2.1,hu.2.2.1,hu.2.2.2.1,hu.2.2.2.2]
      exact h
     have HUp2:Hid (R.BB^j*((d-1)*R.val vs)≤R.val us):=by
      have hi:=HI.out
      have hu:=HUs.out
      refine R.est_le HVb.out H2.out HLV.out (by rw [HR0.out.ul];have:=HI.out.1;omega) ?_ HDl.out ?_
      ·rw [hi.2.2.2.1,hu.2.2.2.1];exact HV1p.out
      ·rw [hi.1,hi.2.1,hi.2.2.1,hi.2.2.2.1,hi.2.2.2.2,hu.1,hu.2.1,hu.2.2.1,hu.2.2.2.1,hu.2.2.2.2]
       exact HUp.out
     have HM0:Hid (RM w6 wc g3 tl us us vs j d 0 0 0):=⟨R.MS.start HR0.out.li.ul,HR0.out.bu.only HO8.out (by simp),HO8.out.mono (by simp)⟩
     clear HEst HUp HUs HV1p
     go_wp2_with fail
     go_loopw [18,19,20] (fun cv lv iv wx=> ∃(i c lo:Nat) (us':List Nat),i≤k4∧cv= .int .u64 (c:Int)∧lv= .int .u64 (lo:Int)∧iv= .int .i64 (i:Int)∧RM w6 wx g3 tl us us' vs j d i c lo) (fun _ _ iv _=>k4-(intOf iv).toNat)
     case atStart=>exact⟨0,0,0,us,Nat.zero_le _,rfl,rfl,rfl,HM0.out⟩
     case round=>
      obtain⟨i,c,lo,us',hi,rfl,rfl,rfl,hM⟩:=hrel
      have HM:=hid hM
      have HUl':Hid (us'.length=lu1):=hM.ms.len.trans HR0.out.ul
      have hcl:=hM.ms.cl
      have hlo:=hM.ms.lol
      rw [R.BB_val] at hcl
      clear hM HM0
      by_cases hlt:i<k4
      ·as_aux_lemma=>
       obtain⟨ji,hji⟩: ∃q,j+i=q:=⟨_,rfl⟩
       have e1:=HI.out.1
       have e3:=HLq.out
       have hii:(i:Int)<(k4:Int):=by omega
       have jii:(j:Int)+(i:Int)=(ji:Int):=by omega
       have lji:(ji:Int)<(lu1:Int):=by omega
       have HJi:Hid (ji<us'.length):=by show _<_;rw [HUl'.out];omega
       obtain⟨cu,fu⟩:=ucell HM.out.blk HJi.out
       obtain⟨b',o',e6,hcv⟩:=HRV.out i (by rw [HLV.out];exact hlt)
       injection e6 with e6
       injection e6 with e7 e8 _
       subst e7 e8
       have cv:=HM.out.only.cell (HR0.out.only.cell hcv (by simpa using hvn)) (by simpa using hvn.1)
       have hbound:=HM.out.ms.bound HDl.out HVb.out
       have HYl:=hid (HM.out.ms.limb.get ji)
       have HJie:=hid hji
       obtain⟨vi,hvi⟩: ∃q,vs[i]?.getD 0=q:=⟨_,rfl⟩
       obtain⟨y0,hy0⟩: ∃q,us'[ji]?.getD 0=q:=⟨_,rfl⟩
       rw [hvi] at cv hbound
       rw [hy0] at cu HYl
       have HVi:=hid hvi
       have HY0e:=hid hy0
       obtain⟨a1,ha1⟩: ∃q,d*vi=q:=⟨_,rfl⟩
       obtain⟨t1,ht1⟩: ∃q,c+a1=q:=⟨_,rfl⟩
       obtain⟨x0,hx0⟩: ∃q,t1%4294967296=q:=⟨_,rfl⟩
       obtain⟨c1,hc1⟩: ∃q,t1/4294967296=q:=⟨_,rfl⟩
       obtain⟨x,hx⟩: ∃q,x0+lo=q:=⟨_,rfl⟩
       have HT1:Hid (c+d*vs[i]?.getD 0=t1):=by show _=_;rw [hvi,ha1];exact ht1
       have HX0e:Hid (t1%R.BB=x0):=by show _=_;rw [R.BB_val];exact hx0
       have HC1e:Hid (t1/R.BB=c1):=by show _=_;rw [R.BB_val];exact hc1
       have HXe:=hid hx
       rw [ha1,ht1,R.BB_val] at hbound
       have hx0l:x0<4294967296:=by rw [← hx0];exact Nat.mod_lt _ (by decide)
       have hy0l:y0<4294967296:=by have:=HYl.out;rw [R.BB_val] at this;exact this
       have hwa1:IntKind.u64.wrap ((d:Int)*(vi:Int))=(a1:Int):=by
        rw [show (d:Int)*(vi:Int)=(a1:Int) by rw [← ha1];push_cast;rfl]
        exact u64_wrap (by rw [BB_val];omega)
       have hwt:IntKind.u64.wrap ((c:Int)+(a1:Int))=(t1:Int):=u64_add ht1 (by rw [BB_val];omega)
       have hm1:(t1:Int)%4294967296=(x0:Int):=by omega
       have hm2:(t1:Int)/4294967296=(c1:Int):=by omega
       have hm3:(t1:Int).tmod 4294967296=(x0:Int):=by rw [Int.tmod_eq_emod_of_nonneg (by omega)];exact hm1
       have hm4:(t1:Int).tdiv 4294967296=(c1:Int):=by rw [Int.tdiv_eq_ediv_of_nonneg (by omega)];exact hm2
       have hwx0:IntKind.u64.wrap (x0:Int)=(x0:Int):=u64_wrap (by rw [BB_val];omega)
       have hwc1:IntKind.u64.wrap (c1:Int)=(c1:Int):=u64_wrap (by rw [BB_val];omega)
       have hwx:IntKind.u64.wrap ((x0:Int)+(lo:Int))=(x:Int):=u64_add hx (by rw [BB_val];omega)
       clear hvi hy0 hji ha1 ht1 hx0 hc1 hcv e1 e3
       by_cases hb:y0<x
       ·as_aux_lemma=>
        obtain⟨y1,hy1⟩: ∃q,y0+4294967296=q:=⟨_,rfl⟩
        obtain⟨dd,hdd⟩: ∃q,y1-x=q:=⟨_,rfl⟩
        have hbi:(y0:Int)<(x:Int):=by omega
        have hbj: ¬(y1:Int)<(x:Int):=by omega
        have hwy1:IntKind.u64.wrap ((y0:Int)+4294967296)=(y1:Int):=by
         rw [show (y0:Int)+4294967296=(y1:Int) by omega]
         exact u64_wrap (by rw [BB_val];omega)
        have hwdd:IntKind.u64.wrap ((y1:Int)-(x:Int))=(dd:Int):=by
         rw [show (y1:Int)-(x:Int)=(dd:Int) by omega]
         exact u64_wrap (by rw [BB_val];omega)
        have hB1:=uset HM.out.blk HJi.out y1
        obtain⟨c3',f3'⟩:=ucell (i:=ji) hB1 (by rw [List.length_set];exact HJi.out)
        rw [set_get_eq HJi.out] at c3'
        have hB2:=uset (i:=ji) hB1 (by rw [List.length_set];exact HJi.out) dd
        rw [List.set_set] at hB2
        have HS:=hid (HM.out.step (t:=t1) (y:=dd) (lo':=1) (by rw [HLV.out];exact hlt) (by rw [HJie.out];exact HJi.out) HDl.out HVb.out HT1.out (by omega) (by rw [R.BB_val];omega) (by rw [HX0e.out,HXe.out,HJie.out,HY0e.out,R.BB_val];omega) (by rw [HJie.out];exact hB2) (((Only.refl [g3] wr).setCell (.inl (by simp)) _).setCell (.inl (by simp)) _))
        rw [HC1e.out] at HS
        clear hB1 hB2 hb hy1 hdd hx hcl hlo hbound hx0l hy0l
        go_wp2_with fail
        go_roundw
        case rel=>exact⟨i+1,c1,1,_,by omega,rfl,rfl,by go_num,HS.out⟩
        case measure=>simp [intOf];omega
       ·as_aux_lemma=>
        obtain⟨dd,hdd⟩: ∃q,y0-x=q:=⟨_,rfl⟩
        have hbi: ¬(y0:Int)<(x:Int):=by omega
        have hwdd:IntKind.u64.wrap ((y0:Int)-(x:Int))=(dd:Int):=by
         rw [show (y0:Int)-(x:Int)=(dd:Int) by omega]
         exact u64_wrap (by rw [BB_val];omega)
        have hB2:=uset HM.out.blk HJi.out dd
        have HS:=hid (HM.out.step (t:=t1) (y:=dd) (lo':=0) (by rw [HLV.out];exact hlt) (by rw [HJie.out];exact HJi.out) HDl.out HVb.out HT1.out (by omega) (by rw [R.BB_val];omega) (by rw [HX0e.out,HXe.out,HJie.out,HY0e.out,R.BB_val];omega) (by rw [HJie.out];exact hB2) ((Only.refl [g3] wr).setCell (.inl (by simp)) _))
        rw [HC1e.out] at HS
        clear hB2 hb hdd hx hcl hlo hbound hx0l hy0l
        go_wp2_with fail
        go_roundw
        case rel=>exact⟨i+1,c1,0,_,by omega,rfl,rfl,by go_num,HS.out⟩
        case measure=>simp [intOf];omega
      ·as_aux_lemma=>
       obtain rfl:k4=i:=by omega
       have HJ2:Hid (i2<us'.length):=by show _<_;rw [HUl'.out];omega
       have HI1:Hid (j+k4=i2):=HI.out.1
       obtain⟨cu,fu⟩:=ucell HM.out.blk HJ2.out
       have HYl:=hid (HM.out.ms.limb.get i2)
       obtain⟨y0,hy0⟩: ∃q,us'[i2]?.getD 0=q:=⟨_,rfl⟩
       rw [hy0] at cu HYl
       have HY0e:=hid hy0
       obtain⟨x,hx⟩: ∃q,c+lo=q:=⟨_,rfl⟩
       have HXe:=hid hx
       have hy0l:y0<4294967296:=by have:=HYl.out;rw [R.BB_val] at this;exact this
       have hwx:IntKind.u64.wrap ((c:Int)+(lo:Int))=(x:Int):=u64_add hx (by rw [BB_val];omega)
       have hnl: ¬(k4:Int)<(k4:Int):=by omega
       have HXl:Hid (x≤4294967296):=by show _≤_;omega
       clear hlt hy0 hx hcl hlo hi
       by_cases hb:y0<x
       ·as_aux_lemma=>
        obtain⟨y1,hy1⟩: ∃q,y0+4294967296=q:=⟨_,rfl⟩
        obtain⟨dd,hdd⟩: ∃q,y1-x=q:=⟨_,rfl⟩
        have hbi:(y0:Int)<(x:Int):=by omega
        have hwy1:IntKind.u64.wrap ((y0:Int)+4294967296)=(y1:Int):=by
         rw [show (y0:Int)+4294967296=(y1:Int) by omega]
         exact u64_wrap (by rw [BB_val];omega)
        have hwdd:IntKind.u64.wrap ((y1:Int)-(x:Int))=(dd:Int):=by
         rw [show (y1:Int)-(x:Int)=(dd:Int) by have:=HXl.out;omega]
         exact u64_wrap (by rw [BB_val];omega)
        have HD1:Hid (R.DI us (us'.set i2 dd) (R.val vs) j k4 d 1):=by
         have h:=HM.out.ms.top (x:=x) (y:=dd) (b:=1) HLV.out HR0.out.li.ul (by rw [HI1.out];exact HJ2.out) HDl.out HLt6.out HVb.out HXe.out (by omega) (by rw [R.BB_val];omega) (by rw [HI1.out,HY0e.out,R.BB_val];have:=HXl.out;omega) HEst2.out
         rw [HI1.out] at h
         exact h
        have hdp:=HD1.out.pos
        have hdl:=HDl.out
        rw [R.BB_val] at hdl
        obtain⟨d1,hd1⟩: ∃q,d-1=q:=⟨_,rfl⟩
        have HD1e:=hid hd1
        have hwd:IntKind.u64.wrap ((d:Int)-1)=(d1:Int):=by
         rw [show (d:Int)-1=(d1:Int) by omega]
         exact u64_wrap (by rw [BB_val];omega)
        have HA0:Hid (RA w6 (wr.setCell ⟨g3,i2,none⟩ (.int .u64 (dd:Int))) g3 tl (us'.set i2 dd) (us'.set i2 dd) vs j 0 0):=⟨R.AS.start HD1.out.limb,uset HM.out.blk HJ2.out dd,HM.out.only.trans ((Only.refl [g3] wr).setCell (.inl (by simp)) _) (by simp)⟩
        obtain⟨um,hum⟩: ∃q,us'.set i2 dd=q:=⟨_,rfl⟩
        rw [hum] at HA0 HD1
        have HUm:Hid (um.length=lu1):=by show _=_;rw [← hum,List.length_set];exact HUl'.out
        clear hum hb hy1 hdd hdp hdl hd1 hy0l HM HUl' HYl HXl HXe HY0e HJ2
        go_wp2_with fail
        generalize wr.setCell ⟨g3,i2,none⟩ (.int .u64 (dd:Int))=w9 at*
        clear cu fu
        go_loopw [18,23] (fun cv iv wx=> ∃(i c:Nat) (us':List Nat),i≤k4∧cv= .int .u64 (c:Int)∧iv= .int .i64 (i:Int)∧RA w6 wx g3 tl um us' vs j i c) (fun _ iv _=>k4-(intOf iv).toNat)
        case atStart=>exact⟨0,0,um,Nat.zero_le _,rfl,rfl,HA0.out⟩
        case round=>
         obtain⟨i,c',us',hi,rfl,rfl,hA⟩:=hrel
         have HA:=hid hA
         have HUl':Hid (us'.length=lu1):=hA.st.len.trans HUm.out
         have hcl:=hA.st.cl
         clear hA HA0
         by_cases hlt:i<k4
         ·as_aux_lemma=>
          obtain⟨ji,hji⟩: ∃q,j+i=q:=⟨_,rfl⟩
          have e1:=HI1.out
          have hii:(i:Int)<(k4:Int):=by omega
          have jii:(j:Int)+(i:Int)=(ji:Int):=by omega
          have lji:(ji:Int)<(lu1:Int):=by omega
          have HJi:Hid (ji<us'.length):=by show _<_;rw [HUl'.out];omega
          obtain⟨cu,fu⟩:=ucell HA.out.blk HJi.out
          obtain⟨b',o',e6,hcv⟩:=HRV.out i (by rw [HLV.out];exact hlt)
          injection e6 with e6
          injection e6 with e7 e8 _
          subst e7 e8
          have cv:=HA.out.only.cell (HR0.out.only.cell hcv (by simpa using hvn)) (by simpa using hvn.1)
          have HYl:=hid (HA.out.st.limb.get ji)
          have HVl:=hid (HVb.out.get i)
          have HJie:=hid hji
          obtain⟨vi,hvi⟩: ∃q,vs[i]?.getD 0=q:=⟨_,rfl⟩
          obtain⟨y0,hy0⟩: ∃q,us'[ji]?.getD 0=q:=⟨_,rfl⟩
          rw [hvi] at cv HVl
          rw [hy0] at cu HYl
          have hy0l:y0<4294967296:=by have:=HYl.out;rw [R.BB_val] at this;exact this
          have hvil:vi<4294967296:=by have:=HVl.out;rw [R.BB_val] at this;exact this
          obtain⟨t0,ht0⟩: ∃q,c'+y0=q:=⟨_,rfl⟩
          obtain⟨t1,ht1⟩: ∃q,t0+vi=q:=⟨_,rfl⟩
          obtain⟨x0,hx0⟩: ∃q,t1%4294967296=q:=⟨_,rfl⟩
          obtain⟨c1,hc1⟩: ∃q,t1/4294967296=q:=⟨_,rfl⟩
          have hx0l:x0<4294967296:=by rw [← hx0];exact Nat.mod_lt _ (by decide)
          have hwt0:IntKind.u64.wrap ((c':Int)+(y0:Int))=(t0:Int):=u64_add ht0 (by rw [BB_val];omega)
          have hwt:IntKind.u64.wrap ((t0:Int)+(vi:Int))=(t1:Int):=u64_add ht1 (by rw [BB_val];omega)
          have hm1:(t1:Int)%4294967296=(x0:Int):=by omega
          have hm2:(t1:Int)/4294967296=(c1:Int):=by omega
          have hm3:(t1:Int).tmod 4294967296=(x0:Int):=by rw [Int.tmod_eq_emod_of_nonneg (by omega)];exact hm1
          have hm4:(t1:Int).tdiv 4294967296=(c1:Int):=by rw [Int.tdiv_eq_ediv_of_nonneg (by omega)];exact hm2
          have hwx0:IntKind.u64.wrap (x0:Int)=(x0:Int):=u64_wrap (by rw [BB_val];omega)
          have hwc1:IntKind.u64.wrap (c1:Int)=(c1:Int):=u64_wrap (by rw [BB_val];omega)
          have hB0:=uset HA.out.blk HJi.out x0
          have HS:Hid (RA w6 (wr.setCell ⟨g3,ji,none⟩ (.int .u64 (x0:Int))) g3 tl um (us'.set ji x0) vs j (i+1) c1):=by
           have hB1:=hB0
           have h:=HA.out.step (t:=t1) (by rw [HLV.out];exact hlt) (by rw [hji];exact HJi.out) HVb.out (by rw [hji,hy0,hvi,ht0];exact ht1) (by rw [hji,R.BB_val,hx0];exact hB1) ((Only.refl [g3] wr).setCell (.inl (by simp)) _)
           rw [hji,R.BB_val,hx0,hc1] at h
           exact h
          clear hvi hy0 hji ht0 ht1 hx0 hc1 hcv e1 hB0 hcl hy0l hvil hx0l
          go_upto_region 53 with fail
          go_quiet (fail)
          go_wp2_with fail
          go_roundw
          case rel=>exact⟨i+1,c1,_,by omega,rfl,by go_num,HS.out.drewN _⟩
          case measure=>simp [intOf];omega
         ·obtain rfl:k4=i:=by omega
          have HJ2:Hid (i2<us'.length):=by show _<_;rw [HUl'.out];omega
          obtain⟨cu,fu⟩:=ucell HA.out.blk HJ2.out
          have HYl:=hid (HA.out.st.limb.get i2)
          obtain⟨y0,hy0⟩: ∃q,us'[i2]?.getD 0=q:=⟨_,rfl⟩
          rw [hy0] at cu HYl
          have hy0l:y0<4294967296:=by have:=HYl.out;rw [R.BB_val] at this;exact this
          have hnl: ¬(k4:Int)<(k4:Int):=by omega
          obtain⟨t0,ht0⟩: ∃q,y0+c'=q:=⟨_,rfl⟩
          obtain⟨x0,hx0⟩: ∃q,t0%4294967296=q:=⟨_,rfl⟩
          have hwt0:IntKind.u64.wrap ((y0:Int)+(c':Int))=(t0:Int):=u64_add ht0 (by rw [BB_val];omega)
          have hm1:(t0:Int)%4294967296=(x0:Int):=by omega
          have hm3:(t0:Int).tmod 4294967296=(x0:Int):=by rw [Int.tmod_eq_emod_of_nonneg (by omega)];exact hm1
          have hwx0:IntKind.u64.wrap (x0:Int)=(x0:Int):=u64_wrap (by rw [BB_val];omega)
          have HD0:Hid (R.DI us (us'.set i2 x0) (R.val vs) j k4 d1 0):=by
           have h:=HA.out.st.top HD1.out HLV.out (by rw [HI1.out];exact HJ2.out) HUp2.out
           rw [HI1.out,hy0,ht0,R.BB_val,hx0,HD1e.out] at h
           exact h
          have hB0:=uset HA.out.blk HJ2.out x0
          have hO0:=HA.out.only.trans ((Only.refl [g3] wr).setCell (p:=⟨g3,i2,none⟩) (.inl (by simp)) (.int .u64 (x0:Int))) (by simp)
          obtain⟨hst,⟨q0,cq⟩,fq⟩:=HR0.out.step (d:=d1) HGne.out hO0 hB0 (HVv.out▸HD0.out) (by omega)
          have HFin:=hid hst
          clear hst hB0 hO0 hlt hy0 ht0 hx0 hcl hy0l hi
          go_wp2_with fail
          go_roundw
          case rel=>exact⟨j,_,_,by omega,rfl,HFin.out⟩
          case measure=>simp [intOf]
       ·as_aux_lemma=>
        obtain⟨dd,hdd⟩: ∃q,y0-x=q:=⟨_,rfl⟩
        have hbi: ¬(y0:Int)<(x:Int):=by omega
        have hwdd:IntKind.u64.wrap ((y0:Int)-(x:Int))=(dd:Int):=by
         rw [show (y0:Int)-(x:Int)=(dd:Int) by omega]
         exact u64_wrap (by rw [BB_val];omega)
        have HD0:Hid (R.DI us (us'.set i2 dd) (R.val vs) j k4 d 0):=by
         have h:=HM.out.ms.top (x:=x) (y:=dd) (b:=0) HLV.out HR0.out.li.ul (by rw [HI1.out];exact HJ2.out) HDl.out HLt6.out HVb.out HXe.out (by omega) (by rw [R.BB_val];omega) (by rw [HI1.out,HY0e.out,R.BB_val];omega) HEst2.out
         rw [HI1.out] at h
         exact h
        have hB0:=uset HM.out.blk HJ2.out dd
        have hO0:=HM.out.only.trans ((Only.refl [g3] wr).setCell (p:=⟨g3,i2,none⟩) (.inl (by simp)) (.int .u64 (dd:Int))) (by simp)
        obtain⟨hst,⟨q0,cq⟩,fq⟩:=HR0.out.step (d:=d) HGne.out hO0 hB0 (HVv.out▸HD0.out) (by omega)
        have HFin:=hid hst
        clear hst hB0 hO0 hb hdd hy0l
        go_wp2_with fail
        go_roundw
        case rel=>exact⟨j,_,_,by omega,rfl,HFin.out⟩
        case measure=>simp [intOf]
end Go.Proofs.YtigpnopeacicpaaGreatDoor
