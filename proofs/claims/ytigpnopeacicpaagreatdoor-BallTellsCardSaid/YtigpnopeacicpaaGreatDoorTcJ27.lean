/-
  Joined texts.
-/
import Derived.Test.YtigpnopeacicpaaGreatDoorTcRDiv
import Derived.ArgAppend
namespace Go.Proofs.YtigpnopeacicpaaGreatDoor
open Go.Lib (hid)
open Go.RowKit
def RDPost (a b:Nat) (w:World) (e:Ending) (w':World):Prop:=
 ∃A k c A' k' c',e= .returned (.tuple #[.slice A k c,.slice A' k' c'])∧RV w' (.slice A k c) (a/b)∧RV w' (.slice A' k' c') (a%b)∧(∀ x,A=some x→w.heap.size≤x.block)∧Only [] w w'
set_option maxHeartbeats 800000 in
set_option maxRecDepth 100000 in
theorem rdivmod_lt {w:World} {a b:Value} {m n:Nat} (ha:Hid (RV w a m)) (hb:Hid (RV w b n)) (hfa:Hid (Few m)) (hfb:Hid (Few n)) (hlt:Hid (m<n)):Calls Tryz.prog 90 #[a,b] w (RDPost m n w):=by
 have hr:=rcmp_v ha hb hfa hfb
 obtain⟨A,c,rfl,h1,h2⟩:=ha.out
 obtain⟨B,d,rfl,k1,k2⟩:=hb.out
 rw [cmp_le hlt.out] at hr
 have HR:=hid hr
 have HA:=hid h1
 have HC:=hid h2
 clear h1 h2 k1 k2 hr hb
 have hq:Hid (m/n=0):=Nat.div_eq_of_lt hlt.out
 have hm:Hid (m%n=m):=Nat.mod_eq_of_lt hlt.out
 generalize (R.limbsOf n).length=ln at*
 obtain⟨lm,hlm⟩: ∃lm,(R.limbsOf m).length=lm:=⟨_,rfl⟩
 have HM:=hid hlm
 rw [hlm] at HR
 rw [hlm]
 clear hlm
 go_enter Tryz.func90,Tryz.ntmps90
 go_wp2_with fail
 refine HR.out.mono ?_
 rintro e w1 ⟨rfl,ho⟩
 have HO:=hid ho
 clear ho
 go_wp2_with fail
 go_ret2
 refine⟨none,0,0,A,lm,c,rfl,?_,?_,(fun x hx=>by cases hx),HO.out⟩
 ·rw [hq.out];exact RV.nil _
 ·rw [hm.out,←HM.out];exact⟨A,c,rfl,HA.out.only HO.out,HC.out⟩
structure ZCar (wm wr:World) (g y:Nat) (xs zs:List Nat) (k rest:Nat):Prop where
 blk:Blk wr g 133 (limbV zs)
 limb:R.Limb zs
 len:zs.length=xs.length
 val_:R.val (xs.drop k)=y*R.val (zs.drop k)+rest
 lt:rest<y
 only:Only [g] wm wr
theorem ZCar.step {wm wr wd:World} {g y:Nat} {xs zs:List Nat} {j rest:Nat} (h:ZCar wm wr g y xs zs (j+1) rest) (hj:j<xs.length) (hx:R.Limb xs) (q r:Nat) (hq:(rest*R.BB+xs[j]?.getD 0)/y=q) (hr:(rest*R.BB+xs[j]?.getD 0)%y=r)
  (hb:Blk wd g 133 ((limbV zs).set j (.int .u64 (q:Int)))) (ho:Only [g] wr wd):ZCar wm wd g y xs (zs.set j q) j r:=by
 subst hq hr
 have hy:0<y:=by have:=h.lt;omega
 have hq:(rest*R.BB+xs[j]?.getD 0)/y<R.BB:=by
  rw [Nat.div_lt_iff_lt_mul hy]
  have h1:=Nat.mul_le_mul_right R.BB (show rest+1≤y from h.lt)
  rw [Nat.succ_mul,Nat.mul_comm y] at h1
  have:=hx.get j
  omega
 have hlen:=h.len
 refine⟨?_,h.limb.set _ _ hq,by rw [List.length_set,hlen],?_,Nat.mod_lt _ hy,h.only.trans ho (by simp)⟩
 ·rw [← limbV_set]
  exact hb
 ·have h1:=Nat.div_add_mod (rest*R.BB+xs[j]?.getD 0) y
  rw [R.val_drop_cons xs j hj,R.val_drop_cons _ j (by rw [List.length_set];omega),set_get_eq (by omega),List.drop_set_of_lt (by omega),h.val_]
  rw [Nat.mul_add,Nat.mul_add,Nat.mul_left_comm R.BB y,Nat.mul_comm R.BB rest]
  omega
theorem ZCar.bound {y rest x:Nat} (hr:rest<y) (hy:y<R.BB) (hx:x<R.BB):rest*4294967296<18446744073709551616∧rest*4294967296+x<18446744073709551616:=by
 rw [R.BB_val] at*
 omega
set_option maxHeartbeats 1600000 in
set_option maxRecDepth 100000 in
theorem rdivmod_one {w:World} {a b:Value} {m n:Nat} (ha:Hid (RV w a m)) (hb:Hid (RV w b n)) (hfa:Hid (Few m)) (hfb:Hid (Few n)) (hlt:Hid (n≤m)) (h1:Hid ((R.limbsOf n).length=1)):Calls Tryz.prog 90 #[a,b] w (RDPost m n w):=by
 have hr:=rcmp_v ha hb hfa hfb
 have hla:=hfa.out.digits
 obtain⟨A,c,rfl,p1,p2⟩:=ha.out
 obtain⟨B,d,rfl,k1,k2⟩:=hb.out
 have hY:R.limbsOf n=[n]∧0<n∧n<R.BB:=by
  have hv:=R.val_limbsOf n
  have hlm:=R.limb_limbsOf n
  have hc:=R.canon_limbsOf n
  rcases hz:R.limbsOf n with _|⟨y,_|⟨y2,t⟩⟩
  ·have h:=h1.out
   rw [hz] at h
   simp at h
  ·rw [hz] at hv hlm hc
   simp only [R.val,Nat.mul_zero,Nat.add_zero] at hv
   subst hv
   have h:=hc (by simp)
   simp at h
   exact⟨rfl,by omega,hlm y (by simp)⟩
  ·have h:=h1.out
   rw [hz] at h
   simp at h
 obtain⟨y1,y2,y3⟩:=hY
 have HY:=hid y2
 have HYb:=hid y3
 obtain⟨bb,bo,rfl,e2⟩:=k1 0 (by rw [y1];simp)
 rw [y1] at e2
 simp only [List.getElem?_cons_zero,Option.getD_some,Nat.add_zero] at e2
 have HA:=hid p1
 have HB:=hid e2
 have hz0: ¬(cmpZ m n<0):=by have:=hlt.out;unfold cmpZ;split<;>(try split)<;>omega
 rw [h1.out] at hr ⊢
 have HR:=hid hr
 clear hr p1 p2 k1 k2 y1 y2 y3 e2 ha hb h1
 generalize cmpZ m n=z at*
 have HLx:=hid (R.limb_limbsOf m)
 have HVx:Hid (R.val (R.limbsOf m)=m):=R.val_limbsOf m
 generalize R.limbsOf m=xs at HA HR HLx HVx hla ⊢
 obtain⟨lm,hlm⟩: ∃lm,xs.length=lm:=⟨_,rfl⟩
 have HM:=hid hlm
 rw [hlm] at HR hla
 rw [hlm]
 clear hlm
 go_enter Tryz.func90,Tryz.ntmps90
 go_wp2_with fail
 refine HR.out.mono ?_
 rintro e w1 ⟨rfl,ho⟩
 obtain⟨w2,hmk,hb1,ho1,hs1⟩:=make_limbs 36 Tryz.underlying36 w1 lm (by omega)
 have HO:=hid (ho.trans ho1 (by simp))
 have HS:Hid (w.heap.size≤w1.heap.size):=ho.size
 have HS1:=hid hs1
 have HStart:Hid (ZCar w2 w2 w1.heap.size n xs (List.replicate lm 0) lm 0):=⟨hb1,R.Limb.zeros _,by rw [List.length_replicate];exact HM.out.symm,by rw [← HM.out,List.drop_length,HM.out,List.drop_of_length_le (by simp)];simp [R.val],HY.out,Only.refl _ _⟩
 have hg:bb≠w1.heap.size:=by
  have:=World.block_lt_of_cell? w _ HB.out
  have:=HS.out
  simp only at*
  omega
 have HB2:Hid (w2.cell? ⟨bb,bo,none⟩=some (.int .u64 (n:Int))):=HO.out.cell HB.out (by simp)
 have HA2:Hid (LRead w2 A xs):=HA.out.only HO.out
 have HAn:Hid (∀ j b' o',A=some ⟨b',o',none⟩→j<xs.length→b'≠w1.heap.size):=by
  intro j b' o' e hj
  obtain⟨b2,o2,e2,hc2⟩:=HA.out j hj
  rw [e2] at e
  injection e with e
  injection e with e _ _
  subst e
  have:=World.block_lt_of_cell? w _ hc2
  have:=HS.out
  simp only at*
  omega
 clear ho ho1 hb1 hs1 HR HB HA
 generalize w1.heap.size=g at*
 go_wp2_with fail
 go_loopw [7,8] (fun rv iv wr=> ∃(k rest:Nat) (zs:List Nat),k≤lm∧rv= .int .u64 (rest:Int)∧iv= .int .i64 ((k:Int)-1)∧ZCar w2 wr g n xs zs k rest) (fun _ iv _=>(intOf iv+1).toNat)
 case atStart=>exact⟨lm,0,_,Nat.le_refl _,rfl,rfl,HStart.out⟩
 case round=>
  obtain⟨k,rest,zs,hk,rfl,rfl,hR⟩:=hrel
  have HR:=hid hR
  clear hR HStart
  rcases k with _|j
  ·have HV:Hid (m=n*R.val zs+rest):=by
    have h:=HR.out.val_
    simp only [List.drop_zero] at h
    rw [HVx.out] at h
    exact h
   have hd1:Hid (R.val zs=m/n):=by
    show _=_
    rw [HV.out,Nat.mul_add_div HY.out,Nat.div_eq_of_lt HR.out.lt,Nat.add_zero]
   have hd2:Hid (rest=m%n):=by
    show _=_
    rw [HV.out,Nat.mul_add_mod,Nat.mod_eq_of_lt HR.out.lt]
   have HLz:=hid (HR.out.len.trans HM.out)
   have HRd:Hid (LRead wr (some ⟨g,0,none⟩) zs):=by
    have h:=LRead.of_tl (tl:=[]) (by rw [List.append_nil];exact HR.out.blk)
    exact h
   have htr:=rtrim_any (some ⟨g,0,none⟩) lm lm zs wr HRd (hid HR.out.limb) (hid HLz.out.symm) (Nat.le_refl _) (by omega)
   rw [hd1.out] at htr
   have HTr:=hid htr
   have HRl:Hid (rest<BB):=by
    have h2:=HR.out.lt
    have h3:=HYb.out
    have h4:=R.BB_pos
    have h5:=Nat.le_mul_of_pos_left R.BB h4
    rw [← R.bb_sq] at h5
    show _<_
    omega
   have HRv:Hid (RV wr (.slice (some ⟨g,0,none⟩) (R.limbsOf (m/n)).length (R.limbsOf (m/n)).length) (m/n)):=by
    have h2:=RV.of_row HRd.out HR.out.limb
    rw [hd1.out] at h2
    exact⟨_,_,rfl,h2,Nat.le_refl _⟩
   have hi:((0:Nat):Int)-1= -1:=rfl
   rw [hi]
   clear hi htr
   go_wp2_with fail
   refine HTr.out.mono ?_
   rintro e w' ⟨rfl,rfl⟩
   go_wp2_with fail
   refine (rsmall_any rest wr HRl).mono ?_
   rintro e w3 ⟨A3,k3,c3,rfl,hv3,-,ho3⟩
   have HV3:=hid hv3
   have HO3:=hid ho3
   clear hv3 ho3
   go_wp2_with fail
   go_ret2
   refine⟨_,_,_,_,_,_,rfl,HRv.out.only HO3.out,?_,fun x hx=>?_,?_⟩
   ·rw [← hd2.out];exact HV3.out
   ·injection hx with hx
    subst hx
    exact HS.out
   ·exact (HO.out.trans HR.out.only (fun x hx=> .inr (by simp at hx;rw [hx];exact HS.out))).trans HO3.out (by simp)
  ·have hi:((j+1:Nat):Int)-1=(j:Int):=by omega
   rw [hi]
   clear hi
   have HJ:Hid (j<xs.length):=by have:=HM.out;show _<_;omega
   obtain⟨b',o',rfl,c1⟩:=HA2.out j HJ.out
   have hbg:=HAn.out j b' o' rfl HJ.out
   have c2:=HR.out.only.cell c1 (by simpa using hbg)
   have c3:=HR.out.only.cell HB2.out (by simpa using hg)
   have hji:(j:Int)<(lm:Int):=by omega
   have HX:=hid (HLx.out.get j)
   obtain⟨x,hx⟩: ∃x,xs[j]?.getD 0=x:=⟨_,rfl⟩
   rw [hx] at c2 HX
   obtain⟨q1,q2⟩:=ZCar.bound HR.out.lt HYb.out HX.out
   obtain⟨t0,ht0⟩: ∃t0,rest*4294967296=t0:=⟨_,rfl⟩
   obtain⟨t,ht⟩: ∃t,t0+x=t:=⟨_,rfl⟩
   rw [ht0] at q1 q2
   rw [ht] at q2
   have hw1:IntKind.u64.wrap ((rest:Int)*4294967296)=(t0:Int):=by
    rw [show (rest:Int)*4294967296=(t0:Int) by omega]
    exact u64_wrap (by rw [BB_val];exact q1)
   have hw2:IntKind.u64.wrap ((t0:Int)+(x:Int))=(t:Int):=u64_add ht (by rw [BB_val];exact q2)
   have hnz:(n:Int)≠0:=by have:=HY.out;omega
   obtain⟨q,hq⟩: ∃q,t/n=q:=⟨_,rfl⟩
   obtain⟨r,hr⟩: ∃r,t%n=r:=⟨_,rfl⟩
   have hq1:(t:Int).tdiv (n:Int)=(q:Int):=by rw [← hq];rfl
   have hq2:(t:Int)/(n:Int)=(q:Int):=by rw [← hq];rfl
   have hr1:(t:Int).tmod (n:Int)=(r:Int):=by rw [← hr];rfl
   have hr2:(t:Int)%(n:Int)=(r:Int):=by rw [← hr];rfl
   have hql:q≤t:=by rw [← hq];exact Nat.div_le_self _ _
   have hrl:r≤t:=by rw [← hr];exact Nat.mod_le _ _
   have hw3:IntKind.u64.wrap (q:Int)=(q:Int):=u64_wrap (by rw [BB_val];omega)
   have hw4:IntKind.u64.wrap (r:Int)=(r:Int):=u64_wrap (by rw [BB_val];omega)
   have hB2:=HR.out.blk.set_ j (.int .u64 (q:Int))
   have c4:=HR.out.blk.cell j
   rw [limbV_get _ _ (by rw [HR.out.len];exact HJ.out)] at c4
   have f4:=HR.out.blk.frozen j
   have c5:=((Only.refl [g] wr).setCell (p:=⟨g,j,none⟩) (.inl (by simp)) (.int .u64 (q:Int))).cell c3 (by simpa using hg)
   have HS2:=hid (HR.out.step HJ.out HLx.out q r (by rw [hx,R.BB_val,ht0,ht,hq]) (by rw [hx,R.BB_val,ht0,ht,hr]) hB2 ((Only.refl [g] wr).setCell (.inl (by simp)) _))
   clear hB2 hx ht0 ht hq hr q1 q2 hql hrl c1
   go_wp2_with fail
   go_roundw
   case rel=>exact⟨j,_,_,by omega,rfl,rfl,HS2.out⟩
   case measure=>simp [intOf]
end Go.Proofs.YtigpnopeacicpaaGreatDoor
namespace Go.Proofs.YtigpnopeacicpaaGreatDoor
namespace R
structure GS (u2 u1 u0 v1 v0 d r:Nat):Prop where
 eq:d*v1+r=u2*BB+u1
 ge:(u2*BB+u1)*BB+u0<(d+1)*(v1*BB+v0)∨BB-1≤d
 v1l:0<v1
 u2l:u2≤v1
 u1l:u1<BB
 u0l:u0<BB
 v1b:v1<BB
 v0b:v0<BB
theorem GS.start {u2 u1 u0 v1 v0:Nat} (h1:0<v1) (h2:u2≤v1) (h3:u1<BB) (h4:u0<BB) (h5:v1<BB) (h6:v0<BB):GS u2 u1 u0 v1 v0 ((u2*BB+u1)/v1) ((u2*BB+u1)%v1):=by
 refine⟨?_,.inl ?_,h1,h2,h3,h4,h5,h6⟩
 ·have:=Nat.div_add_mod (u2*BB+u1) v1
  rw [Nat.mul_comm] at this
  exact this
 ·have h7:=Nat.lt_div_mul_add (a:=u2*BB+u1) h1
  have h8:u2*BB+u1+1≤((u2*BB+u1)/v1+1)*v1:=by rw [Nat.add_mul,Nat.one_mul];omega
  have h9:=Nat.mul_le_mul_right BB h8
  rw [Nat.add_mul (u2*BB+u1),Nat.one_mul] at h9
  have h10:((u2*BB+u1)/v1+1)*(v1*BB+v0)=((u2*BB+u1)/v1+1)*v1*BB+((u2*BB+u1)/v1+1)*v0:=by rw [Nat.mul_add,Nat.mul_assoc]
  omega
theorem GS.pos {u0 v0 d r:Nat} (hc:BB≤d∨r*BB+u0<d*v0):0<d:=by
 rcases hc with h|h
 ·have:=BB_pos;omega
 ·rcases Nat.eq_zero_or_pos d with h0|h0
  ·rw [h0,Nat.zero_mul] at h;omega
  ·exact h0
theorem GS.lower {u2 u1 u0 v1 v0 d r:Nat} (h:GS u2 u1 u0 v1 v0 d r) (hc:BB≤d∨r*BB+u0<d*v0):GS u2 u1 u0 v1 v0 (d-1) (r+v1):=by
 have hp:0<d:=by
  rcases hc with h|h
  ·have:=BB_pos;omega
  ·rcases Nat.eq_zero_or_pos d with h0|h0
   ·rw [h0,Nat.zero_mul] at h;omega
   ·exact h0
 obtain⟨k,rfl⟩: ∃k,d=k+1:=⟨d-1,by omega⟩
 rw [Nat.add_sub_cancel]
 have he:=h.eq
 refine⟨by rw [Nat.add_mul,Nat.one_mul] at he;omega,?_,h.v1l,h.u2l,h.u1l,h.u0l,h.v1b,h.v0b⟩
 rcases hc with h1|h1
 ·right;omega
 ·left
  have h6:=congrArg (· *BB) he
  simp only [Nat.add_mul _ _ BB] at h6
  have h7:(k+1)*(v1*BB+v0)=(k+1)*v1*BB+(k+1)*v0:=by rw [Nat.mul_add,Nat.mul_assoc]
  rw [Nat.add_mul _ _ BB]
  omega
theorem GS.brk {u2 u1 u0 v1 v0 d r:Nat} (h:GS u2 u1 u0 v1 v0 d r) (hr:BB≤r):d<BB∧d*v0≤r*BB+u0:=by
 have h1:=h.eq
 have h2:=Nat.mul_le_mul_right BB h.u2l
 have h3:=h.u1l
 have h4:d*v1<BB*v1:=by rw [Nat.mul_comm BB v1];omega
 have h5:=Nat.lt_of_mul_lt_mul_right h4
 refine⟨h5,?_⟩
 have h6:=Nat.mul_le_mul (Nat.le_of_lt h5) (Nat.le_of_lt h.v0b)
 have h7:=Nat.mul_le_mul_right BB hr
 omega
theorem GS.done {u2 u1 u0 v1 v0 d r:Nat} (h:GS u2 u1 u0 v1 v0 d r) (hd:d<BB) (hl:d*v0≤r*BB+u0):EstOk u2 u1 u0 v1 v0 d∧d*(v1*BB+v0)≤(u2*BB+u1)*BB+u0:=by
 refine⟨⟨hd,?_⟩,?_⟩
 ·rcases h.ge with h1|h1
  ·exact .inr h1
  ·left;omega
 ·rw [← h.eq,Nat.mul_add,←Nat.mul_assoc,Nat.add_mul]
  omega
theorem est_le {us vs:List Nat} {j n d:Nat} (hvl:Limb vs) (hn:2≤n) (hv:vs.length=n) (hl:j+n<us.length) (h0:0<vs[n-1]?.getD 0) (hd:d<BB)
  (h:d*(vs[n-1]?.getD 0*BB+vs[n-2]?.getD 0)≤(us[j+n]?.getD 0*BB+us[j+n-1]?.getD 0)*BB+us[j+n-2]?.getD 0):BB^j*((d-1)*val vs)≤val us:=by
 obtain⟨m,rfl⟩: ∃m,n=m+2:=⟨n-2,by omega⟩
 rw [show j+(m+2)-1=j+m+1 by omega,show j+(m+2)-2=j+m by omega,show m+2-1=m+1 by omega,show m+2-2=m by omega,show j+(m+2)=j+m+2 by omega] at h
 rw [show j+(m+2)=j+m+2 by omega] at hl
 rw [show m+2-1=m+1 by omega] at h0
 have c1:=val_take_succ us (j+m) (by omega)
 have c2:val (us.take (j+m+2))=val (us.take (j+m+1))+BB^(j+m+1)*(us[j+m+1]?.getD 0):=val_take_succ us (j+m+1) (by omega)
 have c3:val (us.take (j+m+3))=val (us.take (j+m+2))+BB^(j+m+2)*(us[j+m+2]?.getD 0):=val_take_succ us (j+m+2) (by omega)
 have c4:=val_take_drop us (j+m+3) (by omega)
 have cV0:=val_take_succ vs m (by omega)
 have cV1:=val_take_succ vs (m+1) (by omega)
 have hva:val (vs.take (m+1+1))=val vs:=by rw [show m+1+1=vs.length by omega,List.take_length]
 rw [hva] at cV1
 have c0:=val_lt (hvl.take m)
 rw [List.length_take,Nat.min_eq_left (by omega)] at c0
 generalize us[j+m+2]?.getD 0=u2 at*
 generalize us[j+m+1]?.getD 0=u1 at*
 generalize us[j+m]?.getD 0=u0 at*
 generalize vs[m+1]?.getD 0=v1 at*
 generalize vs[m]?.getD 0=v0 at*
 have e1:BB^(j+m+1)=BB^(j+m)*BB:=Nat.pow_succ ..
 have e2:BB^(j+m+2)=BB^(j+m)*(BB*BB):=by rw [Nat.pow_succ,Nat.pow_succ,Nat.mul_assoc]
 have hU:BB^(j+m)*((u2*BB+u1)*BB+u0)≤val us:=by
  have:BB^(j+m)*((u2*BB+u1)*BB+u0)=BB^(j+m)*(BB*BB)*u2+BB^(j+m)*BB*u1+BB^(j+m)*u0:=by
   simp only [Nat.mul_add,Nat.add_mul]
   simp only [Nat.mul_assoc,Nat.mul_comm u2,Nat.mul_comm u1]
  rw [this,←e1,←e2]
  omega
 have hV:val vs=BB^m*(v1*BB+v0)+val (vs.take m):=by
  have:BB^m*(v1*BB+v0)=BB^(m+1)*v1+BB^m*v0:=by
   rw [Nat.mul_add,Nat.pow_succ,Nat.mul_assoc,Nat.mul_comm BB v1]
  omega
 have hV1:BB^m*BB≤val vs:=by
  have h1:BB^m*BB*1≤BB^m*BB*v1:=Nat.mul_le_mul_left _ h0
  rw [Nat.mul_one] at h1
  have h2:BB^(m+1)=BB^m*BB:=Nat.pow_succ ..
  rw [h2] at cV1
  omega
 have hW:(d-1)*val vs≤BB^m*((u2*BB+u1)*BB+u0):=by
  rcases Nat.eq_zero_or_pos d with hz|hz
  ·rw [hz];simp
  ·have h1:(d-1)*val vs+val vs=d*val vs:=by
    obtain⟨k,rfl⟩: ∃k,d=k+1:=⟨d-1,by omega⟩
    rw [Nat.add_sub_cancel,Nat.add_mul,Nat.one_mul]
   have h2:d*val vs=BB^m*(d*(v1*BB+v0))+d*val (vs.take m):=by
    conv=>lhs;rw [hV]
    rw [Nat.mul_add,Nat.mul_left_comm]
   have h3:=Nat.mul_le_mul_left (BB^m) h
   have h4:d*val (vs.take m)≤BB*BB^m:=Nat.mul_le_mul (Nat.le_of_lt hd) (Nat.le_of_lt c0)
   rw [Nat.mul_comm BB] at h4
   omega
 have h9:=Nat.mul_le_mul_left (BB^j) hW
 rw [← Nat.mul_assoc (BB^j) (BB^m),←Nat.pow_add] at h9
 omega
structure MS (us us' vs:List Nat) (j d i c lo:Nat):Prop where
 limb:Limb us'
 len:us'.length=us.length
 high: ∀k,j+i≤k→us'[k]?.getD 0=us[k]?.getD 0
 cl:c<BB
 lol:lo≤1
 eq:val us'+BB^j*(d*val (vs.take i))=val us+BB^(j+i)*(c+lo)
theorem MS.start {us vs:List Nat} {j d:Nat} (hu:Limb us):MS us us vs j d 0 0 0:=⟨hu,rfl,fun _ _=>rfl,BB_pos,by omega,by simp [val]⟩
theorem set_ne {zs:List Nat} {i j v:Nat} (h:i≠j):(zs.set i v)[j]?.getD 0=zs[j]?.getD 0:=Go.Proofs.YtigpnopeacicpaaGreatDoor.set_get_ne h
theorem MS.bound {us us' vs:List Nat} {j d i c lo:Nat} (h:MS us us' vs j d i c lo) (hd:d<BB) (hv:Limb vs):c+d*(vs[i]?.getD 0)<BB*BB:=by
 have h1:=h.cl
 have h2:=Nat.mul_le_mul (show d≤BB-1 by omega) (show vs[i]?.getD 0≤BB-1 by have:=hv.get i;omega)
 obtain⟨k,hk⟩: ∃k,BB=k+1:=⟨BB-1,by omega⟩
 rw [hk] at h1 h2 ⊢
 rw [Nat.add_sub_cancel] at h2
 rw [Nat.add_mul,Nat.mul_add]
 omega
theorem MS.step {us us' vs:List Nat} {j d i c lo t y lo':Nat} (h:MS us us' vs j d i c lo) (hi:i<vs.length) (hj:j+i<us'.length) (hd:d<BB) (hv:Limb vs) (ht:c+d*(vs[i]?.getD 0)=t) (hl:lo'≤1) (hy:y<BB) (he:y+(t%BB+lo)=us'[j+i]?.getD 0+BB*lo'):
  MS us (us'.set (j+i) y) vs j d (i+1) (t/BB) lo':=by
 have hb:=h.bound hd hv
 rw [ht] at hb
 refine⟨h.limb.set _ _ hy,by rw [List.length_set,h.len],fun k hk=>by rw [set_ne (by omega)];exact h.high k (by omega),by rwa [Nat.div_lt_iff_lt_mul BB_pos],hl,?_⟩
 have h1:=sub_step (zs:=us') (i:=j+i) (v:=t%BB+lo) (b:=0) (d:=y) (b':=lo') hj (by omega)
 have h2:=h.eq
 have h3:=Nat.div_add_mod t BB
 rw [val_take_succ vs i hi,←Nat.add_assoc j i 1,Nat.pow_succ,Nat.mul_assoc (BB^(j+i)) BB]
 have h4:BB^j*(d*(val (vs.take i)+BB^i*vs[i]?.getD 0))=BB^j*(d*val (vs.take i))+BB^(j+i)*(d*vs[i]?.getD 0):=by
  rw [Nat.mul_add,Nat.mul_add,Nat.pow_add,Nat.mul_left_comm d,Nat.mul_assoc]
 rw [h4]
 rw [Nat.pow_succ,Nat.mul_assoc (BB^(j+i)) BB,Nat.mul_zero,Nat.add_zero] at h1
 have h5:=congrArg (fun z=>BB^(j+i)*z) ht
 have h6:=congrArg (fun z=>BB^(j+i)*z) h3
 simp only [Nat.mul_add] at h1 h2 h5 h6 ⊢
 omega
theorem MS.top {us us' vs:List Nat} {j d n c lo x y b:Nat} (h:MS us us' vs j d n c lo) (hn:vs.length=n) (hu:Limb us) (hj:j+n<us'.length) (hd:d<BB) (hw:val us<BB^(j+1)*val vs) (hvl:Limb vs) (hx:c+lo=x) (hb:b≤1) (hy:y<BB) (he:y+x=us'[j+n]?.getD 0+BB*b)
  (hest:val us<BB^j*((d+1)*val vs)):DI us (us'.set (j+n) y) (val vs) j n d b:=by
 have h1:=sub_step (zs:=us') (i:=j+n) (v:=x) (b:=0) (d:=y) (b':=b) hj (by omega)
 have h2:=h.eq
 rw [show vs.take n=vs by rw [← hn,List.take_length],hx] at h2
 have hlim:=h.limb.set (j+n) y hy
 refine⟨hlim,by rw [List.length_set,h.len],by rw [Nat.mul_zero,Nat.add_zero] at h1;omega,?_,hest,hd,hb⟩
 exact high_bound hu hlim (by rw [List.length_set,h.len]) (by rw [← h.len];omega) (fun k hk=>by rw [set_ne (by omega)];exact h.high k (by omega)) (long_bound hvl hn hw)
structure AS (us us' vs:List Nat) (j i c:Nat):Prop where
 limb:Limb us'
 len:us'.length=us.length
 high: ∀k,j+i≤k→us'[k]?.getD 0=us[k]?.getD 0
 cl:c≤1
 eq:val us'+BB^(j+i)*c=val us+BB^j*val (vs.take i)
theorem AS.start {us vs:List Nat} {j:Nat} (hu:Limb us):AS us us vs j 0 0:=⟨hu,rfl,fun _ _=>rfl,by omega,by simp [val]⟩
theorem AS.step {us us' vs:List Nat} {j i c t:Nat} (h:AS us us' vs j i c) (hi:i<vs.length) (hj:j+i<us'.length) (hv:Limb vs) (ht:c+us'[j+i]?.getD 0+vs[i]?.getD 0=t):AS us (us'.set (j+i) (t%BB)) vs j (i+1) (t/BB):=by
 have h0:=h.cl
 have hp:=BB_pos
 have h8:=h.limb.get (j+i)
 have h9:=hv.get i
 refine⟨h.limb.set _ _ (Nat.mod_lt _ hp),by rw [List.length_set,h.len],fun k hk=>by rw [set_ne (by omega)];exact h.high k (by omega),?_,?_⟩
 ·have:t/BB<2:=by rw [Nat.div_lt_iff_lt_mul hp];omega
  omega
 ·have h1:=add_step (zs:=us') (i:=j+i) (v:=vs[i]?.getD 0) (c:=c) (lo:=t%BB) (hi:=t/BB) hj (by have:=Nat.mod_add_div t BB;omega)
  have h2:=h.eq
  rw [val_take_succ vs i hi,Nat.mul_add,←Nat.mul_assoc,←Nat.pow_add,←Nat.add_assoc j i 1]
  omega
theorem AS.top {us u1 us' vs:List Nat} {j n d c:Nat} (h:AS u1 us' vs j n c) (hD:DI us u1 (val vs) j n d 1) (hn:vs.length=n) (hj:j+n<us'.length) (hup:BB^j*((d-1)*val vs)≤val us):DI us (us'.set (j+n) ((us'[j+n]?.getD 0+c)%BB)) (val vs) j n (d-1) 0:=by
 have hp:=BB_pos
 have h1:=add_step (zs:=us') (i:=j+n) (v:=0) (c:=c) (lo:=(us'[j+n]?.getD 0+c)%BB) (hi:=(us'[j+n]?.getD 0+c)/BB) hj (by have:=Nat.mod_add_div (us'[j+n]?.getD 0+c) BB;omega)
 have h2:=h.eq
 rw [show vs.take n=vs by rw [← hn,List.take_length]] at h2
 have hlim:=h.limb.set (j+n) ((us'[j+n]?.getD 0+c)%BB) (Nat.mod_lt _ hp)
 have hcy:(us'[j+n]?.getD 0+c)/BB≤1:=by
  have:=h.limb.get (j+n)
  have:=h.cl
  have:(us'[j+n]?.getD 0+c)/BB<2:=by rw [Nat.div_lt_iff_lt_mul hp];omega
  omega
 have hst:=hD.step hlim (by rw [List.length_set,h.len]) (by rw [← h.len];omega) (fun k hk=>by rw [set_ne (by omega)];exact h.high k (by omega)) hcy (by rw [Nat.mul_zero,Nat.add_zero] at h1;omega)
 rcases Nat.lt_or_ge 0 ((us'[j+n]?.getD 0+c)/BB) with h3|h3
 ·rwa [Nat.le_antisymm hcy h3] at hst
 ·rw [Nat.le_zero.1 h3] at hst
  have h4:=hst.eq
  have h5:=hst.lt
  omega
end R
end Go.Proofs.YtigpnopeacicpaaGreatDoor
namespace Go.Proofs.YtigpnopeacicpaaGreatDoor
open Go.RowKit
theorem norm_s {n:Nat} (h:1≤(R.limbsOf n).length): ∃s,s<32∧((bitsN n%32=0∧s=0)∨(bitsN n%32≠0∧s=32-bitsN n%32))∧(R.limbsOf (n*2^s)).length=(R.limbsOf n).length∧R.BB^((R.limbsOf n).length-1)*2^s≤n*2^s:=by
 have hl:=R.limb_limbsOf n
 have hc:=R.canon_limbsOf n
 have hv:=R.val_limbsOf n
 generalize R.limbsOf n=ys at*
 obtain⟨k,hk⟩: ∃k,ys.length=k+1:=⟨ys.length-1,by omega⟩
 have ht:ys[k]?.getD 0≠0:=by
  have h:=hc (by omega)
  rw [List.getElem?_eq_getElem (by omega)]
  simpa [hk] using h
 have hb:=rbits_top hl hk ht
 rw [hv] at hb
 have hx:=hl.get k
 have htop: ∀s,ys[k]?.getD 0*2^s<R.BB→(R.limbsOf (n*2^s)).length=ys.length∧R.BB^(ys.length-1)*2^s≤n*2^s:=by
  intro s hs
  have h1:=R.long_top (s:=s) hl (n:=k+1) (by omega) hk ht hs
  rw [hv] at h1
  rw [hk]
  exact h1
 generalize ys[k]?.getD 0=t at*
 have hL:=(Nat.log2_eq_iff (k:=Nat.log2 t) ht).1 rfl
 have e:bitsN t=Nat.log2 t+1:=by unfold bitsN;rw [if_neg ht]
 have hl32:Nat.log2 t<32:=by
  rw [R.BB_pow] at hx
  exact (Nat.log2_lt ht).2 hx
 have hs:t*2^(31-Nat.log2 t)<R.BB:=by
  have h1:t*2^(31-Nat.log2 t)<2^(Nat.log2 t+1)*2^(31-Nat.log2 t):=Nat.mul_lt_mul_of_pos_right hL.2 (Nat.pow_pos (by omega))
  rw [← Nat.pow_add,show Nat.log2 t+1+(31-Nat.log2 t)=32 by omega,←R.BB_pow] at h1
  exact h1
 have h3:=htop _ hs
 refine⟨31-Nat.log2 t,by omega,?_,h3.1,h3.2⟩
 by_cases h0:Nat.log2 t=31
 ·left;omega
 ·right;omega
set_option maxRecDepth 100000 in
theorem run_append_full (T:TypeId) (hT:Tryz.prog.underlying T=some (.slice 133)) (w:World) (ty:TypeId) (A:Option Addr) (xs:List Nat) (n:Nat) (hn:n=xs.length) (hA:A=none→n=0) (hr:LRead w A xs) (hl:(n:Int)≤15000000) (g m:Nat) (zs:List Nat) (hm:m=zs.length) (hm0:0<zs.length) (hb:Blk w g 133 (limbV zs)) (hml:(m:Int)≤1000000):
  ∃g' c w',(Builtin.append_ #[T,T] ty #[.slice A n n,.slice (some ⟨g,0,none⟩) m m]).run Tryz.prog w= .ok (.slice (some ⟨g',0,none⟩) (n+m) c) w'∧LimbsAt w' (.slice (some ⟨g',0,none⟩) (n+m) c) (xs++zs)∧w.heap.size≤g'∧Only [] w w':=by
 subst hn hm
 obtain⟨i0,hi,hz0,hz1,hz2⟩:=u64_parts
 have hsum: ∃v' w',(Builtin.append_ #[T,T] ty #[.slice A xs.length xs.length,.slice (some ⟨g,0,none⟩) zs.length zs.length]).run Tryz.prog w= .ok v' w'∧w'.ownsRow w.heap.size 133 1 v' (xs.length+zs.length) (limbV xs++limbV zs)∧w.grownBy w' none:=by
  cases A with
  |none=>
   have h0:=hA rfl
   have hxs:xs=[]:=List.eq_nil_of_length_eq_zero h0
   subst hxs
   obtain⟨v',w',h1,h2,h3,_⟩:=run_append_own_at (P:=Tryz.prog) w w.heap.size T ty 133 i0 _ 1 8 hT hi hz0 hz1 hz2 rfl (by decide) (.slice none 0 0) 0 [] (World.ownsRow_nil _ _ _ _) ⟨g,0,none⟩ zs.length zs.length (limbV zs) (by simp [limbV]) (fun j v hj=>by rw [addr_plus,hb.cell,Nat.zero_add];exact hj) (by simp [limbV,Value.oneCell']) (by simp only [maxLen];omega) (by omega) (Nat.le_refl _)
   exact⟨v',w',h1,by simpa [limbV] using h2,by simpa [Value.ownBlock] using h3⟩
  |some b=>
   exact run_append_arg_grows (P:=Tryz.prog) w T ty 133 i0 _ 1 8 hT hi hz0 hz1 hz2 rfl (by decide) b xs.length xs.length (limbV xs) (by simp [limbV]) (fun j u hu=>by
    have hjl:j<xs.length:=by
     have:=(List.getElem?_eq_some_iff.1 hu).1
     rwa [limbV_len] at this
    rw [limbV_get _ _ hjl] at hu
    obtain⟨b',o',e,hc⟩:=hr j hjl
    injection e with e
    subst e
    rw [addr_plus,hc,hu]) ⟨g,0,none⟩ zs.length zs.length (limbV zs) (by simp [limbV]) (fun j v hj=>by rw [addr_plus,hb.cell,Nat.zero_add];exact hj) (by omega) (by simp only [maxLen];omega) (by omega)
 obtain⟨v',w',h1,h2,h3⟩:=hsum
 rcases h2.2 with⟨_,h0⟩|⟨gp,cap,cur,hv,hg,_⟩
 ·exact absurd h0 (by omega)
 ·subst hv
  refine⟨gp,cap,w',h1,?_,hg,Only.of_grown h3 (by simp)⟩
  have e:limbV (xs++zs)=limbV xs++limbV zs:=by simp [limbV]
  show World.ownsRow _ _ _ _ _ _ _
  rw [e,List.length_append]
  refine⟨h2.1,?_⟩
  rcases h2.2 with h4|⟨g2,c2,cu2,k1,_,k3⟩
  ·exact .inl h4
  ·exact .inr ⟨g2,c2,cu2,k1,Nat.zero_le _,k3⟩
theorem rlong_start {m n s k1 L:Nat} {us0:List Nat} (hk:(R.limbsOf (m*2^s)).length=k1) (_:(R.limbsOf n).length=L) (h1:1≤L) (hLk:L≤k1) (hu:us0=R.limbsOf (m*2^s)++[0]) (hV:R.BB^(L-1)*2^s≤n*2^s):R.LI us0 (List.replicate (k1+1-L) 0) (m*2^s) (n*2^s) (k1+1-L):=by
 subst hu
 have e:R.val (R.limbsOf (m*2^s)++[0])=m*2^s:=by rw [R.val_snoc,R.val_limbsOf];simp
 refine⟨(R.limb_limbsOf _).append (R.limb_one R.BB_pos),R.Limb.zeros _,?_,?_⟩
 ·rw [e,List.drop_of_length_le (by simp)]
  simp [R.val]
 ·rw [e]
  have h3:=R.val_lt (R.limb_limbsOf (m*2^s))
  rw [R.val_limbsOf,hk] at h3
  have h4:=Nat.mul_le_mul_left (R.BB^(k1+1-L)) hV
  rw [← Nat.mul_assoc,←Nat.pow_add,show k1+1-L+(L-1)=k1 by omega] at h4
  have h5:R.BB^k1*1≤R.BB^k1*2^s:=Nat.mul_le_mul_left _ (Nat.pow_pos (by omega))
  omega
end Go.Proofs.YtigpnopeacicpaaGreatDoor
