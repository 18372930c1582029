import Derived.Test.YtigpnopeacicpaaGreatDoorTcGNatA
import Derived.Test.YtigpnopeacicpaaGreatDoorTcShelf
import Derived.IntWalk
import Derived.Test.YtigpnopeacicpaaGreatDoorTcJ0
import Derived.StillTailTactics
namespace Go.Proofs.YtigpnopeacicpaaGreatDoor
open Go.Lib (hid)
open Go.RowKit
def mHi (x y:Nat):Nat:=x*y/BB
def mLo (x y:Nat):Nat:=x*y%BB
theorem mul64_any (x y:Nat) (hx:x<BB) (hy:y<BB) (w:World):
  Calls Tryz.prog 165 #[.int .u64 (x:Int),.int .u64 (y:Int)] w fun e w'=>e= .returned (.tuple #[.int .u64 ((mHi x y:Nat):Int),.int .u64 ((mLo x y:Nat):Int)])∧w=w':=by
 rw [BB_val] at hx hy
 refine (Tryz.bits_Mul64 x y hx hy w).mono ?_
 rintro e w' ⟨he,hw⟩
 unfold mHi mLo
 rw [BB_val]
 exact⟨he,hw.symm⟩
theorem mul64_law (x y:Nat):mLo x y+BB*mHi x y=x*y:=Nat.mod_add_div _ _
theorem mLo_lt (x y:Nat):mLo x y<BB:=Nat.mod_lt _ BB_pos
theorem mHi_le {x y:Nat} (hx:x<BB) (hy:y<BB):mHi x y+2≤BB:=by
 have hp:=BB_pos
 have h1:x*y≤(BB-1)*(BB-1):=Nat.mul_le_mul (by omega) (by omega)
 have h2:=mul64_law x y
 obtain⟨k,hk⟩: ∃k,BB=k+1:=⟨BB-1,by omega⟩
 rw [hk,Nat.add_sub_cancel] at h1
 have h3:mHi x y<k:=by
  apply Nat.lt_of_not_le
  intro h
  have h4:BB*k≤BB*mHi x y:=Nat.mul_le_mul_left _ h
  have h5:BB*k=k*k+k:=by rw [hk,Nat.add_mul,Nat.one_mul]
  have hk1:=BB_two
  omega
 omega
theorem u64_wrap {a:Nat} (h:a<BB):IntKind.u64.wrap (a:Int)=(a:Int):=by
 rw [BB_val] at h
 rw [IntKind.wrap_u64]
 omega
theorem u64_add {a b c:Nat} (h:a+b=c) (hc:c<BB):IntKind.u64.wrap ((a:Int)+(b:Int))=(c:Int):=by
 rw [← Int.natCast_add,h]
 exact u64_wrap hc
structure MStep (v y z cy lo1 c1 hi1 lo2 c2 hi2:Nat):Prop where
 a1:lo1=aLo (mLo v y) z 0
 a2:c1=aHi (mLo v y) z 0
 a3:hi1=mHi v y+c1
 a4:lo2=aLo lo1 cy 0
 a5:c2=aHi lo1 cy 0
 a6:hi2=hi1+c2
 law:lo2+BB*hi2=z+v*y+cy
 lt:hi2<BB
 lt1:hi1<BB
 lo:lo2<BB
theorem mstep {v y z cy:Nat} (hv:v<BB) (hy:y<BB) (hz:z<BB) (hc:cy<BB): ∃lo1 c1 hi1 lo2 c2 hi2,MStep v y z cy lo1 c1 hi1 lo2 c2 hi2:=by
 have h1:=mul64_law v y
 have h2:=add64_law (mLo v y) z 0
 have h3:=add64_law (aLo (mLo v y) z 0) cy 0
 have h4:=aHi_le (mLo_lt v y) hz (Nat.zero_le 1)
 have h5:=aHi_le (aLo_lt (mLo v y) z 0) hc (Nat.zero_le 1)
 have h6:=mHi_le hv hy
 have hlaw:aLo (aLo (mLo v y) z 0) cy 0+BB*(mHi v y+aHi (mLo v y) z 0+aHi (aLo (mLo v y) z 0) cy 0)=z+v*y+cy:=by
  rw [Nat.mul_add,Nat.mul_add]
  omega
 have hlt:mHi v y+aHi (mLo v y) z 0+aHi (aLo (mLo v y) z 0) cy 0<BB:=by
  apply Nat.lt_of_not_le
  intro h
  have h7:=Nat.mul_le_mul_left BB h
  have h8:v*y≤(BB-1)*(BB-1):=Nat.mul_le_mul (by omega) (by omega)
  obtain⟨k,hk⟩: ∃k,BB=k+1:=⟨BB-1,by have:=BB_pos;omega⟩
  have h9:BB*BB=k*k+2*k+1:=by rw [hk,Nat.add_mul,Nat.mul_add];omega
  rw [hk,Nat.add_sub_cancel] at h8
  omega
 exact⟨_,_,_,_,_,_,rfl,rfl,rfl,rfl,rfl,rfl,hlaw,hlt,by omega,aLo_lt _ _ _⟩
theorem val_nil:val []=0:=rfl
structure MCar (w wr:World) (g:Nat) (L:Nat) (zs:List Nat) (i cy T m:Nat):Prop where
 blk:Blk wr g 133 (limbV zs)
 limb:Limb zs
 len:zs.length=L
 cylt:cy<BB
 val_:val zs+BB^i*cy=T
 high: ∀k,m≤k→zs[k]?.getD 0=0
 only:Only [g] w wr
theorem MCar.step {w wr:World} {g L:Nat} {zs:List Nat} {i cy T m v y:Nat} (h:MCar w wr g L zs i cy T m) (hi:i<L) (him:i<m) {lo1 c1 hi1 lo2 c2 hi2:Nat} (hs:MStep v y (zs[i]?.getD 0) cy lo1 c1 hi1 lo2 c2 hi2) {T':Nat} (hT:T'=T+BB^i*(v*y)):
  MCar w (wr.setCell ⟨g,i,none⟩ (.int .u64 (lo2:Int))) g L (zs.set i lo2) (i+1) hi2 T' m:=by
 refine⟨?_,h.limb.set _ _ hs.lo,by rw [List.length_set,h.len],hs.lt,?_,fun k hk=>?_,h.only.trans ((Only.refl [g] wr).setCell (.inl (by simp)) _) (by simp)⟩
 ·rw [← limbV_set]
  exact h.blk.set_ i _
 ·rw [add_step (by rw [h.len];exact hi) hs.law,hT,←h.val_]
  omega
 ·rw [set_get_ne (by omega)]
  exact h.high k hk
theorem MCar.close {w wr:World} {g L:Nat} {zs:List Nat} {i cy T:Nat} (h:MCar w wr g L zs i cy T i) (hi:i<L):
  MCar w (wr.setCell ⟨g,i,none⟩ (.int .u64 (cy:Int))) g L (zs.set i cy) 0 0 T (i+1):=by
 refine⟨?_,h.limb.set _ _ h.cylt,by rw [List.length_set,h.len],BB_pos,?_,fun k hk=>?_,h.only.trans ((Only.refl [g] wr).setCell (.inl (by simp)) _) (by simp)⟩
 ·rw [← limbV_set]
  exact h.blk.set_ i _
 ·have h1:=val_set zs i cy (by rw [h.len];exact hi)
  rw [h.high i (Nat.le_refl _)] at h1
  have:=h.val_
  omega
 ·rw [set_get_ne (by omega)]
  exact h.high k (by omega)
set_option maxHeartbeats 3200000 in
theorem school_any (A B:Option Addr) (c d:Nat) (xs ys:List Nat) (w:World) (hA:Hid (Arg w A xs)) (hB:Hid (Arg w B ys)) (hl:(xs.length:Int)+ys.length≤4000000):
  Calls Tryz.prog 154 #[.slice A xs.length c,.slice B ys.length d] w (NPost (val xs*val ys) w):=by
 obtain⟨w1,hmk,hb1,ho1,hs1⟩:=make_nat w (xs.length+ys.length) (by omega)
 have hcast:((xs.length+ys.length:Nat):Int)=(xs.length:Int)+(ys.length:Int):=by omega
 rw [hcast] at hmk
 have HB1:=hid hb1
 have HO1:=hid ho1
 have HAlt:=hid hA.out.lt
 have HBlt:=hid hB.out.lt
 clear hb1 ho1 hs1 hcast
 generalize hg:w.heap.size=g at HB1 hmk HAlt HBlt
 have HG:Hid (w.heap.size≤g):=by show _≤_;omega
 clear hg
 have HStart:Hid (MCar w1 w1 g (xs.length+ys.length) (List.replicate (xs.length+ys.length) 0) 0 0 (val (xs.take 0)*val ys) ys.length):=
  ⟨HB1.out,.zeros _,by simp,BB_pos,by rw [val_zeros];simp [val],fun k _=>val_zero_of (val_zeros _) k,Only.refl _ _⟩
 go_enter Tryz.func154,Tryz.ntmps154
 go_wp2_with fail
 clear hmk HB1
 go_loopw [22] (fun iv wr=> ∃(i:Nat) (zs:List Nat),i≤xs.length∧iv= .int .i64 (i:Int)∧MCar w1 wr g (xs.length+ys.length) zs 0 0 (val (xs.take i)*val ys) (i+ys.length)) (fun iv _=>xs.length-(intOf iv).toNat)
 case atStart=>exact⟨0,_,Nat.zero_le _,rfl,by rw [Nat.zero_add];exact HStart.out⟩
 case round=>
  obtain⟨i,zs,hi,rfl,hR⟩:=hrel
  have HR:=hid hR
  clear hR HStart
  by_cases hlt:i<xs.length
  ·obtain⟨b,o,rfl,hc⟩:=(hA.out.read.only HO1.out) i hlt
   have hbg:b≠g:=by have:=HAlt.out (by omega) _ rfl;simp only at this;omega
   have c1:=HR.out.only.cell hc (by simpa using hbg)
   have hi':(i:Int)<(xs.length:Int):=by omega
   have HV:=hid (hA.out.limb.get i)
   have HT:=hid (val_take_succ xs i hlt)
   generalize xs[i]?.getD 0=v at c1 HV HT
   clear hc
   go_wp2_with fail
   have HStart2:Hid (MCar w1 wr g (xs.length+ys.length) zs (i+0) 0 (val (xs.take i)*val ys+BB^i*(v*val (ys.take 0))) (i+ys.length)):=by
    have h:=HR.out
    exact⟨h.blk,h.limb,h.len,BB_pos,by have:=h.val_;simp [val] at this ⊢;exact this,h.high,h.only⟩
   clear HR
   go_loopw [8,29] (fun cv jv wq=> ∃(j cy:Nat) (zq:List Nat),j≤ys.length∧jv= .int .i64 (j:Int)∧cv= .int .u64 (cy:Int)∧MCar w1 wq g (xs.length+ys.length) zq (i+j) cy (val (xs.take i)*val ys+BB^i*(v*val (ys.take j))) (i+ys.length)) (fun _ jv _=>ys.length-(intOf jv).toNat)
   case atStart=>exact⟨0,0,zs,Nat.zero_le _,rfl,rfl,HStart2.out⟩
   case round=>
    obtain⟨j,cy,zq,hj,rfl,rfl,hR⟩:=hrel
    have HR:=hid hR
    clear hR HStart2
    by_cases hjt:j<ys.length
    ·obtain⟨b',o',rfl,hc2⟩:=(hB.out.read.only HO1.out) j hjt
     have hbg':b'≠g:=by have:=HBlt.out (by omega) _ rfl;simp only at this;omega
     have c2:=HR.out.only.cell hc2 (by simpa using hbg')
     have hj':(j:Int)<(ys.length:Int):=by omega
     have c3:=HR.out.blk.cell (i+j)
     rw [limbV_get _ _ (by rw [HR.out.len];omega)] at c3
     have f3:=HR.out.blk.frozen (i+j)
     have HY:=hid (hB.out.limb.get j)
     obtain⟨lo1,q1,hi1,lo2,q2,hi2,hms⟩:=mstep HV.out (hB.out.limb.get j) (HR.out.limb.get (i+j)) HR.out.cylt
     have HS:=hid (HR.out.step (by omega) (by omega) hms (T':=val (xs.take i)*val ys+BB^i*(v*val (ys.take (j+1)))) (by
      rw [val_take_succ ys j hjt,Nat.mul_add,Nat.mul_add,Nat.pow_add]
      rw [show BB^i*(v*(BB^j*(ys[j]?.getD 0)))=BB^i*BB^j*(v*(ys[j]?.getD 0)) by rw [Nat.mul_left_comm v,Nat.mul_assoc]]
      omega))
     have hz:=HR.out.limb.get (i+j)
     have ha1: ∀wx,(callFunc 164 #[.int .u64 ((mLo v (ys[j]?.getD 0):Nat):Int),.int .u64 ((zq[i+j]?.getD 0:Nat):Int),.int .u64 0]).run Tryz.prog wx= .ok (.value (.tuple #[.int .u64 (lo1:Int),.int .u64 (q1:Int)])) wx:=fun wx=>by
      rw [hms.a1,hms.a2]
      exact add64_run _ _ 0 (mLo_lt _ _) hz (by omega) wx
     have ha2: ∀wx,(callFunc 164 #[.int .u64 (lo1:Int),.int .u64 (cy:Int),.int .u64 0]).run Tryz.prog wx= .ok (.value (.tuple #[.int .u64 (lo2:Int),.int .u64 (q2:Int)])) wx:=fun wx=>by
      rw [hms.a4,hms.a5]
      exact add64_run _ _ 0 (by rw [hms.a1];exact aLo_lt _ _ _) HR.out.cylt (by omega) wx
     have hw1:=u64_add hms.a3.symm hms.lt1
     have hw2:=u64_add hms.a6.symm hms.lt
     generalize zq[i+j]?.getD 0=z at c3 ha1 HS hms hz
     generalize ys[j]?.getD 0=y at c2 ha1 HS HY hms hw1
     clear hc2 hms hz
     go_wp2_with fail
     refine (mul64_any v y HV.out HY.out _).mono ?_
     rintro e w' ⟨rfl,rfl⟩
     go_wp2_with fail
     go_roundw
     case rel=>exact⟨j+1,_,_,by omega,by go_num,rfl,HS.out⟩
     case measure=>simp [intOf];omega
    ·have hnl: ¬(j:Int)<(ys.length:Int):=by omega
     have e:j=ys.length:=by omega
     have HR2:Hid (MCar w1 wr g (xs.length+ys.length) zq (i+ys.length) cy (val (xs.take (i+1))*val ys) (i+ys.length)):=by
      have h:=HR.out
      rw [e,val_take_all] at h
      rw [HT.out,Nat.add_mul,Nat.mul_assoc]
      exact h
     have HS:=hid (HR2.out.close (by omega))
     have f3:=HR2.out.blk.frozen (i+ys.length)
     have c3:=HR2.out.blk.cell (i+ys.length)
     rw [limbV_get _ _ (by rw [HR2.out.len];omega)] at c3
     generalize zq[i+ys.length]?.getD 0=zl at c3
     clear HR e HR2 hjt
     go_wp2_with fail
     go_roundw
     case rel=>exact⟨i+1,_,by omega,by go_num,by rw [show i+1+ys.length=i+ys.length+1 by omega];exact HS.out⟩
     case measure=>simp [intOf];omega
  ·have hnl: ¬(i:Int)<(xs.length:Int):=by omega
   have e:i=xs.length:=by omega
   have HV:Hid (val zs=val xs*val ys):=by
    have h:=HR.out.val_
    rw [e,val_take_all,Nat.mul_zero] at h
    exact h
   have HLen:=hid HR.out.len
   clear e hlt
   go_wp2_with fail
   (with_reducible refine (trim_row g _ _ zs wr HR.out.blk HR.out.limb HLen.out.symm (Nat.le_refl _) (by omega)).mono ?_)
   rintro e w4 ⟨rfl,rfl⟩
   go_wp2_with fail
   go_ret
   have hr:=res_of_blk (w0:=w) HR.out.blk HR.out.limb HG.out (by have:=HLen.out;omega)
   rw [HLen.out] at hr
   exact⟨_,rfl,HV.out▸hr,HO1.out.trans HR.out.only (fun k hk=> .inr (by simp at hk;rw [hk];exact HG.out))⟩
theorem LRead.drop {w:World} {b o:Nat} {xs:List Nat} (h:LRead w (some ⟨b,o,none⟩) xs) (m:Nat):LRead w (some ⟨b,o+m,none⟩) (xs.drop m):=fun k hk=>by
 rw [List.length_drop] at hk
 obtain⟨b',o',e,hc⟩:=h (m+k) (by omega)
 injection e with e
 injection e with e1 e2 _
 subst e1 e2
 exact⟨b,o+m,rfl,by rw [List.getElem?_drop,Nat.add_assoc];exact hc⟩
theorem Arg.drop {w:World} {b o:Nat} {xs:List Nat} (h:Arg w (some ⟨b,o,none⟩) xs) (m:Nat):Arg w (some ⟨b,o+m,none⟩) (xs.drop m):=
 ⟨h.read.drop m,h.limb.drop m,by have:=h.len;simp;omega⟩
theorem Arg.take {w:World} {A:Option Addr} {xs:List Nat} (h:Arg w A xs) (m:Nat):Arg w A (xs.take m):=
 ⟨h.read.take m,h.limb.take m,by have:=h.len;simp;omega⟩
theorem addAt_row (g n c:Nat) (zs:List Nat) (A:Option Addr) (m d N:Nat) (p:Nat) (w:World) (hn:zs.length=n) (hz:Blk w g 133 (limbV zs)) (hzl:Limb zs) (hA:Arg w A (limbsOf N)) (hm:(limbsOf N).length=m) (hag: ∀a,A=some a→a.block≠g)
  (hlen:(n:Int)≤16000000) (hfit:p+m≤n) (hval:val zs+BB^p*N<BB^n):
  Calls Tryz.prog 155 #[.slice (some ⟨g,0,none⟩) n c,.slice A m d,.int .i64 (p:Int)] w (AddPost g zs (val zs+BB^p*N) w):=by
 subst hn hm
 have h:=addAt_any g c zs A d (limbsOf N) p w hz hzl hA (fun _=>hag) hlen (by omega) (by show _<_;rw [val_limbsOf];exact hval)
 rw [val_limbsOf] at h
 exact h
def MulAll (cut:Int) (k:Nat):Prop:= ∀(A B:Option Addr) (c d m n:Nat) (xs ys:List Nat) (w:World),Hid (Arg w A xs)→Hid (Arg w B ys)→xs.length=m→ys.length=n→m≤c→n≤d→m+n≤k→
 Calls Tryz.prog 132 #[.int .i64 cut,.slice A m c,.slice B n d] w (NPost (val xs*val ys) w)
set_option maxHeartbeats 3200000 in
set_option maxRecDepth 100000 in
theorem mul_all (cut:Int) (hcut:2≤cut): ∀k:Nat,k≤3000000→MulAll cut k:=by
 intro k
 induction k using Nat.strongRecOn with
 |ind k ih=>
  intro hk3 A B c d nx ny xs ys w hA hB hnx hny hc hd hk
  subst hnx hny
  have HA:=hid hA.out.trim
  have HB:=hid hB.out.trim
  obtain⟨X,hX⟩: ∃X,limbsOf (val xs)=X:=⟨_,rfl⟩
  obtain⟨Y,hY⟩: ∃Y,limbsOf (val ys)=Y:=⟨_,rfl⟩
  have hlx:X.length≤xs.length:=by rw [← hX];exact limbsOf_len hA.out.limb
  have hly:Y.length≤ys.length:=by rw [← hY];exact limbsOf_len hB.out.limb
  have HE1:Hid (val X*val Y=val xs*val ys):=by show _=_;rw [← hX,←hY,val_limbsOf,val_limbsOf]
  have HE2:Hid (val Y*val X=val xs*val ys):=by show _=_;rw [Nat.mul_comm];exact HE1.out
  rw [hX] at HA
  rw [hY] at HB
  have HX:=hid hX
  have HY:=hid hY
  have hb1:(X.length:Int)+Y.length≤3000000:=by omega
  have hcX:X.length≤c:=by omega
  have hdY:Y.length≤d:=by omega
  have hbk:X.length+Y.length≤k:=by omega
  have IH:=hid ih
  clear hX hY ih
  go_enter Tryz.func132,Tryz.ntmps132
  go_wp2_with fail
  (with_reducible refine (trim_any A c xs _ hA hc).mono ?_)
  rintro e w' ⟨rfl,rfl⟩
  rw [HX.out]
  go_wp2_with fail
  (with_reducible refine (trim_any B d ys _ hB hd).mono ?_)
  rintro e w' ⟨rfl,rfl⟩
  rw [HY.out]
  clear hc hd hA hB hlx hly HX HY
  by_cases hlt:(X.length:Int)<(Y.length:Int)
  ·skip
   by_cases hs:(X.length:Int)<cut
   ·go_wp2_with fail
    refine (school_any B A d c Y X w HB HA (by omega)).mono ?_
    rintro e w1 ⟨u,rfl,hr,ho⟩
    have HR:=hid hr
    have HO:=hid ho
    clear hr ho
    go_wp2_with fail
    go_ret
    exact⟨u,rfl,HE2.out▸HR.out,HO.out⟩
   ·obtain⟨b,o,rfl,hb0⟩:=HB.out.read 0 (by omega)
    clear hb0
    obtain⟨m,hm⟩: ∃m,(Y.length+1)/2=m:=⟨_,rfl⟩
    have hmi:((Y.length:Int)+1)/2=(m:Int):=by omega
    have hm1:1≤(m:Int):=by omega
    have hmx:(m:Int)<(Y.length:Int):=by omega
    have hm2:(Y.length:Int)≤2*m:=by omega
    have hm3:2*(m:Int)≤(Y.length:Int)+1:=by omega
    clear hm
    obtain⟨w1,hmk,hb1,ho1,hs1⟩:=make_nat w (Y.length+X.length) (by omega)
    rw [show ((Y.length+X.length:Nat):Int)=(Y.length:Int)+(X.length:Int) by omega] at hmk
    have HB1:=hid hb1
    have HO1:=hid ho1
    obtain⟨g,hg⟩: ∃g,w.heap.size=g:=⟨_,rfl⟩
    rw [hg] at hmk HB1
    have HG:Hid (w.heap.size≤g):=by show _≤_;omega
    have HG1:Hid (g<w1.heap.size):=by show _<_;omega
    clear hb1 ho1 hs1 hg
    have HTk:Hid ((Y.take m).length=m):=by show _=_;rw [List.length_take];omega
    have HDk:Hid ((Y.drop m).length=Y.length-m):=by show _=_;rw [List.length_drop]
    have HXv:Hid (val Y=val (Y.take m)+BB^m*val (Y.drop m)):=val_take_drop Y m (by omega)
    have HLx:=hid (val_lt HB.out.limb)
    have HLy:=hid (val_lt HA.out.limb)
    have hcx:Y.length≠d∨Y.length=d:=by omega
    have hmc:(m:Int)<(d:Int):=by omega
    have hmc': ¬(d=m):=by omega
    clear hcx
    by_cases hym:(X.length:Int)≤(m:Int)
    ·have hlow:=mul_lt_pow (m:=m) (by have:=val_lt (HB.out.limb.take m);rwa [HTk.out] at this) HLy.out
     have hhigh:=mul_lt_pow (m:=Y.length-m) (by have:=val_lt (HB.out.limb.drop m);rwa [HDk.out] at this) HLy.out
     have HL1:=hid (limbsOf_len_le hlow)
     have HL2:=hid (limbsOf_len_le hhigh)
     have HSum:Hid (val (Y.take m)*val X+BB^m*(val (Y.drop m)*val X)=val Y*val X):=by show _=_;rw [HXv.out,Nat.add_mul,Nat.mul_assoc]
     have HTot:Hid (val Y*val X<BB^(Y.length+X.length)):=mul_lt_pow HLx.out HLy.out
     have HI1:=hid (IH.out (m+X.length) (by omega) (by omega))
     have HI2:=hid (IH.out (Y.length-m+X.length) (by omega) (by omega))
     clear hlow hhigh
     go_wp2_with fail
     refine (HI1.out (some ⟨b,o,none⟩) A d c m X.length (Y.take m) X w1 ((HB.out.only HO1.out).take m) (HA.out.only HO1.out) HTk.out rfl (by omega) (by omega) (Nat.le_refl _)).mono ?_
     rintro e w2 ⟨u,rfl,hr2,ho2⟩
     obtain⟨A2,c2,rfl,ha2,hf2⟩:=hr2.shape (by have:=HL1.out;omega)
     have HA2:=hid ha2
     have HF2:Hid (∀ a,A2=some a→a.block≠g):=fun a ha=>by have:=(hf2 a ha).1;have:=HG1.out;omega
     have HO2:=hid ho2
     clear ha2 hf2 ho2 hr2
     obtain⟨q,hq⟩: ∃q,(limbsOf (val (Y.take m)*val X)).length=q:=⟨_,rfl⟩
     have HQ:=hid hq
     rw [hq]
     clear hq
     go_wp2_with fail
     refine (addAt_row g (Y.length+X.length) _ (List.replicate (Y.length+X.length) 0) A2 q c2 (val (Y.take m)*val X) 0 w2 (by simp) (HB1.out.only HO2.out (by simp)) (.zeros _) HA2.out HQ.out HF2.out (by omega) (by have:=HL1.out;have:=HQ.out;omega) (by rw [val_zeros,Nat.pow_zero,Nat.one_mul,Nat.zero_add];have:=HTot.out;have:=HSum.out;omega)).mono ?_
     rintro e w3 ⟨rfl,z3,hb3,hl3,hn3,hv3,ho3⟩
     rw [val_zeros,Nat.pow_zero,Nat.one_mul,Nat.zero_add] at hv3
     rw [List.length_replicate] at hn3
     have HB3:=hid hb3
     have HL3:=hid hl3
     have HN3:=hid hn3
     have HV3:=hid hv3
     have HO3:Hid (Only [] w w3):=(HO1.out.nil_trans HO2.out).trans ho3 (fun k hk=> .inr (by simp at hk;rw [hk];exact HG.out))
     have HG3:Hid (g<w3.heap.size):=hb3.lt
     clear hb3 hl3 hn3 hv3 ho3 HA2 HF2 HQ
     go_wp2_with fail
     refine (HI2.out (some ⟨b,o+m,none⟩) A (d-m) c (Y.length-m) X.length (Y.drop m) X w3 ((HB.out.only HO3.out).drop m) (HA.out.only HO3.out) HDk.out rfl (by omega) (by omega) (Nat.le_refl _)).mono ?_
     rintro e w4 ⟨u,rfl,hr4,ho4⟩
     obtain⟨A4,c4,rfl,ha4,hf4⟩:=hr4.shape (by have:=HL2.out;omega)
     have HA4:=hid ha4
     have HF4:Hid (∀ a,A4=some a→a.block≠g):=fun a ha=>by have:=(hf4 a ha).1;have:=HG3.out;omega
     have HO4:=hid ho4
     clear ha4 hf4 ho4 hr4
     obtain⟨q,hq⟩: ∃q,(limbsOf (val (Y.drop m)*val X)).length=q:=⟨_,rfl⟩
     have HQ:=hid hq
     rw [hq]
     clear hq
     go_wp2_with fail
     refine (addAt_row g (Y.length+X.length) _ z3 A4 q c4 (val (Y.drop m)*val X) m w4 HN3.out (HB3.out.only HO4.out (by simp)) HL3.out HA4.out HQ.out HF4.out (by omega) (by have:=HL2.out;have:=HQ.out;omega) (by rw [HV3.out,HSum.out];exact HTot.out)).mono ?_
     rintro e w5 ⟨rfl,z5,hb5,hl5,hn5,hv5,ho5⟩
     rw [HV3.out,HSum.out] at hv5
     rw [HN3.out] at hn5
     have HB5:=hid hb5
     have HL5:=hid hl5
     have HN5:=hid hn5
     have HV5:=hid hv5
     have HO5:Hid (Only [] w w5):=(HO3.out.nil_trans HO4.out).trans ho5 (fun k hk=> .inr (by simp at hk;rw [hk];exact HG.out))
     clear hb5 hl5 hn5 hv5 ho5 HA4 HF4 HQ
     go_wp2_with fail
     (with_reducible refine (trim_row g _ _ z5 w5 HB5.out HL5.out HN5.out.symm (Nat.le_refl _) (by omega)).mono ?_)
     rintro e w9 ⟨rfl,rfl⟩
     go_wp2_with fail
     go_ret
     have hr:=res_of_blk (w0:=w) HB5.out HL5.out HG.out (by have:=HN5.out;omega)
     rw [HN5.out] at hr
     exact⟨_,rfl,by rw [← HE2.out,←HV5.out];exact hr,HO5.out⟩
    ·obtain⟨b',o',rfl,hb0'⟩:=HA.out.read 0 (by omega)
     clear hb0'
     have sx1:=slice_head (some ⟨b,o,none⟩) Y.length d m (by omega)
     have sx2:=slice_tail b o Y.length d m (by omega) (by omega)
     have sy1:=slice_head (some ⟨b',o',none⟩) X.length c m (by omega)
     have sy2:=slice_tail b' o' X.length c m (by omega) (by omega)
     go_wp2_with fail
     go_still_tail 7,(by kernel_rfl)
     change wpList _ _ _ _ _ w1.drew
     have HD1:Hid (Only [] w1 w1.drew):=(Only.refl [] w1).drew
     generalize w1.drew=w1d at HD1 ⊢
     have HTy:Hid ((X.take m).length=m):=by show _=_;rw [List.length_take];omega
     have HDy:Hid ((X.drop m).length=X.length-m):=by show _=_;rw [List.length_drop]
     have HYv:Hid (val X=val (X.take m)+BB^m*val (X.drop m)):=val_take_drop X m (by omega)
     have ba0:=val_lt (HB.out.limb.take m)
     have ba1:=val_lt (HB.out.limb.drop m)
     have bb0:=val_lt (HA.out.limb.take m)
     have bb1:=val_lt (HA.out.limb.drop m)
     rw [HTk.out] at ba0
     rw [HDk.out] at ba1
     rw [HTy.out] at bb0
     rw [HDy.out] at bb1
     have HL1:=hid (limbsOf_len_le (mul_lt_pow ba0 bb0))
     have HL2:=hid (limbsOf_len_le (mul_lt_pow ba1 bb1))
     have HTot:Hid (val Y*val X<BB^(Y.length+X.length)):=mul_lt_pow HLx.out HLy.out
     have HI1:=hid (IH.out (m+m) (by omega) (by omega) (some ⟨b,o,none⟩) (some ⟨b',o',none⟩) d c m m (Y.take m) (X.take m) w1d ((HB.out.only (HO1.out.nil_trans HD1.out)).take m) ((HA.out.only (HO1.out.nil_trans HD1.out)).take m) HTk.out HTy.out (by omega) (by omega) (Nat.le_refl _))
     have HI2:Hid (∀ wx,Only [] w wx→Calls _ _ _ _ _):=fun wx hx=>IH.out (Y.length-m+(X.length-m)) (by omega) (by omega) (some ⟨b,o+m,none⟩) (some ⟨b',o'+m,none⟩) (d-m) (c-m) (Y.length-m) (X.length-m) (Y.drop m) (X.drop m) wx ((HB.out.only hx).drop m) ((HA.out.only hx).drop m) HDk.out HDy.out (by omega) (by omega) (Nat.le_refl _)
     have HGx:Hid (∀ wx,Only [] w wx→Calls _ _ _ _ _):=fun wx hx=>gap_any (some ⟨b,o,none⟩) (some ⟨b,o+m,none⟩) d (d-m) (Y.take m) (Y.drop m) wx ((HB.out.only hx).take m) ((HB.out.only hx).drop m) (by rw [HTk.out];omega) (by rw [HDk.out];omega)
     have HGy:Hid (∀ wx,Only [] w wx→Calls _ _ _ _ _):=fun wx hx=>gap_any (some ⟨b',o'+m,none⟩) (some ⟨b',o',none⟩) (c-m) c (X.drop m) (X.take m) wx ((HA.out.only hx).drop m) ((HA.out.only hx).take m) (by rw [HDy.out];omega) (by rw [HTy.out];omega)
     simp only [HTk.out,HDk.out] at HGx
     simp only [HTy.out,HDy.out] at HGy
     have HWhole:=hid (kara_whole (val (Y.take m)) (val (Y.drop m)) (val (X.take m)) (val (X.drop m)) (BB^m))
     rw [← HXv.out,←HYv.out] at HWhole
     have HW1:Hid (Only [] w w1d):=HO1.out.nil_trans HD1.out
     have HB1d:=hid (HB1.out.only HD1.out (by simp))
     have HG1d:Hid (g<w1d.heap.size):=HB1d.out.lt
     have HMid:=hid (fun (a0 a1 b0 b1:Nat) (h0:a0<BB^m) (h1:a1<BB^m) (h2:b0<BB^m) (h3:b1<BB^m)=>mul_lt_pow (a:=if a0<a1 then a1-a0 else a0-a1) (b:=if b1<b0 then b0-b1 else b1-b0) (m:=m) (n:=m) (by split<;>omega) (by split<;>omega))
     have ba1':val (Y.drop m)<BB^m:=Nat.lt_of_lt_of_le ba1 (pow_le (by omega))
     have bb1':val (X.drop m)<BB^m:=Nat.lt_of_lt_of_le bb1 (pow_le (by omega))
     have HMd:=hid (HMid.out _ _ _ _ ba0 ba1' bb0 bb1')
     have HXl:Hid (∀ a0 a1:Nat,a0<BB^m→a1<BB^m→((limbsOf (if a0<a1 then a1-a0 else a0-a1)).length:Int)≤m):=fun a0 a1 h0 h1=>by
      have:=limbsOf_len_le (n:=if a0<a1 then a1-a0 else a0-a1) (k:=m) (by split<;>omega)
      omega
     have HlX:=hid (HXl.out _ _ ba0 ba1')
     have HlY:=hid (HXl.out _ _ bb1' bb0)
     obtain⟨a0,ha0⟩: ∃a0,val (Y.take m)=a0:=⟨_,rfl⟩
     obtain⟨a1,ha1⟩: ∃a1,val (Y.drop m)=a1:=⟨_,rfl⟩
     obtain⟨b0,hb0⟩: ∃b0,val (X.take m)=b0:=⟨_,rfl⟩
     obtain⟨b1,hb1⟩: ∃b1,val (X.drop m)=b1:=⟨_,rfl⟩
     rw [ha0,hb0] at HI1 HL1
     rw [ha1,hb1] at HI2 HL2
     rw [ha0,ha1] at HGx HlX
     rw [hb0,hb1] at HGy HlY
     rw [ha0,ha1,hb0,hb1] at HWhole HMd
     clear ba0 ba1 bb0 bb1 ba1' bb1' ha0 ha1 hb0 hb1 HXl HMid HB1 hmk
     go_wp2_with fail
     refine HI1.out.mono ?_
     rintro e w2 ⟨u,rfl,hr2,ho2⟩
     obtain⟨A2,c2,q2,rfl,hq2,hc2,ha2,hf2⟩:=hr2.shape2 (by have:=HL1.out;omega)
     have HA2:=hid ha2
     have HF2:Hid (∀ a,A2=some a→a.block≠g):=fun a ha=>by have:=(hf2 a ha).1;have:=HG1d.out;omega
     have HW2:Hid (Only [] w w2):=HW1.out.nil_trans ho2
     have HB2:=hid (HB1d.out.only ho2 (by simp))
     have HQ2:=hid hq2
     clear ha2 hf2 ho2 hr2 HI1 hq2 hc2 HB1d
     go_wp2_with fail
     go_still_tail 7,(by kernel_rfl)
     change wpList _ _ _ _ _ w2.drew
     have HD2:Hid (Only [] w2 w2.drew):=(Only.refl [] w2).drew
     generalize w2.drew=w2d at HD2 ⊢
     go_wp2_with fail
     refine (HI2.out w2d (HW2.out.nil_trans HD2.out)).mono ?_
     rintro e w3 ⟨u,rfl,hr3,ho3⟩
     obtain⟨A3,c3,q3,rfl,hq3,hc3,ha3,hf3⟩:=hr3.shape2 (by have:=HL2.out;omega)
     have HX3:Hid (Only [] w2 w3):=HD2.out.nil_trans ho3
     have HF3:Hid (∀ a,A3=some a→a.block≠g):=fun a ha=>by have:=(hf3 a ha).1;have:=HB2.out.lt;have:=HD2.out.size;omega
     have HA3:=hid ha3
     have HQ3:=hid hq3
     have HW3:Hid (Only [] w w3):=HW2.out.nil_trans HX3.out
     have HB3:=hid (HB2.out.only HX3.out (by simp))
     have HA2':=hid (HA2.out.only HX3.out)
     clear ha3 hf3 ho3 hr3 hq3 hc3 HI2 HD2 HA2 HB2 HX3
     go_wp2_with fail
     go_region_with (go_at_call 156;refine (HGx.out _ HW3.out.drew).mono ?_;rintro e w4 ⟨u,rfl,hr4,ho4⟩)
     obtain⟨A4,c4,q4,rfl,hq4,hc4,ha4,hf4⟩:=hr4.shape2 (by have:=HlX.out;omega)
     have HX4:Hid (Only [] w3 w4):=(Only.refl [] w3).drew.nil_trans ho4
     have HA4:=hid ha4
     have HQ4:=hid hq4
     have HW4:Hid (Only [] w w4):=HW3.out.nil_trans HX4.out
     have HB4:=hid (HB3.out.only HX4.out (by simp))
     have HA2:=hid (HA2'.out.only HX4.out)
     have HA3':=hid (HA3.out.only HX4.out)
     obtain⟨xn,hxn⟩: ∃xn,decide (a0<a1)=xn:=⟨_,rfl⟩
     rw [hxn]
     have HXn:=hid hxn
     clear ha4 hf4 ho4 hr4 hq4 HGx HA2' HA3 HB3 HX4 hxn
     go_wp2_with fail
     go_region_with (go_at_call 156;refine (HGy.out _ HW4.out.drew).mono ?_;rintro e w5 ⟨u,rfl,hr5,ho5⟩)
     obtain⟨A5,c5,q5,rfl,hq5,hc5,ha5,hf5⟩:=hr5.shape2 (by have:=HlY.out;omega)
     have HX5:Hid (Only [] w4 w5):=(Only.refl [] w4).drew.nil_trans ho5
     have HA5:=hid ha5
     have HQ5:=hid hq5
     have HW5:Hid (Only [] w w5):=HW4.out.nil_trans HX5.out
     have HB5:=hid (HB4.out.only HX5.out (by simp))
     have HA2':=hid (HA2.out.only HX5.out)
     have HA3:=hid (HA3'.out.only HX5.out)
     have HA4':=hid (HA4.out.only HX5.out)
     obtain⟨yn,hyn⟩: ∃yn,decide (b1<b0)=yn:=⟨_,rfl⟩
     rw [hyn]
     have HYn:=hid hyn
     have HPlus:Hid (xn=yn→a0*b0+a1*b1+(if a0<a1 then a1-a0 else a0-a1)*(if b1<b0 then b0-b1 else b1-b0)=a0*b1+a1*b0):=fun h=>kara_plus (by rw [← decide_eq_decide,HXn.out,HYn.out,h])
     have HMinus:Hid (xn≠yn→a0*b1+a1*b0+(if a0<a1 then a1-a0 else a0-a1)*(if b1<b0 then b0-b1 else b1-b0)=a0*b0+a1*b1):=fun h=>kara_minus (by rw [← decide_eq_decide,HXn.out,HYn.out];exact h)
     clear ha5 hf5 ho5 hr5 hq5 HGy HA2 HA3' HA4 HB4 HX5 hyn HXn HYn
     obtain⟨GX,hGX⟩: ∃GX,(if a0<a1 then a1-a0 else a0-a1)=GX:=⟨_,rfl⟩
     obtain⟨GY,hGY⟩: ∃GY,(if b1<b0 then b0-b1 else b1-b0)=GY:=⟨_,rfl⟩
     rw [hGX,hGY] at HPlus HMinus HMd
     rw [hGX] at HA4' HQ4 HlX
     rw [hGY] at HA5 HQ5 HlY
     clear hGX hGY
     have hq4m:(q4:Int)≤m:=by have:=HQ4.out;have:=HlX.out;omega
     have hq5m:(q5:Int)≤m:=by have:=HQ5.out;have:=HlY.out;omega
     go_wp2_with fail
     refine (IH.out (q4+q5) (by omega) (by omega) A4 A5 c4 c5 q4 q5 (limbsOf GX) (limbsOf GY) w5 HA4'.out HA5.out HQ4.out HQ5.out hc4 hc5 (Nat.le_refl _)).mono ?_
     rintro e w6 ⟨u,rfl,hr6,ho6⟩
     rw [val_limbsOf,val_limbsOf] at hr6
     obtain⟨A6,c6,q6,rfl,hq6,hc6,ha6,hf6⟩:=hr6.shape2 (by have:=limbsOf_len_le HMd.out;omega)
     have HA6:=hid ha6
     have HQ6:=hid hq6
     have HW6:Hid (Only [] w w6):=HW5.out.nil_trans ho6
     have HB6:=hid (HB5.out.only ho6 (by simp))
     have HA2:=hid (HA2'.out.only ho6)
     have HA3':=hid (HA3.out.only ho6)
     have HAdd:=hid (nadd_any A2 A3 c2 c3 (limbsOf (a0*b0)) (limbsOf (a1*b1)) w6 HA2.out HA3'.out (by have:=HL1.out;omega) (by have:=HL2.out;omega))
     rw [HQ2.out,HQ3.out,val_limbsOf,val_limbsOf] at HAdd
     clear ha6 hf6 ho6 hr6 hq6 HA2' HA3 HA4' HA5 HB5 HQ4 HQ5 HlX HlY
     go_wp2_with fail
     refine HAdd.out.mono ?_
     rintro e w7 ⟨u,rfl,hr7,ho7⟩
     have HLs:Hid (((limbsOf (a0*b0+a1*b1)).length:Int)≤3000010):=by
      have h1:=HL1.out
      have h2:=HL2.out
      have h3:=lt_limbsOf (a0*b0)
      have h4:=lt_limbsOf (a1*b1)
      obtain⟨K,hK⟩: ∃K:Nat,K=3000005:=⟨_,rfl⟩
      have h5:=Nat.lt_of_lt_of_le h3 (pow_le (j:=K) (by omega))
      have h6:=Nat.lt_of_lt_of_le h4 (pow_le (j:=K) (by omega))
      have h7:BB^K*2≤BB^(K+1):=by rw [Nat.pow_succ];exact Nat.mul_le_mul_left _ BB_two
      have:=limbsOf_len_le (n:=a0*b0+a1*b1) (k:=K+1) (by omega)
      show _≤_
      omega
     obtain⟨A7,c7,q7,rfl,hq7,hc7,ha7,hf7⟩:=hr7.shape2 (by have:=HLs.out;omega)
     have HA7:=hid ha7
     have HQ7:=hid hq7
     have HW7:Hid (Only [] w w7):=HW6.out.nil_trans ho7
     have HB7:=hid (HB6.out.only ho7 (by simp))
     have HA2':=hid (HA2.out.only ho7)
     have HA3:=hid (HA3'.out.only ho7)
     have HA6':=hid (HA6.out.only ho7)
     clear ha7 hf7 ho7 hr7 hq7 HA2 HA3' HA6 HB6 HAdd
     by_cases hxy:xn=yn
     ·have HC:=hid (HPlus.out hxy)
      subst hxy
      have HAdd2:=hid (nadd_any A7 A6 c7 c6 (limbsOf (a0*b0+a1*b1)) (limbsOf (GX*GY)) w7 HA7.out HA6'.out (by have:=HLs.out;omega) (by have:=limbsOf_len_le HMd.out;omega))
      rw [HQ7.out,HQ6.out,val_limbsOf,val_limbsOf,HC.out] at HAdd2
      clear HPlus HMinus HC
      go_wp2_with fail
      refine HAdd2.out.mono ?_
      rintro e w8 ⟨u,rfl,hr8,ho8⟩
      have HT1:Hid (BB^m*(a0*b1+a1*b0)<BB^(Y.length+X.length)):=by
       have h1:=HWhole.out
       have h2:=HTot.out
       show _<_
       omega
      have HLc:=hid (limbsOf_len_le (div_pow_lt HT1.out (by omega)))
      obtain⟨A8,c8,q8,rfl,hq8,hc8,ha8,hf8⟩:=hr8.shape2 (by have:=HLc.out;omega)
      have HF8:Hid (∀ a,A8=some a→a.block≠g):=fun a ha=>by have:=(hf8 a ha).1;have:=HB7.out.lt;omega
      have HA8:=hid ha8
      have HQ8:=hid hq8
      have HW8:Hid (Only [] w w8):=HW7.out.nil_trans ho8
      have HB8:=hid (HB7.out.only ho8 (by simp))
      have HA2:=hid (HA2'.out.only ho8)
      have HA3':=hid (HA3.out.only ho8)
      clear ha8 hf8 ho8 hr8 hq8 HA2' HA3 HA6' HA7 HB7
      have HNe:Hid (∀ A:Option Addr,(∀ a,A=some a→a.block≠g)→ ∀a,A=some a→a.block∉[g]):=fun A h a ha=>by simpa using h a ha
      have HP2:Hid (BB^(2*m)=BB^m*BB^m):=by show _=_;rw [← Nat.pow_add];congr 1;omega
      go_wp2_with fail
      refine (addAt_row g (Y.length+X.length) _ (List.replicate (Y.length+X.length) 0) A2 q2 c2 (a0*b0) 0 w8 (by simp) HB8.out (.zeros _) HA2.out HQ2.out HF2.out (by omega) (by have:=HL1.out;have:=HQ2.out;omega) (by rw [val_zeros,Nat.pow_zero,Nat.one_mul,Nat.zero_add];have:=HTot.out;have:=HWhole.out;omega)).mono ?_
      rintro e w10 ⟨rfl,z10,hb10,hl10,hn10,hv10,ho10⟩
      rw [val_zeros,Nat.pow_zero,Nat.one_mul,Nat.zero_add] at hv10
      rw [List.length_replicate] at hn10
      have HB10:=hid hb10
      have HL10:=hid hl10
      have HN10:=hid hn10
      have HV10:=hid hv10
      have HO10:Hid (Only [] w w10):=HW8.out.trans ho10 (fun k hk=> .inr (by simp at hk;rw [hk];exact HG.out))
      have HA3:=hid (HA3'.out.onlyS ho10 (HNe.out _ HF3.out))
      have HA8':=hid (HA8.out.onlyS ho10 (HNe.out _ HF8.out))
      clear hb10 hl10 hn10 hv10 ho10 HA2 HA3' HA8 HB8 HF2
      have HAt:=hid (addAt_row g (Y.length+X.length) (Y.length+X.length) z10 A3 q3 c3 (a1*b1) (2*m) w10 HN10.out HB10.out HL10.out HA3.out HQ3.out HF3.out (by omega) (by have:=HL2.out;have:=HQ3.out;omega) (by rw [HV10.out,HP2.out];have:=HTot.out;have:=HWhole.out;omega))
      rw [show ((2*m:Nat):Int)=2*(m:Int) by omega] at HAt
      go_wp2_with fail
      refine HAt.out.mono ?_
      rintro e w11 ⟨rfl,z11,hb11,hl11,hn11,hv11,ho11⟩
      rw [HV10.out,HP2.out] at hv11
      rw [HN10.out] at hn11
      have HB11:=hid hb11
      have HL11:=hid hl11
      have HN11:=hid hn11
      have HV11:=hid hv11
      have HO11:Hid (Only [] w w11):=HO10.out.trans ho11 (fun k hk=> .inr (by simp at hk;rw [hk];exact HG.out))
      have HA8:=hid (HA8'.out.onlyS ho11 (HNe.out _ HF8.out))
      clear hb11 hl11 hn11 hv11 ho11 HA3 HA8' HAt HB10 HL10 HN10 HV10 HF3
      go_wp2_with fail
      refine (addAt_row g (Y.length+X.length) _ z11 A8 q8 c8 (a0*b1+a1*b0) m w11 HN11.out HB11.out HL11.out HA8.out HQ8.out HF8.out (by omega) (by have:=HLc.out;have:=HQ8.out;omega) (by rw [HV11.out,←HWhole.out];exact HTot.out)).mono ?_
      rintro e w12 ⟨rfl,z12,hb12,hl12,hn12,hv12,ho12⟩
      rw [HV11.out,←HWhole.out] at hv12
      rw [HN11.out] at hn12
      have HB12:=hid hb12
      have HL12:=hid hl12
      have HN12:=hid hn12
      have HV12:=hid hv12
      have HO12:Hid (Only [] w w12):=HO11.out.trans ho12 (fun k hk=> .inr (by simp at hk;rw [hk];exact HG.out))
      clear hb12 hl12 hn12 hv12 ho12 HA8 HB11 HL11 HN11 HV11 HF8
      go_wp2_with fail
      (with_reducible refine (trim_row g _ _ z12 w12 HB12.out HL12.out HN12.out.symm (Nat.le_refl _) (by omega)).mono ?_)
      rintro e w9 ⟨rfl,rfl⟩
      go_wp2_with fail
      go_ret
      have hr:=res_of_blk (w0:=w) HB12.out HL12.out HG.out (by have:=HN12.out;omega)
      rw [HN12.out] at hr
      exact⟨_,rfl,by rw [← HE2.out,←HV12.out];exact hr,HO12.out⟩
     ·have HC:=hid (HMinus.out hxy)
      have gxy:(xn == yn)=false:=by simpa using hxy
      have HSub2:=hid (nsub_any A7 A6 c7 c6 (limbsOf (a0*b0+a1*b1)) (limbsOf (GX*GY)) w7 HA7.out HA6'.out (by have:=limbsOf_len_mono (m:=GX*GY) (n:=a0*b0+a1*b1) (by have:=HC.out;omega);omega) (by have:=HLs.out;omega) (by show _≤_;rw [val_limbsOf,val_limbsOf];have:=HC.out;omega))
      rw [HQ7.out,HQ6.out,val_limbsOf,val_limbsOf,show a0*b0+a1*b1-GX*GY=a0*b1+a1*b0 by have:=HC.out;omega] at HSub2
      clear HPlus HMinus HC hxy
      go_wp2_with fail
      refine HSub2.out.mono ?_
      rintro e w8 ⟨u,rfl,hr8,ho8⟩
      have HT1:Hid (BB^m*(a0*b1+a1*b0)<BB^(Y.length+X.length)):=by
       have h1:=HWhole.out
       have h2:=HTot.out
       show _<_
       omega
      have HLc:=hid (limbsOf_len_le (div_pow_lt HT1.out (by omega)))
      obtain⟨A8,c8,q8,rfl,hq8,hc8,ha8,hf8⟩:=hr8.shape2 (by have:=HLc.out;omega)
      have HF8:Hid (∀ a,A8=some a→a.block≠g):=fun a ha=>by have:=(hf8 a ha).1;have:=HB7.out.lt;omega
      have HA8:=hid ha8
      have HQ8:=hid hq8
      have HW8:Hid (Only [] w w8):=HW7.out.nil_trans ho8
      have HB8:=hid (HB7.out.only ho8 (by simp))
      have HA2:=hid (HA2'.out.only ho8)
      have HA3':=hid (HA3.out.only ho8)
      clear ha8 hf8 ho8 hr8 hq8 HA2' HA3 HA6' HA7 HB7
      have HNe:Hid (∀ A:Option Addr,(∀ a,A=some a→a.block≠g)→ ∀a,A=some a→a.block∉[g]):=fun A h a ha=>by simpa using h a ha
      have HP2:Hid (BB^(2*m)=BB^m*BB^m):=by show _=_;rw [← Nat.pow_add];congr 1;omega
      go_wp2_with fail
      refine (addAt_row g (Y.length+X.length) _ (List.replicate (Y.length+X.length) 0) A2 q2 c2 (a0*b0) 0 w8 (by simp) HB8.out (.zeros _) HA2.out HQ2.out HF2.out (by omega) (by have:=HL1.out;have:=HQ2.out;omega) (by rw [val_zeros,Nat.pow_zero,Nat.one_mul,Nat.zero_add];have:=HTot.out;have:=HWhole.out;omega)).mono ?_
      rintro e w10 ⟨rfl,z10,hb10,hl10,hn10,hv10,ho10⟩
      rw [val_zeros,Nat.pow_zero,Nat.one_mul,Nat.zero_add] at hv10
      rw [List.length_replicate] at hn10
      have HB10:=hid hb10
      have HL10:=hid hl10
      have HN10:=hid hn10
      have HV10:=hid hv10
      have HO10:Hid (Only [] w w10):=HW8.out.trans ho10 (fun k hk=> .inr (by simp at hk;rw [hk];exact HG.out))
      have HA3:=hid (HA3'.out.onlyS ho10 (HNe.out _ HF3.out))
      have HA8':=hid (HA8.out.onlyS ho10 (HNe.out _ HF8.out))
      clear hb10 hl10 hn10 hv10 ho10 HA2 HA3' HA8 HB8 HF2
      have HAt:=hid (addAt_row g (Y.length+X.length) (Y.length+X.length) z10 A3 q3 c3 (a1*b1) (2*m) w10 HN10.out HB10.out HL10.out HA3.out HQ3.out HF3.out (by omega) (by have:=HL2.out;have:=HQ3.out;omega) (by rw [HV10.out,HP2.out];have:=HTot.out;have:=HWhole.out;omega))
      rw [show ((2*m:Nat):Int)=2*(m:Int) by omega] at HAt
      go_wp2_with fail
      refine HAt.out.mono ?_
      rintro e w11 ⟨rfl,z11,hb11,hl11,hn11,hv11,ho11⟩
      rw [HV10.out,HP2.out] at hv11
      rw [HN10.out] at hn11
      have HB11:=hid hb11
      have HL11:=hid hl11
      have HN11:=hid hn11
      have HV11:=hid hv11
      have HO11:Hid (Only [] w w11):=HO10.out.trans ho11 (fun k hk=> .inr (by simp at hk;rw [hk];exact HG.out))
      have HA8:=hid (HA8'.out.onlyS ho11 (HNe.out _ HF8.out))
      clear hb11 hl11 hn11 hv11 ho11 HA3 HA8' HAt HB10 HL10 HN10 HV10 HF3
      go_wp2_with fail
      refine (addAt_row g (Y.length+X.length) _ z11 A8 q8 c8 (a0*b1+a1*b0) m w11 HN11.out HB11.out HL11.out HA8.out HQ8.out HF8.out (by omega) (by have:=HLc.out;have:=HQ8.out;omega) (by rw [HV11.out,←HWhole.out];exact HTot.out)).mono ?_
      rintro e w12 ⟨rfl,z12,hb12,hl12,hn12,hv12,ho12⟩
      rw [HV11.out,←HWhole.out] at hv12
      rw [HN11.out] at hn12
      have HB12:=hid hb12
      have HL12:=hid hl12
      have HN12:=hid hn12
      have HV12:=hid hv12
      have HO12:Hid (Only [] w w12):=HO11.out.trans ho12 (fun k hk=> .inr (by simp at hk;rw [hk];exact HG.out))
      clear hb12 hl12 hn12 hv12 ho12 HA8 HB11 HL11 HN11 HV11 HF8
      go_wp2_with fail
      (with_reducible refine (trim_row g _ _ z12 w12 HB12.out HL12.out HN12.out.symm (Nat.le_refl _) (by omega)).mono ?_)
      rintro e w9 ⟨rfl,rfl⟩
      go_wp2_with fail
      go_ret
      have hr:=res_of_blk (w0:=w) HB12.out HL12.out HG.out (by have:=HN12.out;omega)
      rw [HN12.out] at hr
      exact⟨_,rfl,by rw [← HE2.out,←HV12.out];exact hr,HO12.out⟩
  ·skip
   by_cases hs:(Y.length:Int)<cut
   ·go_wp2_with fail
    refine (school_any A B c d X Y w HA HB (by omega)).mono ?_
    rintro e w1 ⟨u,rfl,hr,ho⟩
    have HR:=hid hr
    have HO:=hid ho
    clear hr ho
    go_wp2_with fail
    go_ret
    exact⟨u,rfl,HE1.out▸HR.out,HO.out⟩
   ·obtain⟨b,o,rfl,hb0⟩:=HA.out.read 0 (by omega)
    clear hb0
    obtain⟨m,hm⟩: ∃m,(X.length+1)/2=m:=⟨_,rfl⟩
    have hmi:((X.length:Int)+1)/2=(m:Int):=by omega
    have hm1:1≤(m:Int):=by omega
    have hmx:(m:Int)<(X.length:Int):=by omega
    have hm2:(X.length:Int)≤2*m:=by omega
    have hm3:2*(m:Int)≤(X.length:Int)+1:=by omega
    clear hm
    obtain⟨w1,hmk,hb1,ho1,hs1⟩:=make_nat w (X.length+Y.length) (by omega)
    rw [show ((X.length+Y.length:Nat):Int)=(X.length:Int)+(Y.length:Int) by omega] at hmk
    have HB1:=hid hb1
    have HO1:=hid ho1
    obtain⟨g,hg⟩: ∃g,w.heap.size=g:=⟨_,rfl⟩
    rw [hg] at hmk HB1
    have HG:Hid (w.heap.size≤g):=by show _≤_;omega
    have HG1:Hid (g<w1.heap.size):=by show _<_;omega
    clear hb1 ho1 hs1 hg
    have HTk:Hid ((X.take m).length=m):=by show _=_;rw [List.length_take];omega
    have HDk:Hid ((X.drop m).length=X.length-m):=by show _=_;rw [List.length_drop]
    have HXv:Hid (val X=val (X.take m)+BB^m*val (X.drop m)):=val_take_drop X m (by omega)
    have HLx:=hid (val_lt HA.out.limb)
    have HLy:=hid (val_lt HB.out.limb)
    have hcx:X.length≠c∨X.length=c:=by omega
    have hmc:(m:Int)<(c:Int):=by omega
    have hmc': ¬(c=m):=by omega
    clear hcx
    by_cases hym:(Y.length:Int)≤(m:Int)
    ·have hlow:=mul_lt_pow (m:=m) (by have:=val_lt (HA.out.limb.take m);rwa [HTk.out] at this) HLy.out
     have hhigh:=mul_lt_pow (m:=X.length-m) (by have:=val_lt (HA.out.limb.drop m);rwa [HDk.out] at this) HLy.out
     have HL1:=hid (limbsOf_len_le hlow)
     have HL2:=hid (limbsOf_len_le hhigh)
     have HSum:Hid (val (X.take m)*val Y+BB^m*(val (X.drop m)*val Y)=val X*val Y):=by show _=_;rw [HXv.out,Nat.add_mul,Nat.mul_assoc]
     have HTot:Hid (val X*val Y<BB^(X.length+Y.length)):=mul_lt_pow HLx.out HLy.out
     have HI1:=hid (IH.out (m+Y.length) (by omega) (by omega))
     have HI2:=hid (IH.out (X.length-m+Y.length) (by omega) (by omega))
     clear hlow hhigh
     go_wp2_with fail
     refine (HI1.out (some ⟨b,o,none⟩) B c d m Y.length (X.take m) Y w1 ((HA.out.only HO1.out).take m) (HB.out.only HO1.out) HTk.out rfl (by omega) (by omega) (Nat.le_refl _)).mono ?_
     rintro e w2 ⟨u,rfl,hr2,ho2⟩
     obtain⟨A2,c2,rfl,ha2,hf2⟩:=hr2.shape (by have:=HL1.out;omega)
     have HA2:=hid ha2
     have HF2:Hid (∀ a,A2=some a→a.block≠g):=fun a ha=>by have:=(hf2 a ha).1;have:=HG1.out;omega
     have HO2:=hid ho2
     clear ha2 hf2 ho2 hr2
     obtain⟨q,hq⟩: ∃q,(limbsOf (val (X.take m)*val Y)).length=q:=⟨_,rfl⟩
     have HQ:=hid hq
     rw [hq]
     clear hq
     go_wp2_with fail
     refine (addAt_row g (X.length+Y.length) _ (List.replicate (X.length+Y.length) 0) A2 q c2 (val (X.take m)*val Y) 0 w2 (by simp) (HB1.out.only HO2.out (by simp)) (.zeros _) HA2.out HQ.out HF2.out (by omega) (by have:=HL1.out;have:=HQ.out;omega) (by rw [val_zeros,Nat.pow_zero,Nat.one_mul,Nat.zero_add];have:=HTot.out;have:=HSum.out;omega)).mono ?_
     rintro e w3 ⟨rfl,z3,hb3,hl3,hn3,hv3,ho3⟩
     rw [val_zeros,Nat.pow_zero,Nat.one_mul,Nat.zero_add] at hv3
     rw [List.length_replicate] at hn3
     have HB3:=hid hb3
     have HL3:=hid hl3
     have HN3:=hid hn3
     have HV3:=hid hv3
     have HO3:Hid (Only [] w w3):=(HO1.out.nil_trans HO2.out).trans ho3 (fun k hk=> .inr (by simp at hk;rw [hk];exact HG.out))
     have HG3:Hid (g<w3.heap.size):=hb3.lt
     clear hb3 hl3 hn3 hv3 ho3 HA2 HF2 HQ
     go_wp2_with fail
     refine (HI2.out (some ⟨b,o+m,none⟩) B (c-m) d (X.length-m) Y.length (X.drop m) Y w3 ((HA.out.only HO3.out).drop m) (HB.out.only HO3.out) HDk.out rfl (by omega) (by omega) (Nat.le_refl _)).mono ?_
     rintro e w4 ⟨u,rfl,hr4,ho4⟩
     obtain⟨A4,c4,rfl,ha4,hf4⟩:=hr4.shape (by have:=HL2.out;omega)
     have HA4:=hid ha4
     have HF4:Hid (∀ a,A4=some a→a.block≠g):=fun a ha=>by have:=(hf4 a ha).1;have:=HG3.out;omega
     have HO4:=hid ho4
     clear ha4 hf4 ho4 hr4
     obtain⟨q,hq⟩: ∃q,(limbsOf (val (X.drop m)*val Y)).length=q:=⟨_,rfl⟩
     have HQ:=hid hq
     rw [hq]
     clear hq
     go_wp2_with fail
     refine (addAt_row g (X.length+Y.length) _ z3 A4 q c4 (val (X.drop m)*val Y) m w4 HN3.out (HB3.out.only HO4.out (by simp)) HL3.out HA4.out HQ.out HF4.out (by omega) (by have:=HL2.out;have:=HQ.out;omega) (by rw [HV3.out,HSum.out];exact HTot.out)).mono ?_
     rintro e w5 ⟨rfl,z5,hb5,hl5,hn5,hv5,ho5⟩
     rw [HV3.out,HSum.out] at hv5
     rw [HN3.out] at hn5
     have HB5:=hid hb5
     have HL5:=hid hl5
     have HN5:=hid hn5
     have HV5:=hid hv5
     have HO5:Hid (Only [] w w5):=(HO3.out.nil_trans HO4.out).trans ho5 (fun k hk=> .inr (by simp at hk;rw [hk];exact HG.out))
     clear hb5 hl5 hn5 hv5 ho5 HA4 HF4 HQ
     go_wp2_with fail
     (with_reducible refine (trim_row g _ _ z5 w5 HB5.out HL5.out HN5.out.symm (Nat.le_refl _) (by omega)).mono ?_)
     rintro e w9 ⟨rfl,rfl⟩
     go_wp2_with fail
     go_ret
     have hr:=res_of_blk (w0:=w) HB5.out HL5.out HG.out (by have:=HN5.out;omega)
     rw [HN5.out] at hr
     exact⟨_,rfl,by rw [← HE1.out,←HV5.out];exact hr,HO5.out⟩
    ·obtain⟨b',o',rfl,hb0'⟩:=HB.out.read 0 (by omega)
     clear hb0'
     have sx1:=slice_head (some ⟨b,o,none⟩) X.length c m (by omega)
     have sx2:=slice_tail b o X.length c m (by omega) (by omega)
     have sy1:=slice_head (some ⟨b',o',none⟩) Y.length d m (by omega)
     have sy2:=slice_tail b' o' Y.length d m (by omega) (by omega)
     go_wp2_with fail
     go_still_tail 7,(by kernel_rfl)
     change wpList _ _ _ _ _ w1.drew
     have HD1:Hid (Only [] w1 w1.drew):=(Only.refl [] w1).drew
     generalize w1.drew=w1d at HD1 ⊢
     have HTy:Hid ((Y.take m).length=m):=by show _=_;rw [List.length_take];omega
     have HDy:Hid ((Y.drop m).length=Y.length-m):=by show _=_;rw [List.length_drop]
     have HYv:Hid (val Y=val (Y.take m)+BB^m*val (Y.drop m)):=val_take_drop Y m (by omega)
     have ba0:=val_lt (HA.out.limb.take m)
     have ba1:=val_lt (HA.out.limb.drop m)
     have bb0:=val_lt (HB.out.limb.take m)
     have bb1:=val_lt (HB.out.limb.drop m)
     rw [HTk.out] at ba0
     rw [HDk.out] at ba1
     rw [HTy.out] at bb0
     rw [HDy.out] at bb1
     have HL1:=hid (limbsOf_len_le (mul_lt_pow ba0 bb0))
     have HL2:=hid (limbsOf_len_le (mul_lt_pow ba1 bb1))
     have HTot:Hid (val X*val Y<BB^(X.length+Y.length)):=mul_lt_pow HLx.out HLy.out
     have HI1:=hid (IH.out (m+m) (by omega) (by omega) (some ⟨b,o,none⟩) (some ⟨b',o',none⟩) c d m m (X.take m) (Y.take m) w1d ((HA.out.only (HO1.out.nil_trans HD1.out)).take m) ((HB.out.only (HO1.out.nil_trans HD1.out)).take m) HTk.out HTy.out (by omega) (by omega) (Nat.le_refl _))
     have HI2:Hid (∀ wx,Only [] w wx→Calls _ _ _ _ _):=fun wx hx=>IH.out (X.length-m+(Y.length-m)) (by omega) (by omega) (some ⟨b,o+m,none⟩) (some ⟨b',o'+m,none⟩) (c-m) (d-m) (X.length-m) (Y.length-m) (X.drop m) (Y.drop m) wx ((HA.out.only hx).drop m) ((HB.out.only hx).drop m) HDk.out HDy.out (by omega) (by omega) (Nat.le_refl _)
     have HGx:Hid (∀ wx,Only [] w wx→Calls _ _ _ _ _):=fun wx hx=>gap_any (some ⟨b,o,none⟩) (some ⟨b,o+m,none⟩) c (c-m) (X.take m) (X.drop m) wx ((HA.out.only hx).take m) ((HA.out.only hx).drop m) (by rw [HTk.out];omega) (by rw [HDk.out];omega)
     have HGy:Hid (∀ wx,Only [] w wx→Calls _ _ _ _ _):=fun wx hx=>gap_any (some ⟨b',o'+m,none⟩) (some ⟨b',o',none⟩) (d-m) d (Y.drop m) (Y.take m) wx ((HB.out.only hx).drop m) ((HB.out.only hx).take m) (by rw [HDy.out];omega) (by rw [HTy.out];omega)
     simp only [HTk.out,HDk.out] at HGx
     simp only [HTy.out,HDy.out] at HGy
     have HWhole:=hid (kara_whole (val (X.take m)) (val (X.drop m)) (val (Y.take m)) (val (Y.drop m)) (BB^m))
     rw [← HXv.out,←HYv.out] at HWhole
     have HW1:Hid (Only [] w w1d):=HO1.out.nil_trans HD1.out
     have HB1d:=hid (HB1.out.only HD1.out (by simp))
     have HG1d:Hid (g<w1d.heap.size):=HB1d.out.lt
     have HMid:=hid (fun (a0 a1 b0 b1:Nat) (h0:a0<BB^m) (h1:a1<BB^m) (h2:b0<BB^m) (h3:b1<BB^m)=>mul_lt_pow (a:=if a0<a1 then a1-a0 else a0-a1) (b:=if b1<b0 then b0-b1 else b1-b0) (m:=m) (n:=m) (by split<;>omega) (by split<;>omega))
     have ba1':val (X.drop m)<BB^m:=Nat.lt_of_lt_of_le ba1 (pow_le (by omega))
     have bb1':val (Y.drop m)<BB^m:=Nat.lt_of_lt_of_le bb1 (pow_le (by omega))
     have HMd:=hid (HMid.out _ _ _ _ ba0 ba1' bb0 bb1')
     have HXl:Hid (∀ a0 a1:Nat,a0<BB^m→a1<BB^m→((limbsOf (if a0<a1 then a1-a0 else a0-a1)).length:Int)≤m):=fun a0 a1 h0 h1=>by
      have:=limbsOf_len_le (n:=if a0<a1 then a1-a0 else a0-a1) (k:=m) (by split<;>omega)
      omega
     have HlX:=hid (HXl.out _ _ ba0 ba1')
     have HlY:=hid (HXl.out _ _ bb1' bb0)
     obtain⟨a0,ha0⟩: ∃a0,val (X.take m)=a0:=⟨_,rfl⟩
     obtain⟨a1,ha1⟩: ∃a1,val (X.drop m)=a1:=⟨_,rfl⟩
     obtain⟨b0,hb0⟩: ∃b0,val (Y.take m)=b0:=⟨_,rfl⟩
     obtain⟨b1,hb1⟩: ∃b1,val (Y.drop m)=b1:=⟨_,rfl⟩
     rw [ha0,hb0] at HI1 HL1
     rw [ha1,hb1] at HI2 HL2
     rw [ha0,ha1] at HGx HlX
     rw [hb0,hb1] at HGy HlY
     rw [ha0,ha1,hb0,hb1] at HWhole HMd
     clear ba0 ba1 bb0 bb1 ba1' bb1' ha0 ha1 hb0 hb1 HXl HMid HB1 hmk
     go_wp2_with fail
     refine HI1.out.mono ?_
     rintro e w2 ⟨u,rfl,hr2,ho2⟩
     obtain⟨A2,c2,q2,rfl,hq2,hc2,ha2,hf2⟩:=hr2.shape2 (by have:=HL1.out;omega)
     have HA2:=hid ha2
     have HF2:Hid (∀ a,A2=some a→a.block≠g):=fun a ha=>by have:=(hf2 a ha).1;have:=HG1d.out;omega
     have HW2:Hid (Only [] w w2):=HW1.out.nil_trans ho2
     have HB2:=hid (HB1d.out.only ho2 (by simp))
     have HQ2:=hid hq2
     clear ha2 hf2 ho2 hr2 HI1 hq2 hc2 HB1d
     go_wp2_with fail
     go_still_tail 7,(by kernel_rfl)
     change wpList _ _ _ _ _ w2.drew
     have HD2:Hid (Only [] w2 w2.drew):=(Only.refl [] w2).drew
     generalize w2.drew=w2d at HD2 ⊢
     go_wp2_with fail
     refine (HI2.out w2d (HW2.out.nil_trans HD2.out)).mono ?_
     rintro e w3 ⟨u,rfl,hr3,ho3⟩
     obtain⟨A3,c3,q3,rfl,hq3,hc3,ha3,hf3⟩:=hr3.shape2 (by have:=HL2.out;omega)
     have HX3:Hid (Only [] w2 w3):=HD2.out.nil_trans ho3
     have HF3:Hid (∀ a,A3=some a→a.block≠g):=fun a ha=>by have:=(hf3 a ha).1;have:=HB2.out.lt;have:=HD2.out.size;omega
     have HA3:=hid ha3
     have HQ3:=hid hq3
     have HW3:Hid (Only [] w w3):=HW2.out.nil_trans HX3.out
     have HB3:=hid (HB2.out.only HX3.out (by simp))
     have HA2':=hid (HA2.out.only HX3.out)
     clear ha3 hf3 ho3 hr3 hq3 hc3 HI2 HD2 HA2 HB2 HX3
     go_wp2_with fail
     go_region_with (go_at_call 156;refine (HGx.out _ HW3.out.drew).mono ?_;rintro e w4 ⟨u,rfl,hr4,ho4⟩)
     obtain⟨A4,c4,q4,rfl,hq4,hc4,ha4,hf4⟩:=hr4.shape2 (by have:=HlX.out;omega)
     have HX4:Hid (Only [] w3 w4):=(Only.refl [] w3).drew.nil_trans ho4
     have HA4:=hid ha4
     have HQ4:=hid hq4
     have HW4:Hid (Only [] w w4):=HW3.out.nil_trans HX4.out
     have HB4:=hid (HB3.out.only HX4.out (by simp))
     have HA2:=hid (HA2'.out.only HX4.out)
     have HA3':=hid (HA3.out.only HX4.out)
     obtain⟨xn,hxn⟩: ∃xn,decide (a0<a1)=xn:=⟨_,rfl⟩
     rw [hxn]
     have HXn:=hid hxn
     clear ha4 hf4 ho4 hr4 hq4 HGx HA2' HA3 HB3 HX4 hxn
     go_wp2_with fail
     go_region_with (go_at_call 156;refine (HGy.out _ HW4.out.drew).mono ?_;rintro e w5 ⟨u,rfl,hr5,ho5⟩)
     obtain⟨A5,c5,q5,rfl,hq5,hc5,ha5,hf5⟩:=hr5.shape2 (by have:=HlY.out;omega)
     have HX5:Hid (Only [] w4 w5):=(Only.refl [] w4).drew.nil_trans ho5
     have HA5:=hid ha5
     have HQ5:=hid hq5
     have HW5:Hid (Only [] w w5):=HW4.out.nil_trans HX5.out
     have HB5:=hid (HB4.out.only HX5.out (by simp))
     have HA2':=hid (HA2.out.only HX5.out)
     have HA3:=hid (HA3'.out.only HX5.out)
     have HA4':=hid (HA4.out.only HX5.out)
     obtain⟨yn,hyn⟩: ∃yn,decide (b1<b0)=yn:=⟨_,rfl⟩
     rw [hyn]
     have HYn:=hid hyn
     have HPlus:Hid (xn=yn→a0*b0+a1*b1+(if a0<a1 then a1-a0 else a0-a1)*(if b1<b0 then b0-b1 else b1-b0)=a0*b1+a1*b0):=fun h=>kara_plus (by rw [← decide_eq_decide,HXn.out,HYn.out,h])
     have HMinus:Hid (xn≠yn→a0*b1+a1*b0+(if a0<a1 then a1-a0 else a0-a1)*(if b1<b0 then b0-b1 else b1-b0)=a0*b0+a1*b1):=fun h=>kara_minus (by rw [← decide_eq_decide,HXn.out,HYn.out];exact h)
     clear ha5 hf5 ho5 hr5 hq5 HGy HA2 HA3' HA4 HB4 HX5 hyn HXn HYn
     obtain⟨GX,hGX⟩: ∃GX,(if a0<a1 then a1-a0 else a0-a1)=GX:=⟨_,rfl⟩
     obtain⟨GY,hGY⟩: ∃GY,(if b1<b0 then b0-b1 else b1-b0)=GY:=⟨_,rfl⟩
     rw [hGX,hGY] at HPlus HMinus HMd
     rw [hGX] at HA4' HQ4 HlX
     rw [hGY] at HA5 HQ5 HlY
     clear hGX hGY
     have hq4m:(q4:Int)≤m:=by have:=HQ4.out;have:=HlX.out;omega
     have hq5m:(q5:Int)≤m:=by have:=HQ5.out;have:=HlY.out;omega
     go_wp2_with fail
     refine (IH.out (q4+q5) (by omega) (by omega) A4 A5 c4 c5 q4 q5 (limbsOf GX) (limbsOf GY) w5 HA4'.out HA5.out HQ4.out HQ5.out hc4 hc5 (Nat.le_refl _)).mono ?_
     rintro e w6 ⟨u,rfl,hr6,ho6⟩
     rw [val_limbsOf,val_limbsOf] at hr6
     obtain⟨A6,c6,q6,rfl,hq6,hc6,ha6,hf6⟩:=hr6.shape2 (by have:=limbsOf_len_le HMd.out;omega)
     have HA6:=hid ha6
     have HQ6:=hid hq6
     have HW6:Hid (Only [] w w6):=HW5.out.nil_trans ho6
     have HB6:=hid (HB5.out.only ho6 (by simp))
     have HA2:=hid (HA2'.out.only ho6)
     have HA3':=hid (HA3.out.only ho6)
     have HAdd:=hid (nadd_any A2 A3 c2 c3 (limbsOf (a0*b0)) (limbsOf (a1*b1)) w6 HA2.out HA3'.out (by have:=HL1.out;omega) (by have:=HL2.out;omega))
     rw [HQ2.out,HQ3.out,val_limbsOf,val_limbsOf] at HAdd
     clear ha6 hf6 ho6 hr6 hq6 HA2' HA3 HA4' HA5 HB5 HQ4 HQ5 HlX HlY
     go_wp2_with fail
     refine HAdd.out.mono ?_
     rintro e w7 ⟨u,rfl,hr7,ho7⟩
     have HLs:Hid (((limbsOf (a0*b0+a1*b1)).length:Int)≤3000010):=by
      have h1:=HL1.out
      have h2:=HL2.out
      have h3:=lt_limbsOf (a0*b0)
      have h4:=lt_limbsOf (a1*b1)
      obtain⟨K,hK⟩: ∃K:Nat,K=3000005:=⟨_,rfl⟩
      have h5:=Nat.lt_of_lt_of_le h3 (pow_le (j:=K) (by omega))
      have h6:=Nat.lt_of_lt_of_le h4 (pow_le (j:=K) (by omega))
      have h7:BB^K*2≤BB^(K+1):=by rw [Nat.pow_succ];exact Nat.mul_le_mul_left _ BB_two
      have:=limbsOf_len_le (n:=a0*b0+a1*b1) (k:=K+1) (by omega)
      show _≤_
      omega
     obtain⟨A7,c7,q7,rfl,hq7,hc7,ha7,hf7⟩:=hr7.shape2 (by have:=HLs.out;omega)
     have HA7:=hid ha7
     have HQ7:=hid hq7
     have HW7:Hid (Only [] w w7):=HW6.out.nil_trans ho7
     have HB7:=hid (HB6.out.only ho7 (by simp))
     have HA2':=hid (HA2.out.only ho7)
     have HA3:=hid (HA3'.out.only ho7)
     have HA6':=hid (HA6.out.only ho7)
     clear ha7 hf7 ho7 hr7 hq7 HA2 HA3' HA6 HB6 HAdd
     by_cases hxy:xn=yn
     ·have HC:=hid (HPlus.out hxy)
      subst hxy
      have HAdd2:=hid (nadd_any A7 A6 c7 c6 (limbsOf (a0*b0+a1*b1)) (limbsOf (GX*GY)) w7 HA7.out HA6'.out (by have:=HLs.out;omega) (by have:=limbsOf_len_le HMd.out;omega))
      rw [HQ7.out,HQ6.out,val_limbsOf,val_limbsOf,HC.out] at HAdd2
      clear HPlus HMinus HC
      go_wp2_with fail
      refine HAdd2.out.mono ?_
      rintro e w8 ⟨u,rfl,hr8,ho8⟩
      have HT1:Hid (BB^m*(a0*b1+a1*b0)<BB^(X.length+Y.length)):=by
       have h1:=HWhole.out
       have h2:=HTot.out
       show _<_
       omega
      have HLc:=hid (limbsOf_len_le (div_pow_lt HT1.out (by omega)))
      obtain⟨A8,c8,q8,rfl,hq8,hc8,ha8,hf8⟩:=hr8.shape2 (by have:=HLc.out;omega)
      have HF8:Hid (∀ a,A8=some a→a.block≠g):=fun a ha=>by have:=(hf8 a ha).1;have:=HB7.out.lt;omega
      have HA8:=hid ha8
      have HQ8:=hid hq8
      have HW8:Hid (Only [] w w8):=HW7.out.nil_trans ho8
      have HB8:=hid (HB7.out.only ho8 (by simp))
      have HA2:=hid (HA2'.out.only ho8)
      have HA3':=hid (HA3.out.only ho8)
      clear ha8 hf8 ho8 hr8 hq8 HA2' HA3 HA6' HA7 HB7
      have HNe:Hid (∀ A:Option Addr,(∀ a,A=some a→a.block≠g)→ ∀a,A=some a→a.block∉[g]):=fun A h a ha=>by simpa using h a ha
      have HP2:Hid (BB^(2*m)=BB^m*BB^m):=by show _=_;rw [← Nat.pow_add];congr 1;omega
      go_wp2_with fail
      refine (addAt_row g (X.length+Y.length) _ (List.replicate (X.length+Y.length) 0) A2 q2 c2 (a0*b0) 0 w8 (by simp) HB8.out (.zeros _) HA2.out HQ2.out HF2.out (by omega) (by have:=HL1.out;have:=HQ2.out;omega) (by rw [val_zeros,Nat.pow_zero,Nat.one_mul,Nat.zero_add];have:=HTot.out;have:=HWhole.out;omega)).mono ?_
      rintro e w10 ⟨rfl,z10,hb10,hl10,hn10,hv10,ho10⟩
      rw [val_zeros,Nat.pow_zero,Nat.one_mul,Nat.zero_add] at hv10
      rw [List.length_replicate] at hn10
      have HB10:=hid hb10
      have HL10:=hid hl10
      have HN10:=hid hn10
      have HV10:=hid hv10
      have HO10:Hid (Only [] w w10):=HW8.out.trans ho10 (fun k hk=> .inr (by simp at hk;rw [hk];exact HG.out))
      have HA3:=hid (HA3'.out.onlyS ho10 (HNe.out _ HF3.out))
      have HA8':=hid (HA8.out.onlyS ho10 (HNe.out _ HF8.out))
      clear hb10 hl10 hn10 hv10 ho10 HA2 HA3' HA8 HB8 HF2
      have HAt:=hid (addAt_row g (X.length+Y.length) (X.length+Y.length) z10 A3 q3 c3 (a1*b1) (2*m) w10 HN10.out HB10.out HL10.out HA3.out HQ3.out HF3.out (by omega) (by have:=HL2.out;have:=HQ3.out;omega) (by rw [HV10.out,HP2.out];have:=HTot.out;have:=HWhole.out;omega))
      rw [show ((2*m:Nat):Int)=2*(m:Int) by omega] at HAt
      go_wp2_with fail
      refine HAt.out.mono ?_
      rintro e w11 ⟨rfl,z11,hb11,hl11,hn11,hv11,ho11⟩
      rw [HV10.out,HP2.out] at hv11
      rw [HN10.out] at hn11
      have HB11:=hid hb11
      have HL11:=hid hl11
      have HN11:=hid hn11
      have HV11:=hid hv11
      have HO11:Hid (Only [] w w11):=HO10.out.trans ho11 (fun k hk=> .inr (by simp at hk;rw [hk];exact HG.out))
      have HA8:=hid (HA8'.out.onlyS ho11 (HNe.out _ HF8.out))
      clear hb11 hl11 hn11 hv11 ho11 HA3 HA8' HAt HB10 HL10 HN10 HV10 HF3
      go_wp2_with fail
      refine (addAt_row g (X.length+Y.length) _ z11 A8 q8 c8 (a0*b1+a1*b0) m w11 HN11.out HB11.out HL11.out HA8.out HQ8.out HF8.out (by omega) (by have:=HLc.out;have:=HQ8.out;omega) (by rw [HV11.out,←HWhole.out];exact HTot.out)).mono ?_
      rintro e w12 ⟨rfl,z12,hb12,hl12,hn12,hv12,ho12⟩
      rw [HV11.out,←HWhole.out] at hv12
      rw [HN11.out] at hn12
      have HB12:=hid hb12
      have HL12:=hid hl12
      have HN12:=hid hn12
      have HV12:=hid hv12
      have HO12:Hid (Only [] w w12):=HO11.out.trans ho12 (fun k hk=> .inr (by simp at hk;rw [hk];exact HG.out))
      clear hb12 hl12 hn12 hv12 ho12 HA8 HB11 HL11 HN11 HV11 HF8
      go_wp2_with fail
      (with_reducible refine (trim_row g _ _ z12 w12 HB12.out HL12.out HN12.out.symm (Nat.le_refl _) (by omega)).mono ?_)
      rintro e w9 ⟨rfl,rfl⟩
      go_wp2_with fail
      go_ret
      have hr:=res_of_blk (w0:=w) HB12.out HL12.out HG.out (by have:=HN12.out;omega)
      rw [HN12.out] at hr
      exact⟨_,rfl,by rw [← HE1.out,←HV12.out];exact hr,HO12.out⟩
     ·have HC:=hid (HMinus.out hxy)
      have gxy:(xn == yn)=false:=by simpa using hxy
      have HSub2:=hid (nsub_any A7 A6 c7 c6 (limbsOf (a0*b0+a1*b1)) (limbsOf (GX*GY)) w7 HA7.out HA6'.out (by have:=limbsOf_len_mono (m:=GX*GY) (n:=a0*b0+a1*b1) (by have:=HC.out;omega);omega) (by have:=HLs.out;omega) (by show _≤_;rw [val_limbsOf,val_limbsOf];have:=HC.out;omega))
      rw [HQ7.out,HQ6.out,val_limbsOf,val_limbsOf,show a0*b0+a1*b1-GX*GY=a0*b1+a1*b0 by have:=HC.out;omega] at HSub2
      clear HPlus HMinus HC hxy
      go_wp2_with fail
      refine HSub2.out.mono ?_
      rintro e w8 ⟨u,rfl,hr8,ho8⟩
      have HT1:Hid (BB^m*(a0*b1+a1*b0)<BB^(X.length+Y.length)):=by
       have h1:=HWhole.out
       have h2:=HTot.out
       show _<_
       omega
      have HLc:=hid (limbsOf_len_le (div_pow_lt HT1.out (by omega)))
      obtain⟨A8,c8,q8,rfl,hq8,hc8,ha8,hf8⟩:=hr8.shape2 (by have:=HLc.out;omega)
      have HF8:Hid (∀ a,A8=some a→a.block≠g):=fun a ha=>by have:=(hf8 a ha).1;have:=HB7.out.lt;omega
      have HA8:=hid ha8
      have HQ8:=hid hq8
      have HW8:Hid (Only [] w w8):=HW7.out.nil_trans ho8
      have HB8:=hid (HB7.out.only ho8 (by simp))
      have HA2:=hid (HA2'.out.only ho8)
      have HA3':=hid (HA3.out.only ho8)
      clear ha8 hf8 ho8 hr8 hq8 HA2' HA3 HA6' HA7 HB7
      have HNe:Hid (∀ A:Option Addr,(∀ a,A=some a→a.block≠g)→ ∀a,A=some a→a.block∉[g]):=fun A h a ha=>by simpa using h a ha
      have HP2:Hid (BB^(2*m)=BB^m*BB^m):=by show _=_;rw [← Nat.pow_add];congr 1;omega
      go_wp2_with fail
      refine (addAt_row g (X.length+Y.length) _ (List.replicate (X.length+Y.length) 0) A2 q2 c2 (a0*b0) 0 w8 (by simp) HB8.out (.zeros _) HA2.out HQ2.out HF2.out (by omega) (by have:=HL1.out;have:=HQ2.out;omega) (by rw [val_zeros,Nat.pow_zero,Nat.one_mul,Nat.zero_add];have:=HTot.out;have:=HWhole.out;omega)).mono ?_
      rintro e w10 ⟨rfl,z10,hb10,hl10,hn10,hv10,ho10⟩
      rw [val_zeros,Nat.pow_zero,Nat.one_mul,Nat.zero_add] at hv10
      rw [List.length_replicate] at hn10
      have HB10:=hid hb10
      have HL10:=hid hl10
      have HN10:=hid hn10
      have HV10:=hid hv10
      have HO10:Hid (Only [] w w10):=HW8.out.trans ho10 (fun k hk=> .inr (by simp at hk;rw [hk];exact HG.out))
      have HA3:=hid (HA3'.out.onlyS ho10 (HNe.out _ HF3.out))
      have HA8':=hid (HA8.out.onlyS ho10 (HNe.out _ HF8.out))
      clear hb10 hl10 hn10 hv10 ho10 HA2 HA3' HA8 HB8 HF2
      have HAt:=hid (addAt_row g (X.length+Y.length) (X.length+Y.length) z10 A3 q3 c3 (a1*b1) (2*m) w10 HN10.out HB10.out HL10.out HA3.out HQ3.out HF3.out (by omega) (by have:=HL2.out;have:=HQ3.out;omega) (by rw [HV10.out,HP2.out];have:=HTot.out;have:=HWhole.out;omega))
      rw [show ((2*m:Nat):Int)=2*(m:Int) by omega] at HAt
      go_wp2_with fail
      refine HAt.out.mono ?_
      rintro e w11 ⟨rfl,z11,hb11,hl11,hn11,hv11,ho11⟩
      rw [HV10.out,HP2.out] at hv11
      rw [HN10.out] at hn11
      have HB11:=hid hb11
      have HL11:=hid hl11
      have HN11:=hid hn11
      have HV11:=hid hv11
      have HO11:Hid (Only [] w w11):=HO10.out.trans ho11 (fun k hk=> .inr (by simp at hk;rw [hk];exact HG.out))
      have HA8:=hid (HA8'.out.onlyS ho11 (HNe.out _ HF8.out))
      clear hb11 hl11 hn11 hv11 ho11 HA3 HA8' HAt HB10 HL10 HN10 HV10 HF3
      go_wp2_with fail
      refine (addAt_row g (X.length+Y.length) _ z11 A8 q8 c8 (a0*b1+a1*b0) m w11 HN11.out HB11.out HL11.out HA8.out HQ8.out HF8.out (by omega) (by have:=HLc.out;have:=HQ8.out;omega) (by rw [HV11.out,←HWhole.out];exact HTot.out)).mono ?_
      rintro e w12 ⟨rfl,z12,hb12,hl12,hn12,hv12,ho12⟩
      rw [HV11.out,←HWhole.out] at hv12
      rw [HN11.out] at hn12
      have HB12:=hid hb12
      have HL12:=hid hl12
      have HN12:=hid hn12
      have HV12:=hid hv12
      have HO12:Hid (Only [] w w12):=HO11.out.trans ho12 (fun k hk=> .inr (by simp at hk;rw [hk];exact HG.out))
      clear hb12 hl12 hn12 hv12 ho12 HA8 HB11 HL11 HN11 HV11 HF8
      go_wp2_with fail
      (with_reducible refine (trim_row g _ _ z12 w12 HB12.out HL12.out HN12.out.symm (Nat.le_refl _) (by omega)).mono ?_)
      rintro e w9 ⟨rfl,rfl⟩
      go_wp2_with fail
      go_ret
      have hr:=res_of_blk (w0:=w) HB12.out HL12.out HG.out (by have:=HN12.out;omega)
      rw [HN12.out] at hr
      exact⟨_,rfl,by rw [← HE1.out,←HV12.out];exact hr,HO12.out⟩
theorem nmul_any (cut:Int) (hcut:2≤cut) (A B:Option Addr) (c d:Nat) (xs ys:List Nat) (w:World) (hA:Hid (Arg w A xs)) (hB:Hid (Arg w B ys)) (hc:xs.length≤c) (hd:ys.length≤d) (hl:xs.length+ys.length≤3000000):
  Calls Tryz.prog 132 #[.int .i64 cut,.slice A xs.length c,.slice B ys.length d] w (NPost (val xs*val ys) w):=
 mul_all cut hcut _ hl A B c d _ _ xs ys w hA hB rfl rfl hc hd (Nat.le_refl _)
theorem mul_any (cut:Int) (A B:Option Addr) (c d:Nat) (xs ys:List Nat) (w:World) (hA:Hid (Arg w A xs)) (hB:Hid (Arg w B ys)) (hc:xs.length≤c) (hd:ys.length≤d) (hl:xs.length+ys.length≤3000000):
  Calls Tryz.prog 121 #[.int .i64 cut,.slice A xs.length c,.slice B ys.length d] w (NPost (val xs*val ys) w):=by
 by_cases h2:cut<2
 ·go_enter Tryz.func121,Tryz.ntmps121
  go_wp2_with fail
  refine (nmul_any 2 (by omega) A B c d xs ys w hA hB hc hd hl).mono ?_
  rintro e w1 ⟨u,rfl,hr,ho⟩
  have HR:=hid hr
  have HO:=hid ho
  clear hr ho
  go_wp2_with fail
  go_ret
  exact⟨u,rfl,HR.out,HO.out⟩
 ·go_enter Tryz.func121,Tryz.ntmps121
  go_wp2_with fail
  refine (nmul_any cut (by omega) A B c d xs ys w hA hB hc hd hl).mono ?_
  rintro e w1 ⟨u,rfl,hr,ho⟩
  have HR:=hid hr
  have HO:=hid ho
  clear hr ho
  go_wp2_with fail
  go_ret
  exact⟨u,rfl,HR.out,HO.out⟩
end Go.Proofs.YtigpnopeacicpaaGreatDoor
