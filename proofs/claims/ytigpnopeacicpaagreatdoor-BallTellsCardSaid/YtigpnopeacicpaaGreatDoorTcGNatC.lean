import Derived.Test.YtigpnopeacicpaaGreatDoorTcGNatB
import Derived.Test.YtigpnopeacicpaaGreatDoorTcJ0
import Derived.Laws.Bits64b
import Derived.StillTailTactics
namespace Go.Proofs.YtigpnopeacicpaaGreatDoor
open Go.Lib (hid)
open Go.RowKit
structure GCar (w wr:World) (g:Nat) (zs zs':List Nat) (i cy T:Nat):Prop extends ACar w wr g zs zs' i cy T where
 high: ∀j,i≤j→zs'[j]?.getD 0=zs[j]?.getD 0
theorem GCar.step {w wr:World} {g:Nat} {zs zs':List Nat} {i cy T v:Nat} (h:GCar w wr g zs zs' i cy T) (hi:i<zs.length) (hv:v<BB) {T':Nat} (hT:T'=T+BB^i*v):
  GCar w (wr.setCell ⟨g,i,none⟩ (.int .u64 ((aLo (zs'[i]?.getD 0) v cy:Nat):Int))) g zs (zs'.set i (aLo (zs'[i]?.getD 0) v cy)) (i+1) (aHi (zs'[i]?.getD 0) v cy) T':=
 ⟨h.toACar.step hi hv hT,fun j hj=>by rw [set_get_ne (by omega)];exact h.high j (by omega)⟩
def GivePost (g:Nat) (us:List Nat) (i T:Nat) (w:World) (e:Ending) (w':World):Prop:=
 ∃cy us',e= .returned (.int .u64 ((cy:Nat):Int))∧GCar w w' g us us' i cy T
set_option maxHeartbeats 1600000 in
theorem giveBack_any (g p c:Nat) (us:List Nat) (A:Option Addr) (d n:Nat) (vs:List Nat) (w:World) (hu:Hid (Blk w g 133 (limbV us))) (hul:Hid (Limb us)) (hA:Hid (Arg w A vs)) (hag:Hid (0<vs.length→ ∀a,A=some a→a.block≠g))
  (hn:vs.length=n) (hfit:p+n<us.length) (hlen:(us.length:Int)≤16000000):
  Calls Tryz.prog 151 #[.slice (some ⟨g,p,none⟩) (n+1) c,.slice A n d] w (GivePost g us (p+n+1) (val us+BB^p*val vs) w):=by
 subst hn
 have HStart:Hid (GCar w w g us us (p+0) 0 (val us+BB^p*val (vs.take 0))):=⟨⟨hu.out,hul.out,rfl,by omega,by simp [val],Only.refl _ _⟩,fun _ _=>rfl⟩
 go_enter Tryz.func151,Tryz.ntmps151
 go_wp2_with fail
 go_loopw [5,10] (fun cv kv wr=> ∃(k cy:Nat) (zs:List Nat),k≤vs.length∧kv= .int .i64 (k:Int)∧cv= .int .u64 (cy:Int)∧GCar w wr g us zs (p+k) cy (val us+BB^p*val (vs.take k))) (fun _ kv _=>vs.length-(intOf kv).toNat)
 case atStart=>exact⟨0,0,us,Nat.zero_le _,rfl,rfl,HStart.out⟩
 case round=>
  obtain⟨k,cy,zs,hk,rfl,rfl,hR⟩:=hrel
  have HR:=hid hR
  clear hR HStart
  by_cases hlt:k<vs.length
  ·obtain⟨b,o,rfl,hc⟩:=hA.out.read k hlt
   have hbg:b≠g:=hag.out (by omega) _ rfl
   have c1:=HR.out.only.cell hc (by simpa using hbg)
   have c2:=HR.out.blk.cell (p+k)
   rw [limbV_get _ _ (by rw [HR.out.len];omega)] at c2
   have f2:=HR.out.blk.frozen (p+k)
   have hvk:=hA.out.limb.get k
   have ha:=fun wx=>add64_run (zs[p+k]?.getD 0) (vs[k]?.getD 0) cy (HR.out.limb.get _) hvk HR.out.cyle wx
   have HS:=hid (HR.out.step (T':=val us+BB^p*val (vs.take (k+1))) (by omega) hvk (by rw [val_take_succ vs k hlt,Nat.mul_add,←Nat.mul_assoc,←Nat.pow_add,←Nat.add_assoc]))
   generalize zs[p+k]?.getD 0=z at c2 ha HS
   generalize vs[k]?.getD 0=v at c1 ha HS
   have hk':(k:Int)<(vs.length:Int):=by omega
   clear hc hvk hlt
   go_wp2_with fail
   go_roundw
   case rel=>exact⟨k+1,_,_,by omega,by go_num,rfl,HS.out⟩
   case measure=>simp [intOf];omega
  ·have hnl: ¬(k:Int)<(vs.length:Int):=by omega
   have e:k=vs.length:=by omega
   have HR2:Hid (GCar w wr g us zs (p+vs.length) cy (val us+BB^p*val vs)):=by
    have:=HR.out
    rw [e,val_take_all] at this
    exact this
   have c2:=HR2.out.blk.cell (p+vs.length)
   rw [limbV_get _ _ (by rw [HR2.out.len];omega)] at c2
   have f2:=HR2.out.blk.frozen (p+vs.length)
   have hcy:=HR2.out.cyle
   have ha: ∀wx,(callFunc 164 #[.int .u64 ((zs[p+vs.length]?.getD 0:Nat):Int),.int .u64 0,.int .u64 (cy:Int)]).run Tryz.prog wx= .ok (.value (.tuple #[.int .u64 ((aLo (zs[p+vs.length]?.getD 0) 0 cy:Nat):Int),.int .u64 ((aHi (zs[p+vs.length]?.getD 0) 0 cy:Nat):Int)])) wx:=
    fun wx=>add64_run (zs[p+vs.length]?.getD 0) 0 cy (HR2.out.limb.get _) BB_pos hcy wx
   have HS:=hid (HR2.out.step (T':=val us+BB^p*val vs) (by omega) BB_pos (by omega))
   generalize zs[p+vs.length]?.getD 0=z at c2 ha HS
   clear e HR hlt hcy
   go_wp2_with fail
   go_ret
   exact⟨_,_,rfl,HS.out⟩
structure TCar (w wr:World) (g:Nat) (us zs:List Nat) (i cy T U:Nat):Prop where
 blk:Blk wr g 133 (limbV zs)
 limb:Limb zs
 len:zs.length=us.length
 cylt:cy<BB
 val_:val zs+U=T+BB^i*cy
 only:Only [g] w wr
 high: ∀j,i≤j→zs[j]?.getD 0=us[j]?.getD 0
theorem TCar.step {w wr:World} {g:Nat} {us zs:List Nat} {i cy T U x df cy':Nat} (h:TCar w wr g us zs i cy T U) (hi:i<us.length) (hd:df<BB) (hc:cy'<BB) (hs:df+x+cy=zs[i]?.getD 0+BB*cy') {U':Nat} (hU:U'=U+BB^i*x):
  TCar w (wr.setCell ⟨g,i,none⟩ (.int .u64 (df:Int))) g us (zs.set i df) (i+1) cy' T U':=by
 refine⟨?_,h.limb.set _ _ hd,by rw [List.length_set,h.len],hc,?_,h.only.trans ((Only.refl [g] wr).setCell (.inl (by simp)) _) (by simp),fun j hj=>by rw [set_get_ne (by omega)];exact h.high j (by omega)⟩
 ·rw [← limbV_set]
  exact h.blk.set_ i _
 ·have h1:=sub_step (by rw [h.len];exact hi) hs
  have h2:=h.val_
  rw [hU]
  omega
structure TStep (v d z cy lo1 c1 hi1 df c2 cy':Nat):Prop where
 a1:lo1=aLo (mLo v d) cy 0
 a2:c1=aHi (mLo v d) cy 0
 a3:hi1=mHi v d+c1
 a4:df=sLo z lo1 0
 a5:c2=sHi z lo1 0
 a6:cy'=hi1+c2
 law:df+v*d+cy=z+BB*cy'
 lt:cy'<BB
 lt1:hi1<BB
 dl:df<BB
theorem tstep {v d z cy:Nat} (hv:v<BB) (hd:d<BB) (hz:z<BB) (hc:cy<BB): ∃lo1 c1 hi1 df c2 cy',TStep v d z cy lo1 c1 hi1 df c2 cy':=by
 have h1:=mul64_law v d
 have h2:=add64_law (mLo v d) cy 0
 have h3:=sub64_law hz (aLo_lt (mLo v d) cy 0) (Nat.zero_le 1)
 have h6:=mHi_le hv hd
 have h4:=aHi_le (mLo_lt v d) hc (Nat.zero_le 1)
 have hdl:=sLo_lt z (aLo (mLo v d) cy 0) 0
 have hlaw:sLo z (aLo (mLo v d) cy 0) 0+v*d+cy=z+BB*(mHi v d+aHi (mLo v d) cy 0+sHi z (aLo (mLo v d) cy 0) 0):=by
  rw [Nat.mul_add,Nat.mul_add]
  omega
 have hlt:mHi v d+aHi (mLo v d) cy 0+sHi z (aLo (mLo v d) cy 0) 0<BB:=by
  apply Nat.lt_of_not_le
  intro h
  have h7:=Nat.mul_le_mul_left BB h
  have h8:v*d≤(BB-1)*(BB-1):=Nat.mul_le_mul (by omega) (by omega)
  obtain⟨k,hk⟩: ∃k,BB=k+1:=⟨BB-1,by have:=BB_pos;omega⟩
  have h9:BB*BB=k*k+2*k+1:=by rw [hk,Nat.add_mul,Nat.mul_add];omega
  rw [hk,Nat.add_sub_cancel] at h8
  omega
 exact⟨_,_,_,_,_,_,rfl,rfl,rfl,rfl,rfl,rfl,hlaw,hlt,by omega,hdl⟩
def TakePost (g:Nat) (us:List Nat) (i T U:Nat) (w:World) (e:Ending) (w':World):Prop:=
 ∃bo us',e= .returned (.int .u64 ((bo:Nat):Int))∧bo≤1∧TCar w w' g us us' i bo T U
set_option maxHeartbeats 3200000 in
theorem take_any (g p c:Nat) (us:List Nat) (A:Option Addr) (d n q:Nat) (vs:List Nat) (w:World) (hu:Hid (Blk w g 133 (limbV us))) (hul:Hid (Limb us)) (hA:Hid (Arg w A vs)) (hag:Hid (0<vs.length→ ∀a,A=some a→a.block≠g))
  (hn:vs.length=n) (hfit:p+n<us.length) (hlen:(us.length:Int)≤16000000) (hq:Hid (q<BB)):
  Calls Tryz.prog 150 #[.slice (some ⟨g,p,none⟩) (n+1) c,.slice A n d,.int .u64 (q:Int)] w (TakePost g us (p+n+1) (val us) (BB^p*(q*val vs)) w):=by
 subst hn
 have HStart:Hid (TCar w w g us us (p+0) 0 (val us) (BB^p*(q*val (vs.take 0)))):=⟨hu.out,hul.out,rfl,BB_pos,by simp [val],Only.refl _ _,fun _ _=>rfl⟩
 go_enter Tryz.func150,Tryz.ntmps150
 go_wp2_with fail
 go_loopw [7,16] (fun cv kv wr=> ∃(k cy:Nat) (zs:List Nat),k≤vs.length∧kv= .int .i64 (k:Int)∧cv= .int .u64 (cy:Int)∧TCar w wr g us zs (p+k) cy (val us) (BB^p*(q*val (vs.take k)))) (fun _ kv _=>vs.length-(intOf kv).toNat)
 case atStart=>exact⟨0,0,us,Nat.zero_le _,rfl,rfl,HStart.out⟩
 case round=>
  obtain⟨k,cy,zs,hk,rfl,rfl,hR⟩:=hrel
  have HR:=hid hR
  clear hR HStart
  by_cases hlt:k<vs.length
  ·obtain⟨b,o,rfl,hc⟩:=hA.out.read k hlt
   have hbg:b≠g:=hag.out (by omega) _ rfl
   have c1:=HR.out.only.cell hc (by simpa using hbg)
   have c2:=HR.out.blk.cell (p+k)
   rw [limbV_get _ _ (by rw [HR.out.len];omega)] at c2
   have f2:=HR.out.blk.frozen (p+k)
   have HV:=hid (hA.out.limb.get k)
   obtain⟨lo1,q1,hi1,df,q2,cy',hts⟩:=tstep HV.out hq.out (HR.out.limb.get (p+k)) HR.out.cylt
   have HS:=hid (HR.out.step (by omega) hts.dl hts.lt hts.law (U':=BB^p*(q*val (vs.take (k+1)))) (by
    rw [val_take_succ vs k hlt,Nat.mul_add,Nat.mul_add,Nat.pow_add]
    rw [show BB^p*(q*(BB^k*(vs[k]?.getD 0)))=BB^p*BB^k*((vs[k]?.getD 0)*q) by rw [Nat.mul_left_comm q,Nat.mul_assoc,Nat.mul_comm q]]))
   have hz:=HR.out.limb.get (p+k)
   have ha1: ∀wx,(callFunc 164 #[.int .u64 ((mLo (vs[k]?.getD 0) q:Nat):Int),.int .u64 (cy:Int),.int .u64 0]).run Tryz.prog wx= .ok (.value (.tuple #[.int .u64 (lo1:Int),.int .u64 (q1:Int)])) wx:=fun wx=>by
    rw [hts.a1,hts.a2]
    exact add64_run _ _ 0 (mLo_lt _ _) HR.out.cylt (by omega) wx
   have ha2: ∀wx,(callFunc 153 #[.int .u64 ((zs[p+k]?.getD 0:Nat):Int),.int .u64 (lo1:Int),.int .u64 0]).run Tryz.prog wx= .ok (.value (.tuple #[.int .u64 (df:Int),.int .u64 (q2:Int)])) wx:=fun wx=>by
    rw [hts.a4,hts.a5]
    exact sub64_run _ _ 0 (by omega) wx
   have hw1:=u64_add hts.a3.symm hts.lt1
   have hw2:=u64_add hts.a6.symm hts.lt
   generalize zs[p+k]?.getD 0=z at c2 ha2 HS hts hz
   generalize vs[k]?.getD 0=v at c1 ha1 HS HV hts hw1
   have hk':(k:Int)<(vs.length:Int):=by omega
   clear hc hts hz hlt
   go_wp2_with fail
   refine (mul64_any v q HV.out hq.out _).mono ?_
   rintro e w' ⟨rfl,rfl⟩
   go_wp2_with fail
   go_roundw
   case rel=>exact⟨k+1,_,_,by omega,by go_num,rfl,HS.out⟩
   case measure=>simp [intOf];omega
  ·have hnl: ¬(k:Int)<(vs.length:Int):=by omega
   have e:k=vs.length:=by omega
   have HR2:Hid (TCar w wr g us zs (p+vs.length) cy (val us) (BB^p*(q*val vs))):=by
    have:=HR.out
    rw [e,val_take_all] at this
    exact this
   have c2:=HR2.out.blk.cell (p+vs.length)
   rw [limbV_get _ _ (by rw [HR2.out.len];omega)] at c2
   have f2:=HR2.out.blk.frozen (p+vs.length)
   have ha: ∀wx,(callFunc 153 #[.int .u64 ((zs[p+vs.length]?.getD 0:Nat):Int),.int .u64 (cy:Int),.int .u64 0]).run Tryz.prog wx= .ok (.value (.tuple #[.int .u64 ((sLo (zs[p+vs.length]?.getD 0) cy 0:Nat):Int),.int .u64 ((sHi (zs[p+vs.length]?.getD 0) cy 0:Nat):Int)])) wx:=
    fun wx=>sub64_run (zs[p+vs.length]?.getD 0) cy 0 (by omega) wx
   have HS:=hid (HR2.out.step (x:=0) (df:=sLo (zs[p+vs.length]?.getD 0) cy 0) (cy':=sHi (zs[p+vs.length]?.getD 0) cy 0) (U':=BB^p*(q*val vs)) (by omega) (sLo_lt _ _ _) (Nat.lt_of_le_of_lt (sHi_le _ _ _) BB_two) (by rw [Nat.add_zero];exact sub64_law (HR2.out.limb.get (p+vs.length)) HR2.out.cylt (Nat.zero_le 1)) (by rw [Nat.mul_zero,Nat.add_zero]))
   have HBo:=hid (sHi_le (zs[p+vs.length]?.getD 0) cy 0)
   generalize zs[p+vs.length]?.getD 0=z at c2 ha HS HBo
   clear e HR hlt
   go_wp2_with fail
   go_ret
   exact⟨_,_,rfl,HBo.out,HS.out⟩
theorem lead64_any (x:Nat) (hx:x<BB) (w:World):Calls Tryz.prog 148 #[.int .u64 (x:Int)] w fun e w'=>e= .returned (.int .i64 (64-(Lib.bitLen x:Int)))∧w=w':=by
 rw [BB_val] at hx
 refine (Tryz.bits_LeadingZeros64 (x:Int) w (by omega) (by omega)).mono ?_
 rintro e w' ⟨he,hw⟩
 rw [Int.toNat_natCast] at he
 exact⟨he,hw.symm⟩
theorem u64_dec {a:Nat} (h:0<a) (ha:a<BB):IntKind.u64.wrap ((a:Int)-1)=((a-1:Nat):Int):=by
 rw [show ((a:Int)-1)=((a-1:Nat):Int) by omega]
 exact u64_wrap (by omega)
theorem u64_mul {a b c:Nat} (h:a*b=c) (hc:c<BB):IntKind.u64.wrap ((a:Int)*(b:Int))=(c:Int):=by
 rw [← Int.natCast_mul,h]
 exact u64_wrap hc
theorem half_prod {a b:Nat} (ha:a<4294967296) (hb:b<4294967296):a*b<BB:=by
 have h:a*b≤4294967295*4294967295:=Nat.mul_le_mul (by omega) (by omega)
 rw [BB_val]
 omega
theorem d64_join {a b Q:Nat} (h:a*4294967296+b=Q) (hQ:Q<BB):IntKind.u64.wrap (IntKind.u64.wrap ((a:Int)*4294967296)+(b:Int))=(Q:Int):=by
 rw [BB_val] at hQ
 rw [IntKind.wrap_u64,IntKind.wrap_u64]
 omega
set_option maxHeartbeats 3200000 in
set_option maxRecDepth 100000 in
theorem div64_any (hi lo y:Nat) (hh:Hid (hi<y)) (hl:Hid (lo<BB)) (hy:Hid (y<BB)) (w:World):
  Calls Tryz.prog 147 #[.int .u64 (hi:Int),.int .u64 (lo:Int),.int .u64 (y:Int)] w fun e w'=>e= .returned (.tuple #[.int .u64 (((hi*BB+lo)/y:Nat):Int),.int .u64 (((hi*BB+lo)%y:Nat):Int)])∧Only [] w w':=by
 have g1:((y:Int) == 0)=false:=by have:=hh.out;simp;omega
 have g2:(hi:Int)<(y:Int):=by have:=hh.out;omega
 by_cases h0:hi=0
 ·have HE:Hid (hi*BB+lo=lo):=by show _=_;rw [h0,Nat.zero_mul,Nat.zero_add]
  have g3:((hi:Int) == 0)=true:=by simp [h0]
  have g4:(1:Int)≤(y:Int):=by omega
  have hlo:=hl.out
  rw [BB_val] at hlo
  have hq1:Hid (IntKind.u64.wrap ((lo:Int)/(y:Int))=((lo/y:Nat):Int)):=by
   show _=_
   rw [← Int.natCast_ediv]
   exact u64_wrap (Nat.lt_of_le_of_lt (Nat.div_le_self _ _) hl.out)
  clear h0 hlo
  go_enter Tryz.func147,Tryz.ntmps147
  go_wp2_with fail
  go_quiet (fail)
  go_wp2_with fail
  go_ret2
  exact⟨by rw [HE.out,←hq1.out];rfl,(Only.refl _ _).drewN _⟩
 ·have g3:((hi:Int) == 0)=false:=by simp;omega
  clear h0
  have HQB:Hid ((hi*BB+lo)/y<BB):=by
   show _<_
   rw [Nat.div_lt_iff_lt_mul (by have:=hh.out;omega)]
   have h1:=Nat.mul_le_mul_right BB (show hi+1≤y from hh.out)
   rw [Nat.succ_mul,Nat.mul_comm y] at h1
   have:=hl.out
   rw [Nat.mul_comm BB y]
   rw [Nat.mul_comm BB y] at h1
   omega
  obtain⟨Qf,hQf⟩: ∃Qf,(hi*BB+lo)/y=Qf:=⟨_,rfl⟩
  obtain⟨Rf,hRf⟩: ∃Rf,(hi*BB+lo)%y=Rf:=⟨_,rfl⟩
  rw [hQf] at HQB ⊢
  rw [hRf]
  go_enter Tryz.func147,Tryz.ntmps147
  go_wp2_with fail
  refine (lead64_any y hy.out w).mono ?_
  rintro e w' ⟨rfl,rfl⟩
  obtain⟨k1,k2,k3,k4⟩:=lead_norm (y:=y) (by have:=hh.out;omega) hy.out
  obtain⟨s,hs⟩: ∃s,64-Lib.bitLen y=s:=⟨_,rfl⟩
  rw [hs] at k1 k3 k4
  rw [show (64-(Lib.bitLen y:Int))=(s:Int) by omega]
  obtain⟨Y,y1,y0,h1,l1,u,n,d1,d0,hD⟩:=d64_facts hh.out hl.out k1 k3 k4
  have HD:=hid hD
  have HQ:=hid (d64_end hD)
  rw [hQf,hRf] at HQ
  clear hQf hRf
  have HYp:Hid (0<Y):=by have:=hD.lu;show 0<Y;omega
  obtain⟨e1,e2,e3,e4,e5,e6,e7,e8,e9,-,-,-,-,-,-,-,-,-,-,-⟩:=hD
  have hs63:(s:Int)≤63:=by omega
  have hy1:(1:Int)≤(y1:Int):=by have:=HD.out.lh;omega
  have huB:u<BB:=Nat.lt_trans HD.out.lu HD.out.lY
  have HS1:Hid (Dig 4294967296 u y1 y0 d1 (u/y1) (u-u/y1*y1)):=dig_start (by have:=HD.out.lh;omega) (by have:=HD.out.lu;have:=HD.out.fY;omega) (by have:=HD.out.lh;have:=HD.out.l0;omega) HD.out.ld1
  have hmul:=Nat.div_mul_le_self u y1
  have e10:IntKind.u64.wrap ((u:Int).tdiv (y1:Int))=((u/y1:Nat):Int):=by
   rw [Int.tdiv_eq_ediv_of_nonneg (by omega),←Int.natCast_ediv]
   exact u64_wrap (Nat.lt_of_le_of_lt (Nat.div_le_self _ _) huB)
  have e10b:IntKind.u64.wrap ((u:Int)/(y1:Int))=((u/y1:Nat):Int):=by
   rw [← Int.natCast_ediv]
   exact u64_wrap (Nat.lt_of_le_of_lt (Nat.div_le_self _ _) huB)
  have e11:IntKind.u64.wrap (((u/y1:Nat):Int)*(y1:Int))=((u/y1*y1:Nat):Int):=u64_mul rfl (Nat.lt_of_le_of_lt hmul huB)
  have e12:IntKind.u64.wrap ((u:Int)-((u/y1*y1:Nat):Int))=((u-u/y1*y1:Nat):Int):=by
   rw [show ((u:Int)-((u/y1*y1:Nat):Int))=((u-u/y1*y1:Nat):Int) by omega]
   exact u64_wrap (Nat.lt_of_le_of_lt (Nat.sub_le _ _) huB)
  have HR1:Hid (u-u/y1*y1<4294967296):=by
   have h3:=Nat.div_add_mod u y1
   have h4:=Nat.mod_lt u (show 0<y1 by omega)
   rw [Nat.mul_comm] at h3
   have:=HD.out.ll
   show _<_
   omega
  generalize u/y1*y1=p1 at e11 e12 HS1 HR1
  generalize u/y1=q1 at e10 e10b e11 HS1
  generalize u-p1=r1 at e12 HS1 HR1
  clear hs k1 k2 k3 k4 hmul huB
  obtain⟨Q1,hQ1⟩: ∃Q1,(u*4294967296+d1)/Y=Q1:=⟨_,rfl⟩
  have HQe:Hid ((u*4294967296+d1)/(y1*4294967296+y0)=Q1):=by show _=_;rw [← HD.out.fY];exact hQ1
  have hY0:Hid (0<y1*4294967296+y0):=by show 0<_;rw [← HD.out.fY];exact HYp.out
  have HU1:Hid (u<y1*4294967296+y0):=by show _<_;rw [← HD.out.fY];exact HD.out.lu
  have HQ1:=hid hQ1
  clear hQ1
  obtain⟨v1,v2,v3,f1,f2,f3,f4⟩:=wrap_digit HYp.out HD.out.lY HQ1.out.symm
  obtain⟨R1,hR1⟩: ∃R1,(u*4294967296+d1)%Y=R1:=⟨_,rfl⟩
  have HRY:Hid (R1<Y):=by show _<_;rw [← hR1];exact Nat.mod_lt _ HYp.out
  have hQ:=HQ.out
  rw [HQ1.out,hR1] at hQ
  clear HQ
  have HQ:=hid hQ
  clear hQ
  rw [hR1] at f4
  clear hR1
  have HU2:Hid (R1<y1*4294967296+y0):=by show _<_;rw [← HD.out.fY];exact HRY.out
  have hRB:R1<BB:=Nat.lt_trans HRY.out HD.out.lY
  have HS2:Hid (Dig 4294967296 R1 y1 y0 d0 (R1/y1) (R1-R1/y1*y1)):=dig_start (by have:=HD.out.lh;omega) (by have:=HRY.out;have:=HD.out.fY;omega) (by have:=HD.out.lh;have:=HD.out.l0;omega) HD.out.ld0
  have hmul2:=Nat.div_mul_le_self R1 y1
  have e20:IntKind.u64.wrap ((R1:Int)/(y1:Int))=((R1/y1:Nat):Int):=by
   rw [← Int.natCast_ediv]
   exact u64_wrap (Nat.lt_of_le_of_lt (Nat.div_le_self _ _) hRB)
  have e21:IntKind.u64.wrap (((R1/y1:Nat):Int)*(y1:Int))=((R1/y1*y1:Nat):Int):=u64_mul rfl (Nat.lt_of_le_of_lt hmul2 hRB)
  have e22:IntKind.u64.wrap ((R1:Int)-((R1/y1*y1:Nat):Int))=((R1-R1/y1*y1:Nat):Int):=by
   rw [show ((R1:Int)-((R1/y1*y1:Nat):Int))=((R1-R1/y1*y1:Nat):Int) by omega]
   exact u64_wrap (Nat.lt_of_le_of_lt (Nat.sub_le _ _) hRB)
  have HR2:Hid (R1-R1/y1*y1<4294967296):=by
   have h3:=Nat.div_add_mod R1 y1
   have h4:=Nat.mod_lt R1 (show 0<y1 by omega)
   rw [Nat.mul_comm] at h3
   have:=HD.out.ll
   show _<_
   omega
  generalize R1/y1*y1=p2 at e21 e22 HS2 HR2
  generalize R1/y1=q2 at e20 e21 HS2
  generalize R1-p2=r2 at e22 HS2 HR2
  clear hmul2 hRB
  obtain⟨Q2,hQ2⟩: ∃Q2,(R1*4294967296+d0)/Y=Q2:=⟨_,rfl⟩
  have HQe2:Hid ((R1*4294967296+d0)/(y1*4294967296+y0)=Q2):=by show _=_;rw [← HD.out.fY];exact hQ2
  obtain⟨v4,v5,v6,f5,f6,f7,f8⟩:=wrap_digit HYp.out HD.out.lY hQ2.symm
  obtain⟨R2,hR2⟩: ∃R2,(R1*4294967296+d0)%Y=R2:=⟨_,rfl⟩
  have hQ:=HQ.out
  rw [hQ2,hR2] at hQ
  clear HQ
  have HQ:=hid hQ
  clear hQ
  rw [hR2] at f8
  clear hR2 hQ2
  go_wp2_with fail
  go_loop [15,16] (fun qv rv=> ∃a b:Nat,qv= .int .u64 (a:Int)∧rv= .int .u64 (b:Int)∧Dig 4294967296 u y1 y0 d1 a b∧b<4294967296) (fun qv _=>(intOf qv).toNat)
  case atStart=>exact⟨_,_,rfl,rfl,HS1.out,HR1.out⟩
  case round=>
   obtain⟨a,b,rfl,rfl,hd,hb⟩:=hrel
   have HDg:=hid hd
   have HBl:=hid hb
   clear hd hb
   by_cases hqa:4294967296≤a
   ·obtain⟨p0,HDn⟩:=dig_lower HDg.out hY0.out (.inl hqa) HU1.out HD.out.ld1
    have hqi:(4294967296:Int)≤(a:Int):=by omega
    clear hqa
    obtain⟨a',ha'⟩: ∃a',a-1=a':=⟨_,rfl⟩
    obtain⟨b',hb'⟩: ∃b',b+y1=b':=⟨_,rfl⟩
    have hw1:=u64_dec p0 (Nat.lt_of_le_of_lt HDg.out.le (by rw [BB_val];omega))
    have hw2:IntKind.u64.wrap ((b:Int)+(y1:Int))=(b':Int):=u64_add hb' (by rw [BB_val];have:=HBl.out;have:=HD.out.ll;omega)
    rw [ha'] at hw1 HDn
    rw [hb'] at HDn
    have HDn:=hid HDn
    have ha2:a'≤4294967296:=by have:=HDg.out.le;omega
    have ha3:a'<a:=by omega
    clear ha' hb'
    by_cases hbr:4294967296≤b'
    ·have hE:a'=Q1:=(dig_done HDn.out hY0.out (dig_break ha2 HD.out.l0 hbr)).trans HQe.out
     subst hE
     have hbi:(4294967296:Int)≤(b':Int):=by omega
     clear hbr ha2 ha3 HDn HDg HBl p0
     go_wp2_with fail
     clear hw1 hw2 hbi
     go_wp2_with fail
     go_loop [18,16] (fun qv rv=> ∃a b:Nat,qv= .int .u64 (a:Int)∧rv= .int .u64 (b:Int)∧Dig 4294967296 R1 y1 y0 d0 a b∧b<4294967296) (fun qv _=>(intOf qv).toNat)
     case atStart=>exact⟨_,_,rfl,rfl,HS2.out,HR2.out⟩
     case round=>
      obtain⟨a,b,rfl,rfl,hd,hb⟩:=hrel
      have HDg:=hid hd
      have HBl:=hid hb
      clear hd hb
      by_cases hqa:4294967296≤a
      ·obtain⟨p0,HDn⟩:=dig_lower HDg.out hY0.out (.inl hqa) HU2.out HD.out.ld0
       have hqi:(4294967296:Int)≤(a:Int):=by omega
       clear hqa
       obtain⟨a',ha'⟩: ∃a',a-1=a':=⟨_,rfl⟩
       obtain⟨b',hb'⟩: ∃b',b+y1=b':=⟨_,rfl⟩
       have hw1:=u64_dec p0 (Nat.lt_of_le_of_lt HDg.out.le (by rw [BB_val];omega))
       have hw2:IntKind.u64.wrap ((b:Int)+(y1:Int))=(b':Int):=u64_add hb' (by rw [BB_val];have:=HBl.out;have:=HD.out.ll;omega)
       rw [ha'] at hw1 HDn
       rw [hb'] at HDn
       have HDn:=hid HDn
       have ha2:a'≤4294967296:=by have:=HDg.out.le;omega
       have ha3:a'<a:=by omega
       clear ha' hb'
       by_cases hbr:4294967296≤b'
       ·have hE:a'=Q2:=(dig_done HDn.out hY0.out (dig_break ha2 HD.out.l0 hbr)).trans HQe2.out
        subst hE
        have hbi:(4294967296:Int)≤(b':Int):=by omega
        clear hbr ha2 ha3 HDn HDg HBl p0
        go_wp2_with fail
        clear hw1 hw2 hbi
        have hj:=d64_join HQ.out.1 HQB.out
        have hk:(R2:Int)/2^s=(Rf:Int):=by rw [← HQ.out.2];simp
        go_wp2_with fail
        go_ret2
        exact⟨by rw [← hj,←hk];rfl,Only.refl _ _⟩
       ·have hbi: ¬(4294967296:Int)≤(b':Int):=by omega
        go_wp2_with fail
        go_round
        case rel=>exact⟨a',b',rfl,rfl,HDn.out,by omega⟩
        case measure=>simp [intOf];omega
      ·have hqi: ¬(4294967296:Int)≤(a:Int):=by omega
       have hw3:IntKind.u64.wrap ((a:Int)*(y0:Int))=((a*y0:Nat):Int):=u64_mul rfl (half_prod (by omega) HD.out.l0)
       have hw4:IntKind.u64.wrap (4294967296*(b:Int))=((4294967296*b:Nat):Int):=by
        rw [show (4294967296:Int)*(b:Int)=((4294967296*b:Nat):Int) by simp]
        exact u64_wrap (by rw [BB_val];have:=HBl.out;omega)
       have hw5:IntKind.u64.wrap (((4294967296*b:Nat):Int)+(d0:Int))=((4294967296*b+d0:Nat):Int):=u64_add rfl (by rw [BB_val];have:=HBl.out;have:=HD.out.ld0;omega)
       obtain⟨m1,hm1⟩: ∃m1,a*y0=m1:=⟨_,rfl⟩
       obtain⟨m2,hm2⟩: ∃m2,4294967296*b=m2:=⟨_,rfl⟩
       obtain⟨m3,hm3⟩: ∃m3,m2+d0=m3:=⟨_,rfl⟩
       rw [hm1] at hw3
       rw [hm2] at hw4 hw5
       rw [hm3] at hw5
       by_cases hgt:m3<m1
       ·obtain⟨p0,HDn⟩:=dig_lower HDg.out hY0.out (.inr (by rw [hm2,hm3,hm1];exact hgt)) HU2.out HD.out.ld0
        have hgi:(m3:Int)<(m1:Int):=by omega
        clear hm1 hm2 hm3 hgt
        obtain⟨a',ha'⟩: ∃a',a-1=a':=⟨_,rfl⟩
        obtain⟨b',hb'⟩: ∃b',b+y1=b':=⟨_,rfl⟩
        have hw1:=u64_dec p0 (Nat.lt_of_le_of_lt HDg.out.le (by rw [BB_val];omega))
        have hw2:IntKind.u64.wrap ((b:Int)+(y1:Int))=(b':Int):=u64_add hb' (by rw [BB_val];have:=HBl.out;have:=HD.out.ll;omega)
        rw [ha'] at hw1 HDn
        rw [hb'] at HDn
        have HDn:=hid HDn
        have ha2:a'≤4294967296:=by have:=HDg.out.le;omega
        have ha3:a'<a:=by omega
        clear ha' hb'
        by_cases hbr:4294967296≤b'
        ·have hE:a'=Q2:=(dig_done HDn.out hY0.out (dig_break ha2 HD.out.l0 hbr)).trans HQe2.out
         subst hE
         have hbi:(4294967296:Int)≤(b':Int):=by omega
         clear hbr ha2 ha3 HDn HDg HBl p0
         go_wp2_with fail
         clear hw1 hw2 hbi
         have hj:=d64_join HQ.out.1 HQB.out
         have hk:(R2:Int)/2^s=(Rf:Int):=by rw [← HQ.out.2];simp
         go_wp2_with fail
         go_ret2
         exact⟨by rw [← hj,←hk];rfl,Only.refl _ _⟩
        ·have hbi: ¬(4294967296:Int)≤(b':Int):=by omega
         go_wp2_with fail
         go_round
         case rel=>exact⟨a',b',rfl,rfl,HDn.out,by omega⟩
         case measure=>simp [intOf];omega
       ·have hE:a=Q2:=(dig_done HDg.out hY0.out (by rw [hm2,hm3,hm1];omega)).trans HQe2.out
        subst hE
        have hgi: ¬(m3:Int)<(m1:Int):=by omega
        clear hm1 hm2 hm3 hgt hqa HDg HBl
        go_wp2_with fail
        clear hqi hgi hw3 hw4 hw5
        have hj:=d64_join HQ.out.1 HQB.out
        have hk:(R2:Int)/2^s=(Rf:Int):=by rw [← HQ.out.2];simp
        go_wp2_with fail
        go_ret2
        exact⟨by rw [← hj,←hk];rfl,Only.refl _ _⟩
    ·have hbi: ¬(4294967296:Int)≤(b':Int):=by omega
     go_wp2_with fail
     go_round
     case rel=>exact⟨a',b',rfl,rfl,HDn.out,by omega⟩
     case measure=>simp [intOf];omega
   ·have hqi: ¬(4294967296:Int)≤(a:Int):=by omega
    have hw3:IntKind.u64.wrap ((a:Int)*(y0:Int))=((a*y0:Nat):Int):=u64_mul rfl (half_prod (by omega) HD.out.l0)
    have hw4:IntKind.u64.wrap (4294967296*(b:Int))=((4294967296*b:Nat):Int):=by
     rw [show (4294967296:Int)*(b:Int)=((4294967296*b:Nat):Int) by simp]
     exact u64_wrap (by rw [BB_val];have:=HBl.out;omega)
    have hw5:IntKind.u64.wrap (((4294967296*b:Nat):Int)+(d1:Int))=((4294967296*b+d1:Nat):Int):=u64_add rfl (by rw [BB_val];have:=HBl.out;have:=HD.out.ld1;omega)
    obtain⟨m1,hm1⟩: ∃m1,a*y0=m1:=⟨_,rfl⟩
    obtain⟨m2,hm2⟩: ∃m2,4294967296*b=m2:=⟨_,rfl⟩
    obtain⟨m3,hm3⟩: ∃m3,m2+d1=m3:=⟨_,rfl⟩
    rw [hm1] at hw3
    rw [hm2] at hw4 hw5
    rw [hm3] at hw5
    by_cases hgt:m3<m1
    ·obtain⟨p0,HDn⟩:=dig_lower HDg.out hY0.out (.inr (by rw [hm2,hm3,hm1];exact hgt)) HU1.out HD.out.ld1
     have hgi:(m3:Int)<(m1:Int):=by omega
     clear hm1 hm2 hm3 hgt
     obtain⟨a',ha'⟩: ∃a',a-1=a':=⟨_,rfl⟩
     obtain⟨b',hb'⟩: ∃b',b+y1=b':=⟨_,rfl⟩
     have hw1:=u64_dec p0 (Nat.lt_of_le_of_lt HDg.out.le (by rw [BB_val];omega))
     have hw2:IntKind.u64.wrap ((b:Int)+(y1:Int))=(b':Int):=u64_add hb' (by rw [BB_val];have:=HBl.out;have:=HD.out.ll;omega)
     rw [ha'] at hw1 HDn
     rw [hb'] at HDn
     have HDn:=hid HDn
     have ha2:a'≤4294967296:=by have:=HDg.out.le;omega
     have ha3:a'<a:=by omega
     clear ha' hb'
     by_cases hbr:4294967296≤b'
     ·have hE:a'=Q1:=(dig_done HDn.out hY0.out (dig_break ha2 HD.out.l0 hbr)).trans HQe.out
      subst hE
      have hbi:(4294967296:Int)≤(b':Int):=by omega
      clear hbr ha2 ha3 HDn HDg HBl p0
      go_wp2_with fail
      clear hw1 hw2 hbi
      go_wp2_with fail
      go_loop [18,16] (fun qv rv=> ∃a b:Nat,qv= .int .u64 (a:Int)∧rv= .int .u64 (b:Int)∧Dig 4294967296 R1 y1 y0 d0 a b∧b<4294967296) (fun qv _=>(intOf qv).toNat)
      case atStart=>exact⟨_,_,rfl,rfl,HS2.out,HR2.out⟩
      case round=>
       obtain⟨a,b,rfl,rfl,hd,hb⟩:=hrel
       have HDg:=hid hd
       have HBl:=hid hb
       clear hd hb
       by_cases hqa:4294967296≤a
       ·obtain⟨p0,HDn⟩:=dig_lower HDg.out hY0.out (.inl hqa) HU2.out HD.out.ld0
        have hqi:(4294967296:Int)≤(a:Int):=by omega
        clear hqa
        obtain⟨a',ha'⟩: ∃a',a-1=a':=⟨_,rfl⟩
        obtain⟨b',hb'⟩: ∃b',b+y1=b':=⟨_,rfl⟩
        have hw1:=u64_dec p0 (Nat.lt_of_le_of_lt HDg.out.le (by rw [BB_val];omega))
        have hw2:IntKind.u64.wrap ((b:Int)+(y1:Int))=(b':Int):=u64_add hb' (by rw [BB_val];have:=HBl.out;have:=HD.out.ll;omega)
        rw [ha'] at hw1 HDn
        rw [hb'] at HDn
        have HDn:=hid HDn
        have ha2:a'≤4294967296:=by have:=HDg.out.le;omega
        have ha3:a'<a:=by omega
        clear ha' hb'
        by_cases hbr:4294967296≤b'
        ·have hE:a'=Q2:=(dig_done HDn.out hY0.out (dig_break ha2 HD.out.l0 hbr)).trans HQe2.out
         subst hE
         have hbi:(4294967296:Int)≤(b':Int):=by omega
         clear hbr ha2 ha3 HDn HDg HBl p0
         go_wp2_with fail
         clear hw1 hw2 hbi
         have hj:=d64_join HQ.out.1 HQB.out
         have hk:(R2:Int)/2^s=(Rf:Int):=by rw [← HQ.out.2];simp
         go_wp2_with fail
         go_ret2
         exact⟨by rw [← hj,←hk];rfl,Only.refl _ _⟩
        ·have hbi: ¬(4294967296:Int)≤(b':Int):=by omega
         go_wp2_with fail
         go_round
         case rel=>exact⟨a',b',rfl,rfl,HDn.out,by omega⟩
         case measure=>simp [intOf];omega
       ·have hqi: ¬(4294967296:Int)≤(a:Int):=by omega
        have hw3:IntKind.u64.wrap ((a:Int)*(y0:Int))=((a*y0:Nat):Int):=u64_mul rfl (half_prod (by omega) HD.out.l0)
        have hw4:IntKind.u64.wrap (4294967296*(b:Int))=((4294967296*b:Nat):Int):=by
         rw [show (4294967296:Int)*(b:Int)=((4294967296*b:Nat):Int) by simp]
         exact u64_wrap (by rw [BB_val];have:=HBl.out;omega)
        have hw5:IntKind.u64.wrap (((4294967296*b:Nat):Int)+(d0:Int))=((4294967296*b+d0:Nat):Int):=u64_add rfl (by rw [BB_val];have:=HBl.out;have:=HD.out.ld0;omega)
        obtain⟨m1,hm1⟩: ∃m1,a*y0=m1:=⟨_,rfl⟩
        obtain⟨m2,hm2⟩: ∃m2,4294967296*b=m2:=⟨_,rfl⟩
        obtain⟨m3,hm3⟩: ∃m3,m2+d0=m3:=⟨_,rfl⟩
        rw [hm1] at hw3
        rw [hm2] at hw4 hw5
        rw [hm3] at hw5
        by_cases hgt:m3<m1
        ·obtain⟨p0,HDn⟩:=dig_lower HDg.out hY0.out (.inr (by rw [hm2,hm3,hm1];exact hgt)) HU2.out HD.out.ld0
         have hgi:(m3:Int)<(m1:Int):=by omega
         clear hm1 hm2 hm3 hgt
         obtain⟨a',ha'⟩: ∃a',a-1=a':=⟨_,rfl⟩
         obtain⟨b',hb'⟩: ∃b',b+y1=b':=⟨_,rfl⟩
         have hw1:=u64_dec p0 (Nat.lt_of_le_of_lt HDg.out.le (by rw [BB_val];omega))
         have hw2:IntKind.u64.wrap ((b:Int)+(y1:Int))=(b':Int):=u64_add hb' (by rw [BB_val];have:=HBl.out;have:=HD.out.ll;omega)
         rw [ha'] at hw1 HDn
         rw [hb'] at HDn
         have HDn:=hid HDn
         have ha2:a'≤4294967296:=by have:=HDg.out.le;omega
         have ha3:a'<a:=by omega
         clear ha' hb'
         by_cases hbr:4294967296≤b'
         ·have hE:a'=Q2:=(dig_done HDn.out hY0.out (dig_break ha2 HD.out.l0 hbr)).trans HQe2.out
          subst hE
          have hbi:(4294967296:Int)≤(b':Int):=by omega
          clear hbr ha2 ha3 HDn HDg HBl p0
          go_wp2_with fail
          clear hw1 hw2 hbi
          have hj:=d64_join HQ.out.1 HQB.out
          have hk:(R2:Int)/2^s=(Rf:Int):=by rw [← HQ.out.2];simp
          go_wp2_with fail
          go_ret2
          exact⟨by rw [← hj,←hk];rfl,Only.refl _ _⟩
         ·have hbi: ¬(4294967296:Int)≤(b':Int):=by omega
          go_wp2_with fail
          go_round
          case rel=>exact⟨a',b',rfl,rfl,HDn.out,by omega⟩
          case measure=>simp [intOf];omega
        ·have hE:a=Q2:=(dig_done HDg.out hY0.out (by rw [hm2,hm3,hm1];omega)).trans HQe2.out
         subst hE
         have hgi: ¬(m3:Int)<(m1:Int):=by omega
         clear hm1 hm2 hm3 hgt hqa HDg HBl
         go_wp2_with fail
         clear hqi hgi hw3 hw4 hw5
         have hj:=d64_join HQ.out.1 HQB.out
         have hk:(R2:Int)/2^s=(Rf:Int):=by rw [← HQ.out.2];simp
         go_wp2_with fail
         go_ret2
         exact⟨by rw [← hj,←hk];rfl,Only.refl _ _⟩
     ·have hbi: ¬(4294967296:Int)≤(b':Int):=by omega
      go_wp2_with fail
      go_round
      case rel=>exact⟨a',b',rfl,rfl,HDn.out,by omega⟩
      case measure=>simp [intOf];omega
    ·have hE:a=Q1:=(dig_done HDg.out hY0.out (by rw [hm2,hm3,hm1];omega)).trans HQe.out
     subst hE
     have hgi: ¬(m3:Int)<(m1:Int):=by omega
     clear hm1 hm2 hm3 hgt hqa HDg HBl
     go_wp2_with fail
     clear hqi hgi hw3 hw4 hw5
     go_wp2_with fail
     go_loop [18,16] (fun qv rv=> ∃a b:Nat,qv= .int .u64 (a:Int)∧rv= .int .u64 (b:Int)∧Dig 4294967296 R1 y1 y0 d0 a b∧b<4294967296) (fun qv _=>(intOf qv).toNat)
     case atStart=>exact⟨_,_,rfl,rfl,HS2.out,HR2.out⟩
     case round=>
      obtain⟨a,b,rfl,rfl,hd,hb⟩:=hrel
      have HDg:=hid hd
      have HBl:=hid hb
      clear hd hb
      by_cases hqa:4294967296≤a
      ·obtain⟨p0,HDn⟩:=dig_lower HDg.out hY0.out (.inl hqa) HU2.out HD.out.ld0
       have hqi:(4294967296:Int)≤(a:Int):=by omega
       clear hqa
       obtain⟨a',ha'⟩: ∃a',a-1=a':=⟨_,rfl⟩
       obtain⟨b',hb'⟩: ∃b',b+y1=b':=⟨_,rfl⟩
       have hw1:=u64_dec p0 (Nat.lt_of_le_of_lt HDg.out.le (by rw [BB_val];omega))
       have hw2:IntKind.u64.wrap ((b:Int)+(y1:Int))=(b':Int):=u64_add hb' (by rw [BB_val];have:=HBl.out;have:=HD.out.ll;omega)
       rw [ha'] at hw1 HDn
       rw [hb'] at HDn
       have HDn:=hid HDn
       have ha2:a'≤4294967296:=by have:=HDg.out.le;omega
       have ha3:a'<a:=by omega
       clear ha' hb'
       by_cases hbr:4294967296≤b'
       ·have hE:a'=Q2:=(dig_done HDn.out hY0.out (dig_break ha2 HD.out.l0 hbr)).trans HQe2.out
        subst hE
        have hbi:(4294967296:Int)≤(b':Int):=by omega
        clear hbr ha2 ha3 HDn HDg HBl p0
        go_wp2_with fail
        clear hw1 hw2 hbi
        have hj:=d64_join HQ.out.1 HQB.out
        have hk:(R2:Int)/2^s=(Rf:Int):=by rw [← HQ.out.2];simp
        go_wp2_with fail
        go_ret2
        exact⟨by rw [← hj,←hk];rfl,Only.refl _ _⟩
       ·have hbi: ¬(4294967296:Int)≤(b':Int):=by omega
        go_wp2_with fail
        go_round
        case rel=>exact⟨a',b',rfl,rfl,HDn.out,by omega⟩
        case measure=>simp [intOf];omega
      ·have hqi: ¬(4294967296:Int)≤(a:Int):=by omega
       have hw3:IntKind.u64.wrap ((a:Int)*(y0:Int))=((a*y0:Nat):Int):=u64_mul rfl (half_prod (by omega) HD.out.l0)
       have hw4:IntKind.u64.wrap (4294967296*(b:Int))=((4294967296*b:Nat):Int):=by
        rw [show (4294967296:Int)*(b:Int)=((4294967296*b:Nat):Int) by simp]
        exact u64_wrap (by rw [BB_val];have:=HBl.out;omega)
       have hw5:IntKind.u64.wrap (((4294967296*b:Nat):Int)+(d0:Int))=((4294967296*b+d0:Nat):Int):=u64_add rfl (by rw [BB_val];have:=HBl.out;have:=HD.out.ld0;omega)
       obtain⟨m1,hm1⟩: ∃m1,a*y0=m1:=⟨_,rfl⟩
       obtain⟨m2,hm2⟩: ∃m2,4294967296*b=m2:=⟨_,rfl⟩
       obtain⟨m3,hm3⟩: ∃m3,m2+d0=m3:=⟨_,rfl⟩
       rw [hm1] at hw3
       rw [hm2] at hw4 hw5
       rw [hm3] at hw5
       by_cases hgt:m3<m1
       ·obtain⟨p0,HDn⟩:=dig_lower HDg.out hY0.out (.inr (by rw [hm2,hm3,hm1];exact hgt)) HU2.out HD.out.ld0
        have hgi:(m3:Int)<(m1:Int):=by omega
        clear hm1 hm2 hm3 hgt
        obtain⟨a',ha'⟩: ∃a',a-1=a':=⟨_,rfl⟩
        obtain⟨b',hb'⟩: ∃b',b+y1=b':=⟨_,rfl⟩
        have hw1:=u64_dec p0 (Nat.lt_of_le_of_lt HDg.out.le (by rw [BB_val];omega))
        have hw2:IntKind.u64.wrap ((b:Int)+(y1:Int))=(b':Int):=u64_add hb' (by rw [BB_val];have:=HBl.out;have:=HD.out.ll;omega)
        rw [ha'] at hw1 HDn
        rw [hb'] at HDn
        have HDn:=hid HDn
        have ha2:a'≤4294967296:=by have:=HDg.out.le;omega
        have ha3:a'<a:=by omega
        clear ha' hb'
        by_cases hbr:4294967296≤b'
        ·have hE:a'=Q2:=(dig_done HDn.out hY0.out (dig_break ha2 HD.out.l0 hbr)).trans HQe2.out
         subst hE
         have hbi:(4294967296:Int)≤(b':Int):=by omega
         clear hbr ha2 ha3 HDn HDg HBl p0
         go_wp2_with fail
         clear hw1 hw2 hbi
         have hj:=d64_join HQ.out.1 HQB.out
         have hk:(R2:Int)/2^s=(Rf:Int):=by rw [← HQ.out.2];simp
         go_wp2_with fail
         go_ret2
         exact⟨by rw [← hj,←hk];rfl,Only.refl _ _⟩
        ·have hbi: ¬(4294967296:Int)≤(b':Int):=by omega
         go_wp2_with fail
         go_round
         case rel=>exact⟨a',b',rfl,rfl,HDn.out,by omega⟩
         case measure=>simp [intOf];omega
       ·have hE:a=Q2:=(dig_done HDg.out hY0.out (by rw [hm2,hm3,hm1];omega)).trans HQe2.out
        subst hE
        have hgi: ¬(m3:Int)<(m1:Int):=by omega
        clear hm1 hm2 hm3 hgt hqa HDg HBl
        go_wp2_with fail
        clear hqi hgi hw3 hw4 hw5
        have hj:=d64_join HQ.out.1 HQB.out
        have hk:(R2:Int)/2^s=(Rf:Int):=by rw [← HQ.out.2];simp
        go_wp2_with fail
        go_ret2
        exact⟨by rw [← hj,←hk];rfl,Only.refl _ _⟩
structure ECar (u2 u1 u0 v1 v0 d r o:Nat):Prop where
 ok:EstOk u2 u1 u0 v1 v0 d
 rl:r<BB
 eq:o=0→d*v1+r=u2*BB+u1
theorem ECar.lower {u2 u1 u0 v1 v0 d r:Nat} (h:ECar u2 u1 u0 v1 v0 d r 0) (hl:r*BB+u0<d*v0):0<d∧ECar u2 u1 u0 v1 v0 (d-1) (aLo r v1 0) (aHi r v1 0):=by
 obtain⟨h1,h2,h3⟩:=est_lower h.ok.1 (h.eq rfl) hl
 refine⟨h1,h2,aLo_lt _ _ _,fun h4=>?_⟩
 have h5:=add64_law r v1 0
 rw [h4] at h5
 omega
theorem ECar.start {u2 u1 u0 v1 v0:Nat} (hv:0<v1) (h2:u2<v1) (h1:u1<BB) (h0:u0<BB) (hv1:v1<BB):ECar u2 u1 u0 v1 v0 ((u2*BB+u1)/v1) ((u2*BB+u1)%v1) 0:=by
 refine⟨est_start hv h2 h1 h0,Nat.lt_trans (Nat.mod_lt _ hv) hv1,fun _=>?_⟩
 have:=Nat.div_add_mod (u2*BB+u1) v1
 rw [Nat.mul_comm] at this
 exact this
theorem ECar.top {u2 u1 u0 v1 v0:Nat} (h2:u2=v1):ECar u2 u1 u0 v1 v0 (BB-1) (aLo u1 v1 0) (aHi u1 v1 0):=by
 refine⟨⟨by have:=BB_pos;omega,.inl rfl⟩,aLo_lt _ _ _,fun h4=>?_⟩
 have h5:=add64_law u1 v1 0
 rw [h4] at h5
 obtain⟨k,hk⟩: ∃k,BB=k+1:=⟨BB-1,by have:=BB_pos;omega⟩
 rw [h2,hk,Nat.add_sub_cancel,Nat.mul_add,Nat.mul_comm k]
 omega
theorem est_test {r u0 d v0:Nat} (hu:u0<BB):(mHi d v0<r∨(mHi d v0=r∧mLo d v0≤u0))∨(r*BB+u0<d*v0∧ ¬mHi d v0<r∧(mHi d v0=r→ ¬mLo d v0≤u0)):=by
 have h1:=mul64_law d v0
 have h2:=mLo_lt d v0
 generalize mHi d v0=p at*
 generalize mLo d v0=q at*
 by_cases c1:p<r
 ·exact .inl (.inl c1)
 ·by_cases c2:p=r
  ·by_cases c3:q≤u0
   ·exact .inl (.inr ⟨c2,c3⟩)
   ·refine .inr ⟨?_,c1,fun _=>c3⟩
    rw [← h1,c2,Nat.mul_comm BB]
    omega
  ·refine .inr ⟨?_,c1,fun h=>absurd h c2⟩
   have h3:(r+1)*BB≤p*BB:=Nat.mul_le_mul_right _ (by omega)
   rw [Nat.add_mul,Nat.one_mul] at h3
   rw [← h1,Nat.mul_comm BB]
   omega
set_option maxHeartbeats 1600000 in
set_option maxRecDepth 100000 in
theorem estimate_any (u2 u1 u0 v1 v0:Nat) (h2:Hid (u2≤v1)) (l1:Hid (u1<BB)) (l0:Hid (u0<BB)) (lv1:Hid (v1<BB)) (lv0:Hid (v0<BB)) (hv:Hid (0<v1)) (w:World):
  Calls Tryz.prog 149 #[.int .u64 (u2:Int),.int .u64 (u1:Int),.int .u64 (u0:Int),.int .u64 (v1:Int),.int .u64 (v0:Int)] w fun e w'=> ∃d:Nat,e= .returned (.int .u64 (d:Int))∧EstOk u2 u1 u0 v1 v0 d∧Only [] w w':=by
 by_cases hlt:u2<v1
 ·have hi:(u2:Int)<(v1:Int):=by omega
  have HL:=hid hlt
  have HSt:Hid _:=ECar.start (u0:=u0) (v0:=v0) hv.out hlt l1.out l0.out lv1.out
  clear hlt
  go_enter Tryz.func149,Tryz.ntmps149
  go_wp2_with fail
  refine (div64_any u2 u1 v1 HL l1 lv1 _).mono ?_
  rintro e wd ⟨rfl,hO0⟩
  have HO0:Hid (Only [] w wd):=hO0
  clear hO0
  generalize (u2*BB+u1)/v1=d0 at*
  generalize (u2*BB+u1)%v1=r0 at*
  go_wp2_with fail
  go_loopw [11,12,13] (fun dv rv ov wr=> ∃d r o:Nat,dv= .int .u64 (d:Int)∧rv= .int .u64 (r:Int)∧ov= .int .u64 (o:Int)∧ECar u2 u1 u0 v1 v0 d r o∧Only [] w wr) (fun dv _ _ _=>(intOf dv).toNat)
  case atStart=>exact⟨_,_,_,rfl,rfl,rfl,HSt.out,HO0.out⟩
  case round=>
   obtain⟨d,r,o,rfl,rfl,rfl,hR,hO⟩:=hrel
   have HR:=hid hR
   have HO:=hid hO
   clear hR hO
   by_cases ho:o=0
   ·subst ho
    obtain hb|⟨hl,hb1,hb2⟩:=est_test (r:=r) (d:=d) (v0:=v0) l0.out
    ·have HP:Hid (mHi d v0<r∨(mHi d v0=r∧mLo d v0≤u0)):=hb
     clear hb
     go_wp2_with fail
     refine (mul64_any d v0 HR.out.ok.1 lv0.out _).mono ?_
     rintro e w' ⟨rfl,rfl⟩
     rcases HP.out with hb|⟨hb,hc⟩
     ·have hb':(mHi d v0:Int)<(r:Int):=by omega
      clear hb
      go_wp2_with fail
      go_ret
      exact⟨_,rfl,HR.out.ok,HO.out⟩
     ·have hb':((mHi d v0:Nat):Int)=(r:Int):=by omega
      have hn: ¬(r:Int)<(r:Int):=by omega
      have hc':(mLo d v0:Int)≤(u0:Int):=by omega
      clear hb hc
      rw [hb']
      go_wp2_with fail
      go_ret
      exact⟨_,rfl,HR.out.ok,HO.out⟩
    ·obtain⟨hd0,hN⟩:=HR.out.lower hl
     have HN:=hid hN
     have hw1:IntKind.u64.wrap ((d:Int)-1)=((d-1:Nat):Int):=u64_dec hd0 HR.out.ok.1
     have ha: ∀wx,(callFunc 164 #[.int .u64 (r:Int),.int .u64 (v1:Int),.int .u64 0]).run Tryz.prog wx= .ok (.value (.tuple #[.int .u64 ((aLo r v1 0:Nat):Int),.int .u64 ((aHi r v1 0:Nat):Int)])) wx:=fun wx=>add64_run r v1 0 HR.out.rl lv1.out (by omega) wx
     have hb1': ¬(mHi d v0:Int)<(r:Int):=by omega
     have HB2:=hid hb2
     clear hN hl hb1 hb2
     go_wp2_with fail
     refine (mul64_any d v0 HR.out.ok.1 lv0.out _).mono ?_
     rintro e w' ⟨rfl,rfl⟩
     by_cases hb:mHi d v0=r
     ·have hc': ¬(mLo d v0:Int)≤(u0:Int):=by have:=HB2.out hb;omega
      have hb':((mHi d v0:Nat):Int)=(r:Int):=by omega
      rw [hb'] at hb1'
      rw [hb']
      clear hb
      go_wp2_with fail
      go_roundw
      case rel=>exact⟨_,_,_,rfl,rfl,rfl,HN.out,HO.out⟩
      case measure=>simp [intOf];omega
     ·have hb':(((mHi d v0:Nat):Int) == (r:Int))=false:=by simp;omega
      have hb2': ¬((mHi d v0:Nat):Int)=(r:Int):=by omega
      clear hb
      go_wp2_with fail
      go_roundw
      case rel=>exact⟨_,_,_,rfl,rfl,rfl,HN.out,HO.out⟩
      case measure=>simp [intOf];omega
   ·have hoi:((o:Int) == 0)=false:=by simp;omega
    have hoi2: ¬((o:Int)=0):=by omega
    clear ho
    go_wp2_with fail
    go_ret
    exact⟨_,rfl,HR.out.ok,HO.out⟩
 ·have hi: ¬(u2:Int)<(v1:Int):=by omega
  have HSt:Hid _:=ECar.top (u1:=u1) (u0:=u0) (v0:=v0) (show u2=v1 by have:=h2.out;omega)
  have ha0: ∀wx,(callFunc 164 #[.int .u64 (u1:Int),.int .u64 (v1:Int),.int .u64 0]).run Tryz.prog wx= .ok (.value (.tuple #[.int .u64 ((aLo u1 v1 0:Nat):Int),.int .u64 ((aHi u1 v1 0:Nat):Int)])) wx:=fun wx=>add64_run u1 v1 0 l1.out lv1.out (by omega) wx
  have hmax:(18446744073709551615:Int)=((BB-1:Nat):Int):=by rw [BB_val];rfl
  clear hlt
  go_enter Tryz.func149,Tryz.ntmps149
  go_wp2_with fail
  go_loopw [11,12,13] (fun dv rv ov wr=> ∃d r o:Nat,dv= .int .u64 (d:Int)∧rv= .int .u64 (r:Int)∧ov= .int .u64 (o:Int)∧ECar u2 u1 u0 v1 v0 d r o∧Only [] w wr) (fun dv _ _ _=>(intOf dv).toNat)
  case atStart=>exact⟨_,_,_,rfl,rfl,rfl,HSt.out,Only.refl _ _⟩
  case round=>
   obtain⟨d,r,o,rfl,rfl,rfl,hR,hO⟩:=hrel
   have HR:=hid hR
   have HO:=hid hO
   clear hR hO
   by_cases ho:o=0
   ·subst ho
    obtain hb|⟨hl,hb1,hb2⟩:=est_test (r:=r) (d:=d) (v0:=v0) l0.out
    ·have HP:Hid (mHi d v0<r∨(mHi d v0=r∧mLo d v0≤u0)):=hb
     clear hb
     go_wp2_with fail
     refine (mul64_any d v0 HR.out.ok.1 lv0.out _).mono ?_
     rintro e w' ⟨rfl,rfl⟩
     rcases HP.out with hb|⟨hb,hc⟩
     ·have hb':(mHi d v0:Int)<(r:Int):=by omega
      clear hb
      go_wp2_with fail
      go_ret
      exact⟨_,rfl,HR.out.ok,HO.out⟩
     ·have hb':((mHi d v0:Nat):Int)=(r:Int):=by omega
      have hn: ¬(r:Int)<(r:Int):=by omega
      have hc':(mLo d v0:Int)≤(u0:Int):=by omega
      clear hb hc
      rw [hb']
      go_wp2_with fail
      go_ret
      exact⟨_,rfl,HR.out.ok,HO.out⟩
    ·obtain⟨hd0,hN⟩:=HR.out.lower hl
     have HN:=hid hN
     have hw1:IntKind.u64.wrap ((d:Int)-1)=((d-1:Nat):Int):=u64_dec hd0 HR.out.ok.1
     have ha: ∀wx,(callFunc 164 #[.int .u64 (r:Int),.int .u64 (v1:Int),.int .u64 0]).run Tryz.prog wx= .ok (.value (.tuple #[.int .u64 ((aLo r v1 0:Nat):Int),.int .u64 ((aHi r v1 0:Nat):Int)])) wx:=fun wx=>add64_run r v1 0 HR.out.rl lv1.out (by omega) wx
     have hb1': ¬(mHi d v0:Int)<(r:Int):=by omega
     have HB2:=hid hb2
     clear hN hl hb1 hb2
     go_wp2_with fail
     refine (mul64_any d v0 HR.out.ok.1 lv0.out _).mono ?_
     rintro e w' ⟨rfl,rfl⟩
     by_cases hb:mHi d v0=r
     ·have hc': ¬(mLo d v0:Int)≤(u0:Int):=by have:=HB2.out hb;omega
      have hb':((mHi d v0:Nat):Int)=(r:Int):=by omega
      rw [hb'] at hb1'
      rw [hb']
      clear hb
      go_wp2_with fail
      go_roundw
      case rel=>exact⟨_,_,_,rfl,rfl,rfl,HN.out,HO.out⟩
      case measure=>simp [intOf];omega
     ·have hb':(((mHi d v0:Nat):Int) == (r:Int))=false:=by simp;omega
      have hb2': ¬((mHi d v0:Nat):Int)=(r:Int):=by omega
      clear hb
      go_wp2_with fail
      go_roundw
      case rel=>exact⟨_,_,_,rfl,rfl,rfl,HN.out,HO.out⟩
      case measure=>simp [intOf];omega
   ·have hoi:((o:Int) == 0)=false:=by simp;omega
    have hoi2: ¬((o:Int)=0):=by omega
    clear ho
    go_wp2_with fail
    go_ret
    exact⟨_,rfl,HR.out.ok,HO.out⟩
structure LCar (w wr:World) (g s r L:Nat) (xs:List Nat) (k:Nat) (zs:List Nat):Prop where
 blk:Blk wr g 133 (limbV zs)
 limb:Limb zs
 len:zs.length=L
 val_:val zs=BB^s*(val (xs.take k)*2^r)
 only:Only [g] w wr
structure LStep (w wr:World) (g s r L:Nat) (xs:List Nat) (k:Nat) (zs:List Nat) (z v z2 a lo hi:Nat):Prop where
 c1:wr.cell? ⟨g,k+s,none⟩=some (.int .u64 (z:Int))
 e1:IntKind.u64.wrap ((v:Int)*2^r)=(a:Int)
 e2:bits .or .u64 (z:Int) (a:Int)=(lo:Int)
 e3:(v:Int)/2^(64-r)=(hi:Int)
 c2:(wr.setCell ⟨g,k+s,none⟩ (.int .u64 (lo:Int))).cell? ⟨g,k+s+1,none⟩=some (.int .u64 (z2:Int))
 next:LCar w ((wr.setCell ⟨g,k+s,none⟩ (.int .u64 (lo:Int))).setCell ⟨g,k+s+1,none⟩ (.int .u64 (hi:Int))) g s r L xs (k+1) ((zs.set (k+s) lo).set (k+s+1) hi)
theorem LCar.step {w wr:World} {g s r L:Nat} {xs:List Nat} {k:Nat} {zs:List Nat} (h:LCar w wr g s r L xs k zs) (hr:r<64) (hx:Limb xs) (hk:k<xs.length) (hL:L=xs.length+s+1):
  ∃z z2 a lo hi,LStep w wr g s r L xs k zs z (xs[k]?.getD 0) z2 a lo hi:=by
 have hlen:=h.len
 have hv:=hx.get k
 have hp:0<2^r:=Nat.pow_pos (by omega)
 have hsp:(2:Nat)^r*2^(64-r)=BB:=by rw [← Nat.pow_add,BB_pow];congr 1;omega
 have hb:=val_lt (hx.take k)
 rw [List.length_take,Nat.min_eq_left (by omega)] at hb
 have hb2:val zs<BB^(k+s)*2^r:=by
  rw [h.val_,Nat.pow_add,Nat.mul_comm (BB^k),Nat.mul_assoc]
  exact Nat.mul_lt_mul_of_pos_left (Nat.mul_lt_mul_of_pos_right hb hp) (BB_pow_pos s)
 have hz:zs[k+s]?.getD 0<2^r:=by
  have h1:=val_ge_get (zs:=zs) (k+s)
  exact Nat.lt_of_mul_lt_mul_left (Nat.lt_of_le_of_lt h1 hb2)
 have hz2:zs[k+s+1]?.getD 0=0:=by
  refine val_high (m:=k+s+1) ?_ _ (Nat.le_refl _)
  refine Nat.lt_of_lt_of_le hb2 ?_
  rw [Nat.pow_succ]
  refine Nat.mul_le_mul_left _ ?_
  rw [← hsp]
  exact Nat.le_mul_of_pos_right _ (Nat.pow_pos (by omega))
 have hzl:=h.limb.get (k+s)
 have ha: ∃a,(xs[k]?.getD 0*2^r)%BB=a∧2^r∣a∧a<BB:=⟨_,rfl,by
  rw [Nat.dvd_mod_iff ⟨2^(64-r),hsp.symm⟩]
  exact Nat.dvd_mul_left _ _,Nat.mod_lt _ BB_pos⟩
 obtain⟨a,ha1,⟨m,ha2⟩,ha3⟩:=ha
 have hdv:xs[k]?.getD 0*2^r/BB=xs[k]?.getD 0/2^(64-r):=by
  rw [← hsp,Nat.mul_comm (2^r),Nat.mul_div_mul_right _ _ hp]
 have hsum:zs[k+s]?.getD 0+a+BB*(xs[k]?.getD 0/2^(64-r))=zs[k+s]?.getD 0+xs[k]?.getD 0*2^r+0:=by
  have:=Nat.mod_add_div (xs[k]?.getD 0*2^r) BB
  rw [ha1,hdv] at this
  omega
 have hlo:zs[k+s]?.getD 0+a<BB:=by
  have h1:m<2^(64-r):=by
   rw [ha2,←hsp] at ha3
   exact Nat.lt_of_mul_lt_mul_left ha3
  have h2:2^r*(m+1)≤2^r*2^(64-r):=Nat.mul_le_mul_left _ h1
  rw [hsp,Nat.mul_add] at h2
  omega
 have hhi:xs[k]?.getD 0/2^(64-r)<BB:=Nat.lt_of_le_of_lt (Nat.div_le_self _ _) hv
 have hi1:k+s<zs.length:=by omega
 have hi2:k+s+1<zs.length:=by omega
 have hc1:=h.blk.cell (k+s)
 rw [limbV_get _ _ hi1] at hc1
 have hB1:=h.blk.set_ (k+s) (.int .u64 ((zs[k+s]?.getD 0+a:Nat):Int))
 rw [limbV_set] at hB1
 have hc2:=hB1.cell (k+s+1)
 rw [limbV_get _ _ (by rw [List.length_set];exact hi2)] at hc2
 have hB2:=hB1.set_ (k+s+1) (.int .u64 ((xs[k]?.getD 0/2^(64-r):Nat):Int))
 rw [limbV_set] at hB2
 refine⟨zs[k+s]?.getD 0,_,a,zs[k+s]?.getD 0+a,xs[k]?.getD 0/2^(64-r),hc1,?_,?_,by simp,hc2,?_⟩
 ·rw [show ((xs[k]?.getD 0:Nat):Int)*2^r=((xs[k]?.getD 0*2^r:Nat):Int) by simp,IntKind.wrap_u64,←ha1,BB_val]
  omega
 ·have hor:zs[k+s]?.getD 0+a=zs[k+s]?.getD 0 ||| a:=by rw [Nat.add_comm (zs[k+s]?.getD 0),ha2,Nat.two_pow_add_eq_or_of_lt hz,Nat.or_comm]
  rw [hor]
  exact bits_or_u64_nat _ _ (by rw [← BB_val];exact hzl) (by rw [← BB_val];exact ha3)
 ·refine⟨hB2,(h.limb.set _ _ hlo).set _ _ hhi,by simp [hlen],?_,(h.only.trans ((Only.refl [g] wr).setCell (.inl (by simp)) _) (by simp)).trans ((Only.refl [g] _).setCell (.inl (by simp)) _) (by simp)⟩
  have h1:=add_step hi1 hsum
  have h2:=val_set (zs.set (k+s) (zs[k+s]?.getD 0+a)) (k+s+1) (xs[k]?.getD 0/2^(64-r)) (by rw [List.length_set];exact hi2)
  rw [set_get_ne (by omega),hz2,Nat.mul_zero,Nat.add_zero] at h2
  rw [h2,h1,h.val_,val_take_succ xs k hk,Nat.mul_zero,Nat.add_zero,Nat.add_mul,Nat.mul_add]
  rw [Nat.pow_add,Nat.mul_comm (BB^k),Nat.mul_assoc (BB^s),Nat.mul_assoc (BB^k)]
set_option maxHeartbeats 1600000 in
theorem left_any (A:Option Addr) (c n s r:Nat) (xs:List Nat) (w:World) (hA:Hid (Arg w A xs)) (hn:Hid (n=s*64+r)) (hr:Hid (r<64)) (hl:(xs.length:Int)+s+1≤4000000):
  Calls Tryz.prog 146 #[.slice A xs.length c,.int .i64 (n:Int)] w (NPost (val xs*2^n) w):=by
 have hq2:(n:Int)/64=(s:Int):=by have:=hn.out;have:=hr.out;omega
 have hq4:(n:Int)%64=(r:Int):=by have:=hn.out;have:=hr.out;omega
 have hq1:(n:Int).tdiv 64=(s:Int):=by rw [Int.tdiv_eq_ediv_of_nonneg (by omega)];exact hq2
 have hq3:(n:Int).tmod 64=(r:Int):=by rw [Int.tmod_eq_emod_of_nonneg (by omega)];exact hq4
 by_cases h0:xs.length=0
 ·have h0i:(xs.length:Int)=0:=by omega
  go_enter Tryz.func146,Tryz.ntmps146
  go_wp2_with fail
  go_ret
  refine⟨_,rfl,?_,Only.refl _ _⟩
  rw [List.length_eq_zero_iff.1 h0,val_nil,Nat.zero_mul]
  exact res_nil _ _
 ·have h0i:((xs.length:Int) == 0)=false:=by rw [beq_eq_false_iff_ne];omega
  have h0j: ¬(xs.length:Int)=0:=by omega
  obtain⟨w1,hmk,hb1,ho1,hs1⟩:=make_nat w (xs.length+s+1) (by omega)
  rw [show ((xs.length+s+1:Nat):Int)=(xs.length:Int)+(s:Int)+1 by push_cast;rfl] at hmk
  have HStart:Hid (LCar w1 w1 w.heap.size s r (xs.length+s+1) xs 0 (List.replicate (xs.length+s+1) 0)):=⟨hb1,Limb.zeros _,by simp,by rw [val_zeros];simp [val],Only.refl _ _⟩
  have HO1:=hid ho1
  have HAlt:=hid hA.out.lt
  clear hb1 ho1 hs1 h0
  generalize hg:w.heap.size=g at HStart hmk HAlt
  have HG:Hid (w.heap.size≤g):=by show _≤_;omega
  clear hg
  go_enter Tryz.func146,Tryz.ntmps146
  go_wp2_with fail
  go_loopw [26] (fun kv wr=> ∃(k:Nat) (zs:List Nat),k≤xs.length∧kv= .int .i64 (k:Int)∧LCar w1 wr g s r (xs.length+s+1) xs k zs) (fun kv _=>xs.length-(intOf kv).toNat)
  case atStart=>exact⟨0,_,Nat.zero_le _,rfl,HStart.out⟩
  case round=>
   obtain⟨k,zs,hk,rfl,hR⟩:=hrel
   have HR:=hid hR
   clear hR HStart
   by_cases hlt:k<xs.length
   ·obtain⟨b,o,rfl,hc⟩:=(hA.out.read.only HO1.out) k hlt
    have hbg:b≠g:=by have:=HAlt.out (by omega) _ rfl;simp only at this;omega
    have c1:=HR.out.only.cell hc (by simpa using hbg)
    have f2:=HR.out.blk.frozen (k+s)
    have f3:=HR.out.blk.frozen (k+s+1)
    obtain⟨z,z2,a,lo,hi,hst⟩:=HR.out.step hr.out hA.out.limb hlt rfl
    have HS:=hid hst.next
    obtain⟨d1,d2,d3,d4,d5,-⟩:=hst
    generalize xs[k]?.getD 0=v at c1 d2 d4
    have hk':(k:Int)<(xs.length:Int):=by omega
    have hi':(k:Int)+(s:Int)<(xs.length:Int)+(s:Int)+1:=by omega
    have hi2:(k:Int)+(s:Int)+1<(xs.length:Int)+(s:Int)+1:=by omega
    have hsr:IntKind.u64.wrap (64-(r:Int))=((64-r:Nat):Int):=by
     have:=hr.out
     rw [show (64:Int)-(r:Int)=((64-r:Nat):Int) by omega]
     exact u64_wrap (by rw [BB_val];omega)
    clear hc hlt
    go_wp2_with fail
    go_roundw
    case rel=>exact⟨k+1,_,by omega,by go_num,HS.out⟩
    case measure=>simp [intOf];omega
   ·have hnl: ¬(k:Int)<(xs.length:Int):=by omega
    have e:k=xs.length:=by omega
    have HV:Hid (val zs=val xs*2^n):=by
     have h:=HR.out.val_
     rw [e,val_take_all,Nat.mul_left_comm] at h
     show _=_
     rw [h,hn.out,Nat.pow_add,Nat.mul_comm s,Nat.pow_mul,←BB_pow]
    have HLen:=hid HR.out.len
    clear e hlt
    go_wp2_with fail
    (with_reducible refine (trim_row g _ _ zs wr HR.out.blk HR.out.limb HLen.out.symm (Nat.le_refl _) (by omega)).mono ?_)
    rintro e w4 ⟨rfl,rfl⟩
    go_wp2_with fail
    go_ret
    have hr:=res_of_blk (w0:=w) HR.out.blk HR.out.limb HG.out (by have:=HLen.out;omega)
    rw [HLen.out] at hr
    exact⟨_,rfl,HV.out▸hr,HO1.out.trans HR.out.only (fun k hk=> .inr (by simp at hk;rw [hk];exact HG.out))⟩
structure RCar (w wr:World) (g s r L:Nat) (xs:List Nat) (k:Nat) (zs:List Nat):Prop where
 blk:Blk wr g 133 (limbV zs)
 limb:Limb zs
 len:zs.length=L
 val_: ∀j,j<k→zs[j]?.getD 0=shrAt r (xs.drop s) j
 only:Only [g] w wr
theorem RCar.set {w wr:World} {g s r L:Nat} {xs:List Nat} {k:Nat} {zs:List Nat} (h:RCar w wr g s r L xs k zs) (_:k<L) (v:Nat) (hv:v<BB):
  RCar w (wr.setCell ⟨g,k,none⟩ (.int .u64 (v:Int))) g s r L xs k (zs.set k v):=by
 refine⟨?_,h.limb.set _ _ hv,by rw [List.length_set,h.len],fun j hj=>?_,h.only.trans ((Only.refl [g] wr).setCell (.inl (by simp)) _) (by simp)⟩
 ·rw [← limbV_set]
  exact h.blk.set_ k _
 ·rw [set_get_ne (by omega)]
  exact h.val_ j hj
theorem RCar.next {w wr:World} {g s r L:Nat} {xs:List Nat} {k:Nat} {zs:List Nat} (h:RCar w wr g s r L xs k zs) (hk:zs[k]?.getD 0=shrAt r (xs.drop s) k):RCar w wr g s r L xs (k+1) zs:=by
 refine⟨h.blk,h.limb,h.len,fun j hj=>?_,h.only⟩
 by_cases e:j=k
 ·rw [e];exact hk
 ·exact h.val_ j (by omega)
theorem RCar.drew {w wr:World} {g s r L:Nat} {xs:List Nat} {k:Nat} {zs:List Nat} (h:RCar w wr g s r L xs k zs):RCar w wr.drew g s r L xs k zs:=⟨h.blk.drew,h.limb,h.len,h.val_,h.only.drew⟩
theorem shr_or {x y r:Nat} (hr:r<64) (hx:x<BB) (_:y<BB):IntKind.u64.wrap ((y:Int)*2^(64-r))=((y%2^r*2^(64-r):Nat):Int)∧bits .or .u64 ((x/2^r:Nat):Int) ((y%2^r*2^(64-r):Nat):Int)=((x/2^r+y%2^r*2^(64-r):Nat):Int)∧x/2^r+y%2^r*2^(64-r)<BB:=by
 have hp:0<2^r:=Nat.pow_pos (by omega)
 have hsp:(2:Nat)^r*2^(64-r)=BB:=by rw [← Nat.pow_add,BB_pow];congr 1;omega
 have hx2:x/2^r<2^(64-r):=by
  rw [Nat.div_lt_iff_lt_mul hp,Nat.mul_comm,hsp]
  exact hx
 have hm:=Nat.mod_lt y hp
 have hm2:(y%2^r+1)*2^(64-r)≤2^r*2^(64-r):=Nat.mul_le_mul_right _ hm
 rw [hsp,Nat.add_mul,Nat.one_mul] at hm2
 have hy2:y*2^(64-r)%BB=y%2^r*2^(64-r):=by rw [← hsp,Nat.mul_mod_mul_right]
 refine⟨?_,?_,by omega⟩
 ·rw [show (y:Int)*2^(64-r)=((y*2^(64-r):Nat):Int) by simp,IntKind.wrap_u64,←hy2,BB_val]
  omega
 ·have hor:x/2^r+y%2^r*2^(64-r)=x/2^r ||| y%2^r*2^(64-r):=by rw [Nat.add_comm,Nat.mul_comm (y%2^r),Nat.two_pow_add_eq_or_of_lt hx2,Nat.or_comm]
  have hyb:y%2^r*2^(64-r)<BB:=Nat.lt_of_lt_of_le (Nat.lt_add_of_pos_right (Nat.pow_pos (by omega))) hm2
  rw [hor]
  rw [BB_val] at hx hyb
  exact bits_or_u64_nat _ _ (Nat.lt_of_le_of_lt (Nat.div_le_self _ _) hx) hyb
set_option maxHeartbeats 1600000 in
set_option maxRecDepth 100000 in
theorem right_any (A:Option Addr) (c n s r:Nat) (xs:List Nat) (w:World) (hA:Hid (Arg w A xs)) (hn:Hid (n=s*64+r)) (hr:Hid (r<64)) (hsb:(s:Int)≤1000000000):
  Calls Tryz.prog 145 #[.slice A xs.length c,.int .i64 (n:Int)] w (NPost (val xs/2^n) w):=by
 have hq2:(n:Int)/64=(s:Int):=by have:=hn.out;have:=hr.out;omega
 have hq4:(n:Int)%64=(r:Int):=by have:=hn.out;have:=hr.out;omega
 have hq1:(n:Int).tdiv 64=(s:Int):=by rw [Int.tdiv_eq_ediv_of_nonneg (by omega)];exact hq2
 have hq3:(n:Int).tmod 64=(r:Int):=by rw [Int.tmod_eq_emod_of_nonneg (by omega)];exact hq4
 have HN1:Hid (n/64=s):=by have:=hn.out;have:=hr.out;show _=_;omega
 have HN2:Hid (n%64=r):=by have:=hn.out;have:=hr.out;show _=_;omega
 by_cases h0:xs.length≤s
 ·have h0i:(xs.length:Int)≤(s:Int):=by omega
  go_enter Tryz.func145,Tryz.ntmps145
  go_wp2_with fail
  go_ret
  refine⟨_,rfl,?_,Only.refl _ _⟩
  rw [shr_small xs hA.out.limb n (by rw [HN1.out];exact h0)]
  exact res_nil _ _
 ·have h0i: ¬(xs.length:Int)≤(s:Int):=by omega
  have hlen:=hA.out.len
  obtain⟨L,hL⟩: ∃L,xs.length=s+L:=⟨xs.length-s,by omega⟩
  obtain⟨w1,hmk,hb1,ho1,hs1⟩:=make_nat w L (by omega)
  have hLi:(xs.length:Int)-(s:Int)=(L:Int):=by omega
  have HStart:Hid (RCar w1 w1 w.heap.size s r L xs 0 (List.replicate L 0)):=⟨hb1,Limb.zeros _,by simp,by omega,Only.refl _ _⟩
  have HO1:=hid ho1
  have HAlt:=hid hA.out.lt
  have hLl:(L:Int)≤4000000:=by omega
  have HL:=hid hL
  clear hb1 ho1 hs1 h0 hL
  generalize hg:w.heap.size=g at HStart hmk HAlt
  have HG:Hid (w.heap.size≤g):=by show _≤_;omega
  clear hg
  go_enter Tryz.func145,Tryz.ntmps145
  go_wp2_with fail
  go_loopw [25] (fun kv wr=> ∃(k:Nat) (zs:List Nat),k≤L∧kv= .int .i64 (k:Int)∧RCar w1 wr g s r L xs k zs) (fun kv _=>L-(intOf kv).toNat)
  case atStart=>exact⟨0,_,Nat.zero_le _,rfl,HStart.out⟩
  case round=>
   obtain⟨k,zs,hk,rfl,hR⟩:=hrel
   have HR:=hid hR
   clear hR HStart
   by_cases hlt:k<L
   ·obtain⟨b,o,rfl,hc⟩:=(hA.out.read.only HO1.out) (k+s) (by have:=HL.out;omega)
    have hbg:b≠g:=by have:=HAlt.out (by have:=HL.out;omega) _ rfl;simp only at this;omega
    have c1:=HR.out.only.cell hc (by simpa using hbg)
    have f2:=HR.out.blk.frozen k
    have c2:=HR.out.blk.cell k
    rw [limbV_get _ _ (by rw [HR.out.len];exact hlt)] at c2
    have HX:=hid (hA.out.limb.get (k+s))
    have hd1:(((xs[k+s]?.getD 0:Nat)):Int)/2^r=((xs[k+s]?.getD 0/2^r:Nat):Int):=by simp
    have HS:=hid (HR.out.set hlt (xs[k+s]?.getD 0/2^r) (Nat.lt_of_le_of_lt (Nat.div_le_self _ _) HX.out))
    have c3:=HS.out.blk.cell k
    rw [limbV_get _ _ (by rw [HS.out.len];exact hlt),set_get_eq (by rw [HR.out.len];exact hlt)] at c3
    have f3:=HS.out.blk.frozen k
    have hk':(k:Int)<(L:Int):=by omega
    have hi':(k:Int)+(s:Int)<(xs.length:Int):=by have:=HL.out;omega
    have HAt:Hid (shrAt r (xs.drop s) k=xs[k+s]?.getD 0/2^r+(xs[k+s+1]?.getD 0%2^r)*2^(64-r)):=by
     show _=_
     unfold shrAt
     rw [List.getElem?_drop,List.getElem?_drop,show s+k=k+s by omega,show s+(k+1)=k+s+1 by omega]
    by_cases hl2:k+s+1<xs.length
    ·obtain⟨b',o',e',hc2⟩:=(hA.out.read.only HO1.out) (k+s+1) hl2
     injection e' with e'
     injection e' with e1 e2 _
     subst e1 e2
     have c4:=HS.out.only.cell hc2 (by simpa using hbg)
     obtain⟨t1,t2,t3⟩:=shr_or (r:=r) hr.out HX.out (hA.out.limb.get (k+s+1))
     have HS2: ∀wd,RCar w1 wd g s r L xs k (zs.set k (xs[k+s]?.getD 0/2^r))→RCar w1 (wd.setCell ⟨g,k,none⟩ (.int .u64 ((xs[k+s]?.getD 0/2^r+xs[k+s+1]?.getD 0%2^r*2^(64-r):Nat):Int))) g s r L xs (k+1) ((zs.set k (xs[k+s]?.getD 0/2^r)).set k (xs[k+s]?.getD 0/2^r+xs[k+s+1]?.getD 0%2^r*2^(64-r))):=
      fun wd hd=>(hd.set hlt _ t3).next (by rw [set_get_eq (by rw [hd.len];exact hlt),HAt.out])
     have HS2:=hid HS2
     have hi2:(k:Int)+(s:Int)+1<(xs.length:Int):=by omega
     have hsr:IntKind.u64.wrap (64-(r:Int))=((64-r:Nat):Int):=by
      have:=hr.out
      rw [show (64:Int)-(r:Int)=((64-r:Nat):Int) by omega]
      exact u64_wrap (by rw [BB_val];omega)
     clear hc hc2 hlt t3 HAt hl2
     generalize hx1:xs[k+s]?.getD 0/2^r=xr at*
     generalize xs[k+s]?.getD 0=x at*
     generalize xs[k+s+1]?.getD 0=y at*
     generalize y%2^r*2^(64-r)=yr at*
     generalize xr+yr=zr at*
     go_wp2_with fail
     have hkS:(k:Int)+(s:Int)≤4000000:=by omega
     obtain⟨e1,he1⟩: ∃e1,k+s=e1:=⟨_,rfl⟩
     obtain⟨e2,he2⟩: ∃e2,e1+1=e2:=⟨_,rfl⟩
     have hm1:IntKind.i64.wrap ((k:Int)+(s:Int))=(e1:Int):=by rw [IntKind.wrap_i64];omega
     have hm2:IntKind.i64.wrap ((e1:Int)+1)=(e2:Int):=by rw [IntKind.wrap_i64];omega
     have hm3:(e2:Int)<(xs.length:Int):=by omega
     rw [show k+s+1=e2 by omega] at c4
     generalize wr.setCell ⟨g,k,none⟩ (.int .u64 (xr:Int))=wx at HS c3 c4 f3 ⊢
     go_still_tail 16,(by kernel_rfl)
     change wpList _ _ _ _ _ wx.drew
     have HSd:=hid HS.out.drew
     generalize wx.drew=wd at HSd ⊢
     have f4:=HSd.out.blk.frozen k
     have c5:=HSd.out.blk.cell k
     rw [limbV_get _ _ (by rw [HSd.out.len];omega)] at c5
     go_wp2_with fail
     go_roundw
     case rel=>exact⟨k+1,_,by omega,by go_num,HS2.out _ HSd.out⟩
     case measure=>simp [intOf];omega
    ·have hnl2: ¬(k:Int)+(s:Int)+1<(xs.length:Int):=by omega
     have HS2:=hid (HS.out.next (by
      rw [set_get_eq (by rw [HR.out.len];exact hlt),HAt.out,List.getElem?_eq_none (l:=xs) (i:=k+s+1) (by omega)]
      simp))
     clear hc hlt HAt hl2
     generalize hx1:xs[k+s]?.getD 0/2^r=xr at*
     generalize xs[k+s]?.getD 0=x at*
     go_wp2_with fail
     go_roundw
     case rel=>exact⟨k+1,_,by omega,by go_num,HS2.out⟩
     case measure=>simp [intOf];omega
   ·have hnl: ¬(k:Int)<(L:Int):=by omega
    have e:k=L:=by omega
    have HV:Hid (val zs=val xs/2^n):=by
     have h:=HR.out.val_
     have hz:=eq_shrL (r:=r) (xs:=xs.drop s) (zs:=zs) (by rw [HR.out.len,List.length_drop,HL.out];omega) (fun j hj=>h j (by rw [List.length_drop,HL.out] at hj;omega))
     show _=_
     rw [hz,←HN1.out,←HN2.out,shr_val xs hA.out.limb n (by rw [HN1.out,HL.out];omega)]
    have HLen:=hid HR.out.len
    clear e hlt
    go_wp2_with fail
    (with_reducible refine (trim_row g _ _ zs wr HR.out.blk HR.out.limb HLen.out.symm (Nat.le_refl _) (by omega)).mono ?_)
    rintro e w4 ⟨rfl,rfl⟩
    go_wp2_with fail
    go_ret
    have hr:=res_of_blk (w0:=w) HR.out.blk HR.out.limb HG.out (by have:=HLen.out;omega)
    rw [HLen.out] at hr
    exact⟨_,rfl,HV.out▸hr,HO1.out.trans HR.out.only (fun k hk=> .inr (by simp at hk;rw [hk];exact HG.out))⟩
theorem val_drop_cons (xs:List Nat) (j:Nat) (h:j<xs.length):val (xs.drop j)=xs[j]?.getD 0+BB*val (xs.drop (j+1)):=by
 rw [List.drop_eq_getElem_cons h]
 simp [val,h]
structure SCar (w wr:World) (g y:Nat) (tl:List Value) (xs zs:List Nat) (k rest:Nat):Prop where
 blk:Blk wr g 133 (limbV zs++tl)
 limb:Limb zs
 len:zs.length=xs.length
 low: ∀j,j<k→zs[j]?.getD 0=xs[j]?.getD 0
 val_:val (xs.drop k)=y*val (zs.drop k)+rest
 lt:rest<y
 only:Only [g] w wr
theorem SCar.step {w wr:World} {g y:Nat} {tl:List Value} {xs zs:List Nat} {j rest:Nat} (h:SCar w wr g y tl xs zs (j+1) rest) (hj:j<xs.length) (hx:Limb xs) {wd:World} (ho:Only [] wr wd):
  SCar w (wd.setCell ⟨g,j,none⟩ (.int .u64 (((rest*BB+xs[j]?.getD 0)/y:Nat):Int))) g y tl xs (zs.set j ((rest*BB+xs[j]?.getD 0)/y)) j ((rest*BB+xs[j]?.getD 0)%y):=by
 have hy:0<y:=by have:=h.lt;omega
 have hq:(rest*BB+xs[j]?.getD 0)/y<BB:=by
  rw [Nat.div_lt_iff_lt_mul hy]
  have h1:=Nat.mul_le_mul_right BB (show rest+1≤y from h.lt)
  rw [Nat.succ_mul,Nat.mul_comm y] at h1
  have:=hx.get j
  omega
 have hlen:=h.len
 refine⟨?_,h.limb.set _ _ hq,by rw [List.length_set,hlen],fun i hi=>?_,?_,Nat.mod_lt _ hy,((h.only.trans ho (by simp)).trans ((Only.refl [g] wd).setCell (.inl (by simp)) _) (by simp))⟩
 ·rw [← limbV_set,←List.set_append_left _ _ (by rw [limbV_len];omega)]
  exact (h.blk.only ho (by simp)).set_ j _
 ·rw [set_get_ne (by omega)]
  exact h.low i (by omega)
 ·have h1:=Nat.div_add_mod (rest*BB+xs[j]?.getD 0) y
  rw [val_drop_cons xs j hj,val_drop_cons _ j (by rw [List.length_set];omega),set_get_eq (by omega),List.drop_set_of_lt (by omega),h.val_]
  rw [Nat.mul_add,Nat.mul_add,Nat.mul_left_comm BB y,Nat.mul_comm BB rest]
  omega
def ShortTl (g y:Nat) (tl:List Value) (xs:List Nat) (w:World) (e:Ending) (w':World):Prop:=
 ∃zs,e= .returned (.int .u64 ((val xs%y:Nat):Int))∧Blk w' g 133 (limbV zs++tl)∧Limb zs∧zs.length=xs.length∧val zs=val xs/y∧Only [g] w w'
set_option maxHeartbeats 1600000 in
theorem short_tl (g c n y:Nat) (tl:List Value) (xs:List Nat) (w:World) (hz:Hid (Blk w g 133 (limbV xs++tl))) (hzl:Hid (Limb xs)) (hn:Hid (xs.length=n)) (hlen:(n:Int)≤16000000) (hy:Hid (0<y)) (hyl:Hid (y<BB)):
  Calls Tryz.prog 128 #[.slice (some ⟨g,0,none⟩) n c,.int .u64 (y:Int)] w (ShortTl g y tl xs w):=by
 have HStart:Hid (SCar w w g y tl xs xs n 0):=⟨hz.out,hzl.out,rfl,fun _ _=>rfl,by rw [← hn.out,List.drop_length];simp [val],hy.out,Only.refl _ _⟩
 go_enter Tryz.func128,Tryz.ntmps128
 go_wp2_with fail
 go_loopw [5,6] (fun rv iv wr=> ∃(k rest:Nat) (zs:List Nat),k≤n∧rv= .int .u64 (rest:Int)∧iv= .int .i64 ((k:Int)-1)∧SCar w wr g y tl xs zs k rest) (fun _ iv _=>(intOf iv+1).toNat)
 case atStart=>exact⟨n,0,xs,Nat.le_refl _,rfl,rfl,HStart.out⟩
 case round=>
  obtain⟨k,rest,zs,hk,rfl,rfl,hR⟩:=hrel
  have HR:=hid hR
  clear hR HStart
  rcases k with _|j
  ·have HV:Hid (val xs=y*val zs+rest):=HR.out.val_
   have HLen:=hid HR.out.len
   have hd1:Hid (val xs/y=val zs):=by
    show _=_
    rw [HV.out,Nat.mul_add_div hy.out,Nat.div_eq_of_lt HR.out.lt,Nat.add_zero]
   have hd2:Hid (val xs%y=rest):=by
    show _=_
    rw [HV.out,Nat.mul_add_mod,Nat.mod_eq_of_lt HR.out.lt]
   have hi:((0:Nat):Int)-1= -1:=rfl
   rw [hi]
   clear hi
   go_wp2_with fail
   go_ret
   exact⟨zs,by rw [hd2.out];rfl,HR.out.blk,HR.out.limb,HLen.out,hd1.out.symm,HR.out.only⟩
  ·have hi:((j+1:Nat):Int)-1=(j:Int):=by omega
   rw [hi]
   clear hi
   have HJ:Hid (j<xs.length):=by have:=hn.out;show _<_;omega
   have c1:=HR.out.blk.cell j
   rw [List.getElem?_append_left (by rw [limbV_len,HR.out.len];exact HJ.out),limbV_get _ _ (by rw [HR.out.len];exact HJ.out),HR.out.low j (by omega)] at c1
   have hji:(j:Int)<(n:Int):=by omega
   have HX:=hid (hzl.out.get j)
   have HS:Hid (∀ wd,Only [] wr wd→_):=fun wd hd=>HR.out.step HJ.out hzl.out (wd:=wd) hd
   have HL:=hid HR.out.lt
   have HB:=hid HR.out.blk
   generalize xs[j]?.getD 0=x at*
   go_wp2_with fail
   refine (div64_any rest x y HL HX hyl _).mono ?_
   rintro e wd ⟨rfl,hod⟩
   have HOd:=hid hod
   clear hod
   have c2:=HOd.out.cell c1 (by simp)
   have f1:=(HB.out.only HOd.out (by simp)).frozen j
   have HS2:=hid (HS.out wd HOd.out)
   generalize (rest*BB+x)/y=q at*
   generalize (rest*BB+x)%y=r at*
   go_wp2_with fail
   go_roundw
   case rel=>exact⟨j,_,_,by omega,rfl,rfl,HS2.out⟩
   case measure=>simp [intOf]
def ShortPost (g y:Nat) (xs:List Nat) (w:World) (e:Ending) (w':World):Prop:=
 ∃zs,e= .returned (.int .u64 ((val xs%y:Nat):Int))∧Blk w' g 133 (limbV zs)∧Limb zs∧zs.length=xs.length∧val zs=val xs/y∧Only [g] w w'
theorem short_any (g c n y:Nat) (xs:List Nat) (w:World) (hz:Hid (Blk w g 133 (limbV xs))) (hzl:Hid (Limb xs)) (hn:Hid (xs.length=n)) (hlen:(n:Int)≤16000000) (hy:Hid (0<y)) (hyl:Hid (y<BB)):
  Calls Tryz.prog 128 #[.slice (some ⟨g,0,none⟩) n c,.int .u64 (y:Int)] w (ShortPost g y xs w):=by
 refine (short_tl g c n y [] xs w (by rw [List.append_nil];exact hz) hzl hn hlen hy hyl).mono ?_
 rintro e w' ⟨zs,h1,h2,h3⟩
 rw [List.append_nil] at h2
 exact⟨zs,h1,h2,h3⟩
end Go.Proofs.YtigpnopeacicpaaGreatDoor
