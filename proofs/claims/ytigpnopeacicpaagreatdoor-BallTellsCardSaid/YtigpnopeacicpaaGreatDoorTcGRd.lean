import Derived.Test.YtigpnopeacicpaaGreatDoorTcGRef
import Derived.Test.YtigpnopeacicpaaGreatDoorTcGDyA
import Derived.Test.YtigpnopeacicpaaGreatDoorTcRDiv
import Derived.Test.YtigpnopeacicpaaGreatDoorTcJ7
import Derived.Laws.Shifts
import Derived.Laws.Bits64b
import Derived.IntWalk
import Derived.Test.YtigpnopeacicpaaGreatDoorTcGRefS
namespace Go.Proofs.YtigpnopeacicpaaGreatDoor
open Go.Lib (hid)
set_option linter.unusedSimpArgs false
open Go.RowKit
def Cr (s:Bool) (k:Nat) (z:Int):Prop:=s=decide (z<0)∧k=(R.limbsOf z.natAbs).length
def RD (w:World) (v:Value) (x:Dy):Prop:= ∃s A k c,v= .agg #[.bool s,.slice A k c,.int .i64 x.e]∧Cr s k x.z∧RV w (.slice A k c) x.z.natAbs
theorem RD.only {w w':World} {v:Value} {x:Dy} (h:RD w v x) (ho:Only [] w w'):RD w' v x:=by
 obtain⟨s,A,k,c,h1,h2,h3⟩:=h
 exact⟨s,A,k,c,h1,h2,h3.only ho⟩
def isRD (x:Dy):VP:=fun u w=>RD w u x
theorem isRD.lasts (x:Dy):Lasts (isRD x):=fun _ _ _ h ho=>h.only ho
theorem all_isRD {x:Dy} {w:World} {K:Value→Prop} (h: ∀s A k c,Hid (RV w (.slice A k c) x.z.natAbs)→Hid (Cr s k x.z)→K (.agg #[.bool s,.slice A k c,.int .i64 x.e])): ∀v,isRD x v w→K v:=fun v ⟨s,A,k,c,h1,h2,h3⟩=>by
 subst h1
 exact h s A k c h3 h2
theorem RD.of {x:Dy} {w:World} {s:Bool} {A:Option Addr} {k c:Nat} (h:Hid (RV w (.slice A k c) x.z.natAbs)) (hc:Hid (Cr s k x.z)):Hid (RD w (.agg #[.bool s,.slice A k c,.int .i64 x.e]) x):=⟨s,A,k,c,rfl,hc.out,h.out⟩
def RDP (x:Dy) (w:World) (e:Ending) (w':World):Prop:= ∃s A k c,e= .returned (.agg #[.bool s,.slice A k c,.int .i64 x.e])∧Cr s k x.z∧RV w' (.slice A k c) x.z.natAbs∧Only [] w w'
theorem grow_rd {f:FuncId} {args:Array Value} {w:World} {x:Dy} (h:Calls Tryz.prog f args w (RDP x w)):
  Calls Tryz.prog f args w fun e w''=> ∃u,e= .returned u∧Only [] w w''∧isRD x u w'':=
 h.mono fun _ _ ⟨s,A,k,c,he,hs,hv,ho2⟩=>⟨_,he,ho2,s,A,k,c,rfl,hs,hv⟩
def isRN (n:Nat):VP:=fun u w=> ∃A k c,u= .slice A k c∧RV w u n
theorem isRN.lasts (n:Nat):Lasts (isRN n):=fun _ _ _ ⟨A,k,c,h1,h3⟩ ho=>⟨A,k,c,h1,h3.only ho⟩
theorem all_isRN {n:Nat} {w:World} {K:Value→Prop} (h: ∀A k c,Hid (RV w (.slice A k c) n)→K (.slice A k c)): ∀v,isRN n v w→K v:=fun v ⟨A,k,c,h1,h3⟩=>by
 subst h1
 exact h A k c h3
theorem grow_rn {f:FuncId} {args:Array Value} {w:World} {n:Nat} (h:Calls Tryz.prog f args w (RPost n w)):
  Calls Tryz.prog f args w fun e w''=> ∃u,e= .returned u∧Only [] w w''∧isRN n u w'':=
 h.mono fun _ _ ⟨A,k,c,he,hv,_,ho2⟩=>⟨_,he,ho2,A,k,c,rfl,hv⟩
theorem RV.len {w:World} {A:Option Addr} {k c n:Nat} (h:RV w (.slice A k c) n):k=(R.limbsOf n).length:=by
 obtain⟨A',c',e,_,_⟩:=h
 injection e
theorem RV.farS {w w':World} {S:List Nat} {A:Option Addr} {k c n:Nat} (h:RV w (.slice A k c) n) (ho:Only S w w') (hf: ∀g∈S,Far g A k):RV w' (.slice A k c) n:=by
 obtain⟨A',c',e,h2,h3⟩:=h
 injection e with e1 e2 e3
 subst e1 e3
 refine⟨A,c,by rw [e2],fun j hj=>?_,h3⟩
 obtain⟨b,o,rfl,hc⟩:=h2 j hj
 exact⟨b,o,rfl,ho.cell hc (fun hm=>hf b hm (by omega) ⟨b,o,none⟩ rfl rfl)⟩
theorem RV.far_blk {w:World} {A:Option Addr} {k c g n:Nat} {t:TypeId} {cs:List Value} (h:RV w (.slice A k c) n) (hb:Blk w g t cs) (hn:NoLimb cs):Far g A k:=fun hk p hp hc=>by
 obtain⟨A',c',e,h2,h3⟩:=h
 injection e with e1 e2 e3
 subst e1
 obtain⟨b,o,e4,hcell⟩:=h2 0 (by omega)
 rw [hp] at e4
 injection e4 with e4
 subst e4
 have hc2:b=g:=hc
 subst hc2
 rw [hb.cell] at hcell
 exact hn _ _ hcell
theorem rdfin {x:Dy} {w w1 w2:World} {b:Nat} {t:TypeId} {cs:List Value} {s:Bool} {A:Option Addr} {k c:Nat} (hv:Hid (RV w1 (.slice A k c) x.z.natAbs)) (hc:Hid (Cr s k x.z)) (hb:w.heap.size≤b) (hB:Blk w1 b t cs) (hn:NoLimb cs) (ho:Only [] w w1) (ho2:Only [b] w1 w2):
  RDP x w (.returned (.agg #[.bool s,.slice A k c,.int .i64 x.e])) w2:=
 ⟨s,A,k,c,rfl,hc.out,hv.out.farS ho2 (fun g hg=>by rw [List.mem_singleton] at hg;subst hg;exact hv.out.far_blk hB hn),ho.trans ho2 (fun k hk=> .inr (by simp at hk;omega))⟩
theorem few_bits {n:Nat} (h:Few n):(bitsN n:Int)≤64000000:=by
 have h1:n<2^(64*MX):=by rw [← bb_two_pow];exact h
 have:=bitsN_le h1
 rw [MX_val] at this
 omega
theorem sg_lt {s:Bool} {n:Nat} (h:n≠0):decide (sg s n<0)=s:=by
 cases s
 ·rw [sg_false];exact decide_eq_false (by omega)
 ·rw [sg_true];exact decide_eq_true (by omega)
theorem nrm_sg {s:Bool} {n:Nat} (e:Int) (h:n≠0):nrm (sg s n) e=⟨sg s (n/2^lowN n),e+(lowN n:Int)⟩∧s=decide (sg s (n/2^lowN n)<0):=by
 have h1:sg s n≠0:=by cases s<;>simp only [sg_true,sg_false]<;>omega
 have hd:decide (sg s n<0)=s:=sg_lt h
 obtain⟨m,h2,h3,-⟩:=nrm_split h1
 rw [sg_abs] at h2 h3
 refine⟨by rw [nrm_nz e h1,hd,sg_abs],?_⟩
 rw [h3,sg_lt (by omega)]
theorem rlow_at {xs:List Nat} {i k:Nat} (hi:i<xs.length) (hz: ∀j,j<i→xs[j]?.getD 0=0) (hk:k<32) (h0:xs[i]?.getD 0%2^k=0) (h1:xs[i]?.getD 0/2^k%2=1):lowN (R.val xs)=32*i+k:=by
 have e1:=R.val_take_drop xs i (by omega)
 have e2:R.val (xs.take i)=0:=by
  have:xs.take i=List.replicate i 0:=by
   apply List.ext_getElem
   ·simp;omega
   ·intro j h1 h2
    simp only [List.getElem_take,List.getElem_replicate]
    simp only [List.length_take,List.length_replicate] at h1 h2
    have:=hz j h2
    rw [List.getElem?_eq_getElem (by omega)] at this
    simpa using this
  rw [this,R.val_zeros]
 have e3:=R.val_drop_cons xs i hi
 generalize xs[i]?.getD 0=x at*
 rw [e2,Nat.zero_add,e3] at e1
 have hp:0<2^k:=Nat.pow_pos (by omega)
 have e4:=Nat.div_add_mod x (2^k)
 rw [h0,Nat.add_zero] at e4
 obtain⟨t,ht⟩: ∃t,x/2^k=2*t+1:=⟨x/2^k/2,by omega⟩
 rw [ht] at e4
 have e5:R.BB=2^k*(2*2^(31-k)):=by
  rw [R.BB_pow,Nat.mul_comm 2,←Nat.pow_succ,←Nat.pow_add]
  congr 1
  omega
 have e6:R.val xs=2^(32*i+k)*(2*(t+2^(31-k)*R.val (xs.drop (i+1)))+1):=by
  rw [e1,←e4]
  generalize R.val (xs.drop (i+1))=v at*
  have e7:R.BB^i=2^(32*i):=by rw [R.BB_pow,Nat.pow_mul]
  rw [e7,Nat.pow_add,Nat.mul_assoc]
  congr 1
  rw [e5]
  generalize 2^(31-k)=u at*
  rw [Nat.mul_assoc,←Nat.mul_add,Nat.mul_assoc 2 u v]
  congr 1
  omega
 rw [e6,lowN_is]
theorem and_one_u64 (y:Nat) (h:y<18446744073709551616):bits .and .u64 (y:Int) 1=((y%2:Nat):Int):=by
 have:=bits_and_u64_nat y 1 h (by omega)
 rw [Nat.and_one_is_mod] at this
 exact this
set_option maxHeartbeats 1600000 in
set_option maxRecDepth 100000 in
theorem rlow_v {w:World} {a:Value} {m:Nat} (ha:Hid (RV w a m)) (hf:Hid (Few m)):Calls Tryz.prog 101 #[a] w fun e w'=>e= .returned (.int .i64 (lowN m:Int))∧w=w':=by
 have hl:=hf.out.digits
 obtain⟨A,c,rfl,p1,p2⟩:=ha.out
 have HX:=hid (R.limb_limbsOf m)
 have HV:=hid (R.val_limbsOf m)
 have HA:=hid p1
 generalize R.limbsOf m=xs at*
 obtain⟨n,hn⟩: ∃n,xs.length=n:=⟨_,rfl⟩
 have HN:=hid hn
 rw [hn] at hl ⊢
 clear p1 p2 ha hn
 go_enter Tryz.func101,Tryz.ntmps101
 go_wp2_with fail
 go_loop [3,4] (fun nv iv=> ∃i:Nat,i≤n∧nv= .int .i64 (32*(i:Int))∧iv= .int .i64 (i:Int)∧ ∀j,j<i→xs[j]?.getD 0=0) (fun _ iv=>n-(intOf iv).toNat)
 case atStart=>exact⟨0,Nat.zero_le _,rfl,rfl,fun j h=>by omega⟩
 case round=>
  obtain⟨i,hi,rfl,rfl,hz⟩:=hrel
  have HZ:=hid hz
  clear hz
  by_cases hlt:i<n
  ·have hlti:(i:Int)<(n:Int):=by omega
   have HLt:=hid hlt
   obtain⟨b,o,rfl,hc⟩:=HA.out i (by have:=HN.out;omega)
   have HXi:=hid (HX.out.get i)
   obtain⟨x,hx⟩: ∃x,xs[i]?.getD 0=x:=⟨_,rfl⟩
   have HXx:=hid hx
   rw [hx] at hc HXi
   clear hx hlt
   go_wp2_with fail
   go_loopw [3,5] (fun nv kv wr=> ∃k:Nat,k≤32∧nv= .int .i64 (32*(i:Int)+(k:Int))∧kv= .int .i64 (k:Int)∧x%2^k=0∧wr=w) (fun _ kv _=>32-(intOf kv).toNat)
   case atStart=>exact⟨0,by omega,by simp,rfl,by rw [Nat.pow_zero];exact Nat.mod_one _,rfl⟩
   case round=>
    obtain⟨k,hk,rfl,rfl,hm,rfl⟩:=hrel
    have HM:=hid hm
    clear hm
    by_cases hk32:k<32
    ·have hki:(k:Int)<32:=by omega
     have hk64:(k:Int)≤64:=by omega
     obtain⟨y,hy⟩: ∃y,x/2^k=y:=⟨_,rfl⟩
     have hd1:(x:Int)/2^k=(y:Int):=by rw [← hy];simp
     have hyl:y<4294967296:=by rw [← hy];exact Nat.lt_of_le_of_lt (Nat.div_le_self _ _) (by have:=HXi.out;rwa [R.BB_val] at this)
     have hd2:IntKind.u64.wrap (y:Int)=(y:Int):=u64_wrap (by rw [BB_val];omega)
     have hand:=and_one_u64 y (by omega)
     have HKl:=hid hk32
     have HY:=hid hy
     clear hk32 hy hyl
     rcases Nat.mod_two_eq_zero_or_one y with h2|h2
     ·rw [h2] at hand
      have HN2:Hid (x%2^(k+1)=0):=by
       have e1:=Nat.div_add_mod x (2^k)
       rw [HM.out,HY.out,Nat.add_zero] at e1
       show _=_
       rw [← e1,Nat.pow_succ,show y=2*(y/2) by omega,←Nat.mul_assoc]
       exact Nat.mul_mod_right _ _
      clear h2
      simp only [Int.natCast_zero] at hand
      go_wp2_with fail
      go_roundw
      case rel=>exact⟨k+1,by have:=HKl.out;omega,by go_num,by go_num,HN2.out,trivial⟩
      case measure=>have:=HKl.out;simp [intOf];omega
     ·rw [h2] at hand
      have HLow:Hid (lowN m=32*i+k):=by
       show _=_
       rw [← HV.out]
       exact rlow_at (by have:=HN.out;have:=HLt.out;omega) HZ.out HKl.out (by rw [HXx.out];exact HM.out) (by rw [HXx.out,HY.out];exact h2)
      clear h2
      simp only [Int.natCast_one] at hand
      go_wp2_with fail
      go_ret
      exact⟨by rw [HLow.out];simp,rfl⟩
    ·obtain rfl:k=32:=by omega
     have HZ2:Hid (∀ j,j<i+1→xs[j]?.getD 0=0):=fun j hj=>by
      rcases Nat.lt_or_ge j i with h|h
      ·exact HZ.out j h
      ·obtain rfl:j=i:=by omega
       have h1:=HM.out
       have h2:=HXi.out
       rw [R.BB_pow] at h2
       rw [HXx.out]
       rwa [Nat.mod_eq_of_lt h2] at h1
     clear hk32
     go_wp2_with fail
     go_round
     case rel=>exact⟨i+1,by have:=HLt.out;omega,congrArg (Value.int .i64) (by omega),by go_num,HZ2.out⟩
     case measure=>have:=HLt.out;simp [intOf];omega
  ·obtain rfl:i=n:=by omega
   have hM0:m=0:=by
    have h1:xs=List.replicate i 0:=by
     apply List.ext_getElem
     ·rw [List.length_replicate];exact HN.out
     ·intro j h1 h2
      have h3:=HZ.out j (by rw [← HN.out];exact h1)
      rw [List.getElem?_eq_getElem h1] at h3
      simpa using h3
    rw [← HV.out,h1,R.val_zeros]
   have hnl: ¬(i:Int)<(i:Int):=by omega
   have HLow:Hid (lowN m=0):=by rw [hM0];exact lowN_zero
   clear hlt hM0
   go_wp2_with fail
   go_ret
   exact⟨by rw [HLow.out];rfl,rfl⟩
set_option maxHeartbeats 1600000 in
set_option maxRecDepth 100000 in
theorem rmake_d {w:World} {a:Value} {n:Nat} {r:Dy} (s:Bool) (e:Int) (ha:Hid (RV w a n)) (hf:Hid (Few n)) (h1: -4000000000000000000≤e) (h2:e≤4000000000000000000) (hr:nrm (sg s n) e=r):Calls Tryz.prog 57 #[.bool s,a,.int .i64 e] w (RDP r w):=by
 have hb:=few_bits hf.out
 have hl:=ha.out
 obtain⟨A,c,rfl,-,-⟩:=ha.out
 have hk:=(KB.start w).new 38 [.bool false,.slice none 0 0,.int .i64 0]
 have HM:=hid (ha.out.only hk.only)
 have HK:=hid hk
 clear ha hk hl
 by_cases hn:n=0
 ·subst hn
  have hlen:(R.limbsOf 0).length=0:=by rw [R.limbsOf_zero];rfl
  rw [sg_zero,nrm_zero] at hr
  subst hr
  rw [hlen] at HM ⊢
  obtain⟨c0,c1,c2,f0,f1,f2⟩:=HK.out.c3 0 rfl
  have HB:=hid (HK.out.blk 0 rfl)
  have HO:=hid HK.out.only
  clear HK hlen
  go_enter Tryz.func57,Tryz.ntmps57
  go_wp2_with fail
  refine bodyPost_ret (v:= .agg #[.bool false,.slice none 0 0,.int .i64 (0)]) (by simp [results,Tryz.results57,go_sem,c0,c1,c2]) rfl ?_
  exact rdfin (x:=⟨0,0⟩) (RV.nil _) ⟨by decide,by show 0=(R.limbsOf 0).length;rw [R.limbsOf_zero];rfl⟩ (Nat.le_refl _) HB.out (noLimb3 _ _ _ _ _) HO.out (Only.refl _ _)
 ·have hk0:(((R.limbsOf n).length:Int) == 0)=false:=by
   rw [beq_eq_false_iff_ne]
   have:(R.limbsOf n).length≠0:=fun h=>hn (R.limbsOf_len0.1 h)
   omega
  obtain⟨g1,g2⟩:=nrm_sg (s:=s) e hn
  rw [g1] at hr
  obtain⟨l,hle⟩: ∃l,lowN n=l:=⟨_,rfl⟩
  have hlb:=lowN_le_bits n
  have HLo:=hid hle
  rw [hle] at g2 hr hlb
  have hl9:(l:Int)≤90000000:=by omega
  have hsum:IntKind.i64.wrap (e+(l:Int))=e+(l:Int):=wrap_i64 (by omega)
  subst hr
  have HS:=hid g2
  clear hle hb g1 g2 hlb hn
  generalize (R.limbsOf n).length=k at*
  go_enter Tryz.func57,Tryz.ntmps57
  go_wp2_with fail
  (with_reducible refine (rlow_v HM hf).mono ?_)
  rintro e1 w2 ⟨rfl,rfl⟩
  rw [HLo.out]
  go_wp2_with fail
  (with_reducible refine (rshr_v l hl9 HM hf).mono ?_)
  rintro e2 w3 ⟨A1,k1,c1,rfl,hv,-,ho⟩
  have HV:=hid hv
  have hk:=HK.out.step ho
  obtain⟨q0,q1,q2,f0,f1,f2⟩:=hk.c3 0 rfl
  have HB:=hid (hk.blk 0 rfl)
  have HO:=hid hk.only
  clear hv hk HK ho
  go_wp2_with fail
  refine bodyPost_ret (v:= .agg #[.bool s,.slice A1 k1 c1,.int .i64 (e+(l:Int))]) (by simp [results,Tryz.results57,go_sem,q0,q1,q2]) rfl ?_
  exact rdfin (x:=⟨sg s (n/2^l),e+(l:Int)⟩) (by show Hid (RV _ _ (sg s (n/2^l)).natAbs);rw [sg_abs];exact HV) ⟨HS.out,by show _=(R.limbsOf (sg s (n/2^l)).natAbs).length;rw [sg_abs];exact HV.out.len⟩ (Nat.le_refl _) HB.out (noLimb3 _ _ _ _ _) HO.out (only_set3 _ _ _ _ _)
theorem RD.sgn {s:Bool} {k:Nat} {z:Int} (h:Cr s k z):sg s z.natAbs=z:=by rw [h.1,sg_self]
set_option maxHeartbeats 800000 in
theorem rsign_d {w:World} {a:Value} {x:Dy} (p:Int) (ha:Hid (RD w a x)) (hp:x.z.sign=p):Calls Tryz.prog 50 #[a] w fun e w'=>e= .returned (.int .i64 p)∧Only [] w w':=by
 obtain⟨s,A,k,c,rfl,⟨h1,h2⟩,-⟩:=ha.out
 have hk:=(KB.start w).new 38 [.bool s,.slice A k c,.int .i64 x.e]
 obtain⟨q0,q1,q2,-,-,-⟩:=hk.c3 0 rfl
 have HO:=hid hk.only
 have hz:=sign_of x.z
 have hl0:k=0↔x.z=0:=by rw [h2,R.limbsOf_len0];omega
 clear ha hk h2
 rcases hz with⟨e1,e2⟩|⟨e1,e2⟩|⟨e1,e2⟩<;>rw [e1] at hp<;>subst hp
 ·have hk0:((k:Int) == 0)=false:=by rw [beq_eq_false_iff_ne];omega
  obtain rfl:s=true:=by rw [h1];simpa using e2
  clear h1 e1 e2 hl0
  go_enter Tryz.func50,Tryz.ntmps50
  go_wp2_with fail
  go_ret
  exact⟨rfl,HO.out⟩
 ·obtain rfl:k=0:=hl0.2 e2
  clear h1 e1 e2 hl0
  go_enter Tryz.func50,Tryz.ntmps50
  go_wp2_with fail
  go_ret
  exact⟨rfl,HO.out⟩
 ·have hk0:((k:Int) == 0)=false:=by rw [beq_eq_false_iff_ne];omega
  obtain rfl:s=false:=by rw [h1];simp;omega
  clear h1 e1 e2 hl0
  go_enter Tryz.func50,Tryz.ntmps50
  go_wp2_with fail
  go_ret
  exact⟨rfl,HO.out⟩
theorem rlim_i64 {N:Nat} {x:Dy} (h:Bnd N x) (hN:N≤8000000): -8000000≤x.e∧x.e≤8000000:=by have:=h.lo;have:=h.hi;omega
theorem rd_few {N:Nat} {x:Dy} (h:Bnd N x) (hN:N≤8000000):Few x.z.natAbs:=few_two_pow h.z (by omega)
set_option maxHeartbeats 800000 in
theorem rnot_d {w:World} {a:Value} {x:Dy} {N:Nat} (ha:Hid (RD w a x)) (hb:Hid (Bnd N x)) (hN:N≤8000000):Calls Tryz.prog 28 #[a] w (RDP (dNot x) w):=by
 have HF:=hid (rd_few hb.out hN)
 have he:=rlim_i64 hb.out hN
 obtain⟨s,A,k,c,rfl,hc,hv⟩:=ha.out
 have hk:=((KB.start w).new 38 [.bool s,.slice A k c,.int .i64 x.e]).new 38 [.bool false,.slice none 0 0,.int .i64 0]
 simp only [World.size_alloc] at hk
 obtain⟨i0,i1,i2,-,-,-⟩:=hk.c3 1 rfl
 have HV:=hid (hv.only hk.only)
 have HS:Hid (nrm (sg (!s) x.z.natAbs) x.e=dNot x):=by
  show _=nrm (-x.z) x.e
  rw [sg_not,RD.sgn hc]
 have HK:=hid hk
 clear hk hv hc ha
 generalize x.z.natAbs=n at*
 go_enter Tryz.func28,Tryz.ntmps28
 go_wp2_with fail
 (with_reducible refine (rmake_d (!s) x.e HV HF (by omega) (by omega) HS.out).mono ?_)
 rintro e1 w2 ⟨s1,A1,k1,c1,rfl,hc,hv,ho⟩
 have hk:=HK.out.step ho
 obtain⟨q0,q1,q2,f0,f1,f2⟩:=hk.c3 0 rfl
 have HB:=hid (hk.blk 0 rfl)
 have HO:=hid hk.only
 have HV1:=hid hv
 have HC1:=hid hc
 clear hk ho hv hc HK i0 i1 i2 HS
 generalize dNot x=r at*
 go_wp2_with fail
 refine bodyPost_ret (v:= .agg #[.bool s1,.slice A1 k1 c1,.int .i64 (r.e)]) (by simp [results,Tryz.results28,go_sem,q0,q1,q2]) rfl ?_
 exact rdfin HV1 HC1 (by omega) HB.out (noLimb3 _ _ _ _ _) HO.out (only_set3 _ _ _ _ _)
theorem rshlV_v {w:World} {a:Value} {m:Nat} (n r:Nat) (hn:(n:Int)≤90000000) (ha:Hid (RV w a m)) (hf:Hid (Few m)) (hr:m*2^n=r):Calls Tryz.prog 91 #[a,.int .i64 (n:Int)] w (RPost r w):=hr▸rshl_v n hn ha hf
theorem rsg_pow {z:Int} {s:Bool} (k:Nat) (hs:sg s z.natAbs=z):sg s (z.natAbs*2^k)=z*2^k:=by
 generalize z.natAbs=n at*
 subst hs
 cases s
 ·rw [sg_false,sg_false];push_cast;rfl
 ·rw [sg_true,sg_true];push_cast;rw [Int.neg_mul]
theorem Can.nrm_self {x:Dy} (h:Can x):nrm x.z x.e=x:=Can.ext (nrm_can _ _) h (nrm_q _ _)
set_option maxHeartbeats 1600000 in
set_option maxRecDepth 100000 in
theorem rmul_d {w:World} {a b:Value} {x y:Dy} {N:Nat} (ha:Hid (RD w a x)) (hb:Hid (RD w b y)) (bx:Hid (Bnd N x)) (by_:Hid (Bnd N y)) (hN:N≤2000000):Calls Tryz.prog 65 #[a,b] w (RDP (dMul x y) w):=by
 have HFx:=hid (rd_few bx.out (by omega))
 have HFy:=hid (rd_few by_.out (by omega))
 have hex:=rlim_i64 bx.out (by omega)
 have hey:=rlim_i64 by_.out (by omega)
 have HFm:Hid (Few (x.z.natAbs*y.z.natAbs)):=few_two_pow (N:=N+N) (by rw [Nat.pow_add];exact Nat.lt_of_lt_of_le (Nat.mul_lt_mul_of_lt_of_le bx.out.z (Nat.le_of_lt by_.out.z) (Nat.pow_pos (by omega))) (Nat.le_refl _)) (by omega)
 have hsum:IntKind.i64.wrap (x.e+y.e)=x.e+y.e:=wrap_i64 (by omega)
 obtain⟨s,A,k,c,rfl,hcx,hvx⟩:=ha.out
 obtain⟨t,B,m,d,rfl,hcy,hvy⟩:=hb.out
 have hk:=(((KB.start w).new 38 [.bool s,.slice A k c,.int .i64 x.e]).new 38 [.bool t,.slice B m d,.int .i64 y.e]).new 38 [.bool false,.slice none 0 0,.int .i64 0]
 simp only [World.size_alloc] at hk
 have HVx:=hid (hvx.only hk.only)
 have HVy:=hid (hvy.only hk.only)
 have HK:=hid hk
 have HS:Hid (nrm (sg (!(s == t)) (x.z.natAbs*y.z.natAbs)) (x.e+y.e)=dMul x y):=by
  show nrm (sg (s != t) (x.z.natAbs*y.z.natAbs)) (x.e+y.e)=nrm (x.z*y.z) (x.e+y.e)
  rw [sg_mul,RD.sgn hcx,RD.sgn hcy]
 clear hk hvx hvy hcx hcy ha hb
 go_enter Tryz.func65,Tryz.ntmps65
 go_upto_region 1 with fail
 apply wp_region_typed_tail2 16 (by kernel_rfl) [isV _,isV _,isV _,isV _,isV _,isV _,isV _,isV _,isV _,isRN (x.z.natAbs*y.z.natAbs),isV _,isV _,isV _,isV _,isV _,isRD (dMul x y)] [[],[0],[],[2],[1,3],[],[5],[],[7],[6,8],[],[10],[],[12],[11,13],[4,9,14]] (by kernel_rfl) (by kernel_rfl) (by kernel_rfl)
 case ho=>
  simp only [List.take_succ_cons,List.take_zero]
  iterate 16
   refine owes2_cons (fun wx hox=>?_) ?_
   ·skip
    have hk:=HK.out.step hox
    obtain⟨i0,i1,i2,-,-,-⟩:=hk.c3 2 rfl
    obtain⟨j0,j1,j2,-,-,-⟩:=hk.c3 1 rfl
    clear hk
    refine withs_plain rfl ?_
    simp only [withs,List.getElem?_cons_zero,List.getElem?_cons_succ,Option.bind,Option.getD]
    with_reducible repeat first|refine all_isV ?_|(refine all_isRD ?_;intro sx Ax kx cx hvx hwx)|(refine all_isRN ?_;intro Ax kx cx hvx)
    go_simp
    first
    |exact⟨Only.refl _ _,isV.self _ _⟩
    |with_reducible exact grow_rn (rmul_v (hid (HVx.out.only hox)) (hid (HVy.out.only hox)) HFx HFy)
    |with_reducible exact grow_rd (rmake_d (!(s == t)) (x.e+y.e) (by assumption) HFm (by omega) (by omega) HS.out)
  exact owes2_nil
 case he=>
  simp only [List.drop_succ_cons,List.drop_zero]
  intro wx hox
  refine withs_of (by simp only [List.length,List.range,List.range.loop];exact rfl) ?_
  simp only [withs,List.getElem?_cons_zero,List.getElem?_cons_succ,Option.bind,Option.getD]
  with_reducible refine all_isV ?_
  with_reducible refine all_isV ?_
  with_reducible refine all_isV ?_
  with_reducible refine all_isV ?_
  with_reducible refine all_isV ?_
  with_reducible refine all_isV ?_
  with_reducible refine all_isV ?_
  with_reducible refine all_isV ?_
  with_reducible refine all_isV ?_
  with_reducible refine all_isRN ?_
  intro A9 k9 c9 hv9
  with_reducible refine all_isV ?_
  with_reducible refine all_isV ?_
  with_reducible refine all_isV ?_
  with_reducible refine all_isV ?_
  with_reducible refine all_isV ?_
  with_reducible refine all_isRD ?_
  intro s15 A15 k15 c15 hv15 hw15
  go_simp
  have hk:=HK.out.step hox
  obtain⟨q0,q1,q2,f0,f1,f2⟩:=hk.c3 0 rfl
  have HB:=hid (hk.blk 0 rfl)
  have HO:=hid hk.only
  clear hk hox HK
  generalize dMul x y=r at*
  go_wp2_with fail
  refine bodyPost_ret (v:= .agg #[.bool s15,.slice A15 k15 c15,.int .i64 (r.e)]) (by simp [results,Tryz.results65,go_sem,q0,q1,q2]) rfl ?_
  exact rdfin hv15 hw15 (by omega) HB.out (noLimb3 _ _ _ _ _) HO.out (only_set3 _ _ _ _ _)
 case hl=>
  repeat (refine List.forall_mem_cons.2 ⟨?_,?_⟩;first|exact isV.lasts _|exact isRD.lasts _|exact isRN.lasts _)
  exact fun _ h=>(by cases h)
set_option maxHeartbeats 1600000 in
set_option maxRecDepth 100000 in
theorem radd_d {w:World} {a b:Value} {x y:Dy} {N:Nat} (ha:Hid (RD w a x)) (hb:Hid (RD w b y)) (cx:Hid (Can x)) (cy:Hid (Can y)) (bx:Hid (Bnd N x)) (by_:Hid (Bnd N y)) (hN:N≤2000000):Calls Tryz.prog 62 #[a,b] w (RDP (dAdd x y) w):=by
 have HFx:=hid (rd_few bx.out (by omega))
 have HFy:=hid (rd_few by_.out (by omega))
 have hex:=rlim_i64 bx.out (by omega)
 have hey:=rlim_i64 by_.out (by omega)
 obtain⟨s,A,k,c,rfl,hcx,hvx⟩:=ha.out
 obtain⟨t,B,m,d,rfl,hcy,hvy⟩:=hb.out
 have hk:=(((KB.start w).new 38 [.bool s,.slice A k c,.int .i64 x.e]).new 38 [.bool t,.slice B m d,.int .i64 y.e]).new 38 [.bool false,.slice none 0 0,.int .i64 0]
 simp only [World.size_alloc] at hk
 have HVx:=hid (hvx.only hk.only)
 have HVy:=hid (hvy.only hk.only)
 have HK:=hid hk
 have HCx:=hid hcx
 have HCy:=hid hcy
 have hqx:=rsign_d x.z.sign (RD.of HVx HCx) rfl
 clear hk hvx hvy hcx hcy ha hb
 by_cases hx0:x.z=0
 ·have hp:x.z.sign=0:=by rw [hx0];rfl
  rw [hp] at hqx
  have HSg:=hid hqx
  rw [dAdd_x0 hx0,cy.out.nrm_self]
  clear hqx hp hx0
  obtain⟨i0,i1,i2,-,-,-⟩:=HK.out.c3 2 rfl
  go_enter Tryz.func62,Tryz.ntmps62
  go_wp2_with fail
  (with_reducible refine HSg.out.mono ?_)
  rintro e w2 ⟨rfl,ho⟩
  replace HK:=hid (HK.out.step ho)
  replace HVy:=hid (HVy.out.only ho)
  clear ho HSg i0 i1 i2
  obtain⟨j0,j1,j2,-,-,-⟩:=HK.out.c3 1 rfl
  have hk:=HK.out
  obtain⟨q0,q1,q2,f0,f1,f2⟩:=hk.c3 0 rfl
  have HB:=hid (hk.blk 0 rfl)
  have HO:=hid hk.only
  clear hk HK
  go_wp2_with fail
  refine bodyPost_ret (v:= .agg #[.bool t,.slice B m d,.int .i64 (y.e)]) (by simp [results,Tryz.results62,go_sem,q0,q1,q2]) rfl ?_
  exact rdfin HVy HCy (by omega) HB.out (noLimb3 _ _ _ _ _) HO.out (only_set3 _ _ _ _ _)
 ·have hp:(x.z.sign == 0)=false:=by rw [beq_eq_false_iff_ne];intro hc;exact hx0 (Int.sign_eq_zero_iff_zero.1 hc)
  obtain⟨p,hpe⟩: ∃p,x.z.sign=p:=⟨_,rfl⟩
  rw [hpe] at hqx hp
  have HSg:=hid hqx
  obtain⟨i0,i1,i2,-,-,-⟩:=HK.out.c3 2 rfl
  have hqy:=rsign_d y.z.sign (RD.of HVy HCy) rfl
  clear hqx hpe
  by_cases hy0:y.z=0
  ·have HQ:Hid (y.z.sign=0):=by show _=_;rw [hy0];rfl
   rw [dAdd_y0 hx0 hy0,cx.out.nrm_self]
   clear hx0 hy0 hqy
   go_enter Tryz.func62,Tryz.ntmps62
   go_wp2_with fail
   (with_reducible refine HSg.out.mono ?_)
   rintro e w2 ⟨rfl,ho⟩
   replace HK:=hid (HK.out.step ho)
   replace HVx:=hid (HVx.out.only ho)
   replace HVy:=hid (HVy.out.only ho)
   clear ho HSg i0 i1 i2
   obtain⟨j0,j1,j2,-,-,-⟩:=HK.out.c3 1 rfl
   go_wp2_with fail
   (with_reducible refine (rsign_d 0 (RD.of HVy HCy) HQ.out).mono ?_)
   rintro e w3 ⟨rfl,ho⟩
   replace HK:=hid (HK.out.step ho)
   replace HVx:=hid (HVx.out.only ho)
   replace HVy:=hid (HVy.out.only ho)
   clear ho j0 j1 j2
   obtain⟨i0,i1,i2,-,-,-⟩:=HK.out.c3 2 rfl
   have hk:=HK.out
   obtain⟨q0,q1,q2,f0,f1,f2⟩:=hk.c3 0 rfl
   have HB:=hid (hk.blk 0 rfl)
   have HO:=hid hk.only
   clear hk HK
   go_wp2_with fail
   refine bodyPost_ret (v:= .agg #[.bool s,.slice A k c,.int .i64 (x.e)]) (by simp [results,Tryz.results62,go_sem,q0,q1,q2]) rfl ?_
   exact rdfin HVx HCx (by omega) HB.out (noLimb3 _ _ _ _ _) HO.out (only_set3 _ _ _ _ _)
  ·have hq0:(y.z.sign == 0)=false:=by rw [beq_eq_false_iff_ne];intro hc;exact hy0 (Int.sign_eq_zero_iff_zero.1 hc)
   obtain⟨q,hqe⟩: ∃q,y.z.sign=q:=⟨_,rfl⟩
   have HQ:=hid hqe
   rw [hqe] at hq0
   obtain⟨m0,hm0⟩: ∃m0,min x.e y.e=m0:=⟨_,rfl⟩
   obtain⟨nx,hnx⟩: ∃nx:Nat,(x.e-m0).toNat=nx:=⟨_,rfl⟩
   obtain⟨ny,hny⟩: ∃ny:Nat,(y.e-m0).toNat=ny:=⟨_,rfl⟩
   have hwx:IntKind.i64.wrap (x.e-m0)=(nx:Int):=by rw [show x.e-m0=(nx:Int) by omega];exact wrap_i64 (by omega)
   have hwy:IntKind.i64.wrap (y.e-m0)=(ny:Int):=by rw [show y.e-m0=(ny:Int) by omega];exact wrap_i64 (by omega)
   have hnx9:(nx:Int)≤90000000:=by omega
   have hny9:(ny:Int)≤90000000:=by omega
   have hm1: -8000000≤m0:=by omega
   have hm2:m0≤8000000:=by omega
   have hD:=dAdd_al hx0 hy0
   have hXb:=bx.out.alX by_.out
   have hYb:=bx.out.alY by_.out
   have eX:alX x y=sg s (x.z.natAbs*2^nx):=by rw [rsg_pow nx (RD.sgn HCx.out)];unfold alX;rw [hm0,hnx]
   have eY:alY x y=sg t (y.z.natAbs*2^ny):=by rw [rsg_pow ny (RD.sgn HCy.out)];unfold alY;rw [hm0,hny]
   obtain⟨X,hX⟩: ∃X,x.z.natAbs*2^nx=X:=⟨_,rfl⟩
   obtain⟨Y,hY⟩: ∃Y,y.z.natAbs*2^ny=Y:=⟨_,rfl⟩
   rw [hX] at eX
   rw [hY] at eY
   rw [eX,sg_abs] at hXb
   rw [eY,sg_abs] at hYb
   rw [hm0] at hD
   have HX:=hid hX
   have HY:=hid hY
   have HD:=hid hD.symm
   have HSx:=hid eX.symm
   have HSy:=hid eY.symm
   have HXb:=hid hXb
   have HYb:=hid hYb
   have HMin:=hid hm0
   clear hqe hnx hny hD hXb hYb eX eY hX hY hm0 hx0 hy0 hqy
   go_enter Tryz.func62,Tryz.ntmps62
   go_wp2_with fail
   (with_reducible refine HSg.out.mono ?_)
   rintro e w2 ⟨rfl,ho⟩
   replace HK:=hid (HK.out.step ho)
   replace HVx:=hid (HVx.out.only ho)
   replace HVy:=hid (HVy.out.only ho)
   clear ho HSg i0 i1 i2
   obtain⟨j0,j1,j2,-,-,-⟩:=HK.out.c3 1 rfl
   go_wp2_with fail
   (with_reducible refine (rsign_d q (RD.of HVy HCy) HQ.out).mono ?_)
   rintro e w3 ⟨rfl,ho⟩
   replace HK:=hid (HK.out.step ho)
   replace HVx:=hid (HVx.out.only ho)
   replace HVy:=hid (HVy.out.only ho)
   clear ho j0 j1 j2
   obtain⟨i0,i1,i2,-,-,-⟩:=HK.out.c3 2 rfl
   obtain⟨j0,j1,j2,-,-,-⟩:=HK.out.c3 1 rfl
   have hmin:=HMin.out
   go_upto_region 6 with fail
   clear i0 i1 i2 j0 j1 j2 hmin hq0 hp
   apply wp_region_typed2 (by kernel_rfl) [isV _,isV _,isV _,isV _,isV _,isV _,isRN X,isV _,isV _,isV _,isV _,isV _,isV _,isRN Y,isRN X,isRN Y] [[],[0],[],[2],[],[3,4],[1,5],[],[7],[],[9],[],[10,11],[8,12],[6],[13]] (by kernel_rfl) (by kernel_rfl)
   case ho=>
    iterate 16
     refine owes2_cons (fun wx hox=>?_) ?_
     ·skip
      have hk:=HK.out.step hox
      obtain⟨i0,i1,i2,-,-,-⟩:=hk.c3 2 rfl
      obtain⟨j0,j1,j2,-,-,-⟩:=hk.c3 1 rfl
      clear hk
      refine withs_plain rfl ?_
      simp only [withs,List.getElem?_cons_zero,List.getElem?_cons_succ,Option.bind,Option.getD]
      with_reducible repeat first|refine all_isV ?_|(refine all_isRN ?_;intro Ax kx cx hvx)
      go_simp
      first
      |exact⟨Only.refl _ _,isV.self _ _⟩
      |with_reducible exact grow_rn (rshlV_v nx X hnx9 (hid (HVx.out.only hox)) HFx HX.out)
      |with_reducible exact grow_rn (rshlV_v ny Y hny9 (hid (HVy.out.only hox)) HFy HY.out)
      |exact⟨Only.refl _ _,_,_,_,rfl,hvx.out⟩
    exact owes2_nil
   case he=>
    intro wx hox
    refine withs_of (by simp only [List.length,List.range,List.range.loop];exact rfl) ?_
    simp only [withs,List.getElem?_cons_zero,List.getElem?_cons_succ,Option.bind,Option.getD]
    with_reducible refine all_isV ?_
    with_reducible refine all_isV ?_
    with_reducible refine all_isV ?_
    with_reducible refine all_isV ?_
    with_reducible refine all_isV ?_
    with_reducible refine all_isV ?_
    with_reducible refine all_isRN ?_
    intro A6 k6 c6 hv6
    with_reducible refine all_isV ?_
    with_reducible refine all_isV ?_
    with_reducible refine all_isV ?_
    with_reducible refine all_isV ?_
    with_reducible refine all_isV ?_
    with_reducible refine all_isV ?_
    with_reducible refine all_isRN ?_
    intro A13 k13 c13 hv13
    with_reducible refine all_isRN ?_
    intro A14 k14 c14 hv14
    with_reducible refine all_isRN ?_
    intro A15 k15 c15 hv15
    go_simp
    replace HK:=hid (HK.out.step hox)
    have HX2:=hv14
    have HY2:=hv15
    clear hox hv6 hv13 hv14 hv15 HX HY
    obtain⟨i0,i1,i2,-,-,-⟩:=HK.out.c3 2 rfl
    obtain⟨j0,j1,j2,-,-,-⟩:=HK.out.c3 1 rfl
    by_cases hst:s=t
    ·have hst2:(s == t)=true:=by simpa using hst
     have HS:Hid (nrm (sg s (X+Y)) m0=dAdd x y):=by
      show _=_
      rw [← HD.out,sg_add]
      congr 1
      rw [HSx.out]
      congr 1
      rw [hst]
      exact HSy.out
     have HFr:Hid (Few (X+Y)):=few_two_pow (N:=3*N+1) (by rw [Nat.pow_succ];have:=HXb.out;have:=HYb.out;omega) (by omega)
     clear hst
     go_upto_region 8 with fail
     clear i0 i1 i2 j0 j1 j2
     apply wp_region_typed_tail2 7 (by kernel_rfl) [isV _,isV _,isV _,isV _,isRN (X+Y),isV _,isRD (dAdd x y)] [[],[0],[],[],[2,3],[],[1,4,5]] (by kernel_rfl) (by kernel_rfl) (by kernel_rfl)
     case ho=>
      simp only [List.take_succ_cons,List.take_zero]
      iterate 7
       refine owes2_cons (fun wx hox=>?_) ?_
       ·skip
        have hk:=HK.out.step hox
        obtain⟨i0,i1,i2,-,-,-⟩:=hk.c3 2 rfl
        obtain⟨j0,j1,j2,-,-,-⟩:=hk.c3 1 rfl
        clear hk
        refine withs_plain rfl ?_
        simp only [withs,List.getElem?_cons_zero,List.getElem?_cons_succ,Option.bind,Option.getD]
        with_reducible repeat first|refine all_isV ?_|(refine all_isRD ?_;intro sx Ax kx cx hvx hwx)|(refine all_isRN ?_;intro Ax kx cx hvx)
        go_simp
        first
        |exact⟨Only.refl _ _,isV.self _ _⟩
        |with_reducible exact grow_rn (radd_v (hid (HX2.out.only hox)) (hid (HY2.out.only hox)) (hid (few_two_pow HXb.out (by omega))) (hid (few_two_pow HYb.out (by omega))))
        |with_reducible exact grow_rd (rmake_d s m0 (by assumption) HFr (by omega) (by omega) HS.out)
      exact owes2_nil
     case he=>
      simp only [List.drop_succ_cons,List.drop_zero]
      intro wx hox
      refine withs_of (by simp only [List.length,List.range,List.range.loop];exact rfl) ?_
      simp only [withs,List.getElem?_cons_zero,List.getElem?_cons_succ,Option.bind,Option.getD]
      with_reducible refine all_isV ?_
      with_reducible refine all_isV ?_
      with_reducible refine all_isV ?_
      with_reducible refine all_isV ?_
      with_reducible refine all_isRN ?_
      intro A4 k4 c4 hv4
      with_reducible refine all_isV ?_
      with_reducible refine all_isRD ?_
      intro s6 A6 k6 c6 hv6 hw6
      go_simp
      have hk:=HK.out.step hox
      obtain⟨q0,q1,q2,f0,f1,f2⟩:=hk.c3 0 rfl
      have HB:=hid (hk.blk 0 rfl)
      have HO:=hid hk.only
      clear hk hox HK
      generalize dAdd x y=r at*
      go_wp2_with fail
      refine bodyPost_ret (v:= .agg #[.bool s6,.slice A6 k6 c6,.int .i64 (r.e)]) (by simp [results,Tryz.results62,go_sem,q0,q1,q2]) rfl ?_
      exact rdfin hv6 hw6 (by omega) HB.out (noLimb3 _ _ _ _ _) HO.out (only_set3 _ _ _ _ _)
     case hl=>
      repeat (refine List.forall_mem_cons.2 ⟨?_,?_⟩;first|exact isV.lasts _|exact isRD.lasts _|exact isRN.lasts _)
      exact fun _ h=>(by cases h)
    ·have hst2:(s == t)=false:=by simpa using hst
     have hnt:t= !s:=by cases s<;>cases t<;>simp_all
     have hcmp:=rcmp_v HX2 HY2 (hid (few_two_pow HXb.out (by omega))) (hid (few_two_pow HYb.out (by omega)))
     have HCm:=hid hcmp
     clear hst hcmp
     go_wp2_with fail
     clear i0 i1 i2 j0 j1 j2
     (with_reducible refine HCm.out.mono ?_)
     rintro e w5 ⟨rfl,ho⟩
     replace HK:=hid (HK.out.step ho)
     replace HX2:=hid (HX2.out.only ho)
     replace HY2:=hid (HY2.out.only ho)
     clear ho HCm
     by_cases hle:Y≤X
     ·have hc0:0≤cmpZ X Y:=by unfold cmpZ;split<;>(try split)<;>omega
      have HS:Hid (nrm (sg s (X-Y)) m0=dAdd x y):=by
       show _=_
       rw [← HD.out,sg_sub _ _ _ hle,HSx.out,←hnt,HSy.out]
      have HFr:Hid (Few (X-Y)):=few_two_pow (N:=3*N) (by have:=HXb.out;omega) (by omega)
      have HLe:=hid hle
      have HFX:=hid (few_two_pow HXb.out (by omega))
      clear hle hnt
      generalize cmpZ X Y=z at*
      go_upto_region 10 with fail
      apply wp_region_typed_tail2 7 (by kernel_rfl) [isV _,isV _,isV _,isV _,isRN (X-Y),isV _,isRD (dAdd x y)] [[],[0],[],[],[2,3],[],[1,4,5]] (by kernel_rfl) (by kernel_rfl) (by kernel_rfl)
      case ho=>
       simp only [List.take_succ_cons,List.take_zero]
       iterate 7
        refine owes2_cons (fun wx hox=>?_) ?_
        ·skip
         have hk:=HK.out.step hox
         obtain⟨i0,i1,i2,-,-,-⟩:=hk.c3 2 rfl
         obtain⟨j0,j1,j2,-,-,-⟩:=hk.c3 1 rfl
         clear hk
         refine withs_plain rfl ?_
         simp only [withs,List.getElem?_cons_zero,List.getElem?_cons_succ,Option.bind,Option.getD]
         with_reducible repeat first|refine all_isV ?_|(refine all_isRD ?_;intro sx Ax kx cx hvx hwx)|(refine all_isRN ?_;intro Ax kx cx hvx)
         go_simp
         first
         |exact⟨Only.refl _ _,isV.self _ _⟩
         |with_reducible exact grow_rn (rsub_v (hid (HX2.out.only hox)) (hid (HY2.out.only hox)) HFX HLe)
         |with_reducible exact grow_rd (rmake_d s m0 (by assumption) HFr (by omega) (by omega) HS.out)
       exact owes2_nil
      case he=>
       simp only [List.drop_succ_cons,List.drop_zero]
       intro wx hox
       refine withs_of (by simp only [List.length,List.range,List.range.loop];exact rfl) ?_
       simp only [withs,List.getElem?_cons_zero,List.getElem?_cons_succ,Option.bind,Option.getD]
       with_reducible refine all_isV ?_
       with_reducible refine all_isV ?_
       with_reducible refine all_isV ?_
       with_reducible refine all_isV ?_
       with_reducible refine all_isRN ?_
       intro A4 k4 c4 hv4
       with_reducible refine all_isV ?_
       with_reducible refine all_isRD ?_
       intro s6 A6 k6 c6 hv6 hw6
       go_simp
       have hk:=HK.out.step hox
       obtain⟨q0,q1,q2,f0,f1,f2⟩:=hk.c3 0 rfl
       have HB:=hid (hk.blk 0 rfl)
       have HO:=hid hk.only
       clear hk hox HK
       generalize dAdd x y=r at*
       go_wp2_with fail
       refine bodyPost_ret (v:= .agg #[.bool s6,.slice A6 k6 c6,.int .i64 (r.e)]) (by simp [results,Tryz.results62,go_sem,q0,q1,q2]) rfl ?_
       exact rdfin hv6 hw6 (by omega) HB.out (noLimb3 _ _ _ _ _) HO.out (only_set3 _ _ _ _ _)
      case hl=>
       repeat (refine List.forall_mem_cons.2 ⟨?_,?_⟩;first|exact isV.lasts _|exact isRD.lasts _|exact isRN.lasts _)
       exact fun _ h=>(by cases h)
     ·have hc0: ¬0≤cmpZ X Y:=by unfold cmpZ;split<;>(try split)<;>omega
      have HS:Hid (nrm (sg t (Y-X)) m0=dAdd x y):=by
       show _=_
       rw [← HD.out,sg_sub _ _ _ (by omega),HSy.out,hnt,Bool.not_not,HSx.out,Int.add_comm]
      have HFr:Hid (Few (Y-X)):=few_two_pow (N:=3*N) (by have:=HYb.out;omega) (by omega)
      have HLe:Hid (X≤Y):=by show _≤_;omega
      have HFY:=hid (few_two_pow HYb.out (by omega))
      clear hle hnt
      generalize cmpZ X Y=z at*
      go_upto_region 11 with fail
      apply wp_region_typed_tail2 7 (by kernel_rfl) [isV _,isV _,isV _,isV _,isRN (Y-X),isV _,isRD (dAdd x y)] [[],[0],[],[],[2,3],[],[1,4,5]] (by kernel_rfl) (by kernel_rfl) (by kernel_rfl)
      case ho=>
       simp only [List.take_succ_cons,List.take_zero]
       iterate 7
        refine owes2_cons (fun wx hox=>?_) ?_
        ·skip
         have hk:=HK.out.step hox
         obtain⟨i0,i1,i2,-,-,-⟩:=hk.c3 2 rfl
         obtain⟨j0,j1,j2,-,-,-⟩:=hk.c3 1 rfl
         clear hk
         refine withs_plain rfl ?_
         simp only [withs,List.getElem?_cons_zero,List.getElem?_cons_succ,Option.bind,Option.getD]
         with_reducible repeat first|refine all_isV ?_|(refine all_isRD ?_;intro sx Ax kx cx hvx hwx)|(refine all_isRN ?_;intro Ax kx cx hvx)
         go_simp
         first
         |exact⟨Only.refl _ _,isV.self _ _⟩
         |with_reducible exact grow_rn (rsub_v (hid (HY2.out.only hox)) (hid (HX2.out.only hox)) HFY HLe)
         |with_reducible exact grow_rd (rmake_d t m0 (by assumption) HFr (by omega) (by omega) HS.out)
       exact owes2_nil
      case he=>
       simp only [List.drop_succ_cons,List.drop_zero]
       intro wx hox
       refine withs_of (by simp only [List.length,List.range,List.range.loop];exact rfl) ?_
       simp only [withs,List.getElem?_cons_zero,List.getElem?_cons_succ,Option.bind,Option.getD]
       with_reducible refine all_isV ?_
       with_reducible refine all_isV ?_
       with_reducible refine all_isV ?_
       with_reducible refine all_isV ?_
       with_reducible refine all_isRN ?_
       intro A4 k4 c4 hv4
       with_reducible refine all_isV ?_
       with_reducible refine all_isRD ?_
       intro s6 A6 k6 c6 hv6 hw6
       go_simp
       have hk:=HK.out.step hox
       obtain⟨q0,q1,q2,f0,f1,f2⟩:=hk.c3 0 rfl
       have HB:=hid (hk.blk 0 rfl)
       have HO:=hid hk.only
       clear hk hox HK
       generalize dAdd x y=r at*
       go_wp2_with fail
       refine bodyPost_ret (v:= .agg #[.bool s6,.slice A6 k6 c6,.int .i64 (r.e)]) (by simp [results,Tryz.results62,go_sem,q0,q1,q2]) rfl ?_
       exact rdfin hv6 hw6 (by omega) HB.out (noLimb3 _ _ _ _ _) HO.out (only_set3 _ _ _ _ _)
      case hl=>
       repeat (refine List.forall_mem_cons.2 ⟨?_,?_⟩;first|exact isV.lasts _|exact isRD.lasts _|exact isRN.lasts _)
       exact fun _ h=>(by cases h)
   case hl=>
    repeat (refine List.forall_mem_cons.2 ⟨?_,?_⟩;first|exact isV.lasts _|exact isRN.lasts _)
    exact fun _ h=>(by cases h)
set_option maxHeartbeats 1600000 in
set_option maxRecDepth 100000 in
theorem rsub_d {w:World} {a b:Value} {x y:Dy} {N:Nat} (ha:Hid (RD w a x)) (hb:Hid (RD w b y)) (CX:Hid (Can x)) (bx:Hid (Bnd N x)) (by_:Hid (Bnd N y)) (hN:N≤1000000):Calls Tryz.prog 59 #[a,b] w (RDP (dSub x y) w):=by
 have HCn:Hid (Can (dNot y)):=dNot_can y
 have HB2:Hid (Bnd (2*N) x):=bx.out.mono (by omega)
 have HBn:Hid (Bnd (2*N) (dNot y)):=by_.out.not (Nat.le_refl _)
 obtain⟨s,A,k,c,rfl,hcx,hvx⟩:=ha.out
 obtain⟨t,B,m,d,rfl,hcy,hvy⟩:=hb.out
 have hk:=(((KB.start w).new 38 [.bool s,.slice A k c,.int .i64 x.e]).new 38 [.bool t,.slice B m d,.int .i64 y.e]).new 38 [.bool false,.slice none 0 0,.int .i64 0]
 simp only [World.size_alloc] at hk
 have HVx:=hid (hvx.only hk.only)
 have HVy:=hid (hvy.only hk.only)
 have HK:=hid hk
 have HCx:=hid hcx
 have HCy:=hid hcy
 clear hk hvx hvy hcx hcy ha hb
 go_enter Tryz.func59,Tryz.ntmps59
 go_upto_region 1 with fail
 apply wp_region_typed_tail2 4 (by kernel_rfl) [isV _,isV _,isRD (dNot y),isRD (dSub x y)] [[],[],[1],[0,2]] (by kernel_rfl) (by kernel_rfl) (by kernel_rfl)
 case ho=>
  simp only [List.take_succ_cons,List.take_zero]
  iterate 4
   refine owes2_cons (fun wx hox=>?_) ?_
   ·skip
    have hk:=HK.out.step hox
    obtain⟨i0,i1,i2,-,-,-⟩:=hk.c3 2 rfl
    obtain⟨j0,j1,j2,-,-,-⟩:=hk.c3 1 rfl
    clear hk
    refine withs_plain rfl ?_
    simp only [withs,List.getElem?_cons_zero,List.getElem?_cons_succ,Option.bind,Option.getD]
    with_reducible repeat first|refine all_isV ?_|(refine all_isRD ?_;intro sx Ax kx cx hvx hwx)
    go_simp
    first
    |exact⟨Only.refl _ _,isV.self _ _⟩
    |with_reducible exact grow_rd (rnot_d (RD.of (hid (HVy.out.only hox)) HCy) by_ (by omega))
    |with_reducible exact grow_rd (radd_d (RD.of (hid (HVx.out.only hox)) HCx) (RD.of (by assumption) (by assumption)) CX HCn HB2 HBn (by omega))
  exact owes2_nil
 case he=>
  simp only [List.drop_succ_cons,List.drop_zero]
  intro wx hox
  refine withs_of (by simp only [List.length,List.range,List.range.loop];exact rfl) ?_
  simp only [withs,List.getElem?_cons_zero,List.getElem?_cons_succ,Option.bind,Option.getD]
  with_reducible refine all_isV ?_
  with_reducible refine all_isV ?_
  with_reducible refine all_isRD ?_
  intro s2 A2 k2 c2 hv2 hw2
  with_reducible refine all_isRD ?_
  intro s3 A3 k3 c3 hv3 hw3
  go_simp
  have hk:=HK.out.step hox
  obtain⟨q0,q1,q2,f0,f1,f2⟩:=hk.c3 0 rfl
  have HB:=hid (hk.blk 0 rfl)
  have HO:=hid hk.only
  clear hk hox HK
  generalize dSub x y=r at*
  go_wp2_with fail
  refine bodyPost_ret (v:= .agg #[.bool s3,.slice A3 k3 c3,.int .i64 (r.e)]) (by simp [results,Tryz.results59,go_sem,q0,q1,q2]) rfl ?_
  exact rdfin hv3 hw3 (by omega) HB.out (noLimb3 _ _ _ _ _) HO.out (only_set3 _ _ _ _ _)
 case hl=>
  repeat (refine List.forall_mem_cons.2 ⟨?_,?_⟩;first|exact isV.lasts _|exact isRD.lasts _)
  exact fun _ h=>(by cases h)
theorem rbitsV_v {w:World} {a:Value} {m:Nat} (b:Nat) (ha:Hid (RV w a m)) (hfa:Hid (Few m)) (hb:bitsN m=b):Calls Tryz.prog 68 #[a] w fun e w'=>e= .returned (.int .i64 (b:Int))∧w=w':=hb▸rbits_v ha hfa
set_option maxHeartbeats 1600000 in
set_option maxRecDepth 100000 in
theorem rtop_d {w:World} {a:Value} {x:Dy} {N:Nat} (u:Int) (ha:Hid (RD w a x)) (bx:Hid (Bnd N x)) (hN:N≤8000000) (hu:topD x=u):Calls Tryz.prog 31 #[a] w fun e w'=>e= .returned (.int .i64 u)∧Only [] w w':=by
 have HF:=hid (rd_few bx.out hN)
 have hbt:=few_bits HF.out
 have he:=rlim_i64 bx.out hN
 obtain⟨s,A,k,c,rfl,hc,hv⟩:=ha.out
 have hk:=(KB.start w).new 38 [.bool s,.slice A k c,.int .i64 x.e]
 have HV:=hid (hv.only hk.only)
 have HC:=hid hc
 have HK:=hid hk
 obtain⟨i0,i1,i2,-,-,-⟩:=hk.c3 0 rfl
 clear hk hv hc ha
 by_cases hz:x.z=0
 ·have HP:Hid (x.z.sign=0):=by show _=_;rw [hz];rfl
  have hu0:u=0:=by rw [← hu];unfold topD;rw [if_pos hz]
  subst hu0
  clear hz hu
  go_enter Tryz.func31,Tryz.ntmps31
  go_wp2_with fail
  (with_reducible refine (rsign_d 0 (RD.of HV HC) HP.out).mono ?_)
  rintro e w2 ⟨rfl,ho⟩
  replace HK:=hid (HK.out.step ho)
  clear ho i0 i1 i2
  go_wp2_with fail
  go_ret
  exact⟨rfl,HK.out.only⟩
 ·have hp:(x.z.sign == 0)=false:=by rw [beq_eq_false_iff_ne];intro hc;exact hz (Int.sign_eq_zero_iff_zero.1 hc)
  obtain⟨p,hpe⟩: ∃p,x.z.sign=p:=⟨_,rfl⟩
  have HP:=hid hpe
  rw [hpe] at hp
  have hsum:IntKind.i64.wrap ((bitsN x.z.natAbs:Int)+x.e)=u:=by
   rw [← hu]
   unfold topD
   rw [if_neg hz]
   exact wrap_i64 (by omega)
  clear hz hu hpe
  obtain⟨bt,hgb⟩: ∃bt,bitsN x.z.natAbs=bt:=⟨_,rfl⟩
  rw [hgb] at hsum hbt
  have HBt:=hid hgb
  clear hgb
  go_enter Tryz.func31,Tryz.ntmps31
  go_wp2_with fail
  (with_reducible refine (rsign_d p (RD.of HV HC) HP.out).mono ?_)
  rintro e w2 ⟨rfl,ho⟩
  replace HK:=hid (HK.out.step ho)
  replace HV:=hid (HV.out.only ho)
  clear ho i0 i1 i2
  go_upto_region 3 with fail
  apply wp_region_typed2 (by kernel_rfl) [isV _,isV _,isV _,isV _,isV _,isV _,isV _] [[],[0],[1],[],[3],[2,4],[5]] (by kernel_rfl) (by kernel_rfl)
  case ho=>
   refine owes2_cons (fun wx hox=>?_) ?_
   ·skip
    skip
    refine withs_plain rfl ?_
    simp only [withs,List.getElem?_cons_zero,List.getElem?_cons_succ,Option.bind,Option.getD]
    repeat (with_reducible refine all_isV ?_)
    go_simp
    exact⟨Only.refl _ _,isV.self _ _⟩
   refine owes2_cons (fun wx hox=>?_) ?_
   ·skip
    have hk:=HK.out.step hox
    obtain⟨i0,i1,i2,-,-,-⟩:=hk.c3 0 rfl
    clear hk
    refine withs_plain rfl ?_
    simp only [withs,List.getElem?_cons_zero,List.getElem?_cons_succ,Option.bind,Option.getD]
    repeat (with_reducible refine all_isV ?_)
    go_simp
    exact⟨Only.refl _ _,isV.self _ _⟩
   refine owes2_cons (fun wx hox=>?_) ?_
   ·skip
    have hk:=HK.out.step hox
    obtain⟨i0,i1,i2,-,-,-⟩:=hk.c3 0 rfl
    clear hk
    refine withs_plain rfl ?_
    simp only [withs,List.getElem?_cons_zero,List.getElem?_cons_succ,Option.bind,Option.getD]
    repeat (with_reducible refine all_isV ?_)
    go_simp
    (with_reducible exact grow_same (rbitsV_v bt (hid (HV.out.only hox)) HF HBt.out))
   refine owes2_cons (fun wx hox=>?_) ?_
   ·skip
    skip
    refine withs_plain rfl ?_
    simp only [withs,List.getElem?_cons_zero,List.getElem?_cons_succ,Option.bind,Option.getD]
    repeat (with_reducible refine all_isV ?_)
    go_simp
    exact⟨Only.refl _ _,isV.self _ _⟩
   refine owes2_cons (fun wx hox=>?_) ?_
   ·skip
    have hk:=HK.out.step hox
    obtain⟨i0,i1,i2,-,-,-⟩:=hk.c3 0 rfl
    clear hk
    refine withs_plain rfl ?_
    simp only [withs,List.getElem?_cons_zero,List.getElem?_cons_succ,Option.bind,Option.getD]
    repeat (with_reducible refine all_isV ?_)
    go_simp
    exact⟨Only.refl _ _,isV.self _ _⟩
   refine owes2_cons (fun wx hox=>?_) ?_
   ·skip
    skip
    refine withs_plain rfl ?_
    simp only [withs,List.getElem?_cons_zero,List.getElem?_cons_succ,Option.bind,Option.getD]
    repeat (with_reducible refine all_isV ?_)
    go_simp
    exact⟨Only.refl _ _,isV.self _ _⟩
   refine owes2_cons (fun wx hox=>?_) ?_
   ·skip
    skip
    refine withs_plain rfl ?_
    simp only [withs,List.getElem?_cons_zero,List.getElem?_cons_succ,Option.bind,Option.getD]
    repeat (with_reducible refine all_isV ?_)
    go_simp
    exact⟨Only.refl _ _,isV.self _ _⟩
   exact owes2_nil
  case he=>
   intro wx hox
   refine withs_of (by simp only [List.length,List.range,List.range.loop];exact rfl) ?_
   simp only [withs,List.getElem?_cons_zero,List.getElem?_cons_succ,Option.bind,Option.getD]
   repeat (with_reducible refine all_isV ?_)
   go_simp
   go_wp2_with fail
   go_ret
   exact⟨rfl,HK.out.only.nil_trans hox⟩
  case hl=>
   repeat (refine List.forall_mem_cons.2 ⟨?_,?_⟩;exact isV.lasts _)
   exact fun _ h=>(by cases h)
theorem cmpQ_sub (a b:Rat):cmpQ (a-b) 0=cmpQ a b:=by
 rcases rat_tri a b with h|h|h
 ·rw [cmpQ_lt h,cmpQ_lt (by grind)]
 ·rw [cmpQ_eq h,cmpQ_eq (by grind)]
 ·rw [cmpQ_gt h,cmpQ_gt (by grind)]
theorem dSub_sign (x y:Dy):(dSub x y).z.sign=cmpQ x.q y.q:=by rw [← q_sign,dSub_q,cmpQ_sub]
set_option maxHeartbeats 3200000 in
set_option maxRecDepth 100000 in
theorem rcmp_d {w:World} {a b:Value} {x y:Dy} {N:Nat} (r:Int) (ha:Hid (RD w a x)) (hb:Hid (RD w b y)) (CX:Hid (Can x)) (bx:Hid (Bnd N x)) (by_:Hid (Bnd N y)) (hN:N≤1000000) (hr:cmpQ x.q y.q=r):Calls Tryz.prog 19 #[a,b] w fun e w'=>e= .returned (.int .i64 r)∧Only [] w w':=by
 obtain⟨p,hp⟩: ∃p,x.z.sign=p:=⟨_,rfl⟩
 obtain⟨q,hq⟩: ∃q,y.z.sign=q:=⟨_,rfl⟩
 obtain⟨u,hu⟩: ∃u,topD x=u:=⟨_,rfl⟩
 obtain⟨v,hv⟩: ∃v,topD y=v:=⟨_,rfl⟩
 have HP:=hid hp
 have HQ:=hid hq
 have HU:=hid hu
 have HW:=hid hv
 have hz:p≠0→x.z≠0:=fun h hc=>h (by rw [← hp,hc];rfl)
 have hz0:p=0→x.z=0:=fun h=>Int.sign_eq_zero_iff_zero.1 (by rw [hp,h])
 have hy:q≠0→y.z≠0:=fun h hc=>h (by rw [← hq,hc];rfl)
 have hy0:q=0→y.z=0:=fun h=>Int.sign_eq_zero_iff_zero.1 (by rw [hq,h])
 have HLt:Hid (p<q→r= -1):=fun h=>by rw [← hr];exact cmp_sign_lt (by omega)
 have HGt:Hid (q<p→r=1):=fun h=>by rw [← hr];exact cmp_sign_gt (by omega)
 have HZr:Hid (p=q→p=0→r=0):=fun h h'=>by rw [← hr];exact cmp_zero (hz0 h') (hy0 (by omega))
 have HTl:Hid (p=q→p≠0→u<v→r= -p):=fun h h' h2=>by rw [← hr,←hp];exact cmp_top_lt (by omega) (hz h') (by omega)
 have HTg:Hid (p=q→p≠0→v<u→r=p):=fun h h' h2=>by rw [← hr,←hp];exact cmp_top_gt (by omega) (hy (by omega)) (by omega)
 have HSS:Hid ((dSub x y).z.sign=r):=by show _=_;rw [dSub_sign,hr]
 have HR:Hid (p= -1∨p=0∨p=1):=by have:=sign_range x.z;show _∨_;omega
 obtain⟨s,A,k,c,rfl,hcx,hvx⟩:=ha.out
 obtain⟨t,B,m,d,rfl,hcy,hvy⟩:=hb.out
 have hk:=((KB.start w).new 38 [.bool s,.slice A k c,.int .i64 x.e]).new 38 [.bool t,.slice B m d,.int .i64 y.e]
 simp only [World.size_alloc] at hk
 have HVx:=hid (hvx.only hk.only)
 have HVy:=hid (hvy.only hk.only)
 have HCx:=hid hcx
 have HCy:=hid hcy
 have HK:=hid hk
 obtain⟨i0,i1,i2,-,-,-⟩:=hk.c3 1 rfl
 obtain⟨j0,j1,j2,-,-,-⟩:=hk.c3 0 rfl
 clear hk hvx hvy hcx hcy ha hb hp hq hu hv hz hz0 hy hy0 hr
 go_enter Tryz.func19,Tryz.ntmps19
 go_upto_region 1 with fail
 clear i0 i1 i2 j0 j1 j2
 apply wp_region_typed2 (by kernel_rfl) [isV _,isV _,isV _,isV _,isV _,isV _] [[],[0],[],[2],[1],[3]] (by kernel_rfl) (by kernel_rfl)
 case ho=>
  refine owes2_cons (fun wx hox=>?_) ?_
  ·skip
   have hk:=HK.out.step hox
   obtain⟨i0,i1,i2,-,-,-⟩:=hk.c3 1 rfl
   obtain⟨j0,j1,j2,-,-,-⟩:=hk.c3 0 rfl
   clear hk
   refine withs_plain rfl ?_
   simp only [withs,List.getElem?_cons_zero,List.getElem?_cons_succ,Option.bind,Option.getD]
   repeat (with_reducible refine all_isV ?_)
   go_simp
   exact⟨Only.refl _ _,isV.self _ _⟩
  refine owes2_cons (fun wx hox=>?_) ?_
  ·skip
   have hk:=HK.out.step hox
   obtain⟨i0,i1,i2,-,-,-⟩:=hk.c3 1 rfl
   obtain⟨j0,j1,j2,-,-,-⟩:=hk.c3 0 rfl
   clear hk
   refine withs_plain rfl ?_
   simp only [withs,List.getElem?_cons_zero,List.getElem?_cons_succ,Option.bind,Option.getD]
   repeat (with_reducible refine all_isV ?_)
   go_simp
   (with_reducible exact grow_of (rsign_d p (RD.of (hid (HVx.out.only hox)) HCx) HP.out))
  refine owes2_cons (fun wx hox=>?_) ?_
  ·skip
   have hk:=HK.out.step hox
   obtain⟨i0,i1,i2,-,-,-⟩:=hk.c3 1 rfl
   obtain⟨j0,j1,j2,-,-,-⟩:=hk.c3 0 rfl
   clear hk
   refine withs_plain rfl ?_
   simp only [withs,List.getElem?_cons_zero,List.getElem?_cons_succ,Option.bind,Option.getD]
   repeat (with_reducible refine all_isV ?_)
   go_simp
   exact⟨Only.refl _ _,isV.self _ _⟩
  refine owes2_cons (fun wx hox=>?_) ?_
  ·skip
   have hk:=HK.out.step hox
   obtain⟨i0,i1,i2,-,-,-⟩:=hk.c3 1 rfl
   obtain⟨j0,j1,j2,-,-,-⟩:=hk.c3 0 rfl
   clear hk
   refine withs_plain rfl ?_
   simp only [withs,List.getElem?_cons_zero,List.getElem?_cons_succ,Option.bind,Option.getD]
   repeat (with_reducible refine all_isV ?_)
   go_simp
   (with_reducible exact grow_of (rsign_d q (RD.of (hid (HVy.out.only hox)) HCy) HQ.out))
  refine owes2_cons (fun wx hox=>?_) ?_
  ·skip
   skip
   refine withs_plain rfl ?_
   simp only [withs,List.getElem?_cons_zero,List.getElem?_cons_succ,Option.bind,Option.getD]
   repeat (with_reducible refine all_isV ?_)
   go_simp
   exact⟨Only.refl _ _,isV.self _ _⟩
  refine owes2_cons (fun wx hox=>?_) ?_
  ·skip
   skip
   refine withs_plain rfl ?_
   simp only [withs,List.getElem?_cons_zero,List.getElem?_cons_succ,Option.bind,Option.getD]
   repeat (with_reducible refine all_isV ?_)
   go_simp
   exact⟨Only.refl _ _,isV.self _ _⟩
  exact owes2_nil
 case he=>
  intro wx hox
  refine withs_of (by simp only [List.length,List.range,List.range.loop];exact rfl) ?_
  simp only [withs,List.getElem?_cons_zero,List.getElem?_cons_succ,Option.bind,Option.getD]
  repeat (with_reducible refine all_isV ?_)
  go_simp
  replace HK:=hid (HK.out.step hox)
  replace HVx:=hid (HVx.out.only hox)
  replace HVy:=hid (HVy.out.only hox)
  clear hox
  rcases Int.lt_trichotomy p q with h|h|h
  ·have hne:(p != q)=true:=by simpa using (show p≠q by omega)
   obtain rfl:r= -1:=HLt.out h
   go_wp2_with fail
   go_ret
   exact⟨rfl,HK.out.only⟩
  ·subst h
   by_cases hp0:p=0
   ·subst hp0
    obtain rfl:r=0:=HZr.out rfl rfl
    go_wp2_with fail
    go_ret
    exact⟨rfl,HK.out.only⟩
   ·have hpn:(p == 0)=false:=by simpa using hp0
    have HP0:=hid hp0
    clear hp0
    obtain⟨i0,i1,i2,-,-,-⟩:=HK.out.c3 1 rfl
    obtain⟨j0,j1,j2,-,-,-⟩:=HK.out.c3 0 rfl
    go_upto_region 8 with fail
    clear i0 i1 i2 j0 j1 j2
    apply wp_region_typed2 (by kernel_rfl) [isV _,isV _,isV _,isV _,isV _,isV _] [[],[0],[],[2],[1,3],[4]] (by kernel_rfl) (by kernel_rfl)
    case ho=>
     refine owes2_cons (fun wx hox=>?_) ?_
     ·skip
      have hk:=HK.out.step hox
      obtain⟨i0,i1,i2,-,-,-⟩:=hk.c3 1 rfl
      obtain⟨j0,j1,j2,-,-,-⟩:=hk.c3 0 rfl
      clear hk
      refine withs_plain rfl ?_
      simp only [withs,List.getElem?_cons_zero,List.getElem?_cons_succ,Option.bind,Option.getD]
      repeat (with_reducible refine all_isV ?_)
      go_simp
      exact⟨Only.refl _ _,isV.self _ _⟩
     refine owes2_cons (fun wx hox=>?_) ?_
     ·skip
      have hk:=HK.out.step hox
      obtain⟨i0,i1,i2,-,-,-⟩:=hk.c3 1 rfl
      obtain⟨j0,j1,j2,-,-,-⟩:=hk.c3 0 rfl
      clear hk
      refine withs_plain rfl ?_
      simp only [withs,List.getElem?_cons_zero,List.getElem?_cons_succ,Option.bind,Option.getD]
      repeat (with_reducible refine all_isV ?_)
      go_simp
      (with_reducible exact grow_of (rtop_d u (RD.of (hid (HVx.out.only hox)) HCx) bx (by omega) HU.out))
     refine owes2_cons (fun wx hox=>?_) ?_
     ·skip
      have hk:=HK.out.step hox
      obtain⟨i0,i1,i2,-,-,-⟩:=hk.c3 1 rfl
      obtain⟨j0,j1,j2,-,-,-⟩:=hk.c3 0 rfl
      clear hk
      refine withs_plain rfl ?_
      simp only [withs,List.getElem?_cons_zero,List.getElem?_cons_succ,Option.bind,Option.getD]
      repeat (with_reducible refine all_isV ?_)
      go_simp
      exact⟨Only.refl _ _,isV.self _ _⟩
     refine owes2_cons (fun wx hox=>?_) ?_
     ·skip
      have hk:=HK.out.step hox
      obtain⟨i0,i1,i2,-,-,-⟩:=hk.c3 1 rfl
      obtain⟨j0,j1,j2,-,-,-⟩:=hk.c3 0 rfl
      clear hk
      refine withs_plain rfl ?_
      simp only [withs,List.getElem?_cons_zero,List.getElem?_cons_succ,Option.bind,Option.getD]
      repeat (with_reducible refine all_isV ?_)
      go_simp
      (with_reducible exact grow_of (rtop_d v (RD.of (hid (HVy.out.only hox)) HCy) by_ (by omega) HW.out))
     refine owes2_cons (fun wx hox=>?_) ?_
     ·skip
      skip
      refine withs_plain rfl ?_
      simp only [withs,List.getElem?_cons_zero,List.getElem?_cons_succ,Option.bind,Option.getD]
      repeat (with_reducible refine all_isV ?_)
      go_simp
      exact⟨Only.refl _ _,isV.self _ _⟩
     refine owes2_cons (fun wx hox=>?_) ?_
     ·skip
      skip
      refine withs_plain rfl ?_
      simp only [withs,List.getElem?_cons_zero,List.getElem?_cons_succ,Option.bind,Option.getD]
      repeat (with_reducible refine all_isV ?_)
      go_simp
      exact⟨Only.refl _ _,isV.self _ _⟩
     exact owes2_nil
    case he=>
     intro wx hox
     refine withs_of (by simp only [List.length,List.range,List.range.loop];exact rfl) ?_
     simp only [withs,List.getElem?_cons_zero,List.getElem?_cons_succ,Option.bind,Option.getD]
     repeat (with_reducible refine all_isV ?_)
     go_simp
     replace HK:=hid (HK.out.step hox)
     replace HVx:=hid (HVx.out.only hox)
     replace HVy:=hid (HVy.out.only hox)
     clear hox
     obtain⟨i0,i1,i2,-,-,-⟩:=HK.out.c3 1 rfl
     obtain⟨j0,j1,j2,-,-,-⟩:=HK.out.c3 0 rfl
     by_cases huvne:u=v
     ·subst huvne
      have HSub:=hid (rsub_d (RD.of HVx HCx) (RD.of HVy HCy) CX bx by_ hN)
      go_wp2_with fail
      (with_reducible refine HSub.out.mono ?_)
      rintro e w5 ⟨s5,A5,k5,c5,rfl,hc5,hv5,ho⟩
      replace HK:=hid (HK.out.step ho)
      have HV5:=hid hv5
      have HC5:=hid hc5
      clear ho hv5 hc5 i0 i1 i2 j0 j1 j2 HSub
      go_wp2_with fail
      (with_reducible refine (rsign_d r (RD.of HV5 HC5) HSS.out).mono ?_)
      rintro e w6 ⟨rfl,ho⟩
      replace HK:=hid (HK.out.step ho)
      clear ho
      go_wp2_with fail
      go_ret
      exact⟨rfl,HK.out.only⟩
     ·have hun:(u != v)=true:=by simpa using huvne
      rcases Int.lt_trichotomy u v with huv|huv|huv
      ·have hnv:decide (u<v)=true:=decide_eq_true huv
       by_cases hp0:0<p
       ·have hp1:decide (0<p)=true:=decide_eq_true hp0
        obtain rfl:p=1:=by have:=HR.out;omega
        obtain rfl:r= -1:=HTl.out rfl (by omega) huv
        clear hp0 huv
        go_upto_region 9 with fail
        clear i0 i1 i2 j0 j1 j2
        apply wp_region_typed2 (by kernel_rfl) [isV _,isV _,isV _,isV _,isV _,isV _,isV _,isV _] [[],[0],[],[2],[1,3],[],[5],[4,6]] (by kernel_rfl) (by kernel_rfl)
        case ho=>
         refine owes2_cons (fun wx hox=>?_) ?_
         ·skip
          have hk:=HK.out.step hox
          obtain⟨i0,i1,i2,-,-,-⟩:=hk.c3 1 rfl
          obtain⟨j0,j1,j2,-,-,-⟩:=hk.c3 0 rfl
          clear hk
          refine withs_plain rfl ?_
          simp only [withs,List.getElem?_cons_zero,List.getElem?_cons_succ,Option.bind,Option.getD]
          repeat (with_reducible refine all_isV ?_)
          go_simp
          exact⟨Only.refl _ _,isV.self _ _⟩
         refine owes2_cons (fun wx hox=>?_) ?_
         ·skip
          have hk:=HK.out.step hox
          obtain⟨i0,i1,i2,-,-,-⟩:=hk.c3 1 rfl
          obtain⟨j0,j1,j2,-,-,-⟩:=hk.c3 0 rfl
          clear hk
          refine withs_plain rfl ?_
          simp only [withs,List.getElem?_cons_zero,List.getElem?_cons_succ,Option.bind,Option.getD]
          repeat (with_reducible refine all_isV ?_)
          go_simp
          (with_reducible exact grow_of (rtop_d u (RD.of (hid (HVx.out.only hox)) HCx) bx (by omega) HU.out))
         refine owes2_cons (fun wx hox=>?_) ?_
         ·skip
          have hk:=HK.out.step hox
          obtain⟨i0,i1,i2,-,-,-⟩:=hk.c3 1 rfl
          obtain⟨j0,j1,j2,-,-,-⟩:=hk.c3 0 rfl
          clear hk
          refine withs_plain rfl ?_
          simp only [withs,List.getElem?_cons_zero,List.getElem?_cons_succ,Option.bind,Option.getD]
          repeat (with_reducible refine all_isV ?_)
          go_simp
          exact⟨Only.refl _ _,isV.self _ _⟩
         refine owes2_cons (fun wx hox=>?_) ?_
         ·skip
          have hk:=HK.out.step hox
          obtain⟨i0,i1,i2,-,-,-⟩:=hk.c3 1 rfl
          obtain⟨j0,j1,j2,-,-,-⟩:=hk.c3 0 rfl
          clear hk
          refine withs_plain rfl ?_
          simp only [withs,List.getElem?_cons_zero,List.getElem?_cons_succ,Option.bind,Option.getD]
          repeat (with_reducible refine all_isV ?_)
          go_simp
          (with_reducible exact grow_of (rtop_d v (RD.of (hid (HVy.out.only hox)) HCy) by_ (by omega) HW.out))
         refine owes2_cons (fun wx hox=>?_) ?_
         ·skip
          skip
          refine withs_plain rfl ?_
          simp only [withs,List.getElem?_cons_zero,List.getElem?_cons_succ,Option.bind,Option.getD]
          repeat (with_reducible refine all_isV ?_)
          go_simp
          exact⟨Only.refl _ _,isV.self _ _⟩
         refine owes2_cons (fun wx hox=>?_) ?_
         ·skip
          skip
          refine withs_plain rfl ?_
          simp only [withs,List.getElem?_cons_zero,List.getElem?_cons_succ,Option.bind,Option.getD]
          repeat (with_reducible refine all_isV ?_)
          go_simp
          exact⟨Only.refl _ _,isV.self _ _⟩
         refine owes2_cons (fun wx hox=>?_) ?_
         ·skip
          skip
          refine withs_plain rfl ?_
          simp only [withs,List.getElem?_cons_zero,List.getElem?_cons_succ,Option.bind,Option.getD]
          repeat (with_reducible refine all_isV ?_)
          go_simp
          exact⟨Only.refl _ _,isV.self _ _⟩
         refine owes2_cons (fun wx hox=>?_) ?_
         ·skip
          skip
          refine withs_plain rfl ?_
          simp only [withs,List.getElem?_cons_zero,List.getElem?_cons_succ,Option.bind,Option.getD]
          repeat (with_reducible refine all_isV ?_)
          go_simp
          exact⟨Only.refl _ _,isV.self _ _⟩
         exact owes2_nil
        case he=>
         intro wx hox
         refine withs_of (by simp only [List.length,List.range,List.range.loop];exact rfl) ?_
         simp only [withs,List.getElem?_cons_zero,List.getElem?_cons_succ,Option.bind,Option.getD]
         repeat (with_reducible refine all_isV ?_)
         go_simp
         go_wp2_with fail
         go_ret
         exact⟨rfl,HK.out.only.nil_trans hox⟩
        case hl=>
         repeat (refine List.forall_mem_cons.2 ⟨?_,?_⟩;exact isV.lasts _)
         exact fun _ h=>(by cases h)
       ·obtain rfl:p= -1:=by have:=HR.out;have:=HP0.out;omega
        obtain rfl:r=1:=HTl.out rfl (by omega) huv
        clear hp0 huv
        go_upto_region 9 with fail
        clear i0 i1 i2 j0 j1 j2
        apply wp_region_typed2 (by kernel_rfl) [isV _,isV _,isV _,isV _,isV _,isV _,isV _,isV _] [[],[0],[],[2],[1,3],[],[5],[4,6]] (by kernel_rfl) (by kernel_rfl)
        case ho=>
         refine owes2_cons (fun wx hox=>?_) ?_
         ·skip
          have hk:=HK.out.step hox
          obtain⟨i0,i1,i2,-,-,-⟩:=hk.c3 1 rfl
          obtain⟨j0,j1,j2,-,-,-⟩:=hk.c3 0 rfl
          clear hk
          refine withs_plain rfl ?_
          simp only [withs,List.getElem?_cons_zero,List.getElem?_cons_succ,Option.bind,Option.getD]
          repeat (with_reducible refine all_isV ?_)
          go_simp
          exact⟨Only.refl _ _,isV.self _ _⟩
         refine owes2_cons (fun wx hox=>?_) ?_
         ·skip
          have hk:=HK.out.step hox
          obtain⟨i0,i1,i2,-,-,-⟩:=hk.c3 1 rfl
          obtain⟨j0,j1,j2,-,-,-⟩:=hk.c3 0 rfl
          clear hk
          refine withs_plain rfl ?_
          simp only [withs,List.getElem?_cons_zero,List.getElem?_cons_succ,Option.bind,Option.getD]
          repeat (with_reducible refine all_isV ?_)
          go_simp
          (with_reducible exact grow_of (rtop_d u (RD.of (hid (HVx.out.only hox)) HCx) bx (by omega) HU.out))
         refine owes2_cons (fun wx hox=>?_) ?_
         ·skip
          have hk:=HK.out.step hox
          obtain⟨i0,i1,i2,-,-,-⟩:=hk.c3 1 rfl
          obtain⟨j0,j1,j2,-,-,-⟩:=hk.c3 0 rfl
          clear hk
          refine withs_plain rfl ?_
          simp only [withs,List.getElem?_cons_zero,List.getElem?_cons_succ,Option.bind,Option.getD]
          repeat (with_reducible refine all_isV ?_)
          go_simp
          exact⟨Only.refl _ _,isV.self _ _⟩
         refine owes2_cons (fun wx hox=>?_) ?_
         ·skip
          have hk:=HK.out.step hox
          obtain⟨i0,i1,i2,-,-,-⟩:=hk.c3 1 rfl
          obtain⟨j0,j1,j2,-,-,-⟩:=hk.c3 0 rfl
          clear hk
          refine withs_plain rfl ?_
          simp only [withs,List.getElem?_cons_zero,List.getElem?_cons_succ,Option.bind,Option.getD]
          repeat (with_reducible refine all_isV ?_)
          go_simp
          (with_reducible exact grow_of (rtop_d v (RD.of (hid (HVy.out.only hox)) HCy) by_ (by omega) HW.out))
         refine owes2_cons (fun wx hox=>?_) ?_
         ·skip
          skip
          refine withs_plain rfl ?_
          simp only [withs,List.getElem?_cons_zero,List.getElem?_cons_succ,Option.bind,Option.getD]
          repeat (with_reducible refine all_isV ?_)
          go_simp
          exact⟨Only.refl _ _,isV.self _ _⟩
         refine owes2_cons (fun wx hox=>?_) ?_
         ·skip
          skip
          refine withs_plain rfl ?_
          simp only [withs,List.getElem?_cons_zero,List.getElem?_cons_succ,Option.bind,Option.getD]
          repeat (with_reducible refine all_isV ?_)
          go_simp
          exact⟨Only.refl _ _,isV.self _ _⟩
         refine owes2_cons (fun wx hox=>?_) ?_
         ·skip
          skip
          refine withs_plain rfl ?_
          simp only [withs,List.getElem?_cons_zero,List.getElem?_cons_succ,Option.bind,Option.getD]
          repeat (with_reducible refine all_isV ?_)
          go_simp
          exact⟨Only.refl _ _,isV.self _ _⟩
         refine owes2_cons (fun wx hox=>?_) ?_
         ·skip
          skip
          refine withs_plain rfl ?_
          simp only [withs,List.getElem?_cons_zero,List.getElem?_cons_succ,Option.bind,Option.getD]
          repeat (with_reducible refine all_isV ?_)
          go_simp
          exact⟨Only.refl _ _,isV.self _ _⟩
         exact owes2_nil
        case he=>
         intro wx hox
         refine withs_of (by simp only [List.length,List.range,List.range.loop];exact rfl) ?_
         simp only [withs,List.getElem?_cons_zero,List.getElem?_cons_succ,Option.bind,Option.getD]
         repeat (with_reducible refine all_isV ?_)
         go_simp
         go_wp2_with fail
         go_ret
         exact⟨rfl,HK.out.only.nil_trans hox⟩
        case hl=>
         repeat (refine List.forall_mem_cons.2 ⟨?_,?_⟩;exact isV.lasts _)
         exact fun _ h=>(by cases h)
      ·exact absurd huv huvne
      ·have hnv:decide (u<v)=false:=decide_eq_false (by omega)
       by_cases hp0:0<p
       ·obtain rfl:p=1:=by have:=HR.out;omega
        obtain rfl:r=1:=HTg.out rfl (by omega) huv
        clear hp0 huv
        go_upto_region 9 with fail
        clear i0 i1 i2 j0 j1 j2
        apply wp_region_typed2 (by kernel_rfl) [isV _,isV _,isV _,isV _,isV _,isV _,isV _,isV _] [[],[0],[],[2],[1,3],[],[5],[4,6]] (by kernel_rfl) (by kernel_rfl)
        case ho=>
         refine owes2_cons (fun wx hox=>?_) ?_
         ·skip
          have hk:=HK.out.step hox
          obtain⟨i0,i1,i2,-,-,-⟩:=hk.c3 1 rfl
          obtain⟨j0,j1,j2,-,-,-⟩:=hk.c3 0 rfl
          clear hk
          refine withs_plain rfl ?_
          simp only [withs,List.getElem?_cons_zero,List.getElem?_cons_succ,Option.bind,Option.getD]
          repeat (with_reducible refine all_isV ?_)
          go_simp
          exact⟨Only.refl _ _,isV.self _ _⟩
         refine owes2_cons (fun wx hox=>?_) ?_
         ·skip
          have hk:=HK.out.step hox
          obtain⟨i0,i1,i2,-,-,-⟩:=hk.c3 1 rfl
          obtain⟨j0,j1,j2,-,-,-⟩:=hk.c3 0 rfl
          clear hk
          refine withs_plain rfl ?_
          simp only [withs,List.getElem?_cons_zero,List.getElem?_cons_succ,Option.bind,Option.getD]
          repeat (with_reducible refine all_isV ?_)
          go_simp
          (with_reducible exact grow_of (rtop_d u (RD.of (hid (HVx.out.only hox)) HCx) bx (by omega) HU.out))
         refine owes2_cons (fun wx hox=>?_) ?_
         ·skip
          have hk:=HK.out.step hox
          obtain⟨i0,i1,i2,-,-,-⟩:=hk.c3 1 rfl
          obtain⟨j0,j1,j2,-,-,-⟩:=hk.c3 0 rfl
          clear hk
          refine withs_plain rfl ?_
          simp only [withs,List.getElem?_cons_zero,List.getElem?_cons_succ,Option.bind,Option.getD]
          repeat (with_reducible refine all_isV ?_)
          go_simp
          exact⟨Only.refl _ _,isV.self _ _⟩
         refine owes2_cons (fun wx hox=>?_) ?_
         ·skip
          have hk:=HK.out.step hox
          obtain⟨i0,i1,i2,-,-,-⟩:=hk.c3 1 rfl
          obtain⟨j0,j1,j2,-,-,-⟩:=hk.c3 0 rfl
          clear hk
          refine withs_plain rfl ?_
          simp only [withs,List.getElem?_cons_zero,List.getElem?_cons_succ,Option.bind,Option.getD]
          repeat (with_reducible refine all_isV ?_)
          go_simp
          (with_reducible exact grow_of (rtop_d v (RD.of (hid (HVy.out.only hox)) HCy) by_ (by omega) HW.out))
         refine owes2_cons (fun wx hox=>?_) ?_
         ·skip
          skip
          refine withs_plain rfl ?_
          simp only [withs,List.getElem?_cons_zero,List.getElem?_cons_succ,Option.bind,Option.getD]
          repeat (with_reducible refine all_isV ?_)
          go_simp
          exact⟨Only.refl _ _,isV.self _ _⟩
         refine owes2_cons (fun wx hox=>?_) ?_
         ·skip
          skip
          refine withs_plain rfl ?_
          simp only [withs,List.getElem?_cons_zero,List.getElem?_cons_succ,Option.bind,Option.getD]
          repeat (with_reducible refine all_isV ?_)
          go_simp
          exact⟨Only.refl _ _,isV.self _ _⟩
         refine owes2_cons (fun wx hox=>?_) ?_
         ·skip
          skip
          refine withs_plain rfl ?_
          simp only [withs,List.getElem?_cons_zero,List.getElem?_cons_succ,Option.bind,Option.getD]
          repeat (with_reducible refine all_isV ?_)
          go_simp
          exact⟨Only.refl _ _,isV.self _ _⟩
         refine owes2_cons (fun wx hox=>?_) ?_
         ·skip
          skip
          refine withs_plain rfl ?_
          simp only [withs,List.getElem?_cons_zero,List.getElem?_cons_succ,Option.bind,Option.getD]
          repeat (with_reducible refine all_isV ?_)
          go_simp
          exact⟨Only.refl _ _,isV.self _ _⟩
         exact owes2_nil
        case he=>
         intro wx hox
         refine withs_of (by simp only [List.length,List.range,List.range.loop];exact rfl) ?_
         simp only [withs,List.getElem?_cons_zero,List.getElem?_cons_succ,Option.bind,Option.getD]
         repeat (with_reducible refine all_isV ?_)
         go_simp
         go_wp2_with fail
         go_ret
         exact⟨rfl,HK.out.only.nil_trans hox⟩
        case hl=>
         repeat (refine List.forall_mem_cons.2 ⟨?_,?_⟩;exact isV.lasts _)
         exact fun _ h=>(by cases h)
       ·obtain rfl:p= -1:=by have:=HR.out;have:=HP0.out;omega
        obtain rfl:r= -1:=HTg.out rfl (by omega) huv
        clear hp0 huv
        go_upto_region 9 with fail
        clear i0 i1 i2 j0 j1 j2
        apply wp_region_typed2 (by kernel_rfl) [isV _,isV _,isV _,isV _,isV _,isV _,isV _,isV _] [[],[0],[],[2],[1,3],[],[5],[4,6]] (by kernel_rfl) (by kernel_rfl)
        case ho=>
         refine owes2_cons (fun wx hox=>?_) ?_
         ·skip
          have hk:=HK.out.step hox
          obtain⟨i0,i1,i2,-,-,-⟩:=hk.c3 1 rfl
          obtain⟨j0,j1,j2,-,-,-⟩:=hk.c3 0 rfl
          clear hk
          refine withs_plain rfl ?_
          simp only [withs,List.getElem?_cons_zero,List.getElem?_cons_succ,Option.bind,Option.getD]
          repeat (with_reducible refine all_isV ?_)
          go_simp
          exact⟨Only.refl _ _,isV.self _ _⟩
         refine owes2_cons (fun wx hox=>?_) ?_
         ·skip
          have hk:=HK.out.step hox
          obtain⟨i0,i1,i2,-,-,-⟩:=hk.c3 1 rfl
          obtain⟨j0,j1,j2,-,-,-⟩:=hk.c3 0 rfl
          clear hk
          refine withs_plain rfl ?_
          simp only [withs,List.getElem?_cons_zero,List.getElem?_cons_succ,Option.bind,Option.getD]
          repeat (with_reducible refine all_isV ?_)
          go_simp
          (with_reducible exact grow_of (rtop_d u (RD.of (hid (HVx.out.only hox)) HCx) bx (by omega) HU.out))
         refine owes2_cons (fun wx hox=>?_) ?_
         ·skip
          have hk:=HK.out.step hox
          obtain⟨i0,i1,i2,-,-,-⟩:=hk.c3 1 rfl
          obtain⟨j0,j1,j2,-,-,-⟩:=hk.c3 0 rfl
          clear hk
          refine withs_plain rfl ?_
          simp only [withs,List.getElem?_cons_zero,List.getElem?_cons_succ,Option.bind,Option.getD]
          repeat (with_reducible refine all_isV ?_)
          go_simp
          exact⟨Only.refl _ _,isV.self _ _⟩
         refine owes2_cons (fun wx hox=>?_) ?_
         ·skip
          have hk:=HK.out.step hox
          obtain⟨i0,i1,i2,-,-,-⟩:=hk.c3 1 rfl
          obtain⟨j0,j1,j2,-,-,-⟩:=hk.c3 0 rfl
          clear hk
          refine withs_plain rfl ?_
          simp only [withs,List.getElem?_cons_zero,List.getElem?_cons_succ,Option.bind,Option.getD]
          repeat (with_reducible refine all_isV ?_)
          go_simp
          (with_reducible exact grow_of (rtop_d v (RD.of (hid (HVy.out.only hox)) HCy) by_ (by omega) HW.out))
         refine owes2_cons (fun wx hox=>?_) ?_
         ·skip
          skip
          refine withs_plain rfl ?_
          simp only [withs,List.getElem?_cons_zero,List.getElem?_cons_succ,Option.bind,Option.getD]
          repeat (with_reducible refine all_isV ?_)
          go_simp
          exact⟨Only.refl _ _,isV.self _ _⟩
         refine owes2_cons (fun wx hox=>?_) ?_
         ·skip
          skip
          refine withs_plain rfl ?_
          simp only [withs,List.getElem?_cons_zero,List.getElem?_cons_succ,Option.bind,Option.getD]
          repeat (with_reducible refine all_isV ?_)
          go_simp
          exact⟨Only.refl _ _,isV.self _ _⟩
         refine owes2_cons (fun wx hox=>?_) ?_
         ·skip
          skip
          refine withs_plain rfl ?_
          simp only [withs,List.getElem?_cons_zero,List.getElem?_cons_succ,Option.bind,Option.getD]
          repeat (with_reducible refine all_isV ?_)
          go_simp
          exact⟨Only.refl _ _,isV.self _ _⟩
         refine owes2_cons (fun wx hox=>?_) ?_
         ·skip
          skip
          refine withs_plain rfl ?_
          simp only [withs,List.getElem?_cons_zero,List.getElem?_cons_succ,Option.bind,Option.getD]
          repeat (with_reducible refine all_isV ?_)
          go_simp
          exact⟨Only.refl _ _,isV.self _ _⟩
         exact owes2_nil
        case he=>
         intro wx hox
         refine withs_of (by simp only [List.length,List.range,List.range.loop];exact rfl) ?_
         simp only [withs,List.getElem?_cons_zero,List.getElem?_cons_succ,Option.bind,Option.getD]
         repeat (with_reducible refine all_isV ?_)
         go_simp
         go_wp2_with fail
         go_ret
         exact⟨rfl,HK.out.only.nil_trans hox⟩
        case hl=>
         repeat (refine List.forall_mem_cons.2 ⟨?_,?_⟩;exact isV.lasts _)
         exact fun _ h=>(by cases h)
    case hl=>
     repeat (refine List.forall_mem_cons.2 ⟨?_,?_⟩;exact isV.lasts _)
     exact fun _ h=>(by cases h)
  ·have hne:(p != q)=true:=by simpa using (show p≠q by omega)
   have hnl: ¬p<q:=by omega
   obtain rfl:r=1:=HGt.out h
   go_wp2_with fail
   go_ret
   exact⟨rfl,HK.out.only⟩
 case hl=>
  repeat (refine List.forall_mem_cons.2 ⟨?_,?_⟩;exact isV.lasts _)
  exact fun _ h=>(by cases h)
set_option maxHeartbeats 1600000 in
set_option maxRecDepth 100000 in
theorem rsame_d {w:World} {a b:Value} {x y:Dy} {N:Nat} (ha:Hid (RD w a x)) (hb:Hid (RD w b y)) (CX:Hid (Can x)) (bx:Hid (Bnd N x)) (by_:Hid (Bnd N y)) (hN:N≤1000000) (he:x=y):Calls Tryz.prog 43 #[a,b] w fun e w'=>e= .returned (.bool true)∧Only [] w w':=by
 obtain⟨s,A,k,c,rfl,hcx,hvx⟩:=ha.out
 obtain⟨t,B,m,d,rfl,hcy,hvy⟩:=hb.out
 have hk:=((KB.start w).new 38 [.bool s,.slice A k c,.int .i64 x.e]).new 38 [.bool t,.slice B m d,.int .i64 y.e]
 simp only [World.size_alloc] at hk
 have HVx:=hid (hvx.only hk.only)
 have HVy:=hid (hvy.only hk.only)
 have HCx:=hid hcx
 have HCy:=hid hcy
 have HK:=hid hk
 obtain⟨i0,i1,i2,-,-,-⟩:=hk.c3 1 rfl
 obtain⟨j0,j1,j2,-,-,-⟩:=hk.c3 0 rfl
 have HCm:=hid (rcmp_d 0 (RD.of HVx HCx) (RD.of HVy HCy) CX bx by_ hN (cmpQ_eq (by rw [he])))
 clear hk hvx hvy hcx hcy ha hb he
 go_enter Tryz.func43,Tryz.ntmps43
 go_wp2_with fail
 (with_reducible refine HCm.out.mono ?_)
 rintro e w2 ⟨rfl,ho⟩
 replace HK:=hid (HK.out.step ho)
 clear ho i0 i1 i2 j0 j1 j2
 go_wp2_with fail
 go_ret
 exact⟨rfl,HK.out.only⟩
set_option maxHeartbeats 1600000 in
set_option maxRecDepth 100000 in
theorem rref_d {w:World} {a:Value} {x:Dy} {N:Nat} (ha:Hid (DV w a x)) (bx:Hid (Bnd N x)) (hN:N≤8000000):Calls Tryz.prog 18 #[a] w (RDP (nrm x.z x.e) w):=by
 have HF:=hid (rd_few bx.out hN)
 have he:=rlim_i64 bx.out hN
 obtain⟨s,A,k,c,rfl,hv⟩:=ha.out
 have hk:=((KB.start w).new 32 [.bool s,.slice A k c,.int .i64 x.e]).new 38 [.bool false,.slice none 0 0,.int .i64 0]
 simp only [World.size_alloc] at hk
 have HM:=hid (hv.mag.only hk.only)
 have HS:Hid (nrm (sg s x.z.natAbs) x.e=nrm x.z x.e):=by show _=_;rw [hv.sign]
 have HK:=hid hk
 clear hk hv ha
 go_enter Tryz.func18,Tryz.ntmps18
 go_upto_region 1 with fail
 apply wp_region_typed_tail2 10 (by kernel_rfl) [isV _,isV _,isV _,isV _,isV _,isV _,isRN x.z.natAbs,isV _,isV _,isRD (nrm x.z x.e)] [[],[0],[1],[],[3],[4],[5],[],[7],[2,6,8]] (by kernel_rfl) (by kernel_rfl) (by kernel_rfl)
 case ho=>
  simp only [List.take_succ_cons,List.take_zero]
  iterate 10
   refine owes2_cons (fun wx hox=>?_) ?_
   ·skip
    have hk:=HK.out.step hox
    obtain⟨i0,i1,i2,-,-,-⟩:=hk.c3 1 rfl
    clear hk
    refine withs_plain rfl ?_
    simp only [withs,List.getElem?_cons_zero,List.getElem?_cons_succ,Option.bind,Option.getD]
    with_reducible repeat first|refine all_isV ?_|(refine all_isRD ?_;intro sx Ax kx cx hvx hwx)|(refine all_isRN ?_;intro Ax kx cx hvx)
    go_simp
    first
    |exact⟨Only.refl _ _,isV.self _ _⟩
    |with_reducible exact grow_rn (from_v (hid (HM.out.only hox)))
    |with_reducible exact grow_rd (rmake_d s x.e (by assumption) HF (by omega) (by omega) HS.out)
  exact owes2_nil
 case he=>
  simp only [List.drop_succ_cons,List.drop_zero]
  intro wx hox
  refine withs_of (by simp only [List.length,List.range,List.range.loop];exact rfl) ?_
  simp only [withs,List.getElem?_cons_zero,List.getElem?_cons_succ,Option.bind,Option.getD]
  with_reducible refine all_isV ?_
  with_reducible refine all_isV ?_
  with_reducible refine all_isV ?_
  with_reducible refine all_isV ?_
  with_reducible refine all_isV ?_
  with_reducible refine all_isV ?_
  with_reducible refine all_isRN ?_
  intro A6 k6 c6 hv6
  with_reducible refine all_isV ?_
  with_reducible refine all_isV ?_
  with_reducible refine all_isRD ?_
  intro s9 A9 k9 c9 hv9 hw9
  go_simp
  have hk:=HK.out.step hox
  obtain⟨q0,q1,q2,f0,f1,f2⟩:=hk.c3 0 rfl
  have HB:=hid (hk.blk 0 rfl)
  have HO:=hid hk.only
  clear hk hox HK
  generalize nrm x.z x.e=r at*
  go_wp2_with fail
  refine bodyPost_ret (v:= .agg #[.bool s9,.slice A9 k9 c9,.int .i64 (r.e)]) (by simp [results,Tryz.results18,go_sem,q0,q1,q2]) rfl ?_
  exact rdfin hv9 hw9 (by omega) HB.out (noLimb3 _ _ _ _ _) HO.out (only_set3 _ _ _ _ _)
 case hl=>
  repeat (refine List.forall_mem_cons.2 ⟨?_,?_⟩;first|exact isV.lasts _|exact isRD.lasts _|exact isRN.lasts _)
  exact fun _ h=>(by cases h)
structure QB (w:World) (g:Nat) (s:Bool) (A:Option Addr) (k c:Nat) (x:Dy):Prop where
 blk:Blk w g 38 [.bool s,.slice A k c,.int .i64 x.e]
 val:RV w (.slice A k c) x.z.natAbs
 cr:Cr s k x.z
theorem QB.new {w:World} {s:Bool} {A:Option Addr} {k c:Nat} {x:Dy} (hv:RV w (.slice A k c) x.z.natAbs) (hc:Cr s k x.z):QB (w.alloc (.cells #[.bool s,.slice A k c,.int .i64 x.e] 38)) w.heap.size s A k c x:=
 ⟨Blk.new w 38 _,hv.only ((Only.refl [] w).alloc _),hc⟩
theorem QB.step {w w':World} {g:Nat} {s:Bool} {A:Option Addr} {k c:Nat} {x:Dy} (h:QB w g s A k c x) (ho:Only [] w w'):QB w' g s A k c x:=⟨h.blk.only ho (by simp),h.val.only ho,h.cr⟩
theorem QB.far {w w':World} {g b:Nat} {s:Bool} {A:Option Addr} {k c:Nat} {x:Dy} {t:TypeId} {cs:List Value} (h:QB w g s A k c x) (ho:Only [b] w w') (hne:g≠b) (hb:Blk w b t cs) (hn:NoLimb cs):QB w' g s A k c x:=
 ⟨h.blk.only ho (by simpa using hne),h.val.farS ho (fun g' hg'=>by rw [List.mem_singleton] at hg';subst hg';exact h.val.far_blk hb hn),h.cr⟩
theorem QB.rd {w:World} {g:Nat} {s:Bool} {A:Option Addr} {k c:Nat} {x:Dy} (h:Hid (QB w g s A k c x)):Hid (RD w (.agg #[.bool s,.slice A k c,.int .i64 x.e]) x):=⟨s,A,k,c,rfl,h.out.cr,h.out.val⟩
theorem QB.cells {w:World} {g:Nat} {s:Bool} {A:Option Addr} {k c:Nat} {x:Dy} (h:Hid (QB w g s A k c x)):w.cell? ⟨g,0,none⟩=some (.bool s)∧w.cell? ⟨g,1,none⟩=some (.slice A k c)∧w.cell? ⟨g,2,none⟩=some (.int .i64 x.e):=⟨h.out.blk.cell 0,h.out.blk.cell 1,h.out.blk.cell 2⟩
end Go.Proofs.YtigpnopeacicpaaGreatDoor
