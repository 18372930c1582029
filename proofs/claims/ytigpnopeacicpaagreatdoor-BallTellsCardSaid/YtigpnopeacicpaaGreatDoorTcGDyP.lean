import Derived.Test.YtigpnopeacicpaaGreatDoorTcGWhA
namespace Go.Proofs.YtigpnopeacicpaaGreatDoor
set_option linter.unusedSimpArgs false
structure Dy where
 z:Int
 e:Int
abbrev p2 (e:Int):Rat:=(2:Rat)^e
theorem p2_pos (e:Int):0<p2 e:=Rat.zpow_pos (by decide)
theorem p2_add (e f:Int):p2 (e+f)=p2 e*p2 f:=Rat.zpow_add (by decide) e f
theorem p2_nat (n:Nat):p2 (n:Int)=((2^n:Int):Rat):=by
 unfold p2
 rw [Rat.zpow_natCast,Rat.intCast_pow]
 rfl
def Dy.q (x:Dy):Rat:=(x.z:Rat)*p2 x.e
theorem q_down (z e:Int) (n:Nat):((z*2^n:Int):Rat)*p2 (e-n)=(z:Rat)*p2 e:=by
 rw [Rat.intCast_mul,←p2_nat,Rat.mul_assoc,←p2_add]
 congr 2
 omega
def nrm (z e:Int):Dy:=if z=0 then ⟨0,0⟩ else ⟨sg (decide (z<0)) (z.natAbs/2^lowN z.natAbs),e+(lowN z.natAbs:Int)⟩
theorem nrm_zero (e:Int):nrm 0 e=⟨0,0⟩:=rfl
theorem nrm_nz {z:Int} (e:Int) (h:z≠0):nrm z e=⟨sg (decide (z<0)) (z.natAbs/2^lowN z.natAbs),e+(lowN z.natAbs:Int)⟩:=by unfold nrm;rw [if_neg h]
theorem nrm_split {z:Int} (h:z≠0): ∃m:Nat,z.natAbs=2^lowN z.natAbs*(2*m+1)∧z.natAbs/2^lowN z.natAbs=2*m+1∧sg (decide (z<0)) (z.natAbs/2^lowN z.natAbs)*2^lowN z.natAbs=z:=by
 obtain⟨m,hm⟩:=lowN_spec (n:=z.natAbs) (by omega)
 have hp:0<2^lowN z.natAbs:=Nat.pow_pos (by omega)
 have hd:z.natAbs/2^lowN z.natAbs=2*m+1:=by
  rw [Nat.div_eq_iff_eq_mul_left hp ⟨_,hm⟩,Nat.mul_comm]
  exact hm
 refine⟨m,hm,hd,?_⟩
 rw [hd]
 have e:((2^lowN z.natAbs*(2*m+1):Nat):Int)=(2:Int)^lowN z.natAbs*(2*(m:Int)+1):=by push_cast;rfl
 generalize (2:Int)^lowN z.natAbs=P at*
 have e2:(z.natAbs:Int)=P*(2*(m:Int)+1):=by rw [← e,←hm]
 rw [Int.mul_comm]
 by_cases h0:z<0
 ·rw [decide_eq_true h0,sg_true]
  push_cast
  rw [Int.mul_neg,←e2]
  omega
 ·rw [decide_eq_false h0,sg_false]
  push_cast
  rw [← e2]
  omega
theorem nrm_q (z e:Int):(nrm z e).q=(z:Rat)*p2 e:=by
 by_cases h:z=0
 ·subst h
  unfold Dy.q
  rw [nrm_zero]
  simp
 ·obtain⟨m,h1,h2,h3⟩:=nrm_split h
  have h4:=q_down (sg (decide (z<0)) (z.natAbs/2^lowN z.natAbs)) (e+(lowN z.natAbs:Int)) (lowN z.natAbs)
  rw [h3,show e+(lowN z.natAbs:Int)-(lowN z.natAbs:Int)=e by omega] at h4
  unfold Dy.q
  rw [nrm_nz e h]
  exact h4.symm
def Can (x:Dy):Prop:=(x.z=0∧x.e=0)∨x.z%2=1
theorem nrm_can (z e:Int):Can (nrm z e):=by
 by_cases h:z=0
 ·subst h
  exact .inl ⟨rfl,rfl⟩
 ·obtain⟨m,h1,h2,h3⟩:=nrm_split h
  right
  rw [nrm_nz e h,h2]
  show sg (decide (z<0)) (2*m+1)%2=1
  cases decide (z<0)<;>simp only [sg_true,sg_false]<;>omega
theorem q_zero {x:Dy}:x.q=0↔x.z=0:=by
 unfold Dy.q
 rw [Rat.mul_eq_zero]
 have:=p2_pos x.e
 constructor
 ·rintro (h|h)
  ·simpa using h
  ·rw [h] at this
   exact absurd this (by decide)
 ·intro h
  left
  rw [h]
  rfl
theorem q_at {x:Dy} {m:Int} (h:m≤x.e):x.q=((x.z*2^(x.e-m).toNat:Int):Rat)*p2 m:=by
 have:=q_down x.z x.e (x.e-m).toNat
 rw [show x.e-((x.e-m).toNat:Int)=m by omega] at this
 exact this.symm
theorem rat_lt_iff {a b:Int} {m:Int}:(a:Rat)*p2 m<(b:Rat)*p2 m↔a<b:=by
 rw [Rat.mul_lt_mul_right (p2_pos m),Rat.intCast_lt_intCast]
theorem rat_le_iff {a b:Int} {m:Int}:(a:Rat)*p2 m≤(b:Rat)*p2 m↔a≤b:=by
 rw [← Rat.not_lt,←Int.not_lt,rat_lt_iff]
theorem rat_eq_iff {a b:Int} {m:Int}:(a:Rat)*p2 m=(b:Rat)*p2 m↔a=b:=by
 constructor
 ·intro h
  have h1: ¬a<b:=fun hc=>by have:=rat_lt_iff (m:=m).2 hc;rw [h] at this;exact Rat.lt_irrefl this
  have h2: ¬b<a:=fun hc=>by have:=rat_lt_iff (m:=m).2 hc;rw [h] at this;exact Rat.lt_irrefl this
  omega
 ·intro h;rw [h]
theorem Can.ext {x y:Dy} (hx:Can x) (hy:Can y) (h:x.q=y.q):x=y:=by
 have key: ∀{x y:Dy},Can x→Can y→x.q=y.q→x.e≤y.e→x=y:=fun {x y} hx hy h he=>by
  have h1:=h
  rw [q_at (x:=x) (m:=x.e) (Int.le_refl _),q_at (x:=y) he,rat_eq_iff] at h1
  rw [Int.sub_self] at h1
  simp only [Int.toNat_zero,Int.pow_zero,Int.mul_one] at h1
  rcases hx with⟨hz,he0⟩|hx
  ·have hyz:y.z=0:=by rw [← q_zero,←h,q_zero];exact hz
   rcases hy with⟨_,he1⟩|hy
   ·cases x;cases y;simp only at *;subst hz he0 hyz he1;rfl
   ·omega
  ·rcases hy with⟨hyz,_⟩|hy
   ·rw [hyz,Int.zero_mul] at h1;omega
   ·by_cases hc:x.e=y.e
    ·cases x;cases y
     simp only at*
     subst hc
     rw [Int.sub_self] at h1
     simp only [Int.toNat_zero,Int.pow_zero,Int.mul_one] at h1
     rw [h1]
    ·obtain⟨k,hk⟩: ∃k,(y.e-x.e).toNat=k+1:=⟨(y.e-x.e).toNat-1,by omega⟩
     rw [hk,Int.pow_succ,←Int.mul_assoc] at h1
     omega
 by_cases hc:x.e≤y.e
 ·exact key hx hy h hc
 ·exact (key hy hx h.symm (by omega)).symm
theorem Can.z0 {x:Dy} (hx:Can x) (h:x.z=0):x=⟨0,0⟩:=by
 rcases hx with⟨h1,h2⟩|h1
 ·cases x;simp only at *;rw [h1,h2]
 ·omega
def dAdd (x y:Dy):Dy:=if x.z=0 then nrm y.z y.e else if y.z=0 then nrm x.z x.e else nrm (x.z*2^(x.e-min x.e y.e).toNat+y.z*2^(y.e-min x.e y.e).toNat) (min x.e y.e)
def dNot (x:Dy):Dy:=nrm (-x.z) x.e
def dSub (x y:Dy):Dy:=dAdd x (dNot y)
def dMul (x y:Dy):Dy:=nrm (x.z*y.z) (x.e+y.e)
theorem dNot_q (x:Dy):(dNot x).q= -x.q:=by
 unfold dNot
 rw [nrm_q]
 unfold Dy.q
 rw [Rat.intCast_neg]
 grind
theorem dAdd_q (x y:Dy):(dAdd x y).q=x.q+y.q:=by
 unfold dAdd
 by_cases h1:x.z=0
 ·rw [if_pos h1,nrm_q,q_zero.2 h1]
  unfold Dy.q
  grind
 ·rw [if_neg h1]
  by_cases h2:y.z=0
  ·rw [if_pos h2,nrm_q,q_zero.2 h2]
   unfold Dy.q
   grind
  ·rw [if_neg h2,nrm_q,q_at (x:=x) (Int.min_le_left x.e y.e),q_at (x:=y) (Int.min_le_right x.e y.e),Rat.intCast_add]
   grind
theorem dSub_q (x y:Dy):(dSub x y).q=x.q-y.q:=by
 unfold dSub
 rw [dAdd_q,dNot_q]
 grind
theorem dMul_q (x y:Dy):(dMul x y).q=x.q*y.q:=by
 unfold dMul
 rw [nrm_q,p2_add,Rat.intCast_mul]
 unfold Dy.q
 grind
theorem dAdd_can (x y:Dy):Can (dAdd x y):=by
 unfold dAdd
 split
 ·exact nrm_can _ _
 ·split<;>exact nrm_can _ _
theorem dNot_can (x:Dy):Can (dNot x):=nrm_can _ _
theorem dSub_can (x y:Dy):Can (dSub x y):=dAdd_can _ _
theorem dMul_can (x y:Dy):Can (dMul x y):=nrm_can _ _
def cmpQ (a b:Rat):Int:=if a<b then -1 else if a=b then 0 else 1
theorem cmpQ_lt {a b:Rat} (h:a<b):cmpQ a b= -1:=by unfold cmpQ;rw [if_pos h]
theorem cmpQ_eq {a b:Rat} (h:a=b):cmpQ a b=0:=by unfold cmpQ;subst h;rw [if_neg Rat.lt_irrefl,if_pos rfl]
theorem cmpQ_gt {a b:Rat} (h:b<a):cmpQ a b=1:=by
 unfold cmpQ
 rw [if_neg (by grind),if_neg (by grind)]
theorem cmpQ_at (a b m:Int):cmpQ ((a:Rat)*p2 m) ((b:Rat)*p2 m)=cmpI a b:=by
 unfold cmpQ cmpI
 simp only [rat_lt_iff,rat_eq_iff]
theorem rat_tri (a b:Rat):a<b∨a=b∨b<a:=by grind
theorem q_sign (x:Dy):cmpQ x.q 0=x.z.sign:=by
 have h:=cmpQ_at x.z 0 x.e
 rw [show ((0:Int):Rat)*p2 x.e=0 by simp] at h
 unfold Dy.q
 rw [h,cmpI_sub,Int.sub_zero]
def topD (x:Dy):Int:=if x.z=0 then 0 else (bitsN x.z.natAbs:Int)+x.e
theorem bitsN_spec {n:Nat} (h:n≠0): ∃b,bitsN n=b+1∧2^b≤n∧n<2^(b+1):=by
 refine⟨Nat.log2 n,by unfold bitsN;rw [if_neg h],?_,?_⟩
 ·exact Nat.log2_self_le h
 ·exact Nat.lt_log2_self
theorem bitsN_lt (n:Nat):n<2^bitsN n:=by
 by_cases h:n=0
 ·subst h;decide
 ·obtain⟨b,h1,h2,h3⟩:=bitsN_spec h
  rw [h1];exact h3
theorem bitsN_le {n k:Nat} (h:n<2^k):bitsN n≤k:=by
 by_cases h0:n=0
 ·subst h0;exact Nat.zero_le _
 ·obtain⟨b,h1,h2,h3⟩:=bitsN_spec h0
  rw [h1]
  apply Nat.lt_of_not_le
  intro hc
  have:=Nat.pow_le_pow_right (n:=2) (by omega) hc
  omega
theorem bitsN_ge {n k:Nat} (h:2^k≤n):k+1≤bitsN n:=by
 have h1:=bitsN_lt n
 apply Nat.lt_of_not_le
 intro hc
 have:=Nat.pow_le_pow_right (n:=2) (by omega) hc
 omega
theorem lowN_lt {n:Nat} (h:n≠0):lowN n<bitsN n:=by
 obtain⟨m,hm⟩:=lowN_spec h
 have h1:2^lowN n≤n:=by
  have h3:=Nat.mul_le_mul_left (2^lowN n) (show 1≤2*m+1 by omega)
  omega
 exact bitsN_ge h1
theorem lowN_le_bits (n:Nat):lowN n≤bitsN n:=by
 by_cases h:n=0
 ·subst h;rw [lowN_zero];exact Nat.zero_le _
 ·exact Nat.le_of_lt (lowN_lt h)
theorem p2_mono {a b:Int} (h:a≤b):p2 a≤p2 b:=by
 have h1:=rat_le_iff (a:=1) (b:=2^(b-a).toNat) (m:=a)
 have h2:=q_down 1 b (b-a).toNat
 rw [show b-((b-a).toNat:Int)=a by omega,Int.one_mul] at h2
 rw [h2] at h1
 have h3:=h1.2 (by have:=Int.pow_pos (n:=2) (m:=(b-a).toNat) (by decide);omega)
 simpa using h3
theorem top_spec {x:Dy} (h:x.z≠0):(0<x.z→p2 (topD x-1)≤x.q∧x.q<p2 (topD x))∧(x.z<0→p2 (topD x-1)≤ -x.q∧ -x.q<p2 (topD x)):=by
 obtain⟨b,h1,h2,h3⟩:=bitsN_spec (n:=x.z.natAbs) (by omega)
 have ht:topD x=(b:Int)+1+x.e:=by unfold topD;rw [if_neg h,h1];omega
 have e1:p2 (topD x-1)=((2^b:Int):Rat)*p2 x.e:=by
  rw [ht,show (b:Int)+1+x.e-1=(b:Int)+x.e by omega,p2_add,p2_nat]
 have e2:p2 (topD x)=((2^(b+1):Int):Rat)*p2 x.e:=by
  rw [ht,show (b:Int)+1+x.e=((b+1:Nat):Int)+x.e by omega,p2_add,p2_nat]
 have c1:((2^b:Nat):Int)=(2:Int)^b:=by push_cast;rfl
 have c2:((2^(b+1):Nat):Int)=(2:Int)^(b+1):=by push_cast;rfl
 rw [e1,e2]
 have hn: -x.q=((-x.z:Int):Rat)*p2 x.e:=by unfold Dy.q;rw [Rat.intCast_neg];grind
 rw [hn]
 unfold Dy.q
 constructor
 ·intro h0
  rw [rat_le_iff,rat_lt_iff,←c1,←c2]
  omega
 ·intro h0
  rw [rat_le_iff,rat_lt_iff,←c1,←c2]
  omega
theorem q_pos {x:Dy}:0<x.q↔0<x.z:=by
 have h:=rat_lt_iff (a:=0) (b:=x.z) (m:=x.e)
 rw [show ((0:Int):Rat)*p2 x.e=0 by simp] at h
 exact h
theorem q_neg {x:Dy}:x.q<0↔x.z<0:=by
 have h:=rat_lt_iff (a:=x.z) (b:=0) (m:=x.e)
 rw [show ((0:Int):Rat)*p2 x.e=0 by simp] at h
 exact h
theorem cmp_sign_lt {x y:Dy} (h:x.z.sign<y.z.sign):cmpQ x.q y.q= -1:=by
 apply cmpQ_lt
 have h1:=q_pos (x:=x);have h2:=q_pos (x:=y);have h3:=q_neg (x:=x);have h4:=q_neg (x:=y)
 have h5:=q_zero (x:=x);have h6:=q_zero (x:=y)
 rcases sign_of x.z with⟨a1,a2⟩|⟨a1,a2⟩|⟨a1,a2⟩<;>rcases sign_of y.z with⟨b1,b2⟩|⟨b1,b2⟩|⟨b1,b2⟩<;>first|omega|skip
 ·rw [h6.2 b2];exact h3.2 a2
 ·have:=h3.2 a2;have:=h2.2 b2;grind
 ·rw [h5.2 a2];exact h2.2 b2
theorem cmpQ_swap (a b:Rat):cmpQ a b= -cmpQ b a:=by
 rcases rat_tri a b with h|h|h
 ·rw [cmpQ_lt h,cmpQ_gt h]
 ·rw [cmpQ_eq h,cmpQ_eq h.symm];rfl
 ·rw [cmpQ_lt h,cmpQ_gt h];rfl
theorem cmp_sign_gt {x y:Dy} (h:y.z.sign<x.z.sign):cmpQ x.q y.q=1:=by
 rw [cmpQ_swap,cmp_sign_lt h];rfl
theorem cmp_zero {x y:Dy} (hx:x.z=0) (hy:y.z=0):cmpQ x.q y.q=0:=cmpQ_eq (by rw [q_zero.2 hx,q_zero.2 hy])
theorem cmp_top_lt {x y:Dy} (hs:x.z.sign=y.z.sign) (h0:x.z≠0) (h:topD x<topD y):cmpQ x.q y.q= -x.z.sign:=by
 have hy0:y.z≠0:=by
  intro hc
  rw [hc] at hs
  rcases sign_of x.z with⟨a1,a2⟩|⟨a1,a2⟩|⟨a1,a2⟩<;>simp at hs<;>omega
 obtain⟨x1,x2⟩:=top_spec h0
 obtain⟨y1,y2⟩:=top_spec hy0
 have hm:=p2_mono (show topD x≤topD y-1 by omega)
 rcases sign_of x.z with⟨a1,a2⟩|⟨a1,a2⟩|⟨a1,a2⟩<;>rcases sign_of y.z with⟨b1,b2⟩|⟨b1,b2⟩|⟨b1,b2⟩<;>first|omega|skip
 ·rw [a1]
  have:=x2 a2;have:=y2 b2
  exact cmpQ_gt (by grind)
 ·rw [a1]
  have:=x1 a2;have:=y1 b2
  exact cmpQ_lt (by grind)
theorem cmp_top_gt {x y:Dy} (hs:x.z.sign=y.z.sign) (h0:y.z≠0) (h:topD y<topD x):cmpQ x.q y.q=x.z.sign:=by
 rw [cmpQ_swap,cmp_top_lt hs.symm h0 h,hs,Int.neg_neg]
def alX (x y:Dy):Int:=x.z*2^(x.e-min x.e y.e).toNat
def alY (x y:Dy):Int:=y.z*2^(y.e-min x.e y.e).toNat
theorem cmp_al (x y:Dy):cmpI (alX x y) (alY x y)=cmpQ x.q y.q:=by
 rw [q_at (x:=x) (Int.min_le_left x.e y.e),q_at (x:=y) (Int.min_le_right x.e y.e),cmpQ_at]
 rfl
theorem dAdd_al {x y:Dy} (hx:x.z≠0) (hy:y.z≠0):dAdd x y=nrm (alX x y+alY x y) (min x.e y.e):=by
 unfold dAdd alX alY
 rw [if_neg hx,if_neg hy]
theorem dAdd_x0 {x y:Dy} (hx:x.z=0):dAdd x y=nrm y.z y.e:=by unfold dAdd;rw [if_pos hx]
theorem dAdd_y0 {x y:Dy} (hx:x.z≠0) (hy:y.z=0):dAdd x y=nrm x.z x.e:=by unfold dAdd;rw [if_neg hx,if_pos hy]
structure Bnd (N:Nat) (x:Dy):Prop where
 z:x.z.natAbs<2^N
 lo: -(N:Int)≤x.e
 hi:x.e≤(N:Int)
theorem two_mono {a b:Nat} (h:a≤b):2^a≤2^b:=Nat.pow_le_pow_right (by omega) h
theorem Bnd.mono {N M:Nat} {x:Dy} (h:Bnd N x) (hn:N≤M):Bnd M x:=⟨Nat.lt_of_lt_of_le h.z (two_mono hn),by have:=h.lo;omega,by have:=h.hi;omega⟩
theorem bnd_nrm {K M N:Nat} {z e:Int} (hz:z.natAbs<2^K) (h1: -(M:Int)≤e) (h2:e≤(M:Int)) (hN:K+M≤N):Bnd N (nrm z e):=by
 by_cases h:z=0
 ·subst h
  exact⟨by rw [nrm_zero];exact Nat.pow_pos (by omega),by rw [nrm_zero];show -(N:Int)≤0;omega,by rw [nrm_zero];show (0:Int)≤N;omega⟩
 ·rw [nrm_nz e h]
  have h3:=lowN_lt (n:=z.natAbs) (by omega)
  have h4:=bitsN_le hz
  refine⟨?_,?_,?_⟩
  ·show (sg _ _).natAbs<_
   rw [sg_abs]
   exact Nat.lt_of_le_of_lt (Nat.div_le_self _ _) (Nat.lt_of_lt_of_le hz (two_mono (by omega)))
  ·show _≤e+_
   omega
  ·show e+_≤_
   omega
theorem abs_shl_lt {z:Int} {N k:Nat} (h:z.natAbs<2^N):(z*2^k).natAbs<2^(N+k):=by
 rw [Int.natAbs_mul,Int.natAbs_pow,Nat.pow_add]
 exact Nat.mul_lt_mul_of_pos_right h (Nat.pow_pos (by decide))
theorem abs_add_lt {a b:Int} {N:Nat} (ha:a.natAbs<2^N) (hb:b.natAbs<2^N):(a+b).natAbs<2^(N+1):=by rw [Nat.pow_succ];omega
theorem abs_mul_lt {a b:Int} {N M:Nat} (ha:a.natAbs<2^N) (hb:b.natAbs<2^M):(a*b).natAbs<2^(N+M):=by
 rw [Int.natAbs_mul,Nat.pow_add]
 exact Nat.mul_lt_mul_of_lt_of_lt ha hb
theorem Bnd.not {N M:Nat} {x:Dy} (h:Bnd N x) (hM:2*N≤M):Bnd M (dNot x):=bnd_nrm (by rw [Int.natAbs_neg];exact h.z) h.lo h.hi (by omega)
theorem Bnd.norm {N M:Nat} {x:Dy} (h:Bnd N x) (hM:2*N≤M):Bnd M (nrm x.z x.e):=bnd_nrm h.z h.lo h.hi (by omega)
theorem Bnd.alX {N:Nat} {x y:Dy} (h:Bnd N x) (h':Bnd N y):(alX x y).natAbs<2^(3*N):=by
 have h1:=abs_shl_lt (k:=(x.e-min x.e y.e).toNat) h.z
 have:=h.lo;have:=h.hi;have:=h'.lo;have:=h'.hi
 exact Nat.lt_of_lt_of_le h1 (two_mono (by omega))
theorem Bnd.alY {N:Nat} {x y:Dy} (h:Bnd N x) (h':Bnd N y):(alY x y).natAbs<2^(3*N):=by
 have h1:=abs_shl_lt (k:=(y.e-min x.e y.e).toNat) h'.z
 have:=h.lo;have:=h.hi;have:=h'.lo;have:=h'.hi
 exact Nat.lt_of_lt_of_le h1 (two_mono (by omega))
theorem Bnd.add {N M:Nat} {x y:Dy} (h:Bnd N x) (h':Bnd N y) (hM:4*N+1≤M):Bnd M (dAdd x y):=by
 by_cases hx:x.z=0
 ·rw [dAdd_x0 hx];exact h'.norm (by omega)
 ·by_cases hy:y.z=0
  ·rw [dAdd_y0 hx hy];exact h.norm (by omega)
  ·rw [dAdd_al hx hy]
   have:=h.lo;have:=h.hi;have:=h'.lo;have:=h'.hi
   exact bnd_nrm (K:=3*N+1) (M:=N) (abs_add_lt (h.alX h') (h.alY h')) (by omega) (by omega) (by omega)
theorem Bnd.sub {N M:Nat} {x y:Dy} (h:Bnd N x) (h':Bnd N y) (hM:8*N+1≤M):Bnd M (dSub x y):=(h.mono (show N≤2*N by omega)).add (h'.not (Nat.le_refl _)) (by omega)
theorem Bnd.mul {N M:Nat} {x y:Dy} (h:Bnd N x) (h':Bnd N y) (hM:4*N≤M):Bnd M (dMul x y):=by
 have:=h.lo;have:=h.hi;have:=h'.lo;have:=h'.hi
 exact bnd_nrm (K:=N+N) (M:=2*N) (abs_mul_lt h.z h'.z) (by omega) (by omega) (by omega)
theorem bb_two_pow (n:Nat):BB^n=2^(64*n):=by rw [BB_pow,←Nat.pow_mul]
theorem few_two_pow {n N:Nat} (h:n<2^N) (hN:N≤60000000):Few n:=by
 unfold Few
 rw [bb_two_pow]
 exact Nat.lt_of_lt_of_le h (two_mono (by rw [MX_val];omega))
def Short (P:Nat) (s:Dy):Prop:=s.z.natAbs<2^P
theorem short_bits {P:Nat} {s:Dy}:Short P s↔bitsN s.z.natAbs≤P:=by
 unfold Short
 constructor
 ·exact bitsN_le
 ·intro h
  exact Nat.lt_of_lt_of_le (bitsN_lt _) (two_mono h)
structure Rd (P:Nat) (up:Bool) (le ge:Rat→Prop) (r:Dy):Prop where
 can:Can r
 short:Short P r
 dn:up=false→le r.q∧ ∀s,Short P s→le s.q→s.q≤r.q
 upw:up=true→ge r.q∧ ∀s,Short P s→ge s.q→r.q≤s.q
theorem Rd.congr {P:Nat} {up:Bool} {le ge le' ge':Rat→Prop} {r:Dy} (h:Rd P up le ge r) (h1: ∀s,Short P s→(le s.q↔le' s.q)) (h2: ∀s,Short P s→(ge s.q↔ge' s.q)):Rd P up le' ge' r:=
 ⟨h.can,h.short,fun hu=>⟨(h1 _ h.short).1 (h.dn hu).1,fun s hs hl=>(h.dn hu).2 s hs ((h1 s hs).2 hl)⟩,fun hu=>⟨(h2 _ h.short).1 (h.upw hu).1,fun s hs hl=>(h.upw hu).2 s hs ((h2 s hs).2 hl)⟩⟩
theorem rat_le_antisymm {a b:Rat} (h:a≤b) (h':b≤a):a=b:=by grind
theorem Rd.unique {P:Nat} {up:Bool} {le ge:Rat→Prop} {r r':Dy} (h:Rd P up le ge r) (h':Rd P up le ge r'):r=r':=by
 apply Can.ext h.can h'.can
 cases up
 ·exact rat_le_antisymm ((h'.dn rfl).2 r h.short (h.dn rfl).1) ((h.dn rfl).2 r' h'.short (h'.dn rfl).1)
 ·exact rat_le_antisymm ((h.upw rfl).2 r' h'.short (h'.upw rfl).1) ((h'.upw rfl).2 r h.short (h.upw rfl).1)
theorem gap_none {P m:Nat} {E:Int} (hP:1≤P) (hm:2^(P-1)≤m) {s:Dy} (hs:Short P s) (h1:((m:Int):Rat)*p2 E<s.q) (h2:s.q<(((m:Int)+1:Int):Rat)*p2 E):False:=by
 by_cases he:E≤s.e
 ·rw [q_at he] at h1 h2
  rw [rat_lt_iff] at h1 h2
  omega
 ·have e1:=q_down (m:Int) E (E-s.e).toNat
  rw [show E-((E-s.e).toNat:Int)=s.e by omega] at e1
  rw [← e1] at h1
  unfold Dy.q at h1
  rw [rat_lt_iff] at h1
  obtain⟨k,hk⟩: ∃k,(E-s.e).toNat=k+1:=⟨(E-s.e).toNat-1,by omega⟩
  rw [hk] at h1
  have h3:s.z.natAbs<2^P:=hs
  have h4:2^P=2^(P-1)*2:=by rw [← Nat.pow_succ];congr 1;omega
  have h5:(m:Int)*2^(k+1)=((m*2^k*2:Nat):Int):=by push_cast;rw [Int.pow_succ,Int.mul_assoc]
  have h6:m*1≤m*2^k:=Nat.mul_le_mul_left _ (Nat.pow_pos (by omega))
  rw [h5] at h1
  omega
theorem gap_le {P m:Nat} {E:Int} (hP:1≤P) (hm:2^(P-1)≤m) {s:Dy} (hs:Short P s) (h2:s.q<(((m:Int)+1:Int):Rat)*p2 E):s.q≤((m:Int):Rat)*p2 E:=by
 have:=fun h1=>gap_none hP hm hs h1 h2
 grind
theorem gap_ge {P m:Nat} {E:Int} (hP:1≤P) (hm:2^(P-1)≤m) {s:Dy} (hs:Short P s) (h1:((m:Int):Rat)*p2 E<s.q):(((m:Int)+1:Int):Rat)*p2 E≤s.q:=by
 have:=fun h2=>gap_none hP hm hs h1 h2
 grind
def Dy.opp (s:Dy):Dy:=⟨-s.z,s.e⟩
theorem opp_q (s:Dy):s.opp.q= -s.q:=by
 unfold Dy.opp Dy.q
 rw [Rat.intCast_neg]
 grind
theorem opp_short {P:Nat} {s:Dy} (h:Short P s):Short P s.opp:=by
 unfold Short Dy.opp at*
 rw [Int.natAbs_neg];exact h
def widthP (p:Int):Nat:=(max 1 (min p 65536)).toNat
theorem widthP_range (p:Int):1≤widthP p∧widthP p≤65536:=by unfold widthP;omega
def rndD (P:Nat) (up:Bool) (x:Dy):Dy:=
 if bitsN (nrm x.z x.e).z.natAbs≤P then nrm x.z x.e
 else nrm (sg (decide ((nrm x.z x.e).z<0)) ((nrm x.z x.e).z.natAbs/2^(bitsN (nrm x.z x.e).z.natAbs-P)+if decide ((nrm x.z x.e).z<0) != up then 1 else 0)) ((nrm x.z x.e).e+((bitsN (nrm x.z x.e).z.natAbs-P:Nat):Int))
theorem nrm_short {P:Nat} (s:Bool) (m:Nat) (E:Int) (hP:1≤P) (hm:m≤2^P):Short P (nrm (sg s m) E):=by
 unfold Short
 by_cases h0:m=0
 ·subst h0
  rw [sg_zero,nrm_zero]
  exact Nat.pow_pos (by omega)
 ·have hz:sg s m≠0:=by cases s<;>simp only [sg_true,sg_false]<;>omega
  rw [nrm_nz E hz]
  show (sg _ _).natAbs<_
  rw [sg_abs,sg_abs]
  by_cases h1:m=2^P
  ·have:lowN m=P:=by
    rw [h1]
    have:=lowN_is P 0
    simpa using this
   rw [this,h1,Nat.div_self (Nat.pow_pos (by omega))]
   have:=two_mono hP
   omega
  ·exact Nat.lt_of_le_of_lt (Nat.div_le_self _ _) (by omega)
theorem cut_odd {z:Nat} {P:Nat} (hP:1≤P) (hz:z%2=1) (hb:P<bitsN z):2^(P-1)≤z/2^(bitsN z-P)∧z/2^(bitsN z-P)<2^P∧z/2^(bitsN z-P)*2^(bitsN z-P)<z∧z<(z/2^(bitsN z-P)+1)*2^(bitsN z-P):=by
 obtain⟨b,h1,h2,h3⟩:=bitsN_spec (n:=z) (by omega)
 rw [h1]
 obtain⟨n,hn⟩: ∃n,b+1-P=n+1:=⟨b-P,by omega⟩
 rw [hn]
 have hp:0<2^(n+1):=Nat.pow_pos (by omega)
 have h4:=Nat.div_add_mod z (2^(n+1))
 have h5:=Nat.mod_lt z hp
 refine⟨?_,?_,?_,?_⟩
 ·rw [Nat.le_div_iff_mul_le hp,←Nat.pow_add]
  rw [show P-1+(n+1)=b by omega]
  exact h2
 ·rw [Nat.div_lt_iff_lt_mul hp,←Nat.pow_add,show P+(n+1)=b+1 by omega]
  exact h3
 ·rw [Nat.mul_comm]
  have h6:z%2^(n+1)≠0:=by
   intro hc
   have h7:z=2*(2^n*(z/2^(n+1))):=by
    rw [hc,Nat.add_zero] at h4
    rw [← Nat.mul_assoc,Nat.mul_comm 2 (2^n),←Nat.pow_succ]
    exact h4.symm
   omega
  omega
 ·rw [Nat.add_mul,Nat.one_mul,Nat.mul_comm]
  omega
theorem sg_q (s:Bool) (m:Nat) (E:Int):((sg s m:Int):Rat)*p2 E=if s then -(((m:Int):Rat)*p2 E) else ((m:Int):Rat)*p2 E:=by
 cases s
 ·rw [sg_false];rfl
 ·rw [sg_true,Rat.intCast_neg];simp;grind
theorem rnd_rd (P:Nat) (up:Bool) (x:Dy) (hP:1≤P):Rd P up (· ≤x.q) (x.q≤ ·) (rndD P up x):=by
 unfold rndD
 have hq:=nrm_q x.z x.e
 have hc:=nrm_can x.z x.e
 have hq':(nrm x.z x.e).q=x.q:=hq
 clear hq
 generalize nrm x.z x.e=y at*
 by_cases hb:bitsN y.z.natAbs≤P
 ·rw [if_pos hb,←hq']
  exact⟨hc,short_bits.2 hb,fun _=>⟨Rat.le_refl,fun s _ h=>h⟩,fun _=>⟨Rat.le_refl,fun s _ h=>h⟩⟩
 ·rw [if_neg hb]
  have hodd:y.z%2=1:=by
   rcases hc with⟨h1,_⟩|h1
   ·exfalso;apply hb;rw [h1];show bitsN 0≤P;unfold bitsN;simp
   ·exact h1
  obtain⟨c1,c2,c3,c4⟩:=cut_odd (z:=y.z.natAbs) hP (by omega) (by omega)
  have hn:y.z.natAbs=y.z.natAbs:=rfl
  generalize hN:bitsN y.z.natAbs-P=n at*
  generalize hM:y.z.natAbs/2^n=m at*
  have e1:((y.z.natAbs:Int):Rat)*p2 y.e=((y.z.natAbs:Int):Rat)*p2 y.e:=rfl
  have d1:=q_down (m:Int) (y.e+(n:Int)) n
  have d2:=q_down ((m:Int)+1) (y.e+(n:Int)) n
  rw [show y.e+(n:Int)-(n:Int)=y.e by omega] at d1 d2
  have l1:((m:Int):Rat)*p2 (y.e+(n:Int))<((y.z.natAbs:Int):Rat)*p2 y.e:=by
   rw [← d1,rat_lt_iff]
   have:((m*2^n:Nat):Int)=(m:Int)*2^n:=by push_cast;rfl
   omega
  have l2:((y.z.natAbs:Int):Rat)*p2 y.e<(((m:Int)+1:Int):Rat)*p2 (y.e+(n:Int)):=by
   rw [← d2,rat_lt_iff]
   have:(((m+1)*2^n:Nat):Int)=((m:Int)+1)*2^n:=by push_cast;rfl
   omega
  have hyq:y.q=if decide (y.z<0) then -(((y.z.natAbs:Int):Rat)*p2 y.e) else ((y.z.natAbs:Int):Rat)*p2 y.e:=by
   rw [← sg_q,sg_self];rfl
  clear d1 d2 e1 hn hN hM c3 c4 hb hodd hc
  generalize y.e+(n:Int)=E at*
  generalize ((y.z.natAbs:Int):Rat)*p2 y.e=T at*
  generalize decide (y.z<0)=s at*
  rw [← hq']
  have hgl: ∀s,Short P s→s.q<(((m:Int)+1:Int):Rat)*p2 E→s.q≤((m:Int):Rat)*p2 E:=fun s hs h=>gap_le hP c1 hs h
  have hgg: ∀s,Short P s→((m:Int):Rat)*p2 E<s.q→(((m:Int)+1:Int):Rat)*p2 E≤s.q:=fun s hs h=>gap_ge hP c1 hs h
  have hc1:((m+1:Nat):Int)=(m:Int)+1:=by push_cast;rfl
  refine⟨nrm_can _ _,nrm_short _ _ _ hP (by split<;>omega),fun hu=>?_,fun hu=>?_⟩
  ·subst hu
   rw [nrm_q,sg_q]
   cases s
   ·simp only [bne_self_eq_false,Bool.false_eq_true,if_false,Nat.add_zero] at hyq ⊢
    rw [hyq]
    exact⟨by grind,fun s' hs' hl=>hgl s' hs' (by grind)⟩
   ·simp only [Bool.bne_false,if_true] at hyq ⊢
    rw [hyq,hc1]
    refine⟨by grind,fun s' hs' hl=>?_⟩
    have h1:=hgg _ (opp_short hs') (by rw [opp_q];grind)
    rw [opp_q] at h1
    grind
  ·subst hu
   rw [nrm_q,sg_q]
   cases s
   ·simp only [Bool.bne_true,Bool.not_false,if_true,Bool.false_eq_true,if_false] at hyq ⊢
    rw [hyq,hc1]
    exact⟨by grind,fun s' hs' hl=>hgg s' hs' (by grind)⟩
   ·simp only [bne_self_eq_false,Bool.false_eq_true,if_false,if_true,Nat.add_zero] at hyq ⊢
    rw [hyq]
    refine⟨by grind,fun s' hs' hl=>?_⟩
    have h1:=hgl _ (opp_short hs') (by rw [opp_q];grind)
    rw [opp_q] at h1
    grind
def betD (P:Nat) (up neg:Bool) (q:Nat) (E:Int) (more:Bool):Dy:=rndD P up (nrm (sg neg (if more then q*2+1 else q)) (if more then E-1 else E))
theorem mid_q (q:Nat) (E:Int):((q:Int):Rat)*p2 E<(((q*2+1:Nat):Int):Rat)*p2 (E-1)∧(((q*2+1:Nat):Int):Rat)*p2 (E-1)<(((q:Int)+1:Int):Rat)*p2 E:=by
 have d1:=q_down (q:Int) E 1
 have d2:=q_down ((q:Int)+1) E 1
 rw [← d1,←d2]
 show _*p2 (E-1)<_∧_<_*p2 (E-1)
 rw [rat_lt_iff,rat_lt_iff]
 omega
theorem bet_val (P:Nat) (up neg:Bool) (q:Nat) (E:Int) (more:Bool) (hP:1≤P): ∃R:Rat,Rd P up (· ≤(if neg then -R else R)) ((if neg then -R else R)≤ ·) (betD P up neg q E more)∧
  (more=true→((q:Int):Rat)*p2 E<R∧R<(((q:Int)+1:Int):Rat)*p2 E)∧(more=false→R=((q:Int):Rat)*p2 E):=by
 have h:=rnd_rd P up (nrm (sg neg (if more then q*2+1 else q)) (if more then E-1 else E)) hP
 rw [nrm_q,sg_q] at h
 refine⟨_,h,fun hm=>?_,fun hm=>?_⟩
 ·subst hm
  exact mid_q q E
 ·subst hm
  rfl
theorem bet_rd {P:Nat} {up neg:Bool} {q:Nat} {E:Int} {more:Bool} {T:Rat} (hP:1≤P) (h1:more=true→((q:Int):Rat)*p2 E<T∧T<(((q:Int)+1:Int):Rat)*p2 E) (h2:more=false→T=((q:Int):Rat)*p2 E) (hq:more=true→2^(P-1)≤q):
  Rd P up (· ≤(if neg then -T else T)) ((if neg then -T else T)≤ ·) (betD P up neg q E more):=by
 obtain⟨R,hr,r1,r2⟩:=bet_val P up neg q E more hP
 cases more
 ·rw [h2 rfl,←r2 rfl];exact hr
 ·obtain⟨a1,a2⟩:=h1 rfl
  obtain⟨b1,b2⟩:=r1 rfl
  have hgl: ∀s,Short P s→s.q<(((q:Int)+1:Int):Rat)*p2 E→s.q≤((q:Int):Rat)*p2 E:=fun s hs h=>gap_le hP (hq rfl) hs h
  have hgg: ∀s,Short P s→((q:Int):Rat)*p2 E<s.q→(((q:Int)+1:Int):Rat)*p2 E≤s.q:=fun s hs h=>gap_ge hP (hq rfl) hs h
  cases neg
  ·simp only [Bool.false_eq_true,if_false] at hr ⊢
   refine hr.congr (fun s hs=>⟨fun h=>?_,fun h=>?_⟩) (fun s hs=>⟨fun h=>?_,fun h=>?_⟩)
   ·have:=hgl s hs (by grind);grind
   ·have:=hgl s hs (by grind);grind
   ·have:=hgg s hs (by grind);grind
   ·have:=hgg s hs (by grind);grind
  ·simp only [if_true] at hr ⊢
   refine hr.congr (fun s hs=>⟨fun h=>?_,fun h=>?_⟩) (fun s hs=>⟨fun h=>?_,fun h=>?_⟩)
   ·have:=hgg _ (opp_short hs) (by rw [opp_q];grind);rw [opp_q] at this;grind
   ·have:=hgg _ (opp_short hs) (by rw [opp_q];grind);rw [opp_q] at this;grind
   ·have:=hgl _ (opp_short hs) (by rw [opp_q];grind);rw [opp_q] at this;grind
   ·have:=hgl _ (opp_short hs) (by rw [opp_q];grind);rw [opp_q] at this;grind
theorem sq_le {a b:Rat} (h0:0≤a) (h:a≤b):a*a≤b*b:=by
 have h1:=Rat.mul_le_mul_of_nonneg_left h h0
 have h2:=Rat.mul_le_mul_of_nonneg_right h (Rat.le_trans h0 h)
 exact Rat.le_trans h1 h2
theorem sq_lt_of {a b:Rat} (h0:0≤b) (h:a*a<b*b):a<b:=by
 apply Decidable.byContradiction
 intro hc
 have:=sq_le h0 (Rat.not_lt.1 hc)
 grind
theorem sq_le_of {a b:Rat} (h0:0≤b) (h:a*a≤b*b):a≤b:=by
 apply Decidable.byContradiction
 intro hc
 have h3:b<a:=Rat.not_le.1 hc
 have h1:=Rat.mul_le_mul_of_nonneg_left (Rat.le_of_lt h3) h0
 have h2:=Rat.mul_lt_mul_of_pos_right h3 (show 0<a by grind)
 grind
def leRt (X:Rat) (s:Rat):Prop:=s≤0∨s*s≤X
def geRt (X:Rat) (s:Rat):Prop:=0≤s∧X≤s*s
theorem q_nonneg (q:Nat) (E:Int):0≤((q:Int):Rat)*p2 E:=by
 have:=rat_le_iff (a:=0) (b:=(q:Int)) (m:=E)
 rw [show ((0:Int):Rat)*p2 E=0 by simp] at this
 exact this.2 (by omega)
theorem bet_rt {P:Nat} {up:Bool} {q:Nat} {E:Int} {more:Bool} {X:Rat} (hP:1≤P)
  (h1:more=true→(((q:Int):Rat)*p2 E)*(((q:Int):Rat)*p2 E)<X∧X<((((q:Int)+1:Int):Rat)*p2 E)*((((q:Int)+1:Int):Rat)*p2 E))
  (h2:more=false→X=(((q:Int):Rat)*p2 E)*(((q:Int):Rat)*p2 E)) (hq:more=true→2^(P-1)≤q):
  Rd P up (leRt X) (geRt X) (betD P up false q E more):=by
 obtain⟨R,hr,r1,r2⟩:=bet_val P up false q E more hP
 simp only [Bool.false_eq_true,if_false] at hr
 have q0:=q_nonneg q E
 cases more
 ·have hX:=h2 rfl
  have hR:=r2 rfl
  subst hR
  rw [hX]
  generalize ((q:Int):Rat)*p2 E=A at*
  refine hr.congr (fun s hs=>⟨fun h=>?_,fun h=>?_⟩) (fun s hs=>⟨fun h=>?_,fun h=>?_⟩)
  ·by_cases h0:s.q≤0
   ·exact .inl h0
   ·exact .inr (sq_le (by grind) h)
  ·rcases h with h|h
   ·grind
   ·exact sq_le_of q0 h
  ·exact⟨by grind,sq_le q0 h⟩
  ·exact sq_le_of h.1 h.2
 ·obtain⟨a1,a2⟩:=h1 rfl
  obtain⟨b1,b2⟩:=r1 rfl
  have hgl: ∀s,Short P s→s.q<(((q:Int)+1:Int):Rat)*p2 E→s.q≤((q:Int):Rat)*p2 E:=fun s hs h=>gap_le hP (hq rfl) hs h
  have hgg: ∀s,Short P s→((q:Int):Rat)*p2 E<s.q→(((q:Int)+1:Int):Rat)*p2 E≤s.q:=fun s hs h=>gap_ge hP (hq rfl) hs h
  generalize ((q:Int):Rat)*p2 E=A at*
  generalize (((q:Int)+1:Int):Rat)*p2 E=B at*
  refine hr.congr (fun s hs=>⟨fun h=>?_,fun h=>?_⟩) (fun s hs=>⟨fun h=>?_,fun h=>?_⟩)
  ·by_cases h0:s.q≤0
   ·exact .inl h0
   ·have h3:=hgl s hs (by grind)
    have:=sq_le (show 0≤s.q by grind) h3
    exact .inr (by grind)
  ·rcases h with h|h
   ·grind
   ·have h3:=hgl s hs (sq_lt_of (by grind) (by grind));grind
  ·have h3:=hgg s hs (by grind)
   have:=sq_le (show 0≤B by grind) h3
   exact⟨by grind,by grind⟩
  ·obtain⟨c1,c2⟩:=h
   have h3:=hgg s hs (sq_lt_of c1 (by grind))
   grind
theorem rat_cancel {a b p:Rat} (hp:0<p) (h:a*p=b*p):a=b:=by
 have h1:(a-b)*p=0:=by grind
 rcases Rat.mul_eq_zero.1 h1 with h|h<;>grind
theorem low_mod {n k:Nat} (h:n≠0):lowN n<k↔n%2^k≠0:=by
 obtain⟨m,hm⟩:=lowN_spec h
 constructor
 ·intro hlt hc
  obtain⟨d,hd⟩:=Nat.dvd_of_mod_eq_zero hc
  have e:2^k=2^lowN n*(2*2^(k-lowN n-1)):=by
   rw [← Nat.pow_succ',←Nat.pow_add];congr 1;omega
  have h1:2^lowN n*(2*m+1)=2^lowN n*(2*2^(k-lowN n-1)*d):=by
   rw [← Nat.mul_assoc,←e,←hd];exact hm.symm
  have h2:=Nat.eq_of_mul_eq_mul_left (Nat.pow_pos (by omega)) h1
  rw [Nat.mul_assoc] at h2
  omega
 ·intro hne
  apply Nat.lt_of_not_le
  intro hc
  apply hne
  apply Nat.mod_eq_zero_of_dvd
  have e:2^lowN n=2^k*2^(lowN n-k):=by rw [← Nat.pow_add];congr 1;omega
  rw [hm,e,Nat.mul_assoc]
  exact Nat.dvd_mul_right _ _
def shN (x:Nat) (n:Int):Nat:=if 0≤n then x*2^n.toNat else x/2^(-n).toNat
def cutB (x:Nat) (n:Int):Bool:=decide (n<0) && decide (lowN x<(-n).toNat)
theorem sh_spec {x:Nat} (hx:x≠0) (n:Int): ∃f:Rat,0≤f∧f<1∧(cutB x n=true↔0<f)∧ ∀E:Int,((x:Int):Rat)*p2 (E+n)=(((shN x n:Nat):Int):Rat)*p2 E+f*p2 E:=by
 unfold shN cutB
 by_cases h:0≤n
 ·rw [if_pos h]
  refine⟨0,by decide,by decide,by simp;omega,fun E=>?_⟩
  have h1:=q_down (x:Int) (E+n) n.toNat
  rw [show E+n-(n.toNat:Int)=E by omega] at h1
  rw [← h1]
  have:((x*2^n.toNat:Nat):Int)=(x:Int)*2^n.toNat:=by push_cast;rfl
  rw [this]
  grind
 ·rw [if_neg h]
  obtain⟨k,hk⟩: ∃k,(-n).toNat=k:=⟨_,rfl⟩
  rw [hk]
  have hp:0<2^k:=Nat.pow_pos (by omega)
  have h1:=Nat.div_add_mod x (2^k)
  have h2:=Nat.mod_lt x hp
  have h3:=low_mod (k:=k) hx
  have hnk:n= -(k:Int):=by omega
  refine⟨((x%2^k:Nat):Int)*p2 (-(k:Int)),q_nonneg _ _,?_,?_,fun E=>?_⟩
  ·have e:(1:Rat)=((2^k:Int):Rat)*p2 (-(k:Int)):=by
    rw [← p2_nat,←p2_add,Int.add_right_neg];rfl
   rw [e,rat_lt_iff]
   have:((2^k:Nat):Int)=(2:Int)^k:=by push_cast;rfl
   omega
  ·have e0:=rat_lt_iff (a:=0) (b:=((x%2^k:Nat):Int)) (m:= -(k:Int))
   rw [show ((0:Int):Rat)*p2 (-(k:Int))=0 by simp] at e0
   rw [e0]
   simp only [Bool.and_eq_true,decide_eq_true_eq,h3]
   omega
  ·rw [hnk,p2_add]
   have e:((x:Int):Rat)=((2^k:Int):Rat)*(((x/2^k:Nat):Int):Rat)+(((x%2^k:Nat):Int):Rat):=by
    rw [← Rat.intCast_mul,←Rat.intCast_add]
    congr 1
    have:((2^k*(x/2^k)+x%2^k:Nat):Int)=(2:Int)^k*((x/2^k:Nat):Int)+((x%2^k:Nat):Int):=by push_cast;rfl
    rw [← this,h1]
   have e2:((2^k:Int):Rat)*p2 (-(k:Int))=1:=by rw [← p2_nat,←p2_add,Int.add_right_neg];rfl
   rw [e]
   generalize (((x/2^k:Nat):Int):Rat)=a at*
   generalize (((x%2^k:Nat):Int):Rat)=b at*
   generalize ((2^k:Int):Rat)=c at*
   generalize p2 (-(k:Int))=d at*
   generalize p2 E=g at*
   have:(c*a+b)*(g*d)=(c*d)*a*g+b*d*g:=by grind
   rw [this,e2]
   grind
theorem sh_big {x b:Nat} {n:Int} (hx:2^b≤x) (h:0≤(b:Int)+n):2^((b:Int)+n).toNat≤shN x n:=by
 unfold shN
 by_cases h0:0≤n
 ·rw [if_pos h0,show ((b:Int)+n).toNat=b+n.toNat by omega,Nat.pow_add]
  exact Nat.mul_le_mul_right _ hx
 ·rw [if_neg h0,Nat.le_div_iff_mul_le (Nat.pow_pos (by omega)),←Nat.pow_add,show ((b:Int)+n).toNat+(-n).toNat=b by omega]
  exact hx
def quoS (P x y:Nat):Int:=(P:Int)+2-(bitsN x:Int)+(bitsN y:Int)
def quoM (P x y:Nat):Bool:=cutB x (quoS P x y) || decide (0<shN x (quoS P x y)%y)
def quoD (P:Nat) (up:Bool) (x y:Dy):Dy:=
 betD P up (decide (x.z<0) != decide (y.z<0)) (shN x.z.natAbs (quoS P x.z.natAbs y.z.natAbs)/y.z.natAbs) (x.e-y.e-quoS P x.z.natAbs y.z.natAbs) (quoM P x.z.natAbs y.z.natAbs)
theorem quo_core {P x y:Nat} (hx:x≠0) (hy:y≠0) (ex ey:Int) {T:Rat} (hT:T*(((y:Int):Rat)*p2 ey)=((x:Int):Rat)*p2 ex):
  (quoM P x y=true→(((shN x (quoS P x y)/y:Nat):Int):Rat)*p2 (ex-ey-quoS P x y)<T∧T<((((shN x (quoS P x y)/y:Nat):Int)+1:Int):Rat)*p2 (ex-ey-quoS P x y))∧
  (quoM P x y=false→T=(((shN x (quoS P x y)/y:Nat):Int):Rat)*p2 (ex-ey-quoS P x y))∧2^(P-1)≤shN x (quoS P x y)/y:=by
 obtain⟨f,f0,f1,f2,f3⟩:=sh_spec hx (quoS P x y)
 obtain⟨bx,x1,x2,x3⟩:=bitsN_spec hx
 obtain⟨by_,y1,y2,y3⟩:=bitsN_spec hy
 have hbig:=sh_big (n:=quoS P x y) x2 (by unfold quoS;omega)
 have hM:quoM P x y=(cutB x (quoS P x y) || decide (0<shN x (quoS P x y)%y)):=rfl
 have hex:((bx:Int)+quoS P x y).toNat=P+1+(by_+1):=by unfold quoS;omega
 rw [hex] at hbig
 generalize hn:quoS P x y=n at*
 generalize shN x n=X at*
 generalize cutB x n=cb at*
 have g:=f3 (ex-ey-n)
 generalize hE:ex-ey-n=E at*
 have h1:=Nat.div_add_mod X y
 have h2:=Nat.mod_lt X (Nat.pos_of_ne_zero hy)
 have hpe:p2 ex=p2 (E+n)*p2 ey:=by rw [← p2_add];congr 1;omega
 have hy0:(0:Rat)<((y:Int):Rat):=by
  have:((0:Int):Rat)<((y:Int):Rat):=Rat.intCast_lt_intCast.2 (by omega)
  simpa using this
 have hT2:T*((y:Int):Rat)=(((X:Nat):Int):Rat)*p2 E+f*p2 E:=by
  rw [← g]
  have e1:(T*((y:Int):Rat))*p2 ey=(((x:Int):Rat)*p2 (E+n))*p2 ey:=by
   rw [Rat.mul_assoc,hT,hpe,Rat.mul_assoc]
  have:=p2_pos ey
  exact rat_cancel this e1
 have hX:(((X:Nat):Int):Rat)=((y:Int):Rat)*(((X/y:Nat):Int):Rat)+(((X%y:Nat):Int):Rat):=by
  rw [← Rat.intCast_mul,←Rat.intCast_add]
  congr 1
  have:((y*(X/y)+X%y:Nat):Int)=(y:Int)*((X/y:Nat):Int)+((X%y:Nat):Int):=by push_cast;rfl
  rw [← this,h1]
 have hr0:(0:Rat)≤(((X%y:Nat):Int):Rat):=by
  have:((0:Int):Rat)≤(((X%y:Nat):Int):Rat):=Rat.intCast_le_intCast.2 (by omega)
  simpa using this
 have hr1:(((X%y:Nat):Int):Rat)+1≤((y:Int):Rat):=by
  have:((((X%y:Nat):Int)+1:Int):Rat)≤((y:Int):Rat):=Rat.intCast_le_intCast.2 (by omega)
  rwa [Rat.intCast_add] at this
 have hq1:((((X/y:Nat):Int)+1:Int):Rat)=(((X/y:Nat):Int):Rat)+1:=by rw [Rat.intCast_add];rfl
 have hrp:0<X%y↔(0:Rat)<(((X%y:Nat):Int):Rat):=by
  have:((0:Int):Rat)<(((X%y:Nat):Int):Rat)↔(0:Int)<((X%y:Nat):Int):=Rat.intCast_lt_intCast
  rw [show ((0:Int):Rat)=0 by rfl] at this
  rw [this];omega
 have hbits:2^(P-1)≤X/y:=by
  rw [Nat.le_div_iff_mul_le (Nat.pos_of_ne_zero hy)]
  refine Nat.le_trans (Nat.mul_le_mul_left _ (Nat.le_of_lt y3)) ?_
  rw [← Nat.pow_add]
  exact Nat.le_trans (two_mono (by omega)) hbig
 have hp:=p2_pos E
 rw [hX] at hT2
 rw [hM,hq1]
 generalize (((X/y:Nat):Int):Rat)=a at*
 generalize (((X%y:Nat):Int):Rat)=r at*
 generalize ((y:Int):Rat)=c at*
 generalize p2 E=d at*
 have key:(T-a*d)*c=(r+f)*d:=by grind
 refine⟨fun hm=>?_,fun hm=>?_,hbits⟩
 ·have hpos:0<r+f:=by
   rw [Bool.or_eq_true] at hm
   rcases hm with h|h
   ·have:=f2.1 h;grind
   ·have:=hrp.1 (of_decide_eq_true h);grind
  have k1:0<(T-a*d)*c:=by rw [key];exact Rat.mul_pos hpos hp
  have k2:(T-a*d)*c<d*c:=by
   rw [key,Rat.mul_comm d c]
   exact (Rat.mul_lt_mul_right hp).2 (by grind)
  have k3:=(Rat.mul_lt_mul_right hy0).1 k2
  have k4:0*c<(T-a*d)*c:=by grind
  have k5:=(Rat.mul_lt_mul_right hy0).1 k4
  constructor<;>grind
 ·simp only [Bool.or_eq_false_iff,decide_eq_false_iff_not] at hm
  have e1:f=0:=by
   have:=fun h=>hm.1▸(f2.2 h)
   have: ¬0<f:=fun h=>by have:=f2.2 h;rw [hm.1] at this;cases this
   grind
  have e2:r=0:=by have:=fun h=>hm.2 (hrp.2 h);grind
  rw [e1,e2] at key
  have k1:(T-a*d)*c=0:=by grind
  rcases Rat.mul_eq_zero.1 k1 with h|h
  ·grind
  ·grind
theorem abs_q (x:Dy):((x.z.natAbs:Int):Rat)*p2 x.e=if decide (x.z<0) then -x.q else x.q:=by
 have h:x.q=if decide (x.z<0) then -(((x.z.natAbs:Int):Rat)*p2 x.e) else ((x.z.natAbs:Int):Rat)*p2 x.e:=by rw [← sg_q,sg_self];rfl
 rw [h]
 cases decide (x.z<0)<;>simp
 all_goals grind
theorem quo_rd {P:Nat} {up:Bool} {x y:Dy} {t:Rat} (hP:1≤P) (hx:x.z≠0) (hy:y.z≠0) (ht:t*y.q=x.q):Rd P up (· ≤t) (t≤ ·) (quoD P up x y):=by
 have hx':=abs_q x
 have hy':=abs_q y
 obtain⟨T,hT⟩: ∃T,T=if decide (x.z<0) != decide (y.z<0) then -t else t:=⟨_,rfl⟩
 have ht2:t=if decide (x.z<0) != decide (y.z<0) then -T else T:=by
  rw [hT];cases decide (x.z<0)<;>cases decide (y.z<0)<;>simp
  all_goals grind
 have hc:T*(((y.z.natAbs:Int):Rat)*p2 y.e)=((x.z.natAbs:Int):Rat)*p2 x.e:=by
  rw [hx',hy',hT]
  cases decide (x.z<0)<;>cases decide (y.z<0)<;>simp<;>grind
 obtain⟨h1,h2,h3⟩:=quo_core (P:=P) (x:=x.z.natAbs) (y:=y.z.natAbs) (by omega) (by omega) x.e y.e hc
 rw [ht2]
 exact bet_rd hP h1 h2 (fun _=>h3)
def sqX (x:Dy):Nat:=if x.e%2=1 then x.z.natAbs*2 else x.z.natAbs
def sqE (x:Dy):Int:=if x.e%2=1 then x.e-1 else x.e
def sqN (P X:Nat):Int:=(2*((P:Int)+2)-(bitsN X:Int))+(2*((P:Int)+2)-(bitsN X:Int))%2
def sqM (P X:Nat):Bool:=cutB X (sqN P X) || decide (0<shN X (sqN P X)-rootN (shN X (sqN P X))*rootN (shN X (sqN P X)))
def sqrtD (P:Nat) (up:Bool) (x:Dy):Dy:=betD P up false (rootN (shN (sqX x) (sqN P (sqX x)))) ((sqE x-sqN P (sqX x))/2) (sqM P (sqX x))
theorem sqX_q {x:Dy} (h:0<x.z):x.q=((sqX x:Int):Rat)*p2 (sqE x)∧sqX x≠0∧sqE x%2=0:=by
 unfold sqX sqE
 by_cases h1:x.e%2=1
 ·rw [if_pos h1,if_pos h1]
  have d:=q_down x.z x.e 1
  have e:(((x.z.natAbs*2:Nat):Int):Rat)=((x.z*2^1:Int):Rat):=by congr 1;push_cast;omega
  refine⟨?_,by omega,by omega⟩
  rw [e]
  exact d.symm
 ·rw [if_neg h1,if_neg h1]
  have e:((x.z.natAbs:Int):Rat)=(x.z:Rat):=by congr 1;omega
  refine⟨?_,by omega,by omega⟩
  rw [e];rfl
theorem sqrt_rd {P:Nat} {up:Bool} {x:Dy} (hP:1≤P) (hx:0<x.z):Rd P up (leRt x.q) (geRt x.q) (sqrtD P up x):=by
 obtain⟨a1,a2,a3⟩:=sqX_q hx
 unfold sqrtD
 rw [a1]
 have hM:sqM P (sqX x)=(cutB (sqX x) (sqN P (sqX x)) || decide (0<shN (sqX x) (sqN P (sqX x))-rootN (shN (sqX x) (sqN P (sqX x)))*rootN (shN (sqX x) (sqN P (sqX x))))):=rfl
 have hn2:sqN P (sqX x)%2=0:=by unfold sqN;omega
 obtain⟨f,f0,f1,f2,f3⟩:=sh_spec a2 (sqN P (sqX x))
 obtain⟨bx,x1,x2,x3⟩:=bitsN_spec a2
 have hbig:=sh_big (n:=sqN P (sqX x)) x2 (by unfold sqN;omega)
 have hbig2:2^(P-1+(P-1))≤shN (sqX x) (sqN P (sqX x)):=Nat.le_trans (two_mono (by unfold sqN;omega)) hbig
 clear hbig x1 x2 x3
 generalize sqX x=X at*
 generalize sqE x=e0 at*
 rw [hM]
 generalize sqN P X=n at*
 generalize shN X n=Y at*
 generalize cutB X n=cb at*
 have g:=f3 (e0-n)
 rw [show e0-n+n=e0 by omega] at g
 have hr:=rootN_is Y
 obtain⟨r1,r2⟩:=hr
 generalize rootN Y=r at*
 obtain⟨H,hH⟩: ∃H,(e0-n)/2=H:=⟨_,rfl⟩
 have hEH:e0-n=H+H:=by omega
 rw [hH]
 rw [hEH,p2_add] at g
 have hp:=p2_pos H
 have hr1:(((r:Int):Rat)*((r:Int):Rat))≤((Y:Int):Rat):=by
  rw [← Rat.intCast_mul,Rat.intCast_le_intCast]
  have:((r*r:Nat):Int)=(r:Int)*(r:Int):=by push_cast;rfl
  omega
 have hr2:((Y:Int):Rat)+1≤((((r:Int)+1:Int):Rat)*(((r:Int)+1:Int):Rat)):=by
  rw [← Rat.intCast_mul]
  have e1:((Y:Int):Rat)+1=(((Y:Int)+1:Int):Rat):=by rw [Rat.intCast_add];rfl
  rw [e1,Rat.intCast_le_intCast]
  have:(((r+1)*(r+1):Nat):Int)=((r:Int)+1)*((r:Int)+1):=by push_cast;rfl
  omega
 have hlt:(((r:Int):Rat)*((r:Int):Rat))<((Y:Int):Rat)↔0<Y-r*r:=by
  rw [← Rat.intCast_mul,Rat.intCast_lt_intCast]
  have:((r*r:Nat):Int)=(r:Int)*(r:Int):=by push_cast;rfl
  omega
 have hq:2^(P-1)≤r:=by
  apply Nat.le_of_not_lt
  intro hc
  have:=Nat.mul_le_mul (show r+1≤2^(P-1) by omega) (show r+1≤2^(P-1) by omega)
  rw [← Nat.pow_add] at this
  omega
 clear hEH hH r1 r2 hbig2 f3 hn2 hM a1 a2 a3
 have hd2:0<p2 H*p2 H:=Rat.mul_pos hp hp
 refine bet_rt hP (fun hm=>?_) (fun hm=>?_) (fun _=>hq)
 ·rw [g]
  have hpos:(((r:Int):Rat)*((r:Int):Rat))<((Y:Int):Rat)+f:=by
   rw [Bool.or_eq_true] at hm
   rcases hm with h|h
   ·have:=f2.1 h;grind
   ·have:=hlt.2 (of_decide_eq_true h);grind
  have hup:((Y:Int):Rat)+f<((((r:Int)+1:Int):Rat)*(((r:Int)+1:Int):Rat)):=by grind
  have k1:=(Rat.mul_lt_mul_right hd2).2 hpos
  have k2:=(Rat.mul_lt_mul_right hd2).2 hup
  generalize ((r:Int):Rat)=a at*
  generalize (((r:Int)+1:Int):Rat)=b at*
  generalize ((Y:Int):Rat)=y at*
  generalize p2 H=d at*
  constructor<;>grind
 ·rw [g]
  simp only [Bool.or_eq_false_iff,decide_eq_false_iff_not] at hm
  have e1:f=0:=by
   have: ¬0<f:=fun h=>by have:=f2.2 h;rw [hm.1] at this;cases this
   grind
  have e2:(((r:Int):Rat)*((r:Int):Rat))=((Y:Int):Rat):=by
   have:=fun h=>hm.2 (hlt.1 h);grind
  rw [e1,←e2]
  grind
theorem rnd_bnd {P N M:Nat} {up:Bool} {x:Dy} (h:Bnd N x) (hM:3*N+P+1≤M):Bnd M (rndD P up x):=by
 unfold rndD
 have hz:(nrm x.z x.e).z.natAbs<2^N∧ -(N:Int)≤(nrm x.z x.e).e∧(nrm x.z x.e).e≤2*(N:Int):=by
  by_cases h0:x.z=0
  ·rw [h0,nrm_zero]
   exact⟨Nat.pow_pos (by omega),by show -(N:Int)≤0;omega,by show (0:Int)≤2*N;omega⟩
  ·rw [nrm_nz x.e h0]
   have h3:=lowN_lt (n:=x.z.natAbs) (by omega)
   have h4:=bitsN_le h.z
   have:=h.lo;have:=h.hi
   refine⟨?_,?_,?_⟩
   ·show (sg _ _).natAbs<_
    rw [sg_abs]
    exact Nat.lt_of_le_of_lt (Nat.div_le_self _ _) h.z
   ·show _≤x.e+_;omega
   ·show x.e+_≤_;omega
 generalize nrm x.z x.e=y at*
 obtain⟨z1,z2,z3⟩:=hz
 have hb:=bitsN_le z1
 split
 ·exact⟨Nat.lt_of_lt_of_le z1 (two_mono (by omega)),by omega,by omega⟩
 ·have hm:y.z.natAbs/2^(bitsN y.z.natAbs-P)<2^P:=by
   rw [Nat.div_lt_iff_lt_mul (Nat.pow_pos (by omega)),←Nat.pow_add]
   exact Nat.lt_of_lt_of_le (bitsN_lt _) (two_mono (by omega))
  refine bnd_nrm (K:=P+1) (M:=3*N) ?_ (by omega) (by omega) (by omega)
  have hpp:0<2^P:=Nat.pow_pos (by omega)
  rw [sg_abs,Nat.pow_succ]
  split<;>omega
theorem bet_bnd {P K L M:Nat} {up neg more:Bool} {q:Nat} {E:Int} (hq:q<2^K) (h1: -(L:Int)≤E) (h2:E≤(L:Int)) (hM:3*(K+L+2)+P+1≤M):Bnd M (betD P up neg q E more):=by
 unfold betD
 refine rnd_bnd (N:=K+L+2) (bnd_nrm (K:=K+1) (M:=L+1) ?_ ?_ ?_ (by omega)) hM
 ·rw [sg_abs,Nat.pow_succ];split<;>omega
 ·split<;>omega
 ·split<;>omega
theorem sh_lt {x N K:Nat} {n:Int} (hx:x<2^N) (hK:(N:Int)+n≤(K:Int)) (hN:N≤K):shN x n<2^K:=by
 unfold shN
 split
 ·refine Nat.lt_of_lt_of_le (Nat.mul_lt_mul_of_pos_right hx (Nat.pow_pos (by omega))) ?_
  rw [← Nat.pow_add]
  exact two_mono (by omega)
 ·exact Nat.lt_of_le_of_lt (Nat.div_le_self _ _) (Nat.lt_of_lt_of_le hx (two_mono hN))
theorem quo_bnd {P N M:Nat} {up:Bool} {x y:Dy} (hx:Bnd N x) (hy:Bnd N y) (hM:15*N+7*P+19≤M):Bnd M (quoD P up x y):=by
 have b1:=bitsN_le hx.z
 have b2:=bitsN_le hy.z
 have:=hx.lo;have:=hx.hi;have:=hy.lo;have:=hy.hi
 unfold quoD
 refine bet_bnd (K:=2*N+P+2) (L:=3*N+P+2) (Nat.lt_of_le_of_lt (Nat.div_le_self _ _) (sh_lt (N:=N) hx.z ?_ (by omega))) ?_ ?_ (by omega)
 ·unfold quoS;omega
 ·unfold quoS;omega
 ·unfold quoS;omega
theorem rootN_le (a:Nat):rootN a≤a:=by
 obtain⟨h1,_⟩:=rootN_is a
 by_cases h:rootN a=0
 ·omega
 ·have:=Nat.mul_le_mul_left (rootN a) (show 1≤rootN a by omega)
  omega
theorem sqX_lt {N:Nat} {x:Dy} (hx:Bnd N x):sqX x<2^(N+1):=by
 have:=hx.z
 unfold sqX
 rw [Nat.pow_succ]
 split<;>omega
theorem sqN_range {P N:Nat} {x:Dy} (hx:Bnd N x): -(N:Int)-1≤sqN P (sqX x)∧sqN P (sqX x)≤2*(P:Int)+5:=by
 have b1:=bitsN_le (sqX_lt hx)
 unfold sqN
 omega
theorem sqrt_bnd {P N M:Nat} {up:Bool} {x:Dy} (hx:Bnd N x) (hM:9*N+16*P+60≤M):Bnd M (sqrtD P up x):=by
 have b1:=sqX_lt hx
 have b2:=sqN_range (P:=P) hx
 have:=hx.lo;have:=hx.hi
 have he: -(N:Int)-1≤sqE x∧sqE x≤N:=by unfold sqE;split<;>omega
 unfold sqrtD
 refine bet_bnd (K:=N+1+(2*P+5)) (L:=N+P+4) (Nat.lt_of_le_of_lt (rootN_le _) (sh_lt (N:=N+1) b1 (by omega) (by omega))) ?_ ?_ (by omega)
 ·omega
 ·omega
theorem Rd.exact {P:Nat} {up:Bool} {t:Rat} {r s:Dy} (h:Rd P up (· ≤t) (t≤ ·) r) (hs:Short P s) (he:s.q=t):r.q=t:=by
 cases up
 ·obtain⟨h1,h2⟩:=h.dn rfl
  have:=h2 s hs (by rw [he];exact Rat.le_refl)
  exact rat_le_antisymm h1 (by rw [← he];exact this)
 ·obtain⟨h1,h2⟩:=h.upw rfl
  have:=h2 s hs (by rw [he];exact Rat.le_refl)
  exact rat_le_antisymm (by rw [← he];exact this) h1
def sqrtQ (P:Nat) (up:Bool) (x:Dy):Dy:=if x.z≤0 then ⟨0,0⟩ else sqrtD P up x
theorem zero_q:Dy.q ⟨0,0⟩=0:=q_zero.2 rfl
def quoQ (P:Nat) (up:Bool) (x y:Dy):Dy:=if y.z=0 then ⟨0,0⟩ else if x.z=0 then ⟨0,0⟩ else quoD P up x y
end Go.Proofs.YtigpnopeacicpaaGreatDoor
