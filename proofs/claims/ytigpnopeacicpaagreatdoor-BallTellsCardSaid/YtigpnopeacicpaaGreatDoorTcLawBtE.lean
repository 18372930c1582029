import Derived.Test.YtigpnopeacicpaaGreatDoorTcLawBt
import Derived.Test.YtigpnopeacicpaaGreatDoorTcJ7
namespace Go.Proofs.YtigpnopeacicpaaGreatDoor
open Go.Lib (hid)
set_option linter.unusedSimpArgs false
open Go.RowKit
theorem bt_sqrtQ {P:Nat} {up:Bool} {x x':Dy} (hP:1≤P) (h:x.q=x'.q):sqrtQ P up x=sqrtQ P up x':=by
 have hpos: ∀{u:Dy},¬u.z≤0↔0<u.q:=fun {u}=>by rw [q_pos (x:=u)];omega
 unfold sqrtQ
 by_cases h1:x.z≤0
 ·rw [if_pos h1,if_pos]
  refine Decidable.byContradiction fun hc=>?_
  have:=hpos.1 hc
  rw [← h] at this
  exact (hpos.2 this) h1
 ·have h2: ¬x'.z≤0:=hpos.2 (by rw [← h];exact hpos.1 h1)
  rw [if_neg h1,if_neg h2]
  have a:=sqrt_rd (P:=P) (up:=up) (x:=x) hP (by omega)
  have b:=sqrt_rd (P:=P) (up:=up) (x:=x') hP (by omega)
  rw [h] at a
  exact a.unique b
theorem bt_sqrtQ_can (P:Nat) (up:Bool) (x:Dy) (hP:1≤P):Can (sqrtQ P up x):=by
 unfold sqrtQ
 by_cases h1:x.z≤0
 ·rw [if_pos h1];exact .inl ⟨rfl,rfl⟩
 ·rw [if_neg h1];exact (sqrt_rd hP (by omega)).can
theorem bt_top (z e:Int):topD (nrm z e)=topD ⟨z,e⟩:=by
 by_cases h:z=0
 ·subst h;rfl
 ·have h1:=top_spec (x:=⟨z,e⟩) h
  have hq:(nrm z e).q=(⟨z,e⟩:Dy).q:=nrm_q z e
  have h2:(nrm z e).z≠0:=fun hc=>h (q_zero.1 (by rw [← hq];exact q_zero.2 hc))
  have h3:=top_spec h2
  rw [hq] at h3
  have hs:(nrm z e).z<0↔z<0:=by
   have a:=q_neg (x:=nrm z e)
   have b:=q_neg (x:=⟨z,e⟩)
   rw [hq] at a
   exact a.symm.trans b
  have key: ∀(u v:Int) (r:Rat),p2 (u-1)≤r→r<p2 u→p2 (v-1)≤r→r<p2 v→u=v:=fun u v r a1 a2 a3 a4=>by
   rcases Int.lt_trichotomy u v with h|h|h
   ·have:=p2_mono (show u≤v-1 by omega)
    grind
   ·exact h
   ·have:=p2_mono (show v≤u-1 by omega)
    grind
  by_cases hn:z<0
  ·have a:=h1.2 hn
   have b:=h3.2 (hs.2 hn)
   exact key _ _ _ b.1 b.2 a.1 a.2
  ·have a:=h1.1 (by show 0<z;omega)
   have b:=h3.1 (by have:=hs.1;omega)
   exact key _ _ _ b.1 b.2 a.1 a.2
theorem bt_nq (x:Dy):(nrm x.z x.e).q=x.q:=nrm_q _ _
theorem bt_lohi {N:Nat} {x y:Dy} (BX:Bnd N x) (BY:Bnd N y): ∃lo hi:Dy,((0<cmpQ x.q y.q→y=lo∧x=hi)∧(¬ 0<cmpQ x.q y.q→x=lo∧y=hi))∧lo.q≤hi.q∧Bnd N lo∧Bnd N hi:=by
 by_cases h:0<cmpQ x.q y.q
 ·exact⟨y,x,⟨fun _=>⟨rfl,rfl⟩,fun hc=>absurd h hc⟩,by have:=cmpQ_gt0.1 h;grind,BY,BX⟩
 ·exact⟨x,y,⟨fun hc=>absurd hc h,fun _=>⟨rfl,rfl⟩⟩,by have: ¬y.q<x.q:=fun hc=>h (cmpQ_gt0.2 hc);grind,BX,BY⟩
theorem bt_ord {x y:Dy} (h:x.q≤y.q):(0<x.z→0<y.z)∧(y.z<0→x.z<0):=by
 constructor
 ·intro h1
  have:=q_pos.2 h1
  exact q_pos.1 (by grind)
 ·intro h1
  have:=q_neg.2 h1
  exact q_neg.1 (by grind)
theorem bt_sgn (a b:Int) (ha:a= -1∨a=0∨a=1) (hb:b= -1∨b=0∨b=1) (hab:a≤b):(0<a∧(if a=b then a else 0)=1∧decide (a=b)=true)∨(¬ 0<a∧b<0∧(if a=b then a else 0)= -1∧decide (a=b)=true)∨(¬ 0<a∧ ¬b<0∧(if a=b then a else 0)=0∧((a=0∧b=0∧decide (a=b)=true)∨(a≠0∧decide (a=b)=false)∨(a=0∧b≠0∧decide (a=b)=false))):=by
 rcases ha with rfl|rfl|rfl<;>rcases hb with rfl|rfl|rfl<;>first|(exfalso;omega)|decide
theorem bt_ge0 {a b:Rat}:0≤cmpQ a b↔b≤a:=by
 have h:=cmpQ_lt0 (a:=a) (b:=b)
 constructor
 ·intro h1
  have: ¬a<b:=fun hc=>by have:=h.2 hc;omega
  grind
 ·intro h1
  have: ¬cmpQ a b<0:=fun hc=>by have:=h.1 hc;grind
  omega
theorem bt_le0 {a b:Rat}:cmpQ a b≤0↔a≤b:=by
 have h:=cmpQ_gt0 (a:=a) (b:=b)
 constructor
 ·intro h1
  have: ¬b<a:=fun hc=>by have:=h.2 hc;omega
  grind
 ·intro h1
  have: ¬0<cmpQ a b:=fun hc=>by have:=h.1 hc;grind
  omega
theorem bt_mn {a b:Dy} {Q:Dy→Prop} (h1:Q a) (h2:Q b):Q (minD a b):=by unfold minD;split<;>assumption
theorem bt_mx {a b:Dy} {Q:Dy→Prop} (h1:Q a) (h2:Q b):Q (maxD a b):=by unfold maxD;split<;>assumption
set_option maxHeartbeats 4000000 in
set_option maxRecDepth 100000 in
theorem ballTells_any (nb1:Bool) (nP1:Option Addr) (nr1:Nat) (L1:List Nat) (e1:Int) (nb2:Bool) (nP2:Option Addr) (nr2:Nat) (L2:List Nat) (e2:Int) (nb3:Bool) (nP3:Option Addr) (nr3:Nat) (L3:List Nat) (e3:Int) (nb4:Bool) (nP4:Option Addr) (nr4:Nat) (L4:List Nat) (e4:Int) (nb5:Bool) (nP5:Option Addr) (nr5:Nat) (L5:List Nat) (e5:Int) (p:Int) (w:World)
  (g1:NumIn4 w nP1 L1 nr1 e1) (g2:NumIn4 w nP2 L2 nr2 e2) (g3:NumIn4 w nP3 L3 nr3 e3) (g4:NumIn4 w nP4 L4 nr4 e4) (g5:LimbsIn w nP5 L5) (_:L5.length≤nr5) (_:nr5≤maxLen) (_: -9223372036854775808≤e5∧e5≤9223372036854775807) (_:(Lit.int .i64 p).wf=true) (hT:Tab6 w):
  Calls Tryz.prog 3 #[.agg #[.bool nb1,.slice nP1 L1.length nr1,.int .i64 e1,.bool nb2,.slice nP2 L2.length nr2,.int .i64 e2,.bool nb3,.slice nP3 L3.length nr3,.int .i64 e3,.bool nb4,.slice nP4 L4.length nr4,.int .i64 e4],.agg #[.bool nb5,.slice nP5 L5.length nr5,.int .i64 e5],.int .i64 p] w fun e w'=>e= .returned (.bool true)∧Only [] w w':=by
 cases hl:lightN [⟨nb1,nP1,L1.length,nr1,e1⟩,⟨nb2,nP2,L2.length,nr2,e2⟩,⟨nb3,nP3,L3.length,nr3,e3⟩,⟨nb4,nP4,L4.length,nr4,e4⟩,⟨nb5,nP5,L5.length,nr5,e5⟩] with
 |false=>exact btel_out1 nb1 nb2 nb3 nb4 nb5 nP1 nP2 nP3 nP4 nP5 L1 L2 L3 L4 L5 nr1 nr2 nr3 nr4 nr5 e1 e2 e3 e4 e5 p w (hid hT) hl
 |true=>
  by_cases hp:300<p
  ·exact btel_out2 nb1 nb2 nb3 nb4 nb5 nP1 nP2 nP3 nP4 nP5 L1 L2 L3 L4 L5 nr1 nr2 nr3 nr4 nr5 e1 e2 e3 e4 e5 p w (hid hT) hl hp
  simp only [lightN,List.all_cons,List.all_nil,NR.ok,Bool.and_true,Bool.and_eq_true,decide_eq_true_eq] at hl
  obtain⟨P,hP⟩: ∃P,widthP p=P:=⟨_,rfl⟩
  have hw:=widthP_range p
  have hPq:P≤300:=by rw [← hP];unfold widthP;omega
  rw [hP] at hw
  have hw1:=hw.1
  obtain⟨x1,hx1⟩: ∃x:Dy,x=⟨sg nb1 (val L1),e1⟩:=⟨_,rfl⟩
  have he1:x1.e=e1:=by rw [hx1]
  have hz1:sg nb1 (val L1)=x1.z:=by rw [hx1]
  obtain⟨x2,hx2⟩: ∃x:Dy,x=⟨sg nb2 (val L2),e2⟩:=⟨_,rfl⟩
  have he2:x2.e=e2:=by rw [hx2]
  have hz2:sg nb2 (val L2)=x2.z:=by rw [hx2]
  obtain⟨x3,hx3⟩: ∃x:Dy,x=⟨sg nb3 (val L3),e3⟩:=⟨_,rfl⟩
  have he3:x3.e=e3:=by rw [hx3]
  have hz3:sg nb3 (val L3)=x3.z:=by rw [hx3]
  obtain⟨x4,hx4⟩: ∃x:Dy,x=⟨sg nb4 (val L4),e4⟩:=⟨_,rfl⟩
  have he4:x4.e=e4:=by rw [hx4]
  have hz4:sg nb4 (val L4)=x4.z:=by rw [hx4]
  obtain⟨x5,hx5⟩: ∃x:Dy,x=⟨sg nb5 (val L5),e5⟩:=⟨_,rfl⟩
  have he5:x5.e=e5:=by rw [hx5]
  have hz5:sg nb5 (val L5)=x5.z:=by rw [hx5]
  obtain⟨K,hK⟩: ∃K:Nat,K=3000:=⟨_,rfl⟩
  obtain⟨N,hN⟩: ∃N:Nat,N=25000:=⟨_,rfl⟩
  obtain⟨M,hM⟩: ∃M:Nat,M=900000:=⟨_,rfl⟩
  have BX1:Bnd K x1:=num_bnd (by omega) (by omega) g1.1.2 hz1 (by omega) (by omega)
  have BX2:Bnd K x2:=num_bnd (by omega) (by omega) g2.1.2 hz2 (by omega) (by omega)
  have BX3:Bnd K x3:=num_bnd (by omega) (by omega) g3.1.2 hz3 (by omega) (by omega)
  have BX4:Bnd K x4:=num_bnd (by omega) (by omega) g4.1.2 hz4 (by omega) (by omega)
  have BX5:Bnd K x5:=num_bnd (by omega) (by omega) g5.2 hz5 (by omega) (by omega)
  obtain⟨la,ha,hLHa,hlea,BLa,BHa⟩:=bt_lohi BX1 BX2
  obtain⟨lb,hb,hLHb,hleb,BLb,BHb⟩:=bt_lohi BX3 BX4
  rw [← he1,←he2,←he3,←he4,←he5]
  obtain⟨pla,hpla⟩: ∃d,nrm la.z la.e=d:=⟨_,rfl⟩
  have qla:pla.q=la.q:=by rw [← hpla];exact bt_nq _
  have Cla:Can pla:=by rw [← hpla];exact nrm_can _ _
  have BPla:Bnd (2*K) pla:=by rw [← hpla];exact BLa.norm (Nat.le_refl _)
  have zla:pla.z.sign=la.z.sign:=by rw [← hpla];exact nrm_sign _ _
  have nla:nrm pla.z pla.e=pla:=Can.ext (nrm_can _ _) Cla (bt_nq _)
  obtain⟨pha,hpha⟩: ∃d,nrm ha.z ha.e=d:=⟨_,rfl⟩
  have qha:pha.q=ha.q:=by rw [← hpha];exact bt_nq _
  have Cha:Can pha:=by rw [← hpha];exact nrm_can _ _
  have BPha:Bnd (2*K) pha:=by rw [← hpha];exact BHa.norm (Nat.le_refl _)
  have zha:pha.z.sign=ha.z.sign:=by rw [← hpha];exact nrm_sign _ _
  have nha:nrm pha.z pha.e=pha:=Can.ext (nrm_can _ _) Cha (bt_nq _)
  obtain⟨plb,hplb⟩: ∃d,nrm lb.z lb.e=d:=⟨_,rfl⟩
  have qlb:plb.q=lb.q:=by rw [← hplb];exact bt_nq _
  have Clb:Can plb:=by rw [← hplb];exact nrm_can _ _
  have BPlb:Bnd (2*K) plb:=by rw [← hplb];exact BLb.norm (Nat.le_refl _)
  have zlb:plb.z.sign=lb.z.sign:=by rw [← hplb];exact nrm_sign _ _
  have nlb:nrm plb.z plb.e=plb:=Can.ext (nrm_can _ _) Clb (bt_nq _)
  obtain⟨phb,hphb⟩: ∃d,nrm hb.z hb.e=d:=⟨_,rfl⟩
  have qhb:phb.q=hb.q:=by rw [← hphb];exact bt_nq _
  have Chb:Can phb:=by rw [← hphb];exact nrm_can _ _
  have BPhb:Bnd (2*K) phb:=by rw [← hphb];exact BHb.norm (Nat.le_refl _)
  have zhb:phb.z.sign=hb.z.sign:=by rw [← hphb];exact nrm_sign _ _
  have nhb:nrm phb.z phb.e=phb:=Can.ext (nrm_can _ _) Chb (bt_nq _)
  obtain⟨ry,hry⟩: ∃d,nrm x5.z x5.e=d:=⟨_,rfl⟩
  have qry:ry.q=x5.q:=by rw [← hry];exact bt_nq _
  have Cry:Can ry:=by rw [← hry];exact nrm_can _ _
  have BPy:Bnd (2*K) ry:=by rw [← hry];exact BX5.norm (Nat.le_refl _)
  have oA:=bt_ord hlea
  have oB:=bt_ord hleb
  have sla:=sign_of la.z
  have sha:=sign_of ha.z
  have slb:=sign_of lb.z
  have shb:=sign_of hb.z
  have spla:=sign_of pla.z
  have spha:=sign_of pha.z
  have splb:=sign_of plb.z
  have sphb:=sign_of phb.z
  obtain⟨okq,hok⟩: ∃b:Bool,decide (lb.z.sign=hb.z.sign∧lb.z≠0)=b:=⟨_,rfl⟩
  obtain⟨okt,hot⟩: ∃b:Bool,decide (0≤ha.z)=b:=⟨_,rfl⟩
  have hqf:okq=false→ ¬(lb.z.sign=hb.z.sign∧lb.z≠0):=fun h=>by rw [h] at hok;exact of_decide_eq_false hok
  have hqt:okq=true→lb.z.sign=hb.z.sign∧lb.z≠0:=fun h=>by rw [h] at hok;exact of_decide_eq_true hok
  have htf:okt=false→ha.z<0:=fun h=>by rw [h] at hot;have:=of_decide_eq_false hot;omega
  have htt:okt=true→0≤ha.z:=fun h=>by rw [h] at hot;exact of_decide_eq_true hot
  have bq: ∀{up:Bool} {u v:Dy},Bnd K u→Bnd K v→Bnd M (quoQ P up u v):=fun hu hv=>quoQ_bnd hu hv (by omega)
  have cq: ∀{up:Bool} {u v:Dy},v.z≠0→Can (quoQ P up u v):=fun h=>(quoQ_rd hw1 h (quo_exists h)).can
  have cg: ∀{up:Bool} {u v u' v':Dy},u.z≠0∨True→v.z≠0→u.q=u'.q→v.q=v'.q→quoQ P up u v=quoQ P up u' v':=fun _ h h1 h2=>quoQ_congr hw1 h h1 h2
  have Bl0:Bnd K (if la.z<0 then (⟨0,0⟩:Dy) else la):=by split;exact bnd_zero _;exact BLa
  obtain⟨ql,qh,hqD⟩: ∃ql qh:Dy,(okq=true→qLo P la ha lb hb=ql∧qHi P la ha lb hb=qh∧qLo P pla pha plb phb=ql∧qHi P pla pha plb phb=qh∧Can ql∧Can qh)∧(okq=false→ql=⟨0,0⟩∧qh=⟨0,0⟩)∧Bnd M ql∧Bnd M qh:=by
   cases okq
   ·exact⟨⟨0,0⟩,⟨0,0⟩,fun h=>(by cases h),fun _=>⟨rfl,rfl⟩,bnd_zero _,bnd_zero _⟩
   ·obtain⟨h1,h2⟩:=hqt rfl
    have h3:hb.z≠0:=by omega
    have h4:plb.z≠0:=by omega
    have h5:phb.z≠0:=by omega
    refine⟨_,_,fun _=>⟨rfl,rfl,?_,?_,?_,?_⟩,fun h=>(by cases h),?_,?_⟩
    ·unfold qLo
     rw [cg (.inr trivial) h4 qla qlb,cg (.inr trivial) h5 qla qhb,cg (.inr trivial) h4 qha qlb,cg (.inr trivial) h5 qha qhb]
    ·unfold qHi
     rw [cg (.inr trivial) h4 qla qlb,cg (.inr trivial) h5 qla qhb,cg (.inr trivial) h4 qha qlb,cg (.inr trivial) h5 qha qhb]
    ·exact bt_mn (bt_mn (bt_mn (cq h2) (cq h3)) (cq h2)) (cq h3)
    ·exact bt_mx (bt_mx (bt_mx (cq h2) (cq h3)) (cq h2)) (cq h3)
    ·exact minD_bnd (minD_bnd (minD_bnd (bq BLa BLb) (bq BLa BHb)) (bq BHa BLb)) (bq BHa BHb)
    ·exact maxD_bnd (maxD_bnd (maxD_bnd (bq BLa BLb) (bq BLa BHb)) (bq BHa BLb)) (bq BHa BHb)
  obtain⟨hqT,hqF,Bql,Bqh⟩:=hqD
  have hsq:sqrtQ P false (if pla.z<0 then ⟨0,0⟩ else pla)=sqrtQ P false (if la.z<0 then ⟨0,0⟩ else la):=by
   by_cases h:la.z<0
   ·rw [if_pos h,if_pos (by omega)]
   ·rw [if_neg h,if_neg (by omega)];exact bt_sqrtQ hw1 qla
  obtain⟨tl,th,htD⟩: ∃tl th:Dy,(okt=true→sqrtQ P false (if la.z<0 then ⟨0,0⟩ else la)=tl∧sqrtQ P true ha=th∧sqrtQ P true pha=th∧Can tl∧Can th)∧(okt=false→tl=⟨0,0⟩∧th=⟨0,0⟩)∧Bnd M tl∧Bnd M th:=by
   cases okt
   ·exact⟨⟨0,0⟩,⟨0,0⟩,fun h=>(by cases h),fun _=>⟨rfl,rfl⟩,bnd_zero _,bnd_zero _⟩
   ·exact⟨_,_,fun _=>⟨rfl,rfl,bt_sqrtQ hw1 qha,bt_sqrtQ_can _ _ _ hw1,bt_sqrtQ_can _ _ _ hw1⟩,fun h=>(by cases h),sqrtQ_bnd Bl0 (by omega),sqrtQ_bnd BHa (by omega)⟩
  obtain⟨htT,htF,Btl,Bth⟩:=htD
  have aE: ∀{u v u' v':Dy},u.q=u'.q→v.q=v'.q→dAdd u v=dAdd u' v':=fun h1 h2=>Can.ext (dAdd_can _ _) (dAdd_can _ _) (by rw [dAdd_q,dAdd_q,h1,h2])
  have sE: ∀{u v u' v':Dy},u.q=u'.q→v.q=v'.q→dSub u v=dSub u' v':=fun h1 h2=>Can.ext (dSub_can _ _) (dSub_can _ _) (by rw [dSub_q,dSub_q,h1,h2])
  have mE: ∀{u v u' v':Dy},u.q=u'.q→v.q=v'.q→dMul u v=dMul u' v':=fun h1 h2=>Can.ext (dMul_can _ _) (dMul_can _ _) (by rw [dMul_q,dMul_q,h1,h2])
  have nE: ∀{u v:Dy},u.q=v.q→nrm (dNot u).z (dNot u).e=dNot v:=fun h=>Can.ext (nrm_can _ _) (dNot_can _) (by rw [bt_nq,dNot_q,dNot_q,h])
  have zA: ∀{u v:Dy},Bnd (2*K) u→Bnd (2*K) v→Bnd M (dAdd u v):=fun hu hv=>hu.add hv (by omega)
  have zS: ∀{u v:Dy},Bnd (2*K) u→Bnd (2*K) v→Bnd M (dSub u v):=fun hu hv=>hu.sub hv (by omega)
  have zM: ∀{u v:Dy},Bnd (2*K) u→Bnd (2*K) v→Bnd M (dMul u v):=fun hu hv=>hu.mul hv (by omega)
  have rA: ∀{up:Bool} {u v:Dy},Bnd K u→Bnd K v→Bnd M (rndD P up (dAdd u v)):=fun hu hv=>rnd_bnd (hu.add hv (Nat.le_refl _)) (by omega)
  have rS: ∀{up:Bool} {u v:Dy},Bnd K u→Bnd K v→Bnd M (rndD P up (dSub u v)):=fun hu hv=>rnd_bnd (hu.sub hv (Nat.le_refl _)) (by omega)
  have rMl:Bnd M (rndD P false (mulLo la ha lb hb)):=rnd_bnd (N:=4*K) (minD_bnd (minD_bnd (minD_bnd (BLa.mul BLb (Nat.le_refl _)) (BLa.mul BHb (Nat.le_refl _))) (BHa.mul BLb (Nat.le_refl _))) (BHa.mul BHb (Nat.le_refl _))) (by omega)
  have rMh:Bnd M (rndD P true (mulHi la ha lb hb)):=rnd_bnd (N:=4*K) (maxD_bnd (maxD_bnd (maxD_bnd (BLa.mul BLb (Nat.le_refl _)) (BLa.mul BHb (Nat.le_refl _))) (BHa.mul BLb (Nat.le_refl _))) (BHa.mul BHb (Nat.le_refl _))) (by omega)
  have rc: ∀(up:Bool) (x:Dy),Can (rndD P up x):=fun up x=>(rnd_rd P up x hw1).can
  have hsg:=bt_sgn la.z.sign ha.z.sign (by omega) (by omega) (by omega)
  have hmin:minD (minD (minD (dMul pla plb) (dMul pla phb)) (dMul pha plb)) (dMul pha phb)=mulLo la ha lb hb:=by unfold mulLo;rw [mE qla qlb,mE qla qhb,mE qha qlb,mE qha qhb]
  have hmax:maxD (maxD (maxD (dMul pla plb) (dMul pla phb)) (dMul pha plb)) (dMul pha phb)=mulHi la ha lb hb:=by unfold mulHi;rw [mE qla qlb,mE qla qhb,mE qha qlb,mE qha qhb]
  have hh2:(decide (la.q≤x5.q) && decide (x5.q≤ha.q))=(decide (0≤cmpQ ry.q pla.q) && decide (cmpQ ry.q pha.q≤0)):=by
   rw [show decide (0≤cmpQ ry.q pla.q)=decide (la.q≤x5.q) by rw [decide_eq_decide,bt_ge0,qry,qla],show decide (cmpQ ry.q pha.q≤0)=decide (x5.q≤ha.q) by rw [decide_eq_decide,bt_le0,qry,qha]]
  have hB2: ¬0<cmpQ ha.q la.q→nrm ha.z ha.e=pla∧nrm la.z la.e=pha:=fun h=>by
   have h1:=bt_le0.1 (show cmpQ ha.q la.q≤0 by omega)
   have h2:la.q=ha.q:=by grind
   exact⟨Can.ext (nrm_can _ _) Cla (by rw [bt_nq,qla,h2]),Can.ext (nrm_can _ _) Cha (by rw [bt_nq,qha,h2])⟩
  exact btel_in (N:=N) (M:=M) nb1 nb2 nb3 nb4 nb5 nP1 nP2 nP3 nP4 nP5 L1 L2 L3 L4 L5 nr1 nr2 nr3 nr4 nr5 x1 x2 x3 x4 x5 la ha lb hb pla pha plb phb ql qh tl th ry
   (rndD P false (dAdd la lb)) (rndD P true (dAdd ha hb)) (rndD P false (dSub la hb)) (rndD P true (dSub ha lb)) (rndD P false (mulLo la ha lb hb)) (rndD P true (mulHi la ha lb hb)) (dAdd pla plb) (dAdd pha phb) (dSub pla phb) (dSub pha plb) (dMul pla plb) (dMul pla phb) (dMul pha plb) (dMul pha phb) (dNot ha) (dNot la) (dNot pha) (dNot pla)
   p _ _ _ _ _ _ _ (topD la) (topD ha) _ okq okt _ _ w (by omega) (by omega) hp
   (HZ1:=hid hz1) (H1:=hid g1.1) (hl1:=by omega) (he1:=by omega) (BX1:=hid (BX1.mono (by omega)))
   (HZ2:=hid hz2) (H2:=hid g2.1) (hl2:=by omega) (he2:=by omega) (BX2:=hid (BX2.mono (by omega)))
   (HZ3:=hid hz3) (H3:=hid g3.1) (hl3:=by omega) (he3:=by omega) (BX3:=hid (BX3.mono (by omega)))
   (HZ4:=hid hz4) (H4:=hid g4.1) (hl4:=by omega) (he4:=by omega) (BX4:=hid (BX4.mono (by omega)))
   (HZ5:=hid hz5) (H5:=hid g5) (hl5:=by omega) (he5:=by omega) (BX5:=hid (BX5.mono (by omega)))
   (Hcm1:=hid rfl) (Hcm1L:=hid hLHa) (Hcm2:=hid rfl) (Hcm2L:=hid hLHb)
   (Bla:=hid (BLa.mono (by omega))) (Hpla:=hid hpla) (Cpla:=hid Cla) (Bpla:=hid (BPla.mono (by omega)))
   (Bha:=hid (BHa.mono (by omega))) (Hpha:=hid hpha) (Cpha:=hid Cha) (Bpha:=hid (BPha.mono (by omega)))
   (Blb:=hid (BLb.mono (by omega))) (Hplb:=hid hplb) (Cplb:=hid Clb) (Bplb:=hid (BPlb.mono (by omega)))
   (Bhb:=hid (BHb.mono (by omega))) (Hphb:=hid hphb) (Cphb:=hid Chb) (Bphb:=hid (BPhb.mono (by omega)))
   (HNQ:=hid fun h=>⟨fun he=>by have:=hqf h;omega,hqF h⟩) (HYQ:=hid fun h=>⟨(hqt h).1,(hqt h).2,by rw [hP];exact (hqT h).1,by rw [hP];exact (hqT h).2.1⟩)
   (HNP:=hid fun h=>⟨by have:=hqf h;omega,by have:=hqf h;omega,hqF h⟩) (HYP:=hid fun h=>⟨by have:=hqt h;omega,by have:=hqt h;omega,by have:=hqt h;omega,by rw [hP];exact (hqT h).2.2.1,by rw [hP];exact (hqT h).2.2.2.1⟩)
   (HNS:=hid fun h=>⟨htf h,htF h⟩) (HYS:=hid fun h=>⟨htt h,by rw [hP];exact (htT h).1,by rw [hP];exact (htT h).2.1⟩) (HNT:=hid fun h=>⟨by have:=htf h;omega,htF h⟩) (HYT:=hid fun h=>⟨by have:=htt h;omega,by rw [hP,hsq];exact (htT h).1,by rw [hP];exact (htT h).2.2.1⟩)
   (HCQ:=hid fun h=>⟨hid (hqT h).2.2.2.2.1,hid (hqT h).2.2.2.2.2⟩) (HCT:=hid fun h=>⟨hid (htT h).2.2.2.1,hid (htT h).2.2.2.2⟩) (Bql:=hid Bql) (Bqh:=hid Bqh) (Btl:=hid Btl) (Bth:=hid Bth)
   (HSG:=hid rfl) (HOG:=hid rfl) (HSX:=hid zla) (HSY:=hid zha) (HCS:=hid hsg)
   (HRYV:=hid hry) (Cry:=hid Cry) (Bry:=hid (BPy.mono (by omega))) (HC1:=hid rfl) (HC2:=hid rfl) (HG1:=hid (by cases decide (0≤cmpQ ry.q pla.q)<;>simp)) (HHS:=hid rfl) (HHAS:=hid hh2)
   (HAAl:=hid (by rw [hP])) (HAAh:=hid (by rw [hP])) (Hual:=hid rfl) (Huah:=hid rfl) (HRAl:=hid (by rw [hP,aE qla qlb])) (HRAh:=hid (by rw [hP,aE qha qhb]))
   (HASl:=hid (by rw [hP])) (HASh:=hid (by rw [hP])) (Husl:=hid rfl) (Hush:=hid rfl) (HRSl:=hid (by rw [hP,sE qla qhb])) (HRSh:=hid (by rw [hP,sE qha qlb]))
   (HAMl:=hid (by rw [hP])) (HAMh:=hid (by rw [hP])) (HRMl:=hid (by rw [hP,hmin])) (HRMh:=hid (by rw [hP,hmax]))
   (Hme0:=hid rfl) (Cme0:=hid (dMul_can _ _)) (Bme0:=hid (zM BPla BPlb)) (Hme1:=hid rfl) (Cme1:=hid (dMul_can _ _)) (Bme1:=hid (zM BPla BPhb)) (Hme2:=hid rfl) (Cme2:=hid (dMul_can _ _)) (Bme2:=hid (zM BPha BPlb)) (Hme3:=hid rfl) (Cme3:=hid (dMul_can _ _)) (Bme3:=hid (zM BPha BPhb))
   (Bual:=hid (zA BPla BPlb)) (Buah:=hid (zA BPha BPhb)) (Busl:=hid (zS BPla BPhb)) (Bush:=hid (zS BPha BPlb)) (CAAl:=hid (rc _ _)) (BAAl:=hid (rA BLa BLb)) (CAAh:=hid (rc _ _)) (BAAh:=hid (rA BHa BHb)) (CASl:=hid (rc _ _)) (BASl:=hid (rS BLa BHb)) (CASh:=hid (rc _ _)) (BASh:=hid (rS BHa BLb)) (CAMl:=hid (rc _ _)) (BAMl:=hid rMl) (CAMh:=hid (rc _ _)) (BAMh:=hid rMh)
   (Hnh:=hid rfl) (Hnl:=hid rfl) (Hrnh:=hid rfl) (Hrnl:=hid rfl) (Hnnh:=hid (nE qha.symm)) (Hnnl:=hid (nE qla.symm)) (Bnh:=hid (BHa.not (by omega))) (Bnl:=hid (BLa.not (by omega))) (Brnh:=hid (BPha.not (by omega))) (Brnl:=hid (BPla.not (by omega))) (Crnh:=hid (dNot_can _)) (Crnl:=hid (dNot_can _))
   (HTX:=hid rfl) (HTY:=hid rfl) (HPX:=hid (by rw [← hpla];exact bt_top _ _)) (HPY:=hid (by rw [← hpha];exact bt_top _ _)) (Hnpla:=hid nla) (Hnpha:=hid nha)
   (HCB:=hid rfl) (HB1:=hid fun _=>⟨hpla,hpha⟩) (HB2:=hid hB2) (hT:=hid hT)
end Go.Proofs.YtigpnopeacicpaaGreatDoor
