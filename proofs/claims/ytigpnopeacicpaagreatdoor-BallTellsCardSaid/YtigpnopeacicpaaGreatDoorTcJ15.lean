/-
  Joined texts.
-/
import Derived.Test.YtigpnopeacicpaaGreatDoorTcGDyB
import Derived.Test.YtigpnopeacicpaaGreatDoorTcGDyP
namespace Go.Proofs.YtigpnopeacicpaaGreatDoor
open Go.Lib (hid)
set_option linter.unusedSimpArgs false
open Go.RowKit
def QDPost (x:Dy) (ok:Bool) (w:World) (e:Ending) (w':World):Prop:= ∃s A k c,e= .returned (.tuple #[.agg #[.bool s,.slice A k c,.int .i64 x.e],.bool ok])∧s=decide (x.z<0)∧k=(limbsOf x.z.natAbs).length∧IV w' (.agg #[.bool s,.slice A k c]) x.z∧Only [] w w'
theorem QDPost.of {x:Dy} {ok:Bool} {w w':World} {s:Bool} {A:Option Addr} {k c:Nat} (h:DPost x w (.returned (.agg #[.bool s,.slice A k c,.int .i64 x.e])) w'):QDPost x ok w (.returned (.tuple #[.agg #[.bool s,.slice A k c,.int .i64 x.e],.bool ok])) w':=by
 obtain⟨s',A',k',c',he,h1,h2,h3,h4⟩:=h
 injection he with he
 simp only [Value.agg.injEq,Array.mk.injEq,List.cons.injEq,Value.bool.injEq,Value.slice.injEq,and_true] at he
 obtain⟨rfl,rfl,rfl,rfl⟩:=he
 exact⟨s,A,k,c,rfl,h1,h2,h3,h4⟩
theorem sign_ne {z:Int} (h:z≠0): ∃p,z.sign=p∧(p == 0)=false:=by
 refine⟨_,rfl,?_⟩
 rw [beq_eq_false_iff_ne]
 exact fun hc=>h (Int.sign_eq_zero_iff_zero.1 hc)
theorem sign_dec {s:Bool} {z:Int} (h:sg s z.natAbs=z) (h0:z≠0):s=decide (z<0):=by cases s<;>simp only [sg_false,sg_true] at h<;>simp<;>omega
theorem pos_bits (r:Nat):decide (0<bitsN r)=decide (0<r):=by
 have:=bits_zero_iff (n:=r)
 by_cases h:0<r
 ·rw [decide_eq_true h,decide_eq_true (by omega)]
 ·rw [decide_eq_false h,decide_eq_false (by omega)]
set_option maxHeartbeats 1600000 in
set_option maxRecDepth 100000 in
theorem quo0_d {w:World} {a b:Value} {x y:Dy} (p dir:Int) (ha:Hid (DV w a x)) (hb:Hid (DV w b y)) (hy0:y.z=0) (hT:Hid (Tab6 w)):Calls Tryz.prog 49 #[a,b,.int .i64 p,.int .i64 dir] w (QDPost ⟨0,0⟩ false w):=by
  obtain⟨s,A,k,c,rfl,hv⟩:=ha.out.form
  obtain⟨t,B,l,d,rfl,hv'⟩:=hb.out.form
  have hk:=(((KB.start w).new 32 [.bool s,.slice A k c,.int .i64 x.e]).new 32 [.bool t,.slice B l d,.int .i64 y.e]).new 32 [.bool false,.slice none 0 0,.int .i64 0]
  simp only [World.size_alloc] at hk
  have HX:=hid (hv.only hk.only)
  have HY:=hid (hv'.only hk.only)
  have HT:=hid (hT.out.keep hk.only)
  have HK:=hid hk
  clear hk hv hv' ha hb hT
  have HQ:Hid (y.z.sign=0):=by show _=_;rw [hy0];rfl
  clear hy0
  go_enter Tryz.func49,Tryz.ntmps49
  go_wp2_with fail
  (with_reducible refine (signV_d 0 (DV.of HY) HQ.out).mono ?_)
  rintro e2 w2 ⟨rfl,ho⟩
  replace HK:=hid (HK.out.step ho)
  obtain⟨c0,c1',c2,f0,f1,f2⟩:=HK.out.c3 0 rfl
  clear ho
  go_wp2_with fail
  refine bodyPost_ret (v:= .tuple #[.agg #[.bool false,.slice none 0 0,.int .i64 (0)],.bool false]) (by simp [results,Tryz.results49,go_sem,c0,c1',c2]) rfl ?_
  exact QDPost.of (dfin (x:=⟨0,0⟩) ⟨by decide,by show 0=(limbsOf 0).length;rw [limbsOf_zero];rfl⟩ (IV.zero _) (by omega) (HK.out.blk 0 rfl) (noLimb3 _ _ _ _ _) HK.out.only (only_set3 _ _ _ _ _))
set_option maxHeartbeats 1600000 in
set_option maxRecDepth 100000 in
theorem quoz_d {w:World} {a b:Value} {x y:Dy} (p dir:Int) (ha:Hid (DV w a x)) (hb:Hid (DV w b y)) (hy0:y.z≠0) (hx0:x.z=0) (hT:Hid (Tab6 w)):Calls Tryz.prog 49 #[a,b,.int .i64 p,.int .i64 dir] w (QDPost ⟨0,0⟩ true w):=by
  obtain⟨s,A,k,c,rfl,hv⟩:=ha.out.form
  obtain⟨t,B,l,d,rfl,hv'⟩:=hb.out.form
  have hk:=(((KB.start w).new 32 [.bool s,.slice A k c,.int .i64 x.e]).new 32 [.bool t,.slice B l d,.int .i64 y.e]).new 32 [.bool false,.slice none 0 0,.int .i64 0]
  simp only [World.size_alloc] at hk
  have HX:=hid (hv.only hk.only)
  have HY:=hid (hv'.only hk.only)
  have HT:=hid (hT.out.keep hk.only)
  have HK:=hid hk
  clear hk hv hv' ha hb hT
  have HP:Hid (x.z.sign=0):=by show _=_;rw [hx0];rfl
  obtain⟨q,hq,hq0⟩:=sign_ne hy0
  replace hq:=hid hq
  clear hy0 hx0
  go_enter Tryz.func49,Tryz.ntmps49
  go_wp2_with fail
  (with_reducible refine (signV_d q (DV.of HY) hq.out).mono ?_)
  rintro e2 w2 ⟨rfl,ho⟩
  replace HK:=hid (HK.out.step ho)
  replace HX:=hid (HX.out.only ho)
  replace HY:=hid (HY.out.only ho)
  obtain⟨a0,a1,a2,-,-,-⟩:=HK.out.c3 2 rfl
  obtain⟨b0,b1,b2,-,-,-⟩:=HK.out.c3 1 rfl
  clear ho
  go_wp2_with fail
  clear a0 a1 a2 b0 b1 b2
  (with_reducible refine (signV_d 0 (DV.of HX) HP.out).mono ?_)
  rintro e3 w3 ⟨rfl,ho⟩
  replace HK:=hid (HK.out.step ho)
  obtain⟨c0,c1',c2,f0,f1,f2⟩:=HK.out.c3 0 rfl
  clear ho
  go_wp2_with fail
  refine bodyPost_ret (v:= .tuple #[.agg #[.bool false,.slice none 0 0,.int .i64 (0)],.bool true]) (by simp [results,Tryz.results49,go_sem,c0,c1',c2]) rfl ?_
  exact QDPost.of (dfin (x:=⟨0,0⟩) ⟨by decide,by show 0=(limbsOf 0).length;rw [limbsOf_zero];rfl⟩ (IV.zero _) (by omega) (HK.out.blk 0 rfl) (noLimb3 _ _ _ _ _) HK.out.only (only_set3 _ _ _ _ _))
set_option maxHeartbeats 1600000 in
set_option maxRecDepth 100000 in
theorem quo_d {w:World} {a b:Value} {x y:Dy} {N:Nat} (p dir:Int) (ha:Hid (DV w a x)) (hb:Hid (DV w b y)) (hx:Hid (Bnd N x)) (hy:Hid (Bnd N y)) (hN:N≤100000) (hx0:x.z≠0) (hy0:y.z≠0) (hT:Hid (Tab6 w)):Calls Tryz.prog 49 #[a,b,.int .i64 p,.int .i64 dir] w (QDPost (quoD (widthP p) (decide (0≤dir)) x y) true w):=by
  have hTT:=hT
  obtain⟨s,A,k,c,rfl,hv⟩:=ha.out.form
  obtain⟨t,B,l,d,rfl,hv'⟩:=hb.out.form
  have hk:=(((KB.start w).new 32 [.bool s,.slice A k c,.int .i64 x.e]).new 32 [.bool t,.slice B l d,.int .i64 y.e]).new 32 [.bool false,.slice none 0 0,.int .i64 0]
  simp only [World.size_alloc] at hk
  have HX:=hid (hv.only hk.only)
  have HY:=hid (hv'.only hk.only)
  have HT:=hid (hT.out.keep hk.only)
  have HK:=hid hk
  clear hk hv hv' ha hb hT
  have hT:=hTT
  have hsx:=sign_dec HX.out.sign hx0
  have hsy:=sign_dec HY.out.sign hy0
  obtain⟨p0,hp,hp0⟩:=sign_ne hx0
  obtain⟨q0,hq,hq0⟩:=sign_ne hy0
  have HPS:=hid hp
  have HQ:=hid hq
  have hpr:=widthP_range p
  obtain⟨P,hP⟩: ∃P,widthP p=P:=⟨_,rfl⟩
  have HP:=hid hP
  rw [hP] at hpr ⊢
  have hxe1:=hx.out.lo
  have hxe2:=hx.out.hi
  have hye1:=hy.out.lo
  have hye2:=hy.out.hi
  have hbx:=bitsN_le hx.out.z
  have hby:=bitsN_le hy.out.z
  have hX0:x.z.natAbs≠0:=by omega
  have hY0:y.z.natAbs≠0:=by omega
  have hXl:=hx.out.z
  have HY0:Hid (decide (y.z.natAbs≠0)=true):=decide_eq_true hY0
  have HYZ:Hid (y.z.natAbs≠0):=hY0
  obtain⟨bx,hbx0⟩: ∃b,bitsN x.z.natAbs=b:=⟨_,rfl⟩
  obtain⟨by_,hby0⟩: ∃b,bitsN y.z.natAbs=b:=⟨_,rfl⟩
  have HBX:=hid hbx0
  have HBY:=hid hby0
  have hqs:quoS P x.z.natAbs y.z.natAbs=(P:Int)+2-(bx:Int)+(by_:Int):=by unfold quoS;rw [hbx0,hby0]
  have hqd:quoD P (decide (0≤dir)) x y=betD P (decide (0≤dir)) (!(s == t)) (shN x.z.natAbs (quoS P x.z.natAbs y.z.natAbs)/y.z.natAbs) (x.e-y.e-quoS P x.z.natAbs y.z.natAbs) (cutB x.z.natAbs (quoS P x.z.natAbs y.z.natAbs) || decide (0<shN x.z.natAbs (quoS P x.z.natAbs y.z.natAbs)%y.z.natAbs)):=by rw [hsx,hsy];rfl
  rw [hqd]
  have hsh:=sh_lt (K:=2*N+P+2) (n:=quoS P x.z.natAbs y.z.natAbs) hXl (by omega) (by omega)
  rw [hbx0] at hbx
  rw [hby0] at hby
  have HQL:Hid (shN x.z.natAbs (quoS P x.z.natAbs y.z.natAbs)/y.z.natAbs<2^(2*N+P+2)):=Nat.lt_of_le_of_lt (Nat.div_le_self _ _) hsh
  have hfx:Few (shN x.z.natAbs (quoS P x.z.natAbs y.z.natAbs)):=few_two_pow hsh (by omega)
  clear hsx hsy hqd hsh hXl hX0 hY0 hx0 hy0 hp hq hP hbx0 hby0
  obtain⟨n,hn⟩: ∃n,quoS P x.z.natAbs y.z.natAbs=n:=⟨_,rfl⟩
  rw [hn] at hqs HQL hfx ⊢
  clear hn
  have hP1:(P:Int)≤65536:=by omega
  have hN1:(N:Int)≤100000:=by omega
  have hbx1:(bx:Int)≤(N:Int):=by omega
  have hby1:(by_:Int)≤(N:Int):=by omega
  by_cases hn0:0≤n
  ·obtain⟨k,hk⟩: ∃k:Nat,n=(k:Int):=⟨n.toNat,by omega⟩
   subst hk
   have hsum:(P:Int)+2-(bx:Int)+(by_:Int)=(k:Int):=hqs.symm
   have hk16:(k:Int)≤16777216:=by omega
   have hxx:x.z.natAbs*2^k=shN x.z.natAbs (k:Int):=by unfold shN;rw [if_pos (by omega)];rfl
   have hcb:cutB x.z.natAbs (k:Int)=false:=by unfold cutB;rw [decide_eq_false (by omega)];rfl
   have HFX:Hid (Few (x.z.natAbs*2^k)):=by rw [hxx];exact hfx
   have HXX:=hid hxx
   rw [hcb,Bool.false_or]
   generalize shN x.z.natAbs (k:Int)=X at*
   clear hxx hcb hqs hn0 hfx hbx hby
   obtain⟨r,hr⟩: ∃r,bitsN (X%y.z.natAbs)=r:=⟨_,rfl⟩
   obtain⟨m,hm⟩: ∃m,decide (0<r)=m:=⟨_,rfl⟩
   have hm2:decide ((0:Int)<(r:Int))=m:=by rw [← hm];simp
   rw [show decide (0<X%y.z.natAbs)=m by rw [← pos_bits,hr,hm]]
   have HBR:=hid hr
   clear hr
   go_enter Tryz.func49,Tryz.ntmps49
   go_wp2_with fail
   (with_reducible refine (signV_d q0 (DV.of HY) HQ.out).mono ?_)
   rintro e2 w2 ⟨rfl,ho⟩
   replace HK:=hid (HK.out.step ho)
   replace HX:=hid (HX.out.only ho)
   replace HY:=hid (HY.out.only ho)
   obtain⟨a0,a1,a2,-,-,-⟩:=HK.out.c3 2 rfl
   obtain⟨b0,b1,b2,-,-,-⟩:=HK.out.c3 1 rfl
   clear ho
   go_wp2_with fail
   clear a0 a1 a2 b0 b1 b2
   (with_reducible refine (signV_d p0 (DV.of HX) HPS.out).mono ?_)
   rintro e2 w2 ⟨rfl,ho⟩
   replace HK:=hid (HK.out.step ho)
   have HMX:=hid (HX.out.mag.only ho)
   have HMY:=hid (HY.out.mag.only ho)
   clear ho HX HY HT
   go_upto_region 5 with fail
   apply wp_region_typed2 (by kernel_rfl) [isV _,isV _,isV _,isV _,isV _,isV _,isV _,isV _] [[],[0],[1],[],[3],[4],[2],[5]] (by kernel_rfl) (by kernel_rfl)
   case ho=>
    refine owes2_cons (fun wx hox=>?_) ?_
    ·skip
     skip
     refine withs_plain rfl ?_
     simp only [withs,List.getElem?_cons_zero,List.getElem?_cons_succ,Option.bind,Option.getD]
     repeat (with_reducible refine all_isV ?_)
     go_simp
     exact⟨Only.refl _ _,isV.self _ _⟩
    refine owes2_cons (fun wx hox=>?_) ?_
    ·skip
     skip
     refine withs_plain rfl ?_
     simp only [withs,List.getElem?_cons_zero,List.getElem?_cons_succ,Option.bind,Option.getD]
     repeat (with_reducible refine all_isV ?_)
     go_simp
     exact⟨Only.refl _ _,isV.self _ _⟩
    refine owes2_cons (fun wx hox=>?_) ?_
    ·skip
     have hk:=HK.out.step hox
     obtain⟨a0,a1,a2,-,-,-⟩:=hk.c3 2 rfl
     obtain⟨b0,b1,b2,-,-,-⟩:=hk.c3 1 rfl
     clear hk
     refine withs_plain rfl ?_
     simp only [withs,List.getElem?_cons_zero,List.getElem?_cons_succ,Option.bind,Option.getD]
     repeat (with_reducible refine all_isV ?_)
     go_simp
     exact⟨Only.refl _ _,isV.self _ _⟩
    refine owes2_cons (fun wx hox=>?_) ?_
    ·skip
     skip
     refine withs_plain rfl ?_
     simp only [withs,List.getElem?_cons_zero,List.getElem?_cons_succ,Option.bind,Option.getD]
     repeat (with_reducible refine all_isV ?_)
     go_simp
     exact⟨Only.refl _ _,isV.self _ _⟩
    refine owes2_cons (fun wx hox=>?_) ?_
    ·skip
     skip
     refine withs_plain rfl ?_
     simp only [withs,List.getElem?_cons_zero,List.getElem?_cons_succ,Option.bind,Option.getD]
     repeat (with_reducible refine all_isV ?_)
     go_simp
     exact⟨Only.refl _ _,isV.self _ _⟩
    refine owes2_cons (fun wx hox=>?_) ?_
    ·skip
     have hk:=HK.out.step hox
     obtain⟨a0,a1,a2,-,-,-⟩:=hk.c3 2 rfl
     obtain⟨b0,b1,b2,-,-,-⟩:=hk.c3 1 rfl
     clear hk
     refine withs_plain rfl ?_
     simp only [withs,List.getElem?_cons_zero,List.getElem?_cons_succ,Option.bind,Option.getD]
     repeat (with_reducible refine all_isV ?_)
     go_simp
     exact⟨Only.refl _ _,isV.self _ _⟩
    refine owes2_cons (fun wx hox=>?_) ?_
    ·skip
     skip
     refine withs_plain rfl ?_
     simp only [withs,List.getElem?_cons_zero,List.getElem?_cons_succ,Option.bind,Option.getD]
     repeat (with_reducible refine all_isV ?_)
     go_simp
     exact⟨Only.refl _ _,isV.self _ _⟩
    refine owes2_cons (fun wx hox=>?_) ?_
    ·skip
     skip
     refine withs_plain rfl ?_
     simp only [withs,List.getElem?_cons_zero,List.getElem?_cons_succ,Option.bind,Option.getD]
     repeat (with_reducible refine all_isV ?_)
     go_simp
     exact⟨Only.refl _ _,isV.self _ _⟩
    exact owes2_nil
   case he=>
    intro wx hox
    refine withs_of (by simp only [List.length,List.range,List.range.loop];exact rfl) ?_
    simp only [withs,List.getElem?_cons_zero,List.getElem?_cons_succ,Option.bind,Option.getD]
    repeat (with_reducible refine all_isV ?_)
    go_simp
    replace HK:=hid (HK.out.step hox)
    replace HMX:=hid (HMX.out.only hox)
    replace HMY:=hid (HMY.out.only hox)
    clear hox
    obtain⟨a0,a1,a2,-,-,-⟩:=HK.out.c3 2 rfl
    obtain⟨b0,b1,b2,-,-,-⟩:=HK.out.c3 1 rfl
    go_wp2_with fail
    (with_reducible refine (width_any p _).mono ?_)
    rintro e4 w4 ⟨rfl,rfl⟩
    rw [HP.out]
    go_wp2_with fail
    (with_reducible refine (bits_v HMX).mono ?_)
    rintro e5 w5 ⟨rfl,rfl⟩
    rw [HBX.out]
    go_wp2_with fail
    (with_reducible refine (bits_v HMY).mono ?_)
    rintro e6 w6 ⟨rfl,rfl⟩
    rw [HBY.out]
    clear a0 a1 a2 b0 b1 b2
    go_wp2_with fail
    (with_reducible refine (left_d k hk16 HMX HFX).mono ?_)
    rintro e7 w7 ⟨A7,k7,c7,rfl,-,hv7,ho⟩
    rw [HXX.out] at hv7
    replace HK:=hid (HK.out.step ho)
    replace HMY:=hid (HMY.out.only ho)
    have HMX:=hid hv7
    clear hv7 ho
    go_wp2_with fail
    (with_reducible refine (divMod_v HMX HMY).mono ?_)
    rintro e8 w8 ⟨A8,k8,c8,A9,k9,c9,_,_,rfl,rfl,rfl,-,-,hq8,hr8,-,ho⟩
    rw [HY0.out]
    rw [if_neg HYZ.out] at hr8
    replace HK:=hid (HK.out.step ho)
    have HMQ:=hid hq8
    have HMR:=hid hr8
    have HT8:=hid (hT.out.keep HK.out.only)
    obtain⟨a0,a1,a2,-,-,-⟩:=HK.out.c3 2 rfl
    obtain⟨b0,b1,b2,-,-,-⟩:=HK.out.c3 1 rfl
    clear hq8 hr8 ho HMX HMY
    go_wp2_with fail
    (with_reducible refine (bits_v HMR).mono ?_)
    rintro e10 w10 ⟨rfl,rfl⟩
    rw [HBR.out]
    go_wp2_with fail
    (with_reducible refine (bet_d (K:=2*N+P+2) (L:=3*N+P+2) (!(s == t)) m _ p dir HMQ HQL ?_ ?_ (by omega) HT8).mono ?_)
    ·omega
    ·omega
    rintro e9 w9 ⟨s9,A10,k10,c10,rfl,hs9,hk9,hv9,ho⟩
    rw [HP.out] at hs9 hk9 hv9 ⊢
    replace HK:=hid (HK.out.step ho)
    have HC:=hid (⟨hs9,hk9⟩:Cn s9 k10 _)
    have HV:=hid hv9
    obtain⟨c0,c1',c2,f0,f1,f2⟩:=HK.out.c3 0 rfl
    clear hv9 hs9 hk9 ho HMQ HT8 a0 a1 a2 b0 b1 b2
    generalize betD P (decide (0≤dir)) (!(s == t)) _ _ _=r at*
    go_wp2_with fail
    refine bodyPost_ret (v:= .tuple #[.agg #[.bool s9,.slice A10 k10 c10,.int .i64 (r.e)],.bool true]) (by simp [results,Tryz.results49,go_sem,c0,c1',c2]) rfl ?_
    exact QDPost.of (dfin HC HV (by omega) (HK.out.blk 0 rfl) (noLimb3 _ _ _ _ _) HK.out.only (only_set3 _ _ _ _ _))
   case hl=>
    repeat (refine List.forall_mem_cons.2 ⟨?_,?_⟩;exact isV.lasts _)
    exact fun _ h=>(by cases h)
  ·obtain⟨k,hk⟩: ∃k:Nat,n= -(k:Int):=⟨(-n).toNat,by omega⟩
   subst hk
   have hk0:(0:Int)<(k:Int):=by omega
   have hk1:0<k:=by omega
   have hk2: ¬k=0:=by omega
   have hk4:decide ((0:Int)≤ -(k:Int))=false:=decide_eq_false (by omega)
   have hsum:(P:Int)+2-(bx:Int)+(by_:Int)= -(k:Int):=hqs.symm
   have hk16:(k:Int)≤16777216:=by omega
   have hxx:x.z.natAbs/2^k=shN x.z.natAbs (-(k:Int)):=by unfold shN;rw [if_neg (by omega)];simp
   obtain⟨l,hl⟩: ∃l,lowN x.z.natAbs=l:=⟨_,rfl⟩
   have hcb:cutB x.z.natAbs (-(k:Int))=decide (l<k):=by unfold cutB;rw [decide_eq_true (by omega),hl];simp
   have HXX:=hid hxx
   have HLW:=hid hl
   rw [hcb,show x.e-y.e- -(k:Int)=x.e-y.e+(k:Int) by omega]
   generalize shN x.z.natAbs (-(k:Int))=X at*
   clear hxx hcb hqs hn0 hfx hbx hby hl
   by_cases hlk:l<k
   ·rw [decide_eq_true hlk,Bool.true_or]
    have hl1:decide ((l:Int)<(k:Int))=true:=decide_eq_true (by omega)
    go_enter Tryz.func49,Tryz.ntmps49
    go_wp2_with fail
    (with_reducible refine (signV_d q0 (DV.of HY) HQ.out).mono ?_)
    rintro e2 w2 ⟨rfl,ho⟩
    replace HK:=hid (HK.out.step ho)
    replace HX:=hid (HX.out.only ho)
    replace HY:=hid (HY.out.only ho)
    obtain⟨a0,a1,a2,-,-,-⟩:=HK.out.c3 2 rfl
    obtain⟨b0,b1,b2,-,-,-⟩:=HK.out.c3 1 rfl
    clear ho
    go_wp2_with fail
    clear a0 a1 a2 b0 b1 b2
    (with_reducible refine (signV_d p0 (DV.of HX) HPS.out).mono ?_)
    rintro e2 w2 ⟨rfl,ho⟩
    replace HK:=hid (HK.out.step ho)
    have HMX:=hid (HX.out.mag.only ho)
    have HMY:=hid (HY.out.mag.only ho)
    clear ho HX HY HT
    go_upto_region 5 with fail
    apply wp_region_typed2 (by kernel_rfl) [isV _,isV _,isV _,isV _,isV _,isV _,isV _,isV _] [[],[0],[1],[],[3],[4],[2],[5]] (by kernel_rfl) (by kernel_rfl)
    case ho=>
     refine owes2_cons (fun wx hox=>?_) ?_
     ·skip
      skip
      refine withs_plain rfl ?_
      simp only [withs,List.getElem?_cons_zero,List.getElem?_cons_succ,Option.bind,Option.getD]
      repeat (with_reducible refine all_isV ?_)
      go_simp
      exact⟨Only.refl _ _,isV.self _ _⟩
     refine owes2_cons (fun wx hox=>?_) ?_
     ·skip
      skip
      refine withs_plain rfl ?_
      simp only [withs,List.getElem?_cons_zero,List.getElem?_cons_succ,Option.bind,Option.getD]
      repeat (with_reducible refine all_isV ?_)
      go_simp
      exact⟨Only.refl _ _,isV.self _ _⟩
     refine owes2_cons (fun wx hox=>?_) ?_
     ·skip
      have hk:=HK.out.step hox
      obtain⟨a0,a1,a2,-,-,-⟩:=hk.c3 2 rfl
      obtain⟨b0,b1,b2,-,-,-⟩:=hk.c3 1 rfl
      clear hk
      refine withs_plain rfl ?_
      simp only [withs,List.getElem?_cons_zero,List.getElem?_cons_succ,Option.bind,Option.getD]
      repeat (with_reducible refine all_isV ?_)
      go_simp
      exact⟨Only.refl _ _,isV.self _ _⟩
     refine owes2_cons (fun wx hox=>?_) ?_
     ·skip
      skip
      refine withs_plain rfl ?_
      simp only [withs,List.getElem?_cons_zero,List.getElem?_cons_succ,Option.bind,Option.getD]
      repeat (with_reducible refine all_isV ?_)
      go_simp
      exact⟨Only.refl _ _,isV.self _ _⟩
     refine owes2_cons (fun wx hox=>?_) ?_
     ·skip
      skip
      refine withs_plain rfl ?_
      simp only [withs,List.getElem?_cons_zero,List.getElem?_cons_succ,Option.bind,Option.getD]
      repeat (with_reducible refine all_isV ?_)
      go_simp
      exact⟨Only.refl _ _,isV.self _ _⟩
     refine owes2_cons (fun wx hox=>?_) ?_
     ·skip
      have hk:=HK.out.step hox
      obtain⟨a0,a1,a2,-,-,-⟩:=hk.c3 2 rfl
      obtain⟨b0,b1,b2,-,-,-⟩:=hk.c3 1 rfl
      clear hk
      refine withs_plain rfl ?_
      simp only [withs,List.getElem?_cons_zero,List.getElem?_cons_succ,Option.bind,Option.getD]
      repeat (with_reducible refine all_isV ?_)
      go_simp
      exact⟨Only.refl _ _,isV.self _ _⟩
     refine owes2_cons (fun wx hox=>?_) ?_
     ·skip
      skip
      refine withs_plain rfl ?_
      simp only [withs,List.getElem?_cons_zero,List.getElem?_cons_succ,Option.bind,Option.getD]
      repeat (with_reducible refine all_isV ?_)
      go_simp
      exact⟨Only.refl _ _,isV.self _ _⟩
     refine owes2_cons (fun wx hox=>?_) ?_
     ·skip
      skip
      refine withs_plain rfl ?_
      simp only [withs,List.getElem?_cons_zero,List.getElem?_cons_succ,Option.bind,Option.getD]
      repeat (with_reducible refine all_isV ?_)
      go_simp
      exact⟨Only.refl _ _,isV.self _ _⟩
     exact owes2_nil
    case he=>
     intro wx hox
     refine withs_of (by simp only [List.length,List.range,List.range.loop];exact rfl) ?_
     simp only [withs,List.getElem?_cons_zero,List.getElem?_cons_succ,Option.bind,Option.getD]
     repeat (with_reducible refine all_isV ?_)
     go_simp
     replace HK:=hid (HK.out.step hox)
     replace HMX:=hid (HMX.out.only hox)
     replace HMY:=hid (HMY.out.only hox)
     clear hox
     obtain⟨a0,a1,a2,-,-,-⟩:=HK.out.c3 2 rfl
     obtain⟨b0,b1,b2,-,-,-⟩:=HK.out.c3 1 rfl
     go_wp2_with fail
     (with_reducible refine (width_any p _).mono ?_)
     rintro e4 w4 ⟨rfl,rfl⟩
     rw [HP.out]
     go_wp2_with fail
     (with_reducible refine (bits_v HMX).mono ?_)
     rintro e5 w5 ⟨rfl,rfl⟩
     rw [HBX.out]
     go_wp2_with fail
     (with_reducible refine (bits_v HMY).mono ?_)
     rintro e6 w6 ⟨rfl,rfl⟩
     rw [HBY.out]
     clear a0 a1 a2 b0 b1 b2
     go_wp2_with fail
     (with_reducible refine (low_v HMX (hid (hT.out.keep HK.out.only))).mono ?_)
     rintro e10 w10 ⟨rfl,rfl⟩
     rw [HLW.out]
     go_wp2_with fail
     (with_reducible refine (right_d k hk16 HMX).mono ?_)
     rintro e7 w7 ⟨A7,k7,c7,rfl,-,hv7,ho⟩
     rw [HXX.out] at hv7
     replace HK:=hid (HK.out.step ho)
     replace HMY:=hid (HMY.out.only ho)
     have HMX:=hid hv7
     clear hv7 ho
     go_wp2_with fail
     (with_reducible refine (divMod_v HMX HMY).mono ?_)
     rintro e8 w8 ⟨A8,k8,c8,A9,k9,c9,_,_,rfl,rfl,rfl,-,-,hq8,hr8,-,ho⟩
     rw [HY0.out]
     rw [if_neg HYZ.out] at hr8
     replace HK:=hid (HK.out.step ho)
     have HMQ:=hid hq8
     have HMR:=hid hr8
     have HT8:=hid (hT.out.keep HK.out.only)
     obtain⟨a0,a1,a2,-,-,-⟩:=HK.out.c3 2 rfl
     obtain⟨b0,b1,b2,-,-,-⟩:=HK.out.c3 1 rfl
     clear hq8 hr8 ho HMX HMY
     go_wp2_with fail
     (with_reducible refine (bet_d (K:=2*N+P+2) (L:=3*N+P+2) (!(s == t)) true _ p dir HMQ HQL ?_ ?_ (by omega) HT8).mono ?_)
     ·omega
     ·omega
     rintro e9 w9 ⟨s9,A10,k10,c10,rfl,hs9,hk9,hv9,ho⟩
     rw [HP.out] at hs9 hk9 hv9 ⊢
     replace HK:=hid (HK.out.step ho)
     have HC:=hid (⟨hs9,hk9⟩:Cn s9 k10 _)
     have HV:=hid hv9
     obtain⟨c0,c1',c2,f0,f1,f2⟩:=HK.out.c3 0 rfl
     clear hv9 hs9 hk9 ho HMQ HT8 a0 a1 a2 b0 b1 b2
     generalize betD P (decide (0≤dir)) (!(s == t)) _ _ _=r at*
     go_wp2_with fail
     refine bodyPost_ret (v:= .tuple #[.agg #[.bool s9,.slice A10 k10 c10,.int .i64 (r.e)],.bool true]) (by simp [results,Tryz.results49,go_sem,c0,c1',c2]) rfl ?_
     exact QDPost.of (dfin HC HV (by omega) (HK.out.blk 0 rfl) (noLimb3 _ _ _ _ _) HK.out.only (only_set3 _ _ _ _ _))
    case hl=>
     repeat (refine List.forall_mem_cons.2 ⟨?_,?_⟩;exact isV.lasts _)
     exact fun _ h=>(by cases h)
   ·rw [decide_eq_false hlk,Bool.false_or]
    have hl1:decide ((l:Int)<(k:Int))=false:=decide_eq_false (by omega)
    obtain⟨r,hr⟩: ∃r,bitsN (X%y.z.natAbs)=r:=⟨_,rfl⟩
    obtain⟨m,hm⟩: ∃m,decide (0<r)=m:=⟨_,rfl⟩
    have hm2:decide ((0:Int)<(r:Int))=m:=by rw [← hm];simp
    rw [show decide (0<X%y.z.natAbs)=m by rw [← pos_bits,hr,hm]]
    have HBR:=hid hr
    clear hr
    go_enter Tryz.func49,Tryz.ntmps49
    go_wp2_with fail
    (with_reducible refine (signV_d q0 (DV.of HY) HQ.out).mono ?_)
    rintro e2 w2 ⟨rfl,ho⟩
    replace HK:=hid (HK.out.step ho)
    replace HX:=hid (HX.out.only ho)
    replace HY:=hid (HY.out.only ho)
    obtain⟨a0,a1,a2,-,-,-⟩:=HK.out.c3 2 rfl
    obtain⟨b0,b1,b2,-,-,-⟩:=HK.out.c3 1 rfl
    clear ho
    go_wp2_with fail
    clear a0 a1 a2 b0 b1 b2
    (with_reducible refine (signV_d p0 (DV.of HX) HPS.out).mono ?_)
    rintro e2 w2 ⟨rfl,ho⟩
    replace HK:=hid (HK.out.step ho)
    have HMX:=hid (HX.out.mag.only ho)
    have HMY:=hid (HY.out.mag.only ho)
    clear ho HX HY HT
    go_upto_region 5 with fail
    apply wp_region_typed2 (by kernel_rfl) [isV _,isV _,isV _,isV _,isV _,isV _,isV _,isV _] [[],[0],[1],[],[3],[4],[2],[5]] (by kernel_rfl) (by kernel_rfl)
    case ho=>
     refine owes2_cons (fun wx hox=>?_) ?_
     ·skip
      skip
      refine withs_plain rfl ?_
      simp only [withs,List.getElem?_cons_zero,List.getElem?_cons_succ,Option.bind,Option.getD]
      repeat (with_reducible refine all_isV ?_)
      go_simp
      exact⟨Only.refl _ _,isV.self _ _⟩
     refine owes2_cons (fun wx hox=>?_) ?_
     ·skip
      skip
      refine withs_plain rfl ?_
      simp only [withs,List.getElem?_cons_zero,List.getElem?_cons_succ,Option.bind,Option.getD]
      repeat (with_reducible refine all_isV ?_)
      go_simp
      exact⟨Only.refl _ _,isV.self _ _⟩
     refine owes2_cons (fun wx hox=>?_) ?_
     ·skip
      have hk:=HK.out.step hox
      obtain⟨a0,a1,a2,-,-,-⟩:=hk.c3 2 rfl
      obtain⟨b0,b1,b2,-,-,-⟩:=hk.c3 1 rfl
      clear hk
      refine withs_plain rfl ?_
      simp only [withs,List.getElem?_cons_zero,List.getElem?_cons_succ,Option.bind,Option.getD]
      repeat (with_reducible refine all_isV ?_)
      go_simp
      exact⟨Only.refl _ _,isV.self _ _⟩
     refine owes2_cons (fun wx hox=>?_) ?_
     ·skip
      skip
      refine withs_plain rfl ?_
      simp only [withs,List.getElem?_cons_zero,List.getElem?_cons_succ,Option.bind,Option.getD]
      repeat (with_reducible refine all_isV ?_)
      go_simp
      exact⟨Only.refl _ _,isV.self _ _⟩
     refine owes2_cons (fun wx hox=>?_) ?_
     ·skip
      skip
      refine withs_plain rfl ?_
      simp only [withs,List.getElem?_cons_zero,List.getElem?_cons_succ,Option.bind,Option.getD]
      repeat (with_reducible refine all_isV ?_)
      go_simp
      exact⟨Only.refl _ _,isV.self _ _⟩
     refine owes2_cons (fun wx hox=>?_) ?_
     ·skip
      have hk:=HK.out.step hox
      obtain⟨a0,a1,a2,-,-,-⟩:=hk.c3 2 rfl
      obtain⟨b0,b1,b2,-,-,-⟩:=hk.c3 1 rfl
      clear hk
      refine withs_plain rfl ?_
      simp only [withs,List.getElem?_cons_zero,List.getElem?_cons_succ,Option.bind,Option.getD]
      repeat (with_reducible refine all_isV ?_)
      go_simp
      exact⟨Only.refl _ _,isV.self _ _⟩
     refine owes2_cons (fun wx hox=>?_) ?_
     ·skip
      skip
      refine withs_plain rfl ?_
      simp only [withs,List.getElem?_cons_zero,List.getElem?_cons_succ,Option.bind,Option.getD]
      repeat (with_reducible refine all_isV ?_)
      go_simp
      exact⟨Only.refl _ _,isV.self _ _⟩
     refine owes2_cons (fun wx hox=>?_) ?_
     ·skip
      skip
      refine withs_plain rfl ?_
      simp only [withs,List.getElem?_cons_zero,List.getElem?_cons_succ,Option.bind,Option.getD]
      repeat (with_reducible refine all_isV ?_)
      go_simp
      exact⟨Only.refl _ _,isV.self _ _⟩
     exact owes2_nil
    case he=>
     intro wx hox
     refine withs_of (by simp only [List.length,List.range,List.range.loop];exact rfl) ?_
     simp only [withs,List.getElem?_cons_zero,List.getElem?_cons_succ,Option.bind,Option.getD]
     repeat (with_reducible refine all_isV ?_)
     go_simp
     replace HK:=hid (HK.out.step hox)
     replace HMX:=hid (HMX.out.only hox)
     replace HMY:=hid (HMY.out.only hox)
     clear hox
     obtain⟨a0,a1,a2,-,-,-⟩:=HK.out.c3 2 rfl
     obtain⟨b0,b1,b2,-,-,-⟩:=HK.out.c3 1 rfl
     go_wp2_with fail
     (with_reducible refine (width_any p _).mono ?_)
     rintro e4 w4 ⟨rfl,rfl⟩
     rw [HP.out]
     go_wp2_with fail
     (with_reducible refine (bits_v HMX).mono ?_)
     rintro e5 w5 ⟨rfl,rfl⟩
     rw [HBX.out]
     go_wp2_with fail
     (with_reducible refine (bits_v HMY).mono ?_)
     rintro e6 w6 ⟨rfl,rfl⟩
     rw [HBY.out]
     clear a0 a1 a2 b0 b1 b2
     go_wp2_with fail
     (with_reducible refine (low_v HMX (hid (hT.out.keep HK.out.only))).mono ?_)
     rintro e10 w10 ⟨rfl,rfl⟩
     rw [HLW.out]
     go_wp2_with fail
     (with_reducible refine (right_d k hk16 HMX).mono ?_)
     rintro e7 w7 ⟨A7,k7,c7,rfl,-,hv7,ho⟩
     rw [HXX.out] at hv7
     replace HK:=hid (HK.out.step ho)
     replace HMY:=hid (HMY.out.only ho)
     have HMX:=hid hv7
     clear hv7 ho
     go_wp2_with fail
     (with_reducible refine (divMod_v HMX HMY).mono ?_)
     rintro e8 w8 ⟨A8,k8,c8,A9,k9,c9,_,_,rfl,rfl,rfl,-,-,hq8,hr8,-,ho⟩
     rw [HY0.out]
     rw [if_neg HYZ.out] at hr8
     replace HK:=hid (HK.out.step ho)
     have HMQ:=hid hq8
     have HMR:=hid hr8
     have HT8:=hid (hT.out.keep HK.out.only)
     obtain⟨a0,a1,a2,-,-,-⟩:=HK.out.c3 2 rfl
     obtain⟨b0,b1,b2,-,-,-⟩:=HK.out.c3 1 rfl
     clear hq8 hr8 ho HMX HMY
     go_wp2_with fail
     (with_reducible refine (bits_v HMR).mono ?_)
     rintro e10 w10 ⟨rfl,rfl⟩
     rw [HBR.out]
     go_wp2_with fail
     (with_reducible refine (bet_d (K:=2*N+P+2) (L:=3*N+P+2) (!(s == t)) m _ p dir HMQ HQL ?_ ?_ (by omega) HT8).mono ?_)
     ·omega
     ·omega
     rintro e9 w9 ⟨s9,A10,k10,c10,rfl,hs9,hk9,hv9,ho⟩
     rw [HP.out] at hs9 hk9 hv9 ⊢
     replace HK:=hid (HK.out.step ho)
     have HC:=hid (⟨hs9,hk9⟩:Cn s9 k10 _)
     have HV:=hid hv9
     obtain⟨c0,c1',c2,f0,f1,f2⟩:=HK.out.c3 0 rfl
     clear hv9 hs9 hk9 ho HMQ HT8 a0 a1 a2 b0 b1 b2
     generalize betD P (decide (0≤dir)) (!(s == t)) _ _ _=r at*
     go_wp2_with fail
     refine bodyPost_ret (v:= .tuple #[.agg #[.bool s9,.slice A10 k10 c10,.int .i64 (r.e)],.bool true]) (by simp [results,Tryz.results49,go_sem,c0,c1',c2]) rfl ?_
     exact QDPost.of (dfin HC HV (by omega) (HK.out.blk 0 rfl) (noLimb3 _ _ _ _ _) HK.out.only (only_set3 _ _ _ _ _))
    case hl=>
     repeat (refine List.forall_mem_cons.2 ⟨?_,?_⟩;exact isV.lasts _)
     exact fun _ h=>(by cases h)
theorem quoA_d {w:World} {a b:Value} {x y:Dy} {N:Nat} (p dir:Int) (ha:Hid (DV w a x)) (hb:Hid (DV w b y)) (hx:Hid (Bnd N x)) (hy:Hid (Bnd N y)) (hN:N≤100000) (hT:Hid (Tab6 w)):Calls Tryz.prog 49 #[a,b,.int .i64 p,.int .i64 dir] w (QDPost (quoQ (widthP p) (decide (0≤dir)) x y) (decide (y.z≠0)) w):=by
 unfold quoQ
 by_cases hy0:y.z=0
 ·rw [if_pos hy0,decide_eq_false (by omega)]
  exact quo0_d p dir ha hb hy0 hT
 ·rw [if_neg hy0,decide_eq_true hy0]
  by_cases hx0:x.z=0
  ·rw [if_pos hx0]
   exact quoz_d p dir ha hb hy0 hx0 hT
  ·rw [if_neg hx0]
   exact quo_d p dir ha hb hx hy hN hx0 hy0 hT
theorem ofV_d (v:Int) (x:Dy) (w:World) (hx:nrm v 0=x) (hv:Hid (-9223372036854775808≤v∧v≤9223372036854775807)) (hT:Hid (Tab6 w)):Calls Tryz.prog 39 #[.int .i64 v] w (DPost x w):=hx▸of_d v w hv hT
theorem quoV_d {w:World} {a b:Value} {x y:Dy} {N:Nat} (p dir:Int) (r:Dy) (ok:Bool) (hr:quoQ (widthP p) (decide (0≤dir)) x y=r) (hok:decide (y.z≠0)=ok) (ha:Hid (DV w a x)) (hb:Hid (DV w b y)) (hx:Hid (Bnd N x)) (hy:Hid (Bnd N y)) (hN:N≤100000) (hT:Hid (Tab6 w)):Calls Tryz.prog 49 #[a,b,.int .i64 p,.int .i64 dir] w (QDPost r ok w):=hr▸hok▸quoA_d p dir ha hb hx hy hN hT
structure DX where
 g:Nat
 s:Bool
 a:Option Addr
 k:Nat
 c:Nat
 x:Dy
def DX.ok (w:World) (b:DX):Prop:=Blk w b.g 32 [.bool b.s,.slice b.a b.k b.c,.int .i64 b.x.e]∧IV w (.agg #[.bool b.s,.slice b.a b.k b.c]) b.x.z
structure DB (w0 w:World) (L:List DX):Prop where
 only:Only [] w0 w
 all: ∀(i:Nat) (x:DX),L[i]? =some x→DX.ok w x
 base: ∀(i:Nat) (x:DX),L[i]? =some x→w0.heap.size≤x.g
 ne: ∀(i j:Nat) (x y:DX),i≠j→L[i]? =some x→L[j]? =some y→x.g≠y.g
theorem DB.start (w:World):DB w w []:=⟨Only.refl _ _,fun i x h=>by simp at h,fun i x h=>by simp at h,fun i j x y _ h=>by simp at h⟩
theorem DB.step {w0 w w':World} {L:List DX} (h:DB w0 w L) (ho:Only [] w w'):DB w0 w' L:=⟨h.only.nil_trans ho,fun i x hx=>⟨(h.all i x hx).1.only ho (by simp),(h.all i x hx).2.only ho⟩,h.base,h.ne⟩
theorem DB.new {w0 w:World} {L:List DX} (h:DB w0 w L) {s:Bool} {A:Option Addr} {k c:Nat} {x:Dy} (hv:IV w (.agg #[.bool s,.slice A k c]) x.z):
  DB w0 (w.alloc (.cells #[.bool s,.slice A k c,.int .i64 x.e] 32)) (⟨w.heap.size,s,A,k,c,x⟩::L):=by
 have ho:Only [] w (w.alloc (.cells #[.bool s,.slice A k c,.int .i64 x.e] 32)):=(Only.refl [] w).alloc _
 have h':=h.step ho
 refine⟨h'.only,fun i y hy=>?_,fun i y hy=>?_,fun i j y z hij hy hz=>?_⟩
 ·rcases i with _|i
  ·obtain rfl:=(Option.some.inj hy).symm
   exact⟨Blk.new w _ _,hv.only ho⟩
  ·exact h'.all i y hy
 ·rcases i with _|i
  ·obtain rfl:=(Option.some.inj hy).symm
   exact h.only.size
  ·exact h.base i y hy
 ·rcases i with _|i
  ·rcases j with _|j
   ·omega
   ·obtain rfl:=(Option.some.inj hy).symm
    have:=(h.all j z hz).1.lt
    show w.heap.size≠z.g
    omega
  ·rcases j with _|j
   ·obtain rfl:=(Option.some.inj hz).symm
    have:=(h.all i y hy).1.lt
    show y.g≠w.heap.size
    omega
   ·exact h.ne i j y z (by omega) hy hz
theorem DB.cells {w0 w:World} {L:List DX} (h:Hid (DB w0 w L)) (i:Nat) {g:Nat} {s:Bool} {A:Option Addr} {k c:Nat} {x:Dy} (hi:L[i]? =some ⟨g,s,A,k,c,x⟩):
  w.cell? ⟨g,0,none⟩=some (.bool s)∧w.cell? ⟨g,1,none⟩=some (.slice A k c)∧w.cell? ⟨g,2,none⟩=some (.int .i64 x.e)∧w.frozen? ⟨g,0,none⟩=false∧w.frozen? ⟨g,1,none⟩=false∧w.frozen? ⟨g,2,none⟩=false:=
 have hb:=(h.out.all i _ hi).1
 ⟨hb.cell 0,hb.cell 1,hb.cell 2,hb.frozen 0,hb.frozen 1,hb.frozen 2⟩
theorem DB.iv {w0 w:World} {L:List DX} (h:Hid (DB w0 w L)) (i:Nat) {g:Nat} {s:Bool} {A:Option Addr} {k c:Nat} {x:Dy} (hi:L[i]? =some ⟨g,s,A,k,c,x⟩):Hid (IV w (.agg #[.bool s,.slice A k c]) x.z):=(h.out.all i _ hi).2
theorem DB.dv {w0 w:World} {L:List DX} (h:Hid (DB w0 w L)) (i:Nat) {g:Nat} {s:Bool} {A:Option Addr} {k c:Nat} {x:Dy} (hi:L[i]? =some ⟨g,s,A,k,c,x⟩):Hid (DV w (.agg #[.bool s,.slice A k c,.int .i64 x.e]) x):=DV.of (DB.iv h i hi)
theorem DB.put {w0 w:World} {L:List DX} (h:DB w0 w L) (i:Nat) {g:Nat} {s0 s:Bool} {A0 A:Option Addr} {k0 k c0 c:Nat} {x0 x:Dy} (hi:L[i]? =some ⟨g,s0,A0,k0,c0,x0⟩) (hv:IV w (.agg #[.bool s,.slice A k c]) x.z):
  DB w0 (((w.setCell ⟨g,0,none⟩ (.bool s)).setCell ⟨g,1,none⟩ (.slice A k c)).setCell ⟨g,2,none⟩ (.int .i64 x.e)) (L.set i ⟨g,s,A,k,c,x⟩):=by
 have hb:=h.all i _ hi
 have ho:=only_set3 w g (.bool s) (.slice A k c) (.int .i64 x.e)
 have hg:w0.heap.size≤g:=h.base i _ hi
 have hlen:i<L.length:=(List.getElem?_eq_some_iff.1 hi).1
 have far: ∀{r:Bool} {C:Option Addr} {j l:Nat} {z:Int},IV w (.agg #[.bool r,.slice C j l]) z→IV (((w.setCell ⟨g,0,none⟩ (.bool s)).setCell ⟨g,1,none⟩ (.slice A k c)).setCell ⟨g,2,none⟩ (.int .i64 x.e)) (.agg #[.bool r,.slice C j l]) z:=fun hiv=>
  hiv.farS ho (fun g' hg'=>by rw [List.mem_singleton] at hg';subst hg';exact hiv.far_blk hb.1 (noLimb3 _ _ _ _ _))
 have hne: ∀(j:Nat) (y:DX),L[j]? =some y→j≠i→y.g≠g:=fun j y hy hj=>h.ne j i y _ hj hy hi
 have key: ∀(j:Nat) (y:DX),(L.set i ⟨g,s,A,k,c,x⟩)[j]? =some y→(j=i∧y=⟨g,s,A,k,c,x⟩)∨(j≠i∧L[j]? =some y):=fun j y hy=>by
  by_cases hij:i=j
  ·subst hij
   rw [List.getElem?_set_self hlen] at hy
   exact .inl ⟨rfl,(Option.some.inj hy).symm⟩
  ·rw [List.getElem?_set_ne hij] at hy
   exact .inr ⟨Ne.symm hij,hy⟩
 have gk: ∀(j:Nat) (y:DX),(L.set i ⟨g,s,A,k,c,x⟩)[j]? =some y→ ∃y',L[j]? =some y'∧y'.g=y.g:=fun j y hy=>by
  rcases key j y hy with⟨rfl,rfl⟩|⟨_,h2⟩
  ·exact⟨_,hi,rfl⟩
  ·exact⟨_,h2,rfl⟩
 refine⟨h.only.trans ho (fun k hk=> .inr (by simp at hk;omega)),fun j y hy=>?_,fun j y hy=>?_,fun j l y z hjl hy hz=>?_⟩
 ·rcases key j y hy with⟨rfl,rfl⟩|⟨h1,h2⟩
  ·exact⟨((hb.1.set_ 0 (.bool s)).set_ 1 (.slice A k c)).set_ 2 (.int .i64 x.e),far hv⟩
  ·obtain⟨h3,h4⟩:=h.all j y h2
   exact⟨h3.only ho (by simp;exact hne j y h2 h1),far h4⟩
 ·obtain⟨y',h1,h2⟩:=gk j y hy
  have:=h.base j y' h1;omega
 ·obtain⟨y',h1,h2⟩:=gk j y hy
  obtain⟨z',h3,h4⟩:=gk l z hz
  have:=h.ne j l y' z' hjl h1 h3;omega
theorem DB.adopt {w0 w:World} {L:List DX} (h:DB w0 w L) {g:Nat} {cs:List Value} {s:Bool} {A:Option Addr} {k c:Nat} {x:Dy} (hb:Blk w g 32 cs) (h3: ∃a b c,cs=[a,b,c]) (hn:NoLimb cs) (hg:w0.heap.size≤g) (hne: ∀(i:Nat) (y:DX),L[i]? =some y→y.g≠g) (hv:IV w (.agg #[.bool s,.slice A k c]) x.z):
  DB w0 (((w.setCell ⟨g,0,none⟩ (.bool s)).setCell ⟨g,1,none⟩ (.slice A k c)).setCell ⟨g,2,none⟩ (.int .i64 x.e)) (⟨g,s,A,k,c,x⟩::L):=by
 obtain⟨a0,b0,c0,rfl⟩:=h3
 have ho:=only_set3 w g (.bool s) (.slice A k c) (.int .i64 x.e)
 have far: ∀{r:Bool} {C:Option Addr} {j l:Nat} {z:Int},IV w (.agg #[.bool r,.slice C j l]) z→IV (((w.setCell ⟨g,0,none⟩ (.bool s)).setCell ⟨g,1,none⟩ (.slice A k c)).setCell ⟨g,2,none⟩ (.int .i64 x.e)) (.agg #[.bool r,.slice C j l]) z:=fun hiv=>
  hiv.farS ho (fun g' hg'=>by rw [List.mem_singleton] at hg';subst hg';exact hiv.far_blk hb hn)
 refine⟨h.only.trans ho (fun k hk=> .inr (by simp at hk;omega)),fun i y hy=>?_,fun i y hy=>?_,fun i j y z hij hy hz=>?_⟩
 ·rcases i with _|i
  ·obtain rfl:=(Option.some.inj hy).symm
   exact⟨((hb.set_ 0 (.bool s)).set_ 1 (.slice A k c)).set_ 2 (.int .i64 x.e),far hv⟩
  ·obtain⟨h1,h2⟩:=h.all i y hy
   exact⟨h1.only ho (by simp;exact hne i y hy),far h2⟩
 ·rcases i with _|i
  ·obtain rfl:=(Option.some.inj hy).symm
   exact hg
  ·exact h.base i y hy
 ·rcases i with _|i
  ·rcases j with _|j
   ·omega
   ·obtain rfl:=(Option.some.inj hy).symm
    exact fun hc=>hne j z hz hc.symm
  ·rcases j with _|j
   ·obtain rfl:=(Option.some.inj hz).symm
    exact hne i y hy
   ·exact h.ne i j y z (by omega) hy hz
theorem IV.set3 {w:World} {r:Bool} {C:Option Addr} {j l g:Nat} {z:Int} {t:TypeId} {cs:List Value} {x y u:Value} (h:IV w (.agg #[.bool r,.slice C j l]) z) (hb:Blk w g t cs) (hn:NoLimb cs):IV (((w.setCell ⟨g,0,none⟩ x).setCell ⟨g,1,none⟩ y).setCell ⟨g,2,none⟩ u) (.agg #[.bool r,.slice C j l]) z:=
 h.farS (only_set3 w g x y u) (fun g' hg'=>by rw [List.mem_singleton] at hg';subst hg';exact h.far_blk hb hn)
theorem Blk.set3 {w:World} {g g':Nat} {t:TypeId} {cs:List Value} {x y u:Value} (h:Blk w g t cs) (hne:g≠g'):Blk (((w.setCell ⟨g',0,none⟩ x).setCell ⟨g',1,none⟩ y).setCell ⟨g',2,none⟩ u) g t cs:=h.only (only_set3 w g' x y u) (by simp;exact hne)
theorem nrm_eval {z e:Int} (k m:Nat) (h:z.natAbs=2^k*(2*m+1)):nrm z e=⟨sg (decide (z<0)) (2*m+1),e+(k:Int)⟩:=by
 have h0:z≠0:=by
  intro hc
  rw [hc] at h
  have h1:0<2^k:=Nat.pow_pos (by omega)
  have h2:=Nat.mul_le_mul_left (2^k) (show 1≤2*m+1 by omega)
  rw [← h] at h2
  have h3:Int.natAbs 0=0:=rfl
  omega
 rw [nrm_nz e h0,h,lowN_is,Nat.mul_div_cancel_left _ (Nat.pow_pos (by omega))]
theorem nrm_1:nrm 1 0=⟨1,0⟩:=by rw [nrm_eval 0 0 (by decide)];rfl
theorem nrm_3:nrm 3 0=⟨3,0⟩:=by rw [nrm_eval 0 1 (by decide)];rfl
theorem q_core (up:Bool):quoD 2 up ⟨1,0⟩ ⟨3,0⟩=rndD 2 up ⟨21,-6⟩:=by
 have e:quoS 2 1 3=5:=by decide
 unfold quoD betD quoM
 show rndD 2 up (nrm (sg (decide ((1:Int)<0) != decide ((3:Int)<0)) (if (cutB 1 (quoS 2 1 3) || decide (0<shN 1 (quoS 2 1 3)%3))=true then shN 1 (quoS 2 1 3)/3*2+1 else shN 1 (quoS 2 1 3)/3)) (if (cutB 1 (quoS 2 1 3) || decide (0<shN 1 (quoS 2 1 3)%3))=true then 0-0-quoS 2 1 3-1 else 0-0-quoS 2 1 3))=_
 rw [e]
 have c:cutB 1 5=false:=rfl
 have s:shN 1 5=32:=by decide
 rw [c,s]
 show rndD 2 up (nrm 21 (-6))=_
 rw [nrm_eval 0 10 (by decide)]
 rfl
theorem rnd_21 (up:Bool):rndD 2 up ⟨21,-6⟩=if up then ⟨3,-3⟩ else ⟨1,-2⟩:=by
 unfold rndD
 have h:nrm (Dy.z ⟨21,-6⟩) (Dy.e ⟨21,-6⟩)=⟨21,-6⟩:=by
  show nrm 21 (-6)=_
  rw [nrm_eval 0 10 (by decide)];rfl
 rw [h]
 have hb:bitsN (Int.natAbs 21)=5:=by decide
 show (if bitsN (Int.natAbs 21)≤2 then _ else _)=_
 rw [hb,if_neg (by decide)]
 cases up
 ·show nrm 2 (-3)=_
  rw [nrm_eval 1 0 (by decide)];rfl
 ·show nrm 3 (-3)=_
  rw [nrm_eval 0 1 (by decide)];rfl
theorem w_two:widthP 2=2:=by decide
theorem q_lo3:quoQ (widthP 2) (decide ((0:Int)≤ -1)) ⟨1,0⟩ ⟨3,0⟩=⟨1,-2⟩:=by
 rw [w_two]
 show quoD 2 false ⟨1,0⟩ ⟨3,0⟩=_
 rw [q_core,rnd_21];rfl
theorem q_hi3:quoQ (widthP 2) (decide ((0:Int)≤1)) ⟨1,0⟩ ⟨3,0⟩=⟨3,-3⟩:=by
 rw [w_two]
 show quoD 2 true ⟨1,0⟩ ⟨3,0⟩=_
 rw [q_core,rnd_21];rfl
theorem bnd_s {z e:Int} (h1:z.natAbs<16) (h2: -4≤e) (h3:e≤4):Bnd 4 ⟨z,e⟩:=⟨h1,h2,h3⟩
end Go.Proofs.YtigpnopeacicpaaGreatDoor
