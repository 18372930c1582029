/-
  Joined texts.
-/
import Derived.Test.YtigpnopeacicpaaGreatDoorTcBlQ
import Derived.Test.YtigpnopeacicpaaGreatDoorTcGRd
import Derived.Test.YtigpnopeacicpaaGreatDoorTcGRef
import Derived.Test.YtigpnopeacicpaaGreatDoorTcDyN
import Derived.Test.YtigpnopeacicpaaGreatDoorTcGDyP
namespace Go.Proofs.YtigpnopeacicpaaGreatDoor
open Go.Lib (hid)
set_option linter.unusedSimpArgs false
open Go.RowKit
def minD (a b:Dy):Dy:=if b.q<a.q then b else a
def maxD (a b:Dy):Dy:=if a.q<b.q then b else a
def qLo (P:Nat) (x y u v:Dy):Dy:=minD (minD (minD (quoQ P false x u) (quoQ P false x v)) (quoQ P false y u)) (quoQ P false y v)
def qHi (P:Nat) (x y u v:Dy):Dy:=maxD (maxD (maxD (quoQ P true x u) (quoQ P true x v)) (quoQ P true y u)) (quoQ P true y v)
theorem cmpQ_lt0 {a b:Rat}:cmpQ a b<0↔a<b:=by
 rcases rat_tri a b with h|h|h
 ·rw [cmpQ_lt h];exact⟨fun _=>h,fun _=>by decide⟩
 ·rw [cmpQ_eq h];exact⟨fun hc=>absurd hc (by decide),fun hc=>absurd hc (by grind)⟩
 ·rw [cmpQ_gt h];exact⟨fun hc=>absurd hc (by decide),fun hc=>absurd hc (by grind)⟩
theorem cmpQ_gt0 {a b:Rat}:0<cmpQ a b↔b<a:=by
 rcases rat_tri a b with h|h|h
 ·rw [cmpQ_lt h];exact⟨fun hc=>absurd hc (by decide),fun hc=>absurd hc (by grind)⟩
 ·rw [cmpQ_eq h];exact⟨fun hc=>absurd hc (by decide),fun hc=>absurd hc (by grind)⟩
 ·rw [cmpQ_gt h];exact⟨fun _=>h,fun _=>by decide⟩
theorem minD_pick (a b:Dy):(cmpQ b.q a.q<0→b=minD a b)∧(¬ cmpQ b.q a.q<0→a=minD a b):=by
 rw [cmpQ_lt0]
 unfold minD
 exact⟨fun h=>by rw [if_pos h],fun h=>by rw [if_neg h]⟩
theorem maxD_pick (a b:Dy):(0<cmpQ b.q a.q→b=maxD a b)∧(¬ 0<cmpQ b.q a.q→a=maxD a b):=by
 rw [cmpQ_gt0]
 unfold maxD
 exact⟨fun h=>by rw [if_pos h],fun h=>by rw [if_neg h]⟩
theorem minD_bnd {N:Nat} {a b:Dy} (h:Bnd N a) (h':Bnd N b):Bnd N (minD a b):=by unfold minD;split<;>assumption
theorem maxD_bnd {N:Nat} {a b:Dy} (h:Bnd N a) (h':Bnd N b):Bnd N (maxD a b):=by unfold maxD;split<;>assumption
theorem bquo_b {w:World} {a b:Value} {x y u v:Dy} {N:Nat} (p:Int) (lo hi:Dy) (hlo:qLo (widthP p) x y u v=lo) (hhi:qHi (widthP p) x y u v=hi) (hs:u.z.sign=v.z.sign) (h0:u.z≠0) (ha:Hid (BV w a x y)) (hb:Hid (BV w b u v)) (bx:Hid (Bnd N x)) (by_:Hid (Bnd N y)) (bu:Hid (Bnd N u)) (bv:Hid (Bnd N v)) (hN:N≤100000) (hT:Hid (Tab6 w)):Calls Tryz.prog 10 #[a,b,.int .i64 p] w (QBPost lo hi true w):=by
 subst hlo hhi
 obtain⟨P,hP⟩: ∃P,widthP p=P:=⟨_,rfl⟩
 have hPr:=widthP_range p
 rw [hP] at hPr
 have hb': ∀(up:Bool) (a b:Dy),Bnd N a→Bnd N b→Bnd (15*N+7*P+19) (quoQ (widthP p) up a b):=fun up a b ha hb=>quoQ_bnd ha hb (by rw [hP];exact Nat.le_refl _)
 have hv0:v.z≠0:=fun hc=>by rw [hc] at hs;exact h0 (Int.sign_eq_zero_iff_zero.1 hs)
 have f0:=hb' false x u bx.out bu.out
 have f1:=hb' false x v bx.out bv.out
 have f2:=hb' false y u by_.out bu.out
 have f3:=hb' false y v by_.out bv.out
 have t0:=hb' true x u bx.out bu.out
 have t1:=hb' true x v bx.out bv.out
 have t2:=hb' true y u by_.out bu.out
 have t3:=hb' true y v by_.out bv.out
 exact bquo_core (M:=15*N+7*P+19) p _ _ _ _ _ _ _ _ _ _ _ _ _ _ _ _ _ _ _ _ (hid rfl) (hid rfl) (hid rfl) (hid rfl) (hid rfl) (hid rfl) (hid rfl) (hid rfl)
  (hid rfl) (hid (minD_pick _ _)) (hid rfl) (hid (maxD_pick _ _)) (hid rfl) (hid (minD_pick _ _)) (hid rfl) (hid (maxD_pick _ _)) (hid rfl) (hid (minD_pick _ _)) (hid rfl) (hid (maxD_pick _ _))
  _ (hid hs) (hid rfl) (by rw [beq_eq_false_iff_ne];exact fun hc=>hv0 (Int.sign_eq_zero_iff_zero.1 hc)) (hid (by simpa using h0)) (hid (by simpa using hv0))
  (hid f1) (hid f2) (hid f3) (hid t1) (hid t2) (hid t3) (hid f0) (hid (minD_bnd f0 f1)) (hid (minD_bnd (minD_bnd f0 f1) f2)) (hid t0) (hid (maxD_bnd t0 t1)) (hid (maxD_bnd (maxD_bnd t0 t1) t2)) ha hb bx by_ bu bv hN (by omega) hT
set_option maxHeartbeats 8000000 in
set_option maxRecDepth 100000 in
theorem bquo_no {w:World} {a b:Value} {x y u v:Dy} (p:Int) (h:u.z.sign=v.z.sign→u.z.sign=0) (ha:Hid (BV w a x y)) (hb:Hid (BV w b u v)):Calls Tryz.prog 10 #[a,b,.int .i64 p] w (QBPost ⟨0,0⟩ ⟨0,0⟩ false w):=by
 obtain⟨s1,A1,k1,c1,t1,B1,m1,d1,rfl,hx1,hy1⟩:=ha.out
 obtain⟨s2,A2,k2,c2,t2,B2,m2,d2,rfl,hx2,hy2⟩:=hb.out
 have HB2:Hid (BV w (.agg #[.bool s2,.slice A2 k2 c2,.int .i64 u.e,.bool t2,.slice B2 m2 d2,.int .i64 v.e]) u v):=hb
 have hk:=(((KB.start w).new 34 [.bool s1,.slice A1 k1 c1,.int .i64 x.e,.bool t1,.slice B1 m1 d1,.int .i64 y.e]).new 34 [.bool s2,.slice A2 k2 c2,.int .i64 u.e,.bool t2,.slice B2 m2 d2,.int .i64 v.e]).new 34 [.bool false,.slice none 0 0,.int .i64 0,.bool false,.slice none 0 0,.int .i64 0]
 simp only [World.size_alloc] at hk
 replace HB2:=hid (HB2.out.only hk.only)
 have HK:=hid hk
 clear hk hx1 hy1 hx2 hy2 ha hb
 obtain⟨j0,j1,j2,j3,j4,j5⟩:=HK.out.c6 1 rfl
 obtain⟨sv,hsv⟩: ∃sv,(if u.z.sign=v.z.sign then u.z.sign else 0)=sv:=⟨_,rfl⟩
 obtain⟨ok,hok⟩: ∃ok,decide (u.z.sign=v.z.sign)=ok:=⟨_,rfl⟩
 have hsv0:ok=true→sv=0:=fun hc=>by
  rw [← hok] at hc
  have h1:u.z.sign=v.z.sign:=by simpa using hc
  rw [← hsv,if_pos h1]
  exact h h1
 have HS:=hid hsv
 have HO:=hid hok
 clear hsv hok h
 go_enter Tryz.func10,Tryz.ntmps10
 go_wp2_with fail
 (with_reducible refine (bsign_b sv ok HS.out HO.out HB2).mono ?_)
 rintro e w3 ⟨rfl,ho⟩
 replace HK:=hid (HK.out.step ho)
 clear ho j0 j1 j2 j3 j4 j5 HB2
 obtain⟨q0,q1,q2,q3,q4,q5⟩:=HK.out.c6 0 rfl
 obtain⟨f0,f1,f2,f3,f4,f5⟩:=HK.out.f6 0 rfl
 cases ok
 ·clear hsv0
  go_wp2_with fail
  refine bodyPost_ret (v:= .tuple #[.agg #[.bool false,.slice none 0 0,.int .i64 (0),.bool false,.slice none 0 0,.int .i64 (0)],.bool false]) (by simp [results,Tryz.results10,go_sem,q0,q1,q2,q3,q4,q5]) rfl ?_
  exact qbfin (x:=⟨0,0⟩) (y:=⟨0,0⟩) (hid cn_zero) (hid (IV.zero _)) (hid cn_zero) (hid (IV.zero _)) (by omega) (HK.out.blk 0 rfl) (noLimb6 _ _ _ _ _ _ _ _ _ _) HK.out.only (only_set6 _ _ _ _ _ _ _ _)
 ·have h1:=hsv0 rfl
  subst h1
  clear hsv0
  go_wp2_with fail
  refine bodyPost_ret (v:= .tuple #[.agg #[.bool false,.slice none 0 0,.int .i64 (0),.bool false,.slice none 0 0,.int .i64 (0)],.bool false]) (by simp [results,Tryz.results10,go_sem,q0,q1,q2,q3,q4,q5]) rfl ?_
  exact qbfin (x:=⟨0,0⟩) (y:=⟨0,0⟩) (hid cn_zero) (hid (IV.zero _)) (hid cn_zero) (hid (IV.zero _)) (by omega) (HK.out.blk 0 rfl) (noLimb6 _ _ _ _ _ _ _ _ _ _) HK.out.only (only_set6 _ _ _ _ _ _ _ _)
theorem quo_down3:quoQ (widthP 2) false ⟨1,0⟩ ⟨3,0⟩=⟨1,-2⟩:=q_lo3
theorem quo_up3:quoQ (widthP 2) true ⟨1,0⟩ ⟨3,0⟩=⟨3,-3⟩:=q_hi3
theorem minD_self (a:Dy):minD a a=a:=by unfold minD;split<;>rfl
theorem maxD_self (a:Dy):maxD a a=a:=by unfold maxD;split<;>rfl
theorem qlo_13:qLo (widthP 2) ⟨1,0⟩ ⟨1,0⟩ ⟨3,0⟩ ⟨3,0⟩=⟨1,-2⟩:=by unfold qLo;rw [quo_down3];simp only [minD_self]
theorem qhi_13:qHi (widthP 2) ⟨1,0⟩ ⟨1,0⟩ ⟨3,0⟩ ⟨3,0⟩=⟨3,-3⟩:=by unfold qHi;rw [quo_up3];simp only [maxD_self]
theorem atV_b {w:World} {a:Value} {x:Dy} {N:Nat} (r:Dy) (hr:nrm x.z x.e=r) (ha:Hid (DV w a x)) (bx:Hid (Bnd N x)) (hN:N≤8000000) (hT:Hid (Tab6 w)):Calls Tryz.prog 32 #[a] w (BPost r r w):=hr▸at_b ha bx hN hT
theorem bnd_1:Bnd 4 ⟨1,0⟩:=bnd_s (by decide) (by decide) (by decide)
theorem bnd_3:Bnd 4 ⟨3,0⟩:=bnd_s (by decide) (by decide) (by decide)
theorem cmp_31:cmpQ (Dy.q ⟨3,0⟩) (Dy.q ⟨1,0⟩)=1:=by
 show cmpQ (((3:Int):Rat)*p2 0) (((1:Int):Rat)*p2 0)=1
 rw [cmpQ_at]
 decide
set_option maxHeartbeats 8000000 in
set_option maxRecDepth 100000 in
theorem alive5_any (w:World) (hT:Hid (Tab6 w)):Calls Tryz.prog 7 #[] w fun e w'=>e= .returned (.bool true)∧Only [] w w':=by
 have HK:=hid (KB.start w)
 go_enter Tryz.func7,Tryz.ntmps7
 go_wp2_with fail
 (with_reducible refine (ofV_d 1 ⟨1,0⟩ _ nrm_1 (hid (by omega)) (hid (hT.out.keep HK.out.only))).mono ?_)
 rintro e w1 ⟨s1,A1,k1,c1,rfl,-,-,hv,ho⟩
 replace HK:=hid (HK.out.step ho)
 have HV1:Hid (DV w1 (.agg #[.bool s1,.slice A1 k1 c1,.int .i64 0]) ⟨1,0⟩):=DV.of (hid hv)
 clear hv ho
 go_wp2_with fail
 (with_reducible refine (atV_b ⟨1,0⟩ nrm_1 HV1 (hid bnd_1) (by omega) (hid (hT.out.keep HK.out.only))).mono ?_)
 rintro e w2 ⟨s2,A2,k2,c2,t2,B2,m2,d2,rfl,-,hv1,-,hv2,ho⟩
 replace HK:=hid (HK.out.step ho)
 have HB2:Hid (BV w2 (.agg #[.bool s2,.slice A2 k2 c2,.int .i64 0,.bool t2,.slice B2 m2 d2,.int .i64 0]) ⟨1,0⟩ ⟨1,0⟩):=⟨_,_,_,_,_,_,_,_,rfl,hv1,hv2⟩
 clear hv1 hv2 ho
 clear HV1
 go_wp2_with fail
 (with_reducible refine (ofV_d 3 ⟨3,0⟩ _ nrm_3 (hid (by omega)) (hid (hT.out.keep HK.out.only))).mono ?_)
 rintro e w3 ⟨s3,A3,k3,c3,rfl,-,-,hv,ho⟩
 replace HK:=hid (HK.out.step ho)
 replace HB2:=hid (HB2.out.only ho)
 have HV3:Hid (DV w3 (.agg #[.bool s3,.slice A3 k3 c3,.int .i64 0]) ⟨3,0⟩):=DV.of (hid hv)
 clear hv ho
 go_wp2_with fail
 (with_reducible refine (atV_b ⟨3,0⟩ nrm_3 HV3 (hid bnd_3) (by omega) (hid (hT.out.keep HK.out.only))).mono ?_)
 rintro e w4 ⟨s4,A4,k4,c4,t4,B4,m4,d4,rfl,-,hv1,-,hv2,ho⟩
 replace HK:=hid (HK.out.step ho)
 replace HB2:=hid (HB2.out.only ho)
 have HB4:Hid (BV w4 (.agg #[.bool s4,.slice A4 k4 c4,.int .i64 0,.bool t4,.slice B4 m4 d4,.int .i64 0]) ⟨3,0⟩ ⟨3,0⟩):=⟨_,_,_,_,_,_,_,_,rfl,hv1,hv2⟩
 clear hv1 hv2 ho
 clear HV3
 go_wp2_with fail
 (with_reducible refine (bquo_b 2 ⟨1,-2⟩ ⟨3,-3⟩ qlo_13 qhi_13 rfl (by decide) HB2 HB4 (hid bnd_1) (hid bnd_1) (hid bnd_3) (hid bnd_3) (by omega) (hid (hT.out.keep HK.out.only))).mono ?_)
 rintro e w5 ⟨s5,A5,k5,c5,t5,B5,m5,d5,rfl,-,-,-,-,ho⟩
 have hk:=(HK.out.step ho).new 34 [.bool s5,.slice A5 k5 c5,.int .i64 (-2),.bool t5,.slice B5 m5 d5,.int .i64 (-3)]
 replace HK:=hid hk
 clear ho hk HB2 HB4
 go_wp2_with fail
 (with_reducible refine (ofV_d 3 ⟨3,0⟩ _ nrm_3 (hid (by omega)) (hid (hT.out.keep HK.out.only))).mono ?_)
 rintro e w6 ⟨s6,A6,k6,c6,rfl,-,-,hv,ho⟩
 replace HK:=hid (HK.out.step ho)
 have HV6:Hid (DV w6 (.agg #[.bool s6,.slice A6 k6 c6,.int .i64 0]) ⟨3,0⟩):=DV.of (hid hv)
 clear hv ho
 go_wp2_with fail
 (with_reducible refine (ofV_d 1 ⟨1,0⟩ _ nrm_1 (hid (by omega)) (hid (hT.out.keep HK.out.only))).mono ?_)
 rintro e w7 ⟨s7,A7,k7,c7,rfl,-,-,hv,ho⟩
 replace HK:=hid (HK.out.step ho)
 replace HV6:=hid (HV6.out.only ho)
 have HV7:Hid (DV w7 (.agg #[.bool s7,.slice A7 k7 c7,.int .i64 0]) ⟨1,0⟩):=DV.of (hid hv)
 clear hv ho
 go_wp2_with fail
 (with_reducible refine (between_b 1 ⟨1,0⟩ ⟨3,0⟩ cmp_31 (fun _=>⟨nrm_1,nrm_3⟩) (fun h=>absurd (by decide) h) HV6 HV7 (hid bnd_3) (hid bnd_1) (by omega) (hid (hT.out.keep HK.out.only))).mono ?_)
 rintro e w8 ⟨s8,A8,k8,c8,t8,B8,m8,d8,rfl,-,hv1,-,hv2,ho⟩
 replace HK:=hid (HK.out.step ho)
 have HB8:Hid (BV w8 (.agg #[.bool s8,.slice A8 k8 c8,.int .i64 0,.bool t8,.slice B8 m8 d8,.int .i64 0]) ⟨1,0⟩ ⟨3,0⟩):=⟨_,_,_,_,_,_,_,_,rfl,hv1,hv2⟩
 clear hv1 hv2 ho HV6 HV7
 go_wp2_with fail
 (with_reducible refine (bsign_b 1 true (by decide) (by decide) HB8).mono ?_)
 rintro e w9 ⟨rfl,ho⟩
 replace HK:=hid (HK.out.step ho)
 clear ho HB8
 obtain⟨j0,j1,j2,j3,j4,j5⟩:=HK.out.c6 0 rfl
 go_wp2_with fail
 go_ret
 exact⟨rfl,HK.out.only⟩
structure YX where
 g:Nat
 s:Bool
 a:Option Addr
 k:Nat
 c:Nat
 t:Bool
 b:Option Addr
 m:Nat
 d:Nat
 x:Dy
 y:Dy
def YX.cs (b:YX):List Value:=[.bool b.s,.slice b.a b.k b.c,.int .i64 b.x.e,.bool b.t,.slice b.b b.m b.d,.int .i64 b.y.e]
def YX.ok (w:World) (b:YX):Prop:=Blk w b.g 34 b.cs∧IV w (.agg #[.bool b.s,.slice b.a b.k b.c]) b.x.z∧IV w (.agg #[.bool b.t,.slice b.b b.m b.d]) b.y.z
structure YB (w0 w:World) (L:List YX):Prop where
 only:Only [] w0 w
 all: ∀(i:Nat) (x:YX),L[i]? =some x→YX.ok w x
 base: ∀(i:Nat) (x:YX),L[i]? =some x→w0.heap.size≤x.g
 ne: ∀(i j:Nat) (x y:YX),i≠j→L[i]? =some x→L[j]? =some y→x.g≠y.g
theorem YB.step {w0 w w':World} {L:List YX} (h:YB w0 w L) (ho:Only [] w w'):YB w0 w' L:=⟨h.only.nil_trans ho,fun i x hx=>⟨(h.all i x hx).1.only ho (by simp),(h.all i x hx).2.1.only ho,(h.all i x hx).2.2.only ho⟩,h.base,h.ne⟩
theorem YB.new {w0 w:World} {L:List YX} (h:YB w0 w L) {s t:Bool} {A B:Option Addr} {k c m d:Nat} {x y:Dy} (hv:IV w (.agg #[.bool s,.slice A k c]) x.z) (hv':IV w (.agg #[.bool t,.slice B m d]) y.z):
  YB w0 (w.alloc (.cells #[.bool s,.slice A k c,.int .i64 x.e,.bool t,.slice B m d,.int .i64 y.e] 34)) (⟨w.heap.size,s,A,k,c,t,B,m,d,x,y⟩::L):=by
 have ho:Only [] w (w.alloc (.cells #[.bool s,.slice A k c,.int .i64 x.e,.bool t,.slice B m d,.int .i64 y.e] 34)):=(Only.refl [] w).alloc _
 have h':=h.step ho
 refine⟨h'.only,fun i y hy=>?_,fun i y hy=>?_,fun i j y z hij hy hz=>?_⟩
 ·rcases i with _|i
  ·obtain rfl:=(Option.some.inj hy).symm
   exact⟨Blk.new w _ _,hv.only ho,hv'.only ho⟩
  ·exact h'.all i y hy
 ·rcases i with _|i
  ·obtain rfl:=(Option.some.inj hy).symm
   exact h.only.size
  ·exact h.base i y hy
 ·rcases i with _|i
  ·rcases j with _|j
   ·omega
   ·obtain rfl:=(Option.some.inj hy).symm
    have:=(h.all j z hz).1.lt
    show w.heap.size≠z.g
    omega
  ·rcases j with _|j
   ·obtain rfl:=(Option.some.inj hz).symm
    have:=(h.all i y hy).1.lt
    show y.g≠w.heap.size
    omega
   ·exact h.ne i j y z (by omega) hy hz
theorem YB.cells {w0 w:World} {L:List YX} (h:Hid (YB w0 w L)) (i:Nat) {g:Nat} {s t:Bool} {A B:Option Addr} {k c m d:Nat} {x y:Dy} (hi:L[i]? =some ⟨g,s,A,k,c,t,B,m,d,x,y⟩):
  w.cell? ⟨g,0,none⟩=some (.bool s)∧w.cell? ⟨g,1,none⟩=some (.slice A k c)∧w.cell? ⟨g,2,none⟩=some (.int .i64 x.e)∧w.cell? ⟨g,3,none⟩=some (.bool t)∧w.cell? ⟨g,4,none⟩=some (.slice B m d)∧w.cell? ⟨g,5,none⟩=some (.int .i64 y.e):=
 have hb:=(h.out.all i _ hi).1
 ⟨hb.cell 0,hb.cell 1,hb.cell 2,hb.cell 3,hb.cell 4,hb.cell 5⟩
theorem YB.bv {w0 w:World} {L:List YX} (h:Hid (YB w0 w L)) (i:Nat) {g:Nat} {s t:Bool} {A B:Option Addr} {k c m d:Nat} {x y:Dy} (hi:L[i]? =some ⟨g,s,A,k,c,t,B,m,d,x,y⟩):Hid (BV w (.agg #[.bool s,.slice A k c,.int .i64 x.e,.bool t,.slice B m d,.int .i64 y.e]) x y):=
 have hb:=(h.out.all i _ hi).2
 Lib.hid ⟨s,A,k,c,t,B,m,d,rfl,hb.1,hb.2⟩
theorem YB.lo {w0 w:World} {L:List YX} (h:Hid (YB w0 w L)) (i:Nat) {g:Nat} {s t:Bool} {A B:Option Addr} {k c m d:Nat} {x y:Dy} (hi:L[i]? =some ⟨g,s,A,k,c,t,B,m,d,x,y⟩):Hid (DV w (.agg #[.bool s,.slice A k c,.int .i64 x.e]) x):=DV.of (Lib.hid (h.out.all i _ hi).2.1)
theorem YB.hi {w0 w:World} {L:List YX} (h:Hid (YB w0 w L)) (i:Nat) {g:Nat} {s t:Bool} {A B:Option Addr} {k c m d:Nat} {x y:Dy} (hi:L[i]? =some ⟨g,s,A,k,c,t,B,m,d,x,y⟩):Hid (DV w (.agg #[.bool t,.slice B m d,.int .i64 y.e]) y):=DV.of (Lib.hid (h.out.all i _ hi).2.2)
def isB (x y:Dy):VP:=fun v w=>BV w v x y
theorem isB.lasts (x y:Dy):Lasts (isB x y):=fun _ _ _ h ho=>h.only ho
theorem all_isB {x y:Dy} {w:World} {K:Value→Prop} (h: ∀s A k c t B m d,Hid (IV w (.agg #[.bool s,.slice A k c]) x.z)→Hid (IV w (.agg #[.bool t,.slice B m d]) y.z)→K (.agg #[.bool s,.slice A k c,.int .i64 x.e,.bool t,.slice B m d,.int .i64 y.e])): ∀v,isB x y v w→K v:=fun v ⟨s,A,k,c,t,B,m,d,h1,h2,h3⟩=>by
 subst h1
 exact h s A k c t B m d h2 h3
theorem BV.of {w:World} {x y:Dy} {s t:Bool} {A B:Option Addr} {k c m d:Nat} (h:Hid (IV w (.agg #[.bool s,.slice A k c]) x.z)) (h':Hid (IV w (.agg #[.bool t,.slice B m d]) y.z)):Hid (BV w (.agg #[.bool s,.slice A k c,.int .i64 x.e,.bool t,.slice B m d,.int .i64 y.e]) x y):=⟨s,A,k,c,t,B,m,d,rfl,h.out,h'.out⟩
theorem grow_b {f:FuncId} {args:Array Value} {w:World} {x y:Dy} (h:Calls Tryz.prog f args w (BPost x y w)):
  Calls Tryz.prog f args w fun e w''=> ∃u,e= .returned u∧Only [] w w''∧isB x y u w'':=
 h.mono fun _ _ ⟨s,A,k,c,t,B,m,d,h1,_,h2,_,h3,h4⟩=>⟨_,h1,h4,s,A,k,c,t,B,m,d,rfl,h2,h3⟩
theorem grow_bv {f:FuncId} {args:Array Value} {w:World} {x y:Dy} (h:Calls Tryz.prog f args w (BVPost x y w)):
  Calls Tryz.prog f args w fun e w''=> ∃u,e= .returned u∧Only [] w w''∧isB x y u w'':=
 h.mono fun _ _ ⟨s,A,k,c,t,B,m,d,h1,h2,h3,h4⟩=>⟨_,h1,h4,s,A,k,c,t,B,m,d,rfl,h2,h3⟩
def isNC (n:Nat):VP:=fun u w=> ∃A c,u= .slice A (limbsOf n).length c∧LRead w A (limbsOf n)
theorem isNC.lasts (n:Nat):Lasts (isNC n):=fun _ _ _ ⟨A,c,h1,h2⟩ ho=>⟨A,c,h1,h2.only ho⟩
theorem all_isNC {n:Nat} {w:World} {K:Value→Prop} (h: ∀A c,Hid (LRead w A (limbsOf n))→K (.slice A (limbsOf n).length c)): ∀v,isNC n v w→K v:=fun v ⟨A,c,h1,h2⟩=>by
 subst h1
 exact h A c h2
theorem grow_nc {w:World} {A:Option Addr} {k c n:Nat} (h:RV w (.slice A k c) n) (hf:Hid (Few n)):Calls Tryz.prog 100 #[.slice A k c] w fun e w''=> ∃u,e= .returned u∧Only [] w w''∧isNC n u w'':=by
 obtain⟨A',c',e,h2,h3⟩:=h
 injection e with e1 e2 e3
 subst e1 e2 e3
 refine (limbs_any A _ c (R.limbsOf n) w (hid h2) (hid (R.limb_limbsOf n)) (hid rfl) (by have:=hf.out.digits;omega)).mono ?_
 rintro e w1 ⟨B,m,d,rfl,hat,-,ho⟩
 rw [R.join_digits] at hat
 obtain⟨C,d',e,g1,g2,g3⟩:=LimbsAt.shape hat
 injection e with e1 e2 e3
 subst e1 e2 e3
 exact⟨_,rfl,ho,_,_,rfl,g1⟩
theorem samelimbs_nc {w:World} {A B:Option Addr} {c d k n:Nat} (hA:Hid (LRead w A (limbsOf n))) (hB:Hid (LRead w B (limbsOf n))) (hk:k=(limbsOf n).length∧(k:Int)≤16000000):Calls Tryz.prog 99 #[.slice A k c,.slice B (limbsOf n).length d] w fun e w'=>e= .returned (.bool true)∧Only [] w w':=
 (samelimbs_any A B c d k _ (limbsOf n) (limbsOf n) w hA hB (hid hk.1) (hid rfl) hk.2).mono fun _ _ ⟨h1,h2⟩=>⟨by rw [h1,decide_eq_true rfl],h2⟩
set_option maxHeartbeats 8000000 in
set_option maxRecDepth 100000 in
theorem is3_core {w:World} {s:Bool} {A B:Option Addr} {k c m d:Nat} {x:Dy} (p:Int) (HP:Hid (x.z.sign=p)) (hp0:(p == 0)=false) (HC:Hid (Cr s m x.z)) (HKL:Hid (k=(limbsOf x.z.natAbs).length∧(k:Int)≤16000000)) (hl:LRead w A (limbsOf x.z.natAbs)) (hv:RV w (.slice B m d) x.z.natAbs) (HF:Hid (Few x.z.natAbs)):
  Calls Tryz.prog 56 #[.agg #[.bool s,.slice A k c,.int .i64 x.e],.agg #[.bool s,.slice B m d,.int .i64 x.e]] w fun e w'=>e= .returned (.bool true)∧Only [] w w':=by
 have hk:=((KB.start w).new 32 [.bool s,.slice A k c,.int .i64 x.e]).new 38 [.bool s,.slice B m d,.int .i64 x.e]
 simp only [World.size_alloc] at hk
 have HL:=hid (hl.only hk.only)
 have HV:=hid (hv.only hk.only)
 have HK:=hid hk
 clear hk hl hv
 obtain⟨j0,j1,j2,-,-,-⟩:=HK.out.c3 0 rfl
 go_enter Tryz.func56,Tryz.ntmps56
 go_wp2_with fail
 (with_reducible refine (rsign_d p (RD.of HV HC) HP.out).mono ?_)
 rintro e w2 ⟨rfl,ho⟩
 replace HK:=hid (HK.out.step ho)
 replace HL:=hid (HL.out.only ho)
 replace HV:=hid (HV.out.only ho)
 clear ho j0 j1 j2
 go_upto_region 3 with fail
 apply wp_region_typed2 (by kernel_rfl) [isV _,isV _,isV _,isV _,isV _,isV _,isV _,isV _,isV _,isV _,isV _,isV _,isV _,isV _,isV _,isV _,isV _,isV _,isV _,isNC x.z.natAbs,isV _,isV _,isV _] [[],[0],[1],[],[3],[2,4],[5],[6],[6,7],[6],[6,9],[6,8,10],[6,11],[12],[13],[13,14],[13,15],[13],[13,17],[13,18],[13,16,19],[13,20],[21]] (by kernel_rfl) (by kernel_rfl)
 case ho=>
  iterate 23
   refine owes2_cons (fun wx hox=>?_) ?_
   ·skip
    have hk:=HK.out.step hox
    obtain⟨i0,i1,i2,-,-,-⟩:=hk.c3 1 rfl
    obtain⟨j0,j1,j2,-,-,-⟩:=hk.c3 0 rfl
    clear hk
    first
    |refine withs_plain rfl ?_
     simp only [withs,List.getElem?_cons_zero,List.getElem?_cons_succ,Option.bind,Option.getD]
     with_reducible repeat first|refine all_isV ?_|(refine all_isNC ?_;intro Ax cx hvx)
     go_simp
    |refine withs_guard rfl rfl ?_
     simp only [withs,List.getElem?_cons_zero,List.getElem?_cons_succ,Option.bind,Option.getD]
     with_reducible repeat first|refine all_isV ?_|(refine all_isNC ?_;intro Ax cx hvx)
     refine⟨by kernel_rfl,?_⟩
     go_simp
    first
    |exact⟨Only.refl _ _,isV.self _ _⟩
    |with_reducible exact grow_nc (HV.out.only hox) HF
    |with_reducible exact grow_of (samelimbs_nc (hid (HL.out.only hox)) hvx HKL.out)
  exact owes2_nil
 case he=>
  intro wx hox
  refine withs_of (by simp only [List.length,List.range,List.range.loop];exact rfl) ?_
  simp only [withs,List.getElem?_cons_zero,List.getElem?_cons_succ,Option.bind,Option.getD]
  repeat (first|(with_reducible refine all_isV ?_)|(with_reducible refine all_isNC ?_;intro Ax cx hvx))
  go_simp
  replace HK:=hid (HK.out.step hox)
  clear hox
  go_wp2_with fail
  go_ret
  exact⟨rfl,HK.out.only⟩
 case hl=>
  repeat (refine List.forall_mem_cons.2 ⟨?_,?_⟩;first|exact isV.lasts _|exact isNC.lasts _)
  exact fun _ h=>(by cases h)
set_option maxHeartbeats 8000000 in
set_option maxRecDepth 100000 in
theorem is3_zero {w:World} {c d:Nat} {A B:Option Addr} (hv:RV w (.slice B 0 d) 0):
  Calls Tryz.prog 56 #[.agg #[.bool false,.slice A 0 c,.int .i64 0],.agg #[.bool false,.slice B 0 d,.int .i64 0]] w fun e w'=>e= .returned (.bool true)∧Only [] w w':=by
 have hk:=((KB.start w).new 32 [.bool false,.slice A 0 c,.int .i64 0]).new 38 [.bool false,.slice B 0 d,.int .i64 0]
 simp only [World.size_alloc] at hk
 have HR:Hid (RD _ (.agg #[.bool false,.slice B 0 d,.int .i64 0]) ⟨0,0⟩):=⟨false,B,0,d,rfl,⟨by decide,by show 0=(R.limbsOf 0).length;rw [R.limbsOf_zero];rfl⟩,hv.only hk.only⟩
 have HK:=hid hk
 clear hk hv
 obtain⟨j0,j1,j2,-,-,-⟩:=HK.out.c3 0 rfl
 go_enter Tryz.func56,Tryz.ntmps56
 go_wp2_with fail
 (with_reducible refine (rsign_d 0 HR rfl).mono ?_)
 rintro e w2 ⟨rfl,ho⟩
 replace HK:=hid (HK.out.step ho)
 clear ho j0 j1 j2 HR
 obtain⟨i0,i1,i2,-,-,-⟩:=HK.out.c3 1 rfl
 go_wp2_with fail
 go_ret
 exact⟨rfl,HK.out.only⟩
theorem is3_d {w:World} {a b:Value} {x:Dy} {N:Nat} (ha:Hid (isD x a w)) (hb:Hid (RD w b x)) (hc:Hid (Can x)) (bx:Hid (Bnd N x)) (hN:N≤1000000):Calls Tryz.prog 56 #[a,b] w fun e w'=>e= .returned (.bool true)∧Only [] w w':=by
 obtain⟨s,A,k,c,rfl,hs,hk,hv⟩:=ha.out
 obtain⟨t,B,m,d,rfl,hd,hu⟩:=hb.out
 have hst:t=s:=by rw [hs,hd.1]
 subst hst
 obtain⟨A',c',xs,e,h2,h3,h4,h5⟩:=hv.mag
 injection e with e1 e2 e3
 subst e1 e3
 have hx:xs=limbsOf x.z.natAbs:=by
  have h6:=(limbsOf_take h2.limb).1
  rw [h5,←hk,e2,List.take_of_length_le (Nat.le_refl _)] at h6
  exact h6
 subst hx
 by_cases hz:x.z=0
 ·have hx0:x=⟨0,0⟩:=by
   obtain⟨z,e⟩:=x
   simp only at hz
   subst hz
   rcases hc.out with h|h
   ·obtain⟨_,h2⟩:=h
    simp only at h2
    rw [h2]
   ·exfalso
    simp at h
  subst hx0
  have hk0:k=0:=by rw [hk];show (limbsOf 0).length=0;rw [limbsOf_zero];rfl
  have hm0:m=0:=by rw [hd.2];show (R.limbsOf 0).length=0;rw [R.limbsOf_zero];rfl
  subst hk0 hm0
  have ht:t=false:=by rw [hs];rfl
  subst ht
  exact is3_zero hu
 ·obtain⟨p1,p2_,p3⟩:x.z.sign=x.z.sign∧x.z.sign≠0∧True:=⟨rfl,fun h=>hz (Int.sign_eq_zero_iff_zero.1 h),trivial⟩
  exact is3_core x.z.sign (hid rfl) (by rw [beq_eq_false_iff_ne];exact p2_) (hid hd) (hid ⟨hk,by rw [e2];omega⟩) h2.read hu (hid (rd_few bx.out (by omega)))
end Go.Proofs.YtigpnopeacicpaaGreatDoor
namespace Go.Proofs.YtigpnopeacicpaaGreatDoor
set_option linter.unusedSimpArgs false
theorem rd_abs {P m:Nat} {up r1:Bool} {E:Int} {le ge:Rat→Prop} (hP:1≤P) (hle: ∀a b,a≤b→le b→le a) (hge: ∀a b,a≤b→ge a→ge b)
  (h1:r1=true→le (((m:Int):Rat)*p2 E)∧ ¬le ((((m:Int)+1:Int):Rat)*p2 E)∧ge ((((m:Int)+1:Int):Rat)*p2 E)∧ ¬ge (((m:Int):Rat)*p2 E))
  (h2:r1=false→(∀ v,le v↔v≤((m:Int):Rat)*p2 E)∧(∀ v,ge v↔((m:Int):Rat)*p2 E≤v)) (hq:r1=true→2^(P-1)≤m) (hm:m<2^P):
  Rd P up le ge (nrm (sg false (if r1 && up then m+1 else m)) E):=by
 cases r1
 ·obtain⟨k1,k2⟩:=h2 rfl
  simp only [Bool.false_and,Bool.false_eq_true,if_false]
  refine⟨nrm_can _ _,nrm_short _ _ _ hP (by omega),fun _=>?_,fun _=>?_⟩<;>rw [nrm_q,sg_false]
  ·exact⟨(k1 _).2 Rat.le_refl,fun s _ h=>(k1 _).1 h⟩
  ·exact⟨(k2 _).2 Rat.le_refl,fun s _ h=>(k2 _).1 h⟩
 ·obtain⟨a1,a2,a3,a4⟩:=h1 rfl
  have hq:=hq rfl
  have hc1:((m+1:Nat):Int)=(m:Int)+1:=by push_cast;rfl
  cases up
  ·simp only [Bool.true_and,Bool.false_eq_true,if_false]
   refine⟨nrm_can _ _,nrm_short _ _ _ hP (by omega),fun _=>?_,fun h=>by cases h⟩
   rw [nrm_q,sg_false]
   refine⟨a1,fun s hs h=>gap_le hP hq hs ?_⟩
   rcases rat_tri s.q ((((m:Int)+1:Int):Rat)*p2 E) with h3|h3|h3
   ·exact h3
   ·exact absurd (h3▸h) a2
   ·exact absurd (hle _ _ (Rat.le_of_lt h3) h) a2
  ·simp only [Bool.true_and,if_true]
   refine⟨nrm_can _ _,nrm_short _ _ _ hP (by omega),fun h=>(by cases h),fun _=>?_⟩
   rw [nrm_q,sg_false,hc1]
   refine⟨a3,fun s hs h=>gap_ge hP hq hs ?_⟩
   rcases rat_tri s.q (((m:Int):Rat)*p2 E) with h3|h3|h3
   ·exact absurd (hge _ _ (Rat.le_of_lt h3) h) a4
   ·exact absurd (h3▸h) a4
   ·exact h3
theorem sg_neg_q (k:Nat) (E:Int):(nrm (sg true k) E).q= -(nrm (sg false k) E).q:=by
 rw [nrm_q,nrm_q,sg_q,sg_q]
 rfl
theorem rd_opp {P k:Nat} {up:Bool} {E:Int} {le ge:Rat→Prop} (hP:1≤P) (hk:k≤2^P) (h:Rd P (!up) le ge (nrm (sg false k) E)):Rd P up (fun v=>ge (-v)) (fun v=>le (-v)) (nrm (sg true k) E):=by
 refine⟨nrm_can _ _,nrm_short _ _ _ hP hk,fun hu=>?_,fun hu=>?_⟩<;>subst hu<;>rw [sg_neg_q]
 ·obtain⟨h1,h2⟩:=h.upw rfl
  refine⟨by simpa using h1,fun s hs hl=>?_⟩
  have h3:=h2 s.opp (opp_short hs) (by rw [opp_q];exact hl)
  rw [opp_q] at h3
  grind
 ·obtain⟨h1,h2⟩:=h.dn rfl
  refine⟨by simpa using h1,fun s hs hl=>?_⟩
  have h3:=h2 s.opp (opp_short hs) (by rw [opp_q];exact hl)
  rw [opp_q] at h3
  grind
def cutR (P:Nat) (up neg:Bool) (m:Nat) (e:Int) (rest:Bool):Dy:=
 nrm (sg neg (if (rest || decide (m%2^(bitsN m-P)≠0)) && (up != neg) then m/2^(bitsN m-P)+1 else m/2^(bitsN m-P))) (e+((bitsN m-P:Nat):Int))
theorem cut_sizes {P m:Nat} (hP:1≤P):m/2^(bitsN m-P)<2^P∧(2^(P-1)≤m∨m%2^(bitsN m-P)≠0→2^(P-1)≤m/2^(bitsN m-P)):=by
 have hb:=bitsN_lt m
 by_cases h0:bitsN m≤P
 ·have e:bitsN m-P=0:=by omega
  have h1:=two_mono h0
  rw [e,Nat.pow_zero,Nat.div_one,Nat.mod_one]
  exact⟨by omega,fun h=>by rcases h with h|h;exact h;exact absurd rfl h⟩
 ·obtain⟨n,hn⟩: ∃n,bitsN m-P=n:=⟨_,rfl⟩
  have hm0:m≠0:=by rintro rfl;apply h0;unfold bitsN;simp
  obtain⟨b,h1,h2,h3⟩:=bitsN_spec hm0
  rw [hn]
  have hp:0<2^n:=Nat.pow_pos (by omega)
  constructor
  ·rw [Nat.div_lt_iff_lt_mul hp,←Nat.pow_add]
   rwa [show P+n=bitsN m by omega]
  ·intro _
   rw [Nat.le_div_iff_mul_le hp,←Nat.pow_add]
   rwa [show P-1+n=b by omega]
theorem cut_abs {P m:Nat} {up rest:Bool} {e:Int} {le ge:Rat→Prop} (hP:1≤P) (hle: ∀a b,a≤b→le b→le a) (hge: ∀a b,a≤b→ge a→ge b)
  (h1:rest=true→le (((m:Int):Rat)*p2 e)∧ ¬le ((((m:Int)+1:Int):Rat)*p2 e)∧ge ((((m:Int)+1:Int):Rat)*p2 e)∧ ¬ge (((m:Int):Rat)*p2 e))
  (h2:rest=false→(∀ v,le v↔v≤((m:Int):Rat)*p2 e)∧(∀ v,ge v↔((m:Int):Rat)*p2 e≤v)) (hq:rest=true→2^(P-1)≤m):
  Rd P up le ge (cutR P up false m e rest):=by
 obtain⟨s1,s2⟩:=cut_sizes (m:=m) hP
 unfold cutR
 rw [Bool.bne_false]
 generalize hn:bitsN m-P=n at*
 have hp:0<2^n:=Nat.pow_pos (by omega)
 have hd:=Nat.div_add_mod m (2^n)
 have hr:=Nat.mod_lt m hp
 obtain⟨m1,hm1⟩: ∃m1,m/2^n=m1:=⟨_,rfl⟩
 obtain⟨r,hre⟩: ∃r,m%2^n=r:=⟨_,rfl⟩
 rw [hm1] at hd s1 s2 ⊢
 rw [hre] at hd hr s2 ⊢
 have d1:=q_down (m1:Int) (e+(n:Int)) n
 have d2:=q_down ((m1:Int)+1) (e+(n:Int)) n
 rw [show e+(n:Int)-(n:Int)=e by omega] at d1 d2
 have c0:((2^n*m1:Nat):Int)=(m1:Int)*2^n:=by push_cast;rw [Int.mul_comm]
 have c1:((2^n*m1+2^n:Nat):Int)=((m1:Int)+1)*2^n:=by push_cast;rw [Int.add_mul,Int.one_mul,Int.mul_comm]
 have l1:((m1:Int):Rat)*p2 (e+(n:Int))≤((m:Int):Rat)*p2 e:=by rw [← d1,rat_le_iff];omega
 have l2:(((m:Int)+1:Int):Rat)*p2 e≤(((m1:Int)+1:Int):Rat)*p2 (e+(n:Int)):=by rw [← d2,rat_le_iff];omega
 have l3:r≠0→((m1:Int):Rat)*p2 (e+(n:Int))<((m:Int):Rat)*p2 e:=fun h=>by rw [← d1,rat_lt_iff];omega
 have l4:r=0→((m1:Int):Rat)*p2 (e+(n:Int))=((m:Int):Rat)*p2 e:=fun h=>by rw [← d1,rat_eq_iff];omega
 have l5:((m:Int):Rat)*p2 e<(((m:Int)+1:Int):Rat)*p2 e:=by rw [rat_lt_iff];omega
 clear d1 d2 c0 c1 hd hr hm1 hre hn
 refine rd_abs hP hle hge (fun hr1=>?_) (fun hr0=>?_) (fun hr1=>?_) s1
 ·cases rest
  ·have hr:r≠0:=by simpa using hr1
   obtain⟨k1,k2⟩:=h2 rfl
   have l3:=l3 hr
   exact⟨(k1 _).2 (Rat.le_of_lt l3),fun h=>by have:=(k1 _).1 h;grind,(k2 _).2 (by grind),fun h=>by have:=(k2 _).1 h;grind⟩
  ·obtain⟨a1,a2,a3,a4⟩:=h1 rfl
   exact⟨hle _ _ l1 a1,fun h=>a2 (hle _ _ l2 h),hge _ _ l2 a3,fun h=>a4 (hge _ _ l1 h)⟩
 ·obtain⟨rfl,hr⟩:rest=false∧r=0:=by simpa using hr0
  rw [l4 hr]
  exact h2 rfl
 ·apply s2
  cases rest
  ·right;simpa using hr1
  ·exact .inl (hq rfl)
theorem cut_rd {P m:Nat} {up neg rest:Bool} {e:Int} {T:Rat} (hP:1≤P) (h1:rest=true→((m:Int):Rat)*p2 e<T∧T<(((m:Int)+1:Int):Rat)*p2 e) (h2:rest=false→T=((m:Int):Rat)*p2 e) (hq:rest=true→2^(P-1)≤m):
  Rd P up (· ≤if neg then -T else T) ((if neg then -T else T)≤ ·) (cutR P up neg m e rest):=by
 have key: ∀up,Rd P up (· ≤T) (T≤ ·) (cutR P up false m e rest):=fun up=>cut_abs hP (fun a b h h'=>Rat.le_trans h h') (fun a b h h'=>Rat.le_trans h' h) (fun hr=>by
  obtain⟨a1,a2⟩:=h1 hr
  exact⟨Rat.le_of_lt a1,by grind,Rat.le_of_lt a2,by grind⟩) (fun hr=>by
  rw [h2 hr]
  exact⟨fun v=>Iff.rfl,fun v=>Iff.rfl⟩) hq
 cases neg
 ·exact key up
 ·have h:=key (!up)
  obtain⟨s1,-⟩:=cut_sizes (m:=m) hP
  unfold cutR at h ⊢
  rw [Bool.bne_false] at h
  rw [Bool.bne_true]
  have h3:=rd_opp hP (by split<;>omega) h
  exact h3.congr (fun s _=>by simp only [if_true];grind) (fun s _=>by simp only [if_true];grind)
theorem leRt_down {X a b:Rat} (h:a≤b) (hb:leRt X b):leRt X a:=by
 rcases hb with hb|hb
 ·exact .inl (Rat.le_trans h hb)
 ·rcases rat_tri a 0 with h0|h0|h0
  ·exact .inl (Rat.le_of_lt h0)
  ·exact .inl (by rw [h0];exact Rat.le_refl)
  ·exact .inr (Rat.le_trans (sq_le (Rat.le_of_lt h0) h) hb)
theorem geRt_up {X a b:Rat} (h:a≤b) (ha:geRt X a):geRt X b:=⟨Rat.le_trans ha.1 h,Rat.le_trans ha.2 (sq_le ha.1 h)⟩
theorem cut_rt {P m:Nat} {up rest:Bool} {e:Int} {X:Rat} (hP:1≤P)
  (h1:rest=true→(((m:Int):Rat)*p2 e)*(((m:Int):Rat)*p2 e)<X∧X<((((m:Int)+1:Int):Rat)*p2 e)*((((m:Int)+1:Int):Rat)*p2 e))
  (h2:rest=false→X=(((m:Int):Rat)*p2 e)*(((m:Int):Rat)*p2 e)) (hq:rest=true→2^(P-1)≤m):
  Rd P up (leRt X) (geRt X) (cutR P up false m e rest):=by
 have q0:=q_nonneg m e
 have q1:(0:Rat)<(((m:Int)+1:Int):Rat)*p2 e:=by
  have h:=rat_lt_iff (a:=(m:Int)) (b:=(m:Int)+1) (m:=e)
  have:=h.2 (by omega)
  grind
 refine cut_abs hP (fun a b=>leRt_down) (fun a b=>geRt_up) (fun hr=>?_) (fun hr=>?_) hq
 ·obtain⟨a1,a2⟩:=h1 hr
  refine⟨.inr (Rat.le_of_lt a1),fun h=>?_,⟨Rat.le_of_lt q1,Rat.le_of_lt a2⟩,fun h=>?_⟩
  ·rcases h with h|h<;>grind
  ·have:=h.2
   grind
 ·have hX:=h2 hr
  generalize ((m:Int):Rat)*p2 e=A at*
  subst hX
  refine⟨fun v=>⟨fun h=>?_,fun h=>?_⟩,fun v=>⟨fun h=>sq_le_of h.1 h.2,fun h=>⟨Rat.le_trans q0 h,sq_le q0 h⟩⟩⟩
  ·rcases h with h|h
   ·exact Rat.le_trans h q0
   ·exact sq_le_of q0 h
  ·exact leRt_down h (.inr Rat.le_refl)
theorem signed_q (x:Dy):(if decide (x.z<0) then -(((x.z.natAbs:Int):Rat)*p2 x.e) else ((x.z.natAbs:Int):Rat)*p2 x.e)=x.q:=by
 rw [← sg_q,sg_self]
 rfl
theorem rnd_ref {P:Nat} {up:Bool} {x:Dy} (hP:1≤P):cutR P up (decide (x.z<0)) x.z.natAbs x.e false=rndD P up x:=by
 have h:=cut_rd (P:=P) (up:=up) (neg:=decide (x.z<0)) (m:=x.z.natAbs) (e:=x.e) (rest:=false) (T:=((x.z.natAbs:Int):Rat)*p2 x.e) hP (fun h=>by cases h) (fun _=>rfl) (fun h=>by cases h)
 rw [signed_q] at h
 exact h.unique (rnd_rd P up x hP)
def quoRn (P:Nat) (x y:Dy):Nat:=P+2+bitsN y.z.natAbs-bitsN x.z.natAbs
def quoR (P:Nat) (up:Bool) (x y:Dy):Dy:=cutR P up (decide (x.z<0) != decide (y.z<0)) (x.z.natAbs*2^quoRn P x y/y.z.natAbs) (x.e-y.e-(quoRn P x y:Int)) (decide (0<x.z.natAbs*2^quoRn P x y%y.z.natAbs))
theorem cutR_zero (P:Nat) (up neg:Bool) (e:Int):cutR P up neg 0 e false=⟨0,0⟩:=by
 unfold cutR
 simp [sg_zero,nrm_zero]
theorem quo_ref {P : Nat} {up : Bool} {x y : Dy} (hP : 1 ≤ P) (hy : y.z ≠ 0) : quoR P up x y = quoQ P up x y := by
  unfold quoR quoQ
  rw [if_neg hy]
  by_cases hx : x.z = 0
  · rw [if_pos hx, hx]
    simp [cutR_zero]
  · rw [if_neg hx]
    obtain ⟨bx, x1, x2, x3⟩ := bitsN_spec (n := x.z.natAbs) (by omega)
    obtain ⟨b, y1, y2, y3⟩ := bitsN_spec (n := y.z.natAbs) (by omega)
    have hyq : y.q ≠ 0 := fun h => hy (q_zero.1 h)
    obtain ⟨t, ht⟩ : ∃ t : Rat, t * y.q = x.q := ⟨x.q / y.q, by rw [Rat.div_mul_cancel hyq]⟩
    refine Rd.unique ?_ (quo_rd hP hx hy ht)
    have hx' := abs_q x
    have hy' := abs_q y
    obtain ⟨T, hT⟩ : ∃ T, T = if decide (x.z < 0) != decide (y.z < 0) then -t else t := ⟨_, rfl⟩
    have ht2 : t = if decide (x.z < 0) != decide (y.z < 0) then -T else T := by
      rw [hT]; cases decide (x.z < 0) <;> cases decide (y.z < 0) <;> simp
      all_goals grind
    have hc : T * (((y.z.natAbs : Int) : Rat) * p2 y.e) = ((x.z.natAbs : Int) : Rat) * p2 x.e := by
      rw [hx', hy', hT]
      cases decide (x.z < 0) <;> cases decide (y.z < 0) <;> simp <;> grind
    rw [ht2]
    have hn : quoRn P x y = P + 2 + bitsN y.z.natAbs - bitsN x.z.natAbs := rfl
    generalize quoRn P x y = n at *
    generalize x.z.natAbs = X at *
    generalize y.z.natAbs = Y at *
    have hY0 : 0 < Y := by have : 0 < 2 ^ b := Nat.pow_pos (by omega); omega
    have hd := Nat.div_add_mod (X * 2 ^ n) Y
    have hm := Nat.mod_lt (X * 2 ^ n) hY0
    have hbig : 2 ^ (P - 1) ≤ X * 2 ^ n / Y := by
      rw [Nat.le_div_iff_mul_le hY0]
      have h1 : 2 ^ (P - 1) * Y ≤ 2 ^ (P - 1) * 2 ^ (b + 1) := Nat.mul_le_mul_left _ (Nat.le_of_lt y3)
      have h2 : 2 ^ bx * 2 ^ n ≤ X * 2 ^ n := Nat.mul_le_mul_right _ x2
      rw [← Nat.pow_add] at h1 h2
      have h3 := two_mono (show P - 1 + (b + 1) ≤ bx + n by omega)
      omega
    generalize X * 2 ^ n / Y = q at *
    generalize hr : X * 2 ^ n % Y = r at *
    have e1 := q_down (X : Int) x.e n
    have e2 : (((X : Int) * 2 ^ n : Int) : Rat) = ((((Y * q + r : Nat) : Int)) : Rat) := by rw [hd]; push_cast; rfl
    have e3 : T * (((Y : Int) : Rat) * p2 y.e) = (((Y * q + r : Nat) : Int) : Rat) * p2 (x.e - (n : Int)) := by rw [hc, ← e1, e2]
    have e4 : p2 (x.e - (n : Int)) = p2 y.e * p2 (x.e - y.e - (n : Int)) := by rw [← p2_add]; congr 1; omega
    have hyp := p2_pos y.e
    have hYr : (0 : Rat) < ((Y : Int) : Rat) := by
      have := (Rat.intCast_lt_intCast (a := 0) (b := (Y : Int))).2 (by omega)
      simpa using this
    rw [e4] at e3
    generalize x.e - y.e - (n : Int) = E at *
    have e5 : T * ((Y : Int) : Rat) = (((Y * q + r : Nat) : Int) : Rat) * p2 E := by
      apply rat_cancel hyp
      rw [Rat.mul_assoc, e3]
      grind
    have hEp := p2_pos E
    have e6 : (((Y * q + r : Nat) : Int) : Rat) = ((Y : Int) : Rat) * ((q : Int) : Rat) + ((r : Int) : Rat) := by rw [Int.natCast_add, Int.natCast_mul, Rat.intCast_add, Rat.intCast_mul]
    rw [e6] at e5
    have hrY : ((r : Int) : Rat) < ((Y : Int) : Rat) := (Rat.intCast_lt_intCast).2 (by omega)
    have hq1 : (((q : Int) + 1 : Int) : Rat) = ((q : Int) : Rat) + 1 := by rw [Rat.intCast_add]; rfl
    clear e1 e2 e3 e4 e6 hx' hy' hc hT ht2
    refine cut_rd hP (fun hrest => ?_) (fun hrest => ?_) (fun _ => hbig)
    · have hr0 : 0 < r := by simpa using hrest
      have hrp : (0 : Rat) < ((r : Int) : Rat) := by
        have := (Rat.intCast_lt_intCast (a := 0) (b := (r : Int))).2 (by omega)
        simpa using this
      rw [hq1]
      generalize ((r : Int) : Rat) = R at *
      generalize ((q : Int) : Rat) = Q at *
      generalize ((Y : Int) : Rat) = V at *
      generalize p2 E = W at *
      have m1 : 0 < R * W := Rat.mul_pos hrp hEp
      have m2 : 0 < (V - R) * W := Rat.mul_pos (by grind) hEp
      have k1 : Q * W * V < T * V := by grind
      have k2 : T * V < (Q + 1) * W * V := by grind
      exact ⟨(Rat.mul_lt_mul_right hYr).1 k1, (Rat.mul_lt_mul_right hYr).1 k2⟩
    · have hr0 : r = 0 := by have : ¬ 0 < r := by simpa using hrest
                             omega
      subst hr0
      apply rat_cancel hYr
      rw [e5]
      simp
      grind
def sqrRn (P:Nat) (x:Dy):Nat:=if (x.e-((2*P+4-bitsN x.z.natAbs:Nat):Int))%2=0 then 2*P+4-bitsN x.z.natAbs else 2*P+4-bitsN x.z.natAbs+1
def sqrR (P:Nat) (up:Bool) (x:Dy):Dy:=cutR P up false (rootN (x.z.natAbs*2^sqrRn P x)) ((x.e-(sqrRn P x:Int))/2) (decide (rootN (x.z.natAbs*2^sqrRn P x)*rootN (x.z.natAbs*2^sqrRn P x)≠x.z.natAbs*2^sqrRn P x))
theorem root_zero:rootN 0=0:=root_is (by omega) (by omega)
theorem sqr_ref {P:Nat} {up:Bool} {x:Dy} (hP:1≤P) (hx:0≤x.z):sqrR P up x=sqrtQ P up x:=by
 unfold sqrR sqrtQ
 by_cases h0:x.z=0
 ·rw [if_pos (by omega),h0]
  simp [root_zero,cutR_zero]
 ·rw [if_neg (by omega)]
  refine Rd.unique ?_ (sqrt_rd hP (by omega))
  obtain⟨b,x1,x2,x3⟩:=bitsN_spec (n:=x.z.natAbs) (by omega)
  have hq:x.q=((x.z.natAbs:Int):Rat)*p2 x.e:=by
   have:=abs_q x
   rw [decide_eq_false (by omega)] at this
   exact this.symm
  have hev:(x.e-(sqrRn P x:Int))%2=0:=by unfold sqrRn;split<;>omega
  have hn:2*P+4-bitsN x.z.natAbs≤sqrRn P x:=by unfold sqrRn;split<;>omega
  have e1:=q_down (x.z.natAbs:Int) x.e (sqrRn P x)
  rw [← hq] at e1
  generalize sqrRn P x=n at*
  have e2:((x.z.natAbs:Int)*2^n:Int)=((x.z.natAbs*2^n:Nat):Int):=by push_cast;rfl
  rw [e2] at e1
  have hM:2^(2*P+3)≤x.z.natAbs*2^n:=by
   have h1:2^b*2^n≤x.z.natAbs*2^n:=Nat.mul_le_mul_right _ x2
   rw [← Nat.pow_add] at h1
   have:=two_mono (show 2*P+3≤b+n by omega)
   omega
  generalize x.z.natAbs*2^n=M at*
  obtain⟨r1,r2⟩:=rootN_is M
  generalize rootN M=r at*
  obtain⟨F,hF⟩: ∃F,x.e-(n:Int)=F+F:=⟨(x.e-(n:Int))/2,by omega⟩
  rw [hF] at e1 ⊢
  rw [show (F+F)/2=F by omega]
  rw [p2_add] at e1
  have hbig:2^(P-1)≤r:=by
   apply Decidable.byContradiction
   intro hc
   have h1:(r+1)*(r+1)≤2^P*2^P:=by
    have h3:r+1≤2^P:=Nat.le_trans (by omega) (two_mono (show P-1≤P by omega))
    exact Nat.mul_le_mul h3 h3
   rw [← Nat.pow_add] at h1
   have:=two_mono (show P+P≤2*P+3 by omega)
   omega
  have c1:((r*r:Nat):Int)=(r:Int)*(r:Int):=by push_cast;rfl
  have sqe: ∀k:Int,(((k:Int):Rat)*p2 F)*(((k:Int):Rat)*p2 F)=((k*k:Int):Rat)*(p2 F*p2 F):=fun k=>by rw [Rat.intCast_mul];grind
  have hpp:p2 F*p2 F=p2 (F+F):=(p2_add F F).symm
  refine cut_rt hP (fun hrest=>?_) (fun hrest=>?_) (fun _=>hbig)
  ·have hne:r*r≠M:=by simpa using hrest
   rw [sqe,sqe,←e1,hpp,rat_lt_iff,rat_lt_iff]
   have c2:(((r+1)*(r+1):Nat):Int)=((r:Int)+1)*((r:Int)+1):=by push_cast;rfl
   omega
  ·have he:r*r=M:=by simpa using hrest
   rw [sqe,←e1,←he,c1]
end Go.Proofs.YtigpnopeacicpaaGreatDoor
