/-
  Joined texts.
-/
import Derived.Test.YtigpnopeacicpaaGreatDoorTcJ33
import Derived.Test.YtigpnopeacicpaaGreatDoorTcJ26
namespace Go.Proofs.YtigpnopeacicpaaGreatDoor
open Go.Lib (hid)
set_option linter.unusedSimpArgs false
open Go.RowKit
theorem DB.swap {w0 w:World} {L:List DX} {a b:DX} (h:DB w0 w (a::b::L)):DB w0 w (b::a::L):=by
 have key: ∀(i:Nat) (x:DX),(b::a::L)[i]? =some x→(a::b::L)[if i=0 then 1 else if i=1 then 0 else i]? =some x:=fun i x hx=>by
  rcases i with _|_|i
  ·simpa using hx
  ·simpa using hx
  ·simpa using hx
 exact⟨h.only,fun i x hx=>h.all _ x (key i x hx),fun i x hx=>h.base _ x (key i x hx),fun i j x y hij hx hy=>h.ne _ _ x y (by split<;>split<;>(try split)<;>(try split)<;>omega) (key i x hx) (key j y hy)⟩
def isD3 (x y z:Dy):VP:=fun v w=> ∃s A k c s' A' k' c' s'' A'' k'' c'',v= .agg #[.bool s,.slice A k c,.int .i64 x.e,.bool s',.slice A' k' c',.int .i64 y.e,.bool s'',.slice A'' k'' c'',.int .i64 z.e]∧IV w (.agg #[.bool s,.slice A k c]) x.z∧IV w (.agg #[.bool s',.slice A' k' c']) y.z∧IV w (.agg #[.bool s'',.slice A'' k'' c'']) z.z
theorem isD3.lasts (x y z:Dy):Lasts (isD3 x y z):=fun _ _ _ ⟨s,A,k,c,s',A',k',c',s'',A'',k'',c'',h1,h2,h3,h4⟩ ho=>⟨s,A,k,c,s',A',k',c',s'',A'',k'',c'',h1,h2.only ho,h3.only ho,h4.only ho⟩
theorem all_isD3 {x y z:Dy} {w:World} {K:Value→Prop} (h: ∀s A k c s' A' k' c' s'' A'' k'' c'',Hid (IV w (.agg #[.bool s,.slice A k c]) x.z)→Hid (IV w (.agg #[.bool s',.slice A' k' c']) y.z)→Hid (IV w (.agg #[.bool s'',.slice A'' k'' c'']) z.z)→K (.agg #[.bool s,.slice A k c,.int .i64 x.e,.bool s',.slice A' k' c',.int .i64 y.e,.bool s'',.slice A'' k'' c'',.int .i64 z.e])): ∀v,isD3 x y z v w→K v:=fun v ⟨s,A,k,c,s',A',k',c',s'',A'',k'',c'',h1,h2,h3,h4⟩=>by
 subst h1
 exact h s A k c s' A' k' c' s'' A'' k'' c'' h2 h3 h4
theorem isd3_of {x y z:Dy} {w:World} {s s' s'':Bool} {A A' A'':Option Addr} {k k' k'' c c' c'':Nat} (h2:Hid (IV w (.agg #[.bool s,.slice A k c]) x.z)) (h3:Hid (IV w (.agg #[.bool s',.slice A' k' c']) y.z)) (h4:Hid (IV w (.agg #[.bool s'',.slice A'' k'' c'']) z.z)):isD3 x y z (.agg #[.bool s,.slice A k c,.int .i64 x.e,.bool s',.slice A' k' c',.int .i64 y.e,.bool s'',.slice A'' k'' c'',.int .i64 z.e]) w:=⟨s,A,k,c,s',A',k',c',s'',A'',k'',c'',rfl,h2,h3,h4⟩
theorem mulW_d {w:World} {a b:Value} {x y:Dy} {N:Nat} (r:Dy) (hr:dMul x y=r) (ha:Hid (DV w a x)) (hb:Hid (DV w b y)) (hx:Hid (Bnd N x)) (hy:Hid (Bnd N y)) (hN:N≤2000000) (hT:Hid (Tab6 w)):Calls Tryz.prog 41 #[a,b] w (DPost r w):=hr▸mul_d ha hb hx hy hN hT
set_option maxHeartbeats 8000000 in
set_option maxRecDepth 100000 in
theorem bmul_core {w:World} {a b:Value} {x y u v:Dy} {N M:Nat} (p:Int) (P0 P1 P2 P3 L0 L1 L2 L3 H0 H1 H2 H3 lo_ hi_:Dy) (z1 z2 z3 o1 o2 o3:Int)
  (HP0:Hid (dMul x u=P0)) (HP1:Hid (dMul x v=P1)) (HP2:Hid (dMul y u=P2)) (HP3:Hid (dMul y v=P3)) (HL0:Hid (L0=P0)) (HH0:Hid (H0=P0)) (HLo:Hid (rndD (widthP p) (decide ((0:Int)≤ -1)) L3=lo_)) (HHi:Hid (rndD (widthP p) (decide ((0:Int)≤1)) H3=hi_))
  (HM1:Hid (cmpQ P1.q L0.q=z1)) (HXL1:Hid ((z1<0→P1=L1)∧(¬ z1<0→L0=L1))) (HN1:Hid (cmpQ P1.q H0.q=o1)) (HXH1:Hid ((0<o1→P1=H1)∧(¬ 0<o1→H0=H1)))
  (HM2:Hid (cmpQ P2.q L1.q=z2)) (HXL2:Hid ((z2<0→P2=L2)∧(¬ z2<0→L1=L2))) (HN2:Hid (cmpQ P2.q H1.q=o2)) (HXH2:Hid ((0<o2→P2=H2)∧(¬ 0<o2→H1=H2)))
  (HM3:Hid (cmpQ P3.q L2.q=z3)) (HXL3:Hid ((z3<0→P3=L3)∧(¬ z3<0→L2=L3))) (HN3:Hid (cmpQ P3.q H2.q=o3)) (HXH3:Hid ((0<o3→P3=H3)∧(¬ 0<o3→H2=H3)))
  (BP1:Hid (Bnd M P1)) (BP2:Hid (Bnd M P2)) (BP3:Hid (Bnd M P3)) (BL0:Hid (Bnd M L0)) (BL1:Hid (Bnd M L1)) (BL2:Hid (Bnd M L2)) (BL3:Hid (Bnd M L3)) (BH0:Hid (Bnd M H0)) (BH1:Hid (Bnd M H1)) (BH2:Hid (Bnd M H2)) (BH3:Hid (Bnd M H3))
  (ha:Hid (BV w a x y)) (hb:Hid (BV w b u v)) (bx:Hid (Bnd N x)) (by_:Hid (Bnd N y)) (bu:Hid (Bnd N u)) (bv:Hid (Bnd N v)) (hN:N≤2000000) (hM:M≤1000000) (hT:Hid (Tab6 w)):Calls Tryz.prog 24 #[a,b,.int .i64 p] w (BPost lo_ hi_ w):=by
 obtain⟨s1,A1,k1,c1,t1,B1,m1,d1,rfl,hx1,hy1⟩:=ha.out
 obtain⟨s2,A2,k2,c2,t2,B2,m2,d2,rfl,hx2,hy2⟩:=hb.out
 have hal: ∀w:World,(Instr.alloc 32 true (.tuple #[])).run Tryz.prog w= .ok (.pointer (some ⟨w.heap.size,0,none⟩)) (w.alloc (.cells #[.bool false,.slice none 0 0,.int .i64 0] 32)):=fun _=>by kernel_rfl
 have HAL:=hid hal
 have hk:=(((KB.start w).new 34 [.bool s1,.slice A1 k1 c1,.int .i64 x.e,.bool t1,.slice B1 m1 d1,.int .i64 y.e]).new 34 [.bool s2,.slice A2 k2 c2,.int .i64 u.e,.bool t2,.slice B2 m2 d2,.int .i64 v.e]).new 34 [.bool false,.slice none 0 0,.int .i64 0,.bool false,.slice none 0 0,.int .i64 0]
 simp only [World.size_alloc] at hk
 have hi:=((((IVL.nil w).cons hy2).cons hx2).cons hy1).cons hx1
 have HI:=hid (hi.step hk.only)
 have HK:=hid hk
 clear hk hi hx1 hy1 hx2 hy2 ha hb hal
 obtain⟨i0,i1,i2,i3,i4,i5⟩:=HK.out.c6 2 rfl
 obtain⟨j0,j1,j2,j3,j4,j5⟩:=HK.out.c6 1 rfl
 go_enter Tryz.func24,Tryz.ntmps24
 go_wp2_with fail
 (with_reducible refine (mulW_d P0 HP0.out (DV.of (IVL.at HI 0 rfl)) (DV.of (IVL.at HI 2 rfl)) bx bu hN (hid (hT.out.keep HK.out.only))).mono ?_)
 rintro e w3 ⟨s7,A7,k7,c7,rfl,-,-,hv,ho⟩
 clear i0 i1 i2 i3 i4 i5 j0 j1 j2 j3 j4 j5
 replace HK:=hid (HK.out.step ho)
 replace HI:=hid (HI.out.step ho)
 have HE:=hid (((DB.start w).step HK.out.only).new hv)
 clear ho hv
 have ho:=(Only.refl [] w3).alloc (.cells #[.bool s7,.slice A7 k7 c7,.int .i64 P0.e] 32)
 have hg3:w.heap.size+3≤w3.heap.size:=by have:=(HK.out.blk 0 rfl).lt;omega
 replace HK:=hid (HK.out.step ho)
 replace HI:=hid (HI.out.step ho)
 have HGF:Hid ((w3.alloc (.cells #[.bool s7,.slice A7 k7 c7,.int .i64 P0.e] 32)).heap.size>w3.heap.size):=by show _>_;rw [World.size_alloc];omega
 clear ho
 go_upto_region 2 with fail
 generalize w3.heap.size=gf at*
 generalize w3.alloc _=wq at*
 have hal:=HAL.out
 go_cut [8,9] from 17 to 18 (fun lv hv wx=> ∃g2 g3:Nat,lv= .pointer (some ⟨g2,0,none⟩)∧hv= .pointer (some ⟨g3,0,none⟩)∧w.heap.size+3≤g2∧w.heap.size+3≤g3∧Hid (KB w wx [⟨w.heap.size+1+1,34,[.bool false,.slice none 0 0,.int .i64 0,.bool false,.slice none 0 0,.int .i64 0]⟩,⟨w.heap.size+1,34,[.bool s2,.slice A2 k2 c2,.int .i64 u.e,.bool t2,.slice B2 m2 d2,.int .i64 v.e]⟩,⟨w.heap.size,34,[.bool s1,.slice A1 k1 c1,.int .i64 x.e,.bool t1,.slice B1 m1 d1,.int .i64 y.e]⟩])∧Hid (IVL wx [⟨s1,A1,k1,c1,x.z⟩,⟨t1,B1,m1,d1,y.z⟩,⟨s2,A2,k2,c2,u.z⟩,⟨t2,B2,m2,d2,v.z⟩])∧Hid (DB w wx [⟨g3,s7,A7,k7,c7,P0⟩,⟨g2,s7,A7,k7,c7,P0⟩,⟨gf,s7,A7,k7,c7,P0⟩]))
 case first=>
  rename_i JJ KK hJ hK
  have HJJ:=hid hJ
  have HKK:=hid hK
  clear hJ hK
  obtain⟨i0,i1,i2,-,-,-⟩:=DB.cells HE 0 rfl
  have oz:=((Only.refl [] wq).alloc (.cells #[.bool false,.slice none 0 0,.int .i64 0] 32))
  have z0_:=oz.cell i0 (by simp)
  have z1_:=oz.cell i1 (by simp)
  have z2_:=oz.cell i2 (by simp)
  clear oz
  have op:=((Only.refl [] wq).alloc (.cells #[.bool s7,.slice A7 k7 c7,.int .i64 P0.e] 32))
  have p0_:=op.cell i0 (by simp)
  have p1_:=op.cell i1 (by simp)
  have p2_:=op.cell i2 (by simp)
  clear op
  have ozz:=(((Only.refl [] wq).alloc (.cells #[.bool false,.slice none 0 0,.int .i64 0] 32)).alloc (.cells #[.bool false,.slice none 0 0,.int .i64 0] 32))
  have zz0_:=ozz.cell i0 (by simp)
  have zz1_:=ozz.cell i1 (by simp)
  have zz2_:=ozz.cell i2 (by simp)
  clear ozz
  have ozp:=(((Only.refl [] wq).alloc (.cells #[.bool false,.slice none 0 0,.int .i64 0] 32)).alloc (.cells #[.bool s7,.slice A7 k7 c7,.int .i64 P0.e] 32))
  have zp0_:=ozp.cell i0 (by simp)
  have zp1_:=ozp.cell i1 (by simp)
  have zp2_:=ozp.cell i2 (by simp)
  clear ozp
  have opz:=(((Only.refl [] wq).alloc (.cells #[.bool s7,.slice A7 k7 c7,.int .i64 P0.e] 32)).alloc (.cells #[.bool false,.slice none 0 0,.int .i64 0] 32))
  have pz0_:=opz.cell i0 (by simp)
  have pz1_:=opz.cell i1 (by simp)
  have pz2_:=opz.cell i2 (by simp)
  clear opz
  have hsz:(wq.alloc (.cells #[.bool s7,.slice A7 k7 c7,.int .i64 P0.e] 32)).heap.size=wq.heap.size+1:=World.size_alloc _ _
  have ho2:=((((Only.refl [] wq).alloc (.cells #[.bool s7,.slice A7 k7 c7,.int .i64 P0.e] 32)).alloc (.cells #[.bool s7,.slice A7 k7 c7,.int .i64 P0.e] 32))).drew
  have HK3:=hid (HK.out.step ho2)
  have HI3:=hid (HI.out.step ho2)
  have he3:=(HE.out.new (DB.iv HE 0 rfl).out).new (s:=s7) (A:=A7) (k:=k7) (c:=c7) (x:=P0) ((DB.iv HE 0 rfl).out.only ((Only.refl [] wq).alloc _))
  rw [hsz] at he3
  have HE3:=hid (he3.step ((Only.refl [] _).drew))
  have HE4:=hid HE3.out.swap
  have hg8:w.heap.size+3≤wq.heap.size:=by have:=HGF.out;omega
  have hg9:w.heap.size+3≤wq.heap.size+1:=by omega
  clear ho2 he3 hsz
  go_region
  all_goals refine HKK.out _ _ (Met.intro (HJJ.out _ _ ?_))
  all_goals first
   |exact⟨_,_,_,_,⟨_,_,rfl,rfl,hg8,hg9,HK3,HI3,HE3⟩,rfl⟩
   |exact⟨_,_,_,_,⟨_,_,rfl,rfl,hg9,hg8,HK3,HI3,HE4⟩,rfl⟩
 case rest=>
  obtain⟨g2,g3,rfl,rfl,hgl,hgh,HK2,HI2,HE2⟩:=hcut
  clear HK HI HE hal
  have HK:=HK2
  have HI:=HI2
  have HE:=HE2
  clear HK2 HI2 HE2
  go_upto_region 3 with fail
  apply wp_region_typed2 (by kernel_rfl) [isV _,isV _,isV _,isV _,isD P1,isV _,isV _,isV _,isV _,isD P2,isV _,isV _,isV _,isV _,isD P3,isD3 P1 P2 P3,isV _] [[],[0],[],[2],[1,3],[],[5],[],[7],[6,8],[],[10],[],[12],[11,13],[4,9,14],[]] (by kernel_rfl) (by kernel_rfl)
  case ho=>
   iterate 17
    refine owes2_cons (fun wx hox=>?_) ?_
    ·skip
     have hk:=HK.out.step hox
     obtain⟨i0,i1,i2,i3,i4,i5⟩:=hk.c6 2 rfl
     obtain⟨j0,j1,j2,j3,j4,j5⟩:=hk.c6 1 rfl
     have iva:=DV.of (IVL.at (hid (HI.out.step hox)) 0 rfl)
     have ivb:=DV.of (IVL.at (hid (HI.out.step hox)) 1 rfl)
     have ivc:=DV.of (IVL.at (hid (HI.out.step hox)) 2 rfl)
     have ivd:=DV.of (IVL.at (hid (HI.out.step hox)) 3 rfl)
     have htx:=hid (hT.out.keep hk.only)
     refine withs_plain rfl ?_
     simp only [withs,List.getElem?_cons_zero,List.getElem?_cons_succ,Option.bind,Option.getD]
     with_reducible repeat first|refine all_isV ?_|(refine all_isD ?_;intro sx Ax kx cx hvx hwx)
     go_simp
     first
     |exact⟨Only.refl _ _,isV.self _ _⟩
     |with_reducible exact grow_d (mulW_d P1 HP1.out iva ivd bx bv (by omega) htx)
     |with_reducible exact grow_d (mulW_d P2 HP2.out ivb ivc by_ bu (by omega) htx)
     |with_reducible exact grow_d (mulW_d P3 HP3.out ivb ivd by_ bv (by omega) htx)
     |exact⟨Only.refl _ _,isd3_of (by assumption) (by assumption) (by assumption)⟩
   exact owes2_nil
  case he=>
   intro wx hox
   refine withs_of (by simp only [List.length,List.range,List.range.loop];exact rfl) ?_
   simp only [withs,List.getElem?_cons_zero,List.getElem?_cons_succ,Option.bind,Option.getD]
   with_reducible refine all_isV ?_
   with_reducible refine all_isV ?_
   with_reducible refine all_isV ?_
   with_reducible refine all_isV ?_
   with_reducible refine all_isD ?_
   intro s_ A_ k_ c_ hv_ hw_
   with_reducible refine all_isV ?_
   with_reducible refine all_isV ?_
   with_reducible refine all_isV ?_
   with_reducible refine all_isV ?_
   with_reducible refine all_isD ?_
   intro s_ A_ k_ c_ hv_ hw_
   with_reducible refine all_isV ?_
   with_reducible refine all_isV ?_
   with_reducible refine all_isV ?_
   with_reducible refine all_isV ?_
   with_reducible refine all_isD ?_
   intro s_ A_ k_ c_ hv_ hw_
   with_reducible refine all_isD3 ?_
   intro r1 R1 j1_ l1_ r2 R2 j2_ l2_ r3 R3 j3_ l3_ hp1 hp2 hp3
   with_reducible refine all_isV ?_
   go_simp
   have HT3:=hid True.intro
   replace HK:=hid (HK.out.step hox)
   replace HE:=hid (HE.out.step hox)
   have hi4:=(((HI.out.step hox).cons hp3.out).cons hp2.out).cons hp1.out
   replace HI:=hid hi4
   clear hi4 hox hp1 hp2 hp3 HT3
   go_wp2_with fail
   go_loopw [35] (fun i wr=> ∃(n:Nat) (lo hi:Dy) (s:Bool) (A:Option Addr) (k c:Nat) (t:Bool) (B:Option Addr) (m d:Nat),i= .int .i64 (n:Int)∧n≤3∧at5 n L0 L1 L2 L3 L3=lo∧at5 n H0 H1 H2 H3 H3=hi∧
     Hid (KB w wr [⟨w.heap.size+1+1,34,[.bool false,.slice none 0 0,.int .i64 0,.bool false,.slice none 0 0,.int .i64 0]⟩,⟨w.heap.size+1,34,[.bool s2,.slice A2 k2 c2,.int .i64 u.e,.bool t2,.slice B2 m2 d2,.int .i64 v.e]⟩,⟨w.heap.size,34,[.bool s1,.slice A1 k1 c1,.int .i64 x.e,.bool t1,.slice B1 m1 d1,.int .i64 y.e]⟩])∧Hid (IVL wr [⟨r1,R1,j1_,l1_,P1.z⟩,⟨r2,R2,j2_,l2_,P2.z⟩,⟨r3,R3,j3_,l3_,P3.z⟩,⟨s1,A1,k1,c1,x.z⟩,⟨t1,B1,m1,d1,y.z⟩,⟨s2,A2,k2,c2,u.z⟩,⟨t2,B2,m2,d2,v.z⟩])∧Hid (DB w wr [⟨g3,t,B,m,d,hi⟩,⟨g2,s,A,k,c,lo⟩,⟨gf,s7,A7,k7,c7,P0⟩])) (fun i _=>3-(intOf i).toNat)
   case atStart=>exact⟨0,L0,H0,_,_,_,_,_,_,_,_,rfl,by omega,rfl,rfl,HK,HI,by rw [HL0.out,HH0.out];exact HE⟩
   case round=>
    obtain⟨n,lo,hi,s,A,k,c,t,B,m,d,rfl,hn,hlo,hhi,hK,hI,hE⟩:=hrel
    clear HK HI HE
    have HK:=hK
    have HI:=hI
    have HE:=hE
    clear hK hI hE
    obtain rfl|rfl|rfl|rfl:n=0∨n=1∨n=2∨n=3:=by omega
    ·simp only [at5] at hlo hhi
     subst hlo hhi
     clear hn
     have hidx: ∀w:World,(Instr.index 90 (.agg #[.bool r1,.slice R1 j1_ l1_,.int .i64 P1.e,.bool r2,.slice R2 j2_ l2_,.int .i64 P2.e,.bool r3,.slice R3 j3_ l3_,.int .i64 P3.e]) (.int .i64 0)).run Tryz.prog w= .ok (.agg #[.bool r1,.slice R1 j1_ l1_,.int .i64 P1.e]) w:=fun _=>by kernel_rfl
     go_upto_region 6 with fail
     clear hidx
     have he:=HE.out.new (IVL.at HI 0 rfl).out
     have ho:=(Only.refl [] wr).alloc (.cells #[.bool r1,.slice R1 j1_ l1_,.int .i64 P1.e] 32)
     replace HE:=hid he
     replace HK:=hid (HK.out.step ho)
     replace HI:=hid (HI.out.step ho)
     clear he ho
     generalize wr.heap.size=gx at*
     generalize wr.alloc _=w8 at*
     obtain⟨i0,i1,i2,-,-,-⟩:=DB.cells HE 0 rfl
     obtain⟨j0,j1,j2,-,-,-⟩:=DB.cells HE 2 rfl
     go_wp2_with fail
     (with_reducible refine (cmpV_d (x:=P1) (y:=L0) _ (DB.dv HE 0 rfl) (DB.dv HE 2 rfl) BP1 BL0 (by omega) HM1.out).mono ?_)
     rintro e w8 ⟨rfl,ho⟩
     replace HE:=hid (HE.out.step ho)
     replace HK:=hid (HK.out.step ho)
     replace HI:=hid (HI.out.step ho)
     clear i0 i1 i2 j0 j1 j2
     clear ho
     go_upto_if 41 with fail
     by_cases hm:z1<0
     ·have hmm:=HXL1.out.1 (by omega)
      subst hmm
      obtain⟨j0,j1,j2,-,-,-⟩:=DB.cells HE 0 rfl
      obtain⟨l0,l1,l2,fl0,fl1,fl2⟩:=DB.cells HE 2 rfl
      go_upto_region 7 with fail
      go_upto_region 8 with fail
      have hput:=HE.out.put 2 rfl (DB.iv HE 0 rfl).out
      have hkf:=HK.out.far3 (g:=g2) (u:= .bool r1) (v:= .slice R1 j1_ l1_) (x:= .int .i64 P1.e) (ne3 (by dsimp only;omega) (by dsimp only;omega) (by dsimp only;omega)) (by omega)
      have hif:=HI.out.far3 (x:= .bool r1) (y:= .slice R1 j1_ l1_) (u:= .int .i64 P1.e) (HE.out.all 2 _ rfl).1 (noLimb3 _ _ _ _ _)
      clear j0 j1 j2 l0 l1 l2 fl0 fl1 fl2
      clear HE HK HI
      have HE:=hid hput
      have HK:=hid hkf
      have HI:=hid hif
      clear hput hkf hif
      generalize ((w8.setCell _ _).setCell _ _).setCell _ _=wz at*
      obtain⟨i0,i1,i2,-,-,-⟩:=DB.cells HE 0 rfl
      obtain⟨j0,j1,j2,-,-,-⟩:=DB.cells HE 1 rfl
      go_wp2_with fail
      (with_reducible refine (cmpV_d (x:=P1) (y:=H0) _ (DB.dv HE 0 rfl) (DB.dv HE 1 rfl) BP1 BH0 (by omega) HN1.out).mono ?_)
      rintro e w8 ⟨rfl,ho⟩
      replace HE:=hid (HE.out.step ho)
      replace HK:=hid (HK.out.step ho)
      replace HI:=hid (HI.out.step ho)
      clear i0 i1 i2 j0 j1 j2
      clear ho
      go_upto_if 46 with fail
      by_cases hx:0<o1
      ·have hxx:=HXH1.out.1 (by omega)
       subst hxx
       obtain⟨j0,j1,j2,-,-,-⟩:=DB.cells HE 0 rfl
       obtain⟨h0,h1,h2,fh0,fh1,fh2⟩:=DB.cells HE 1 rfl
       go_upto_region 9 with fail
       go_upto_region 10 with fail
       have hput:=HE.out.put 1 rfl (DB.iv HE 0 rfl).out
       have hkf:=HK.out.far3 (g:=g3) (u:= .bool r1) (v:= .slice R1 j1_ l1_) (x:= .int .i64 P1.e) (ne3 (by dsimp only;omega) (by dsimp only;omega) (by dsimp only;omega)) (by omega)
       have hif:=HI.out.far3 (x:= .bool r1) (y:= .slice R1 j1_ l1_) (u:= .int .i64 P1.e) (HE.out.all 1 _ rfl).1 (noLimb3 _ _ _ _ _)
       clear j0 j1 j2 h0 h1 h2 fh0 fh1 fh2
       clear HE HK HI
       have HE:=hid hput
       have HK:=hid hkf
       have HI:=hid hif
       clear hput hkf hif
       generalize ((w8.setCell _ _).setCell _ _).setCell _ _=wy at*
       go_wp2_with fail
       go_roundw
       case rel=>exact⟨1,_,_,_,_,_,_,_,_,_,_,rfl,by omega,rfl,rfl,HK,HI,hid HE.out.tail⟩
       case measure=>simp [intOf]
      ·have hxx:=HXH1.out.2 (by omega)
       subst hxx
       go_wp2_with fail
       go_roundw
       case rel=>exact⟨1,_,_,_,_,_,_,_,_,_,_,rfl,by omega,rfl,rfl,HK,HI,hid HE.out.tail⟩
       case measure=>simp [intOf]
     ·have hmm:=HXL1.out.2 (by omega)
      subst hmm
      obtain⟨i0,i1,i2,-,-,-⟩:=DB.cells HE 0 rfl
      obtain⟨j0,j1,j2,-,-,-⟩:=DB.cells HE 1 rfl
      go_wp2_with fail
      (with_reducible refine (cmpV_d (x:=P1) (y:=H0) _ (DB.dv HE 0 rfl) (DB.dv HE 1 rfl) BP1 BH0 (by omega) HN1.out).mono ?_)
      rintro e w8 ⟨rfl,ho⟩
      replace HE:=hid (HE.out.step ho)
      replace HK:=hid (HK.out.step ho)
      replace HI:=hid (HI.out.step ho)
      clear i0 i1 i2 j0 j1 j2
      clear ho
      go_upto_if 46 with fail
      by_cases hx:0<o1
      ·have hxx:=HXH1.out.1 (by omega)
       subst hxx
       obtain⟨j0,j1,j2,-,-,-⟩:=DB.cells HE 0 rfl
       obtain⟨h0,h1,h2,fh0,fh1,fh2⟩:=DB.cells HE 1 rfl
       go_upto_region 9 with fail
       go_upto_region 10 with fail
       have hput:=HE.out.put 1 rfl (DB.iv HE 0 rfl).out
       have hkf:=HK.out.far3 (g:=g3) (u:= .bool r1) (v:= .slice R1 j1_ l1_) (x:= .int .i64 P1.e) (ne3 (by dsimp only;omega) (by dsimp only;omega) (by dsimp only;omega)) (by omega)
       have hif:=HI.out.far3 (x:= .bool r1) (y:= .slice R1 j1_ l1_) (u:= .int .i64 P1.e) (HE.out.all 1 _ rfl).1 (noLimb3 _ _ _ _ _)
       clear j0 j1 j2 h0 h1 h2 fh0 fh1 fh2
       clear HE HK HI
       have HE:=hid hput
       have HK:=hid hkf
       have HI:=hid hif
       clear hput hkf hif
       generalize ((w8.setCell _ _).setCell _ _).setCell _ _=wy at*
       go_wp2_with fail
       go_roundw
       case rel=>exact⟨1,_,_,_,_,_,_,_,_,_,_,rfl,by omega,rfl,rfl,HK,HI,hid HE.out.tail⟩
       case measure=>simp [intOf]
      ·have hxx:=HXH1.out.2 (by omega)
       subst hxx
       go_wp2_with fail
       go_roundw
       case rel=>exact⟨1,_,_,_,_,_,_,_,_,_,_,rfl,by omega,rfl,rfl,HK,HI,hid HE.out.tail⟩
       case measure=>simp [intOf]
    ·simp only [at5] at hlo hhi
     subst hlo hhi
     clear hn
     have hidx: ∀w:World,(Instr.index 90 (.agg #[.bool r1,.slice R1 j1_ l1_,.int .i64 P1.e,.bool r2,.slice R2 j2_ l2_,.int .i64 P2.e,.bool r3,.slice R3 j3_ l3_,.int .i64 P3.e]) (.int .i64 1)).run Tryz.prog w= .ok (.agg #[.bool r2,.slice R2 j2_ l2_,.int .i64 P2.e]) w:=fun _=>by kernel_rfl
     go_upto_region 6 with fail
     clear hidx
     have he:=HE.out.new (IVL.at HI 1 rfl).out
     have ho:=(Only.refl [] wr).alloc (.cells #[.bool r2,.slice R2 j2_ l2_,.int .i64 P2.e] 32)
     replace HE:=hid he
     replace HK:=hid (HK.out.step ho)
     replace HI:=hid (HI.out.step ho)
     clear he ho
     generalize wr.heap.size=gx at*
     generalize wr.alloc _=w8 at*
     obtain⟨i0,i1,i2,-,-,-⟩:=DB.cells HE 0 rfl
     obtain⟨j0,j1,j2,-,-,-⟩:=DB.cells HE 2 rfl
     go_wp2_with fail
     (with_reducible refine (cmpV_d (x:=P2) (y:=L1) _ (DB.dv HE 0 rfl) (DB.dv HE 2 rfl) BP2 BL1 (by omega) HM2.out).mono ?_)
     rintro e w8 ⟨rfl,ho⟩
     replace HE:=hid (HE.out.step ho)
     replace HK:=hid (HK.out.step ho)
     replace HI:=hid (HI.out.step ho)
     clear i0 i1 i2 j0 j1 j2
     clear ho
     go_upto_if 41 with fail
     by_cases hm:z2<0
     ·have hmm:=HXL2.out.1 (by omega)
      subst hmm
      obtain⟨j0,j1,j2,-,-,-⟩:=DB.cells HE 0 rfl
      obtain⟨l0,l1,l2,fl0,fl1,fl2⟩:=DB.cells HE 2 rfl
      go_upto_region 7 with fail
      go_upto_region 8 with fail
      have hput:=HE.out.put 2 rfl (DB.iv HE 0 rfl).out
      have hkf:=HK.out.far3 (g:=g2) (u:= .bool r2) (v:= .slice R2 j2_ l2_) (x:= .int .i64 P2.e) (ne3 (by dsimp only;omega) (by dsimp only;omega) (by dsimp only;omega)) (by omega)
      have hif:=HI.out.far3 (x:= .bool r2) (y:= .slice R2 j2_ l2_) (u:= .int .i64 P2.e) (HE.out.all 2 _ rfl).1 (noLimb3 _ _ _ _ _)
      clear j0 j1 j2 l0 l1 l2 fl0 fl1 fl2
      clear HE HK HI
      have HE:=hid hput
      have HK:=hid hkf
      have HI:=hid hif
      clear hput hkf hif
      generalize ((w8.setCell _ _).setCell _ _).setCell _ _=wz at*
      obtain⟨i0,i1,i2,-,-,-⟩:=DB.cells HE 0 rfl
      obtain⟨j0,j1,j2,-,-,-⟩:=DB.cells HE 1 rfl
      go_wp2_with fail
      (with_reducible refine (cmpV_d (x:=P2) (y:=H1) _ (DB.dv HE 0 rfl) (DB.dv HE 1 rfl) BP2 BH1 (by omega) HN2.out).mono ?_)
      rintro e w8 ⟨rfl,ho⟩
      replace HE:=hid (HE.out.step ho)
      replace HK:=hid (HK.out.step ho)
      replace HI:=hid (HI.out.step ho)
      clear i0 i1 i2 j0 j1 j2
      clear ho
      go_upto_if 46 with fail
      by_cases hx:0<o2
      ·have hxx:=HXH2.out.1 (by omega)
       subst hxx
       obtain⟨j0,j1,j2,-,-,-⟩:=DB.cells HE 0 rfl
       obtain⟨h0,h1,h2,fh0,fh1,fh2⟩:=DB.cells HE 1 rfl
       go_upto_region 9 with fail
       go_upto_region 10 with fail
       have hput:=HE.out.put 1 rfl (DB.iv HE 0 rfl).out
       have hkf:=HK.out.far3 (g:=g3) (u:= .bool r2) (v:= .slice R2 j2_ l2_) (x:= .int .i64 P2.e) (ne3 (by dsimp only;omega) (by dsimp only;omega) (by dsimp only;omega)) (by omega)
       have hif:=HI.out.far3 (x:= .bool r2) (y:= .slice R2 j2_ l2_) (u:= .int .i64 P2.e) (HE.out.all 1 _ rfl).1 (noLimb3 _ _ _ _ _)
       clear j0 j1 j2 h0 h1 h2 fh0 fh1 fh2
       clear HE HK HI
       have HE:=hid hput
       have HK:=hid hkf
       have HI:=hid hif
       clear hput hkf hif
       generalize ((w8.setCell _ _).setCell _ _).setCell _ _=wy at*
       go_wp2_with fail
       go_roundw
       case rel=>exact⟨2,_,_,_,_,_,_,_,_,_,_,rfl,by omega,rfl,rfl,HK,HI,hid HE.out.tail⟩
       case measure=>simp [intOf]
      ·have hxx:=HXH2.out.2 (by omega)
       subst hxx
       go_wp2_with fail
       go_roundw
       case rel=>exact⟨2,_,_,_,_,_,_,_,_,_,_,rfl,by omega,rfl,rfl,HK,HI,hid HE.out.tail⟩
       case measure=>simp [intOf]
     ·have hmm:=HXL2.out.2 (by omega)
      subst hmm
      obtain⟨i0,i1,i2,-,-,-⟩:=DB.cells HE 0 rfl
      obtain⟨j0,j1,j2,-,-,-⟩:=DB.cells HE 1 rfl
      go_wp2_with fail
      (with_reducible refine (cmpV_d (x:=P2) (y:=H1) _ (DB.dv HE 0 rfl) (DB.dv HE 1 rfl) BP2 BH1 (by omega) HN2.out).mono ?_)
      rintro e w8 ⟨rfl,ho⟩
      replace HE:=hid (HE.out.step ho)
      replace HK:=hid (HK.out.step ho)
      replace HI:=hid (HI.out.step ho)
      clear i0 i1 i2 j0 j1 j2
      clear ho
      go_upto_if 46 with fail
      by_cases hx:0<o2
      ·have hxx:=HXH2.out.1 (by omega)
       subst hxx
       obtain⟨j0,j1,j2,-,-,-⟩:=DB.cells HE 0 rfl
       obtain⟨h0,h1,h2,fh0,fh1,fh2⟩:=DB.cells HE 1 rfl
       go_upto_region 9 with fail
       go_upto_region 10 with fail
       have hput:=HE.out.put 1 rfl (DB.iv HE 0 rfl).out
       have hkf:=HK.out.far3 (g:=g3) (u:= .bool r2) (v:= .slice R2 j2_ l2_) (x:= .int .i64 P2.e) (ne3 (by dsimp only;omega) (by dsimp only;omega) (by dsimp only;omega)) (by omega)
       have hif:=HI.out.far3 (x:= .bool r2) (y:= .slice R2 j2_ l2_) (u:= .int .i64 P2.e) (HE.out.all 1 _ rfl).1 (noLimb3 _ _ _ _ _)
       clear j0 j1 j2 h0 h1 h2 fh0 fh1 fh2
       clear HE HK HI
       have HE:=hid hput
       have HK:=hid hkf
       have HI:=hid hif
       clear hput hkf hif
       generalize ((w8.setCell _ _).setCell _ _).setCell _ _=wy at*
       go_wp2_with fail
       go_roundw
       case rel=>exact⟨2,_,_,_,_,_,_,_,_,_,_,rfl,by omega,rfl,rfl,HK,HI,hid HE.out.tail⟩
       case measure=>simp [intOf]
      ·have hxx:=HXH2.out.2 (by omega)
       subst hxx
       go_wp2_with fail
       go_roundw
       case rel=>exact⟨2,_,_,_,_,_,_,_,_,_,_,rfl,by omega,rfl,rfl,HK,HI,hid HE.out.tail⟩
       case measure=>simp [intOf]
    ·simp only [at5] at hlo hhi
     subst hlo hhi
     clear hn
     have hidx: ∀w:World,(Instr.index 90 (.agg #[.bool r1,.slice R1 j1_ l1_,.int .i64 P1.e,.bool r2,.slice R2 j2_ l2_,.int .i64 P2.e,.bool r3,.slice R3 j3_ l3_,.int .i64 P3.e]) (.int .i64 2)).run Tryz.prog w= .ok (.agg #[.bool r3,.slice R3 j3_ l3_,.int .i64 P3.e]) w:=fun _=>by kernel_rfl
     go_upto_region 6 with fail
     clear hidx
     have he:=HE.out.new (IVL.at HI 2 rfl).out
     have ho:=(Only.refl [] wr).alloc (.cells #[.bool r3,.slice R3 j3_ l3_,.int .i64 P3.e] 32)
     replace HE:=hid he
     replace HK:=hid (HK.out.step ho)
     replace HI:=hid (HI.out.step ho)
     clear he ho
     generalize wr.heap.size=gx at*
     generalize wr.alloc _=w8 at*
     obtain⟨i0,i1,i2,-,-,-⟩:=DB.cells HE 0 rfl
     obtain⟨j0,j1,j2,-,-,-⟩:=DB.cells HE 2 rfl
     go_wp2_with fail
     (with_reducible refine (cmpV_d (x:=P3) (y:=L2) _ (DB.dv HE 0 rfl) (DB.dv HE 2 rfl) BP3 BL2 (by omega) HM3.out).mono ?_)
     rintro e w8 ⟨rfl,ho⟩
     replace HE:=hid (HE.out.step ho)
     replace HK:=hid (HK.out.step ho)
     replace HI:=hid (HI.out.step ho)
     clear i0 i1 i2 j0 j1 j2
     clear ho
     go_upto_if 41 with fail
     by_cases hm:z3<0
     ·have hmm:=HXL3.out.1 (by omega)
      subst hmm
      obtain⟨j0,j1,j2,-,-,-⟩:=DB.cells HE 0 rfl
      obtain⟨l0,l1,l2,fl0,fl1,fl2⟩:=DB.cells HE 2 rfl
      go_upto_region 7 with fail
      go_upto_region 8 with fail
      have hput:=HE.out.put 2 rfl (DB.iv HE 0 rfl).out
      have hkf:=HK.out.far3 (g:=g2) (u:= .bool r3) (v:= .slice R3 j3_ l3_) (x:= .int .i64 P3.e) (ne3 (by dsimp only;omega) (by dsimp only;omega) (by dsimp only;omega)) (by omega)
      have hif:=HI.out.far3 (x:= .bool r3) (y:= .slice R3 j3_ l3_) (u:= .int .i64 P3.e) (HE.out.all 2 _ rfl).1 (noLimb3 _ _ _ _ _)
      clear j0 j1 j2 l0 l1 l2 fl0 fl1 fl2
      clear HE HK HI
      have HE:=hid hput
      have HK:=hid hkf
      have HI:=hid hif
      clear hput hkf hif
      generalize ((w8.setCell _ _).setCell _ _).setCell _ _=wz at*
      obtain⟨i0,i1,i2,-,-,-⟩:=DB.cells HE 0 rfl
      obtain⟨j0,j1,j2,-,-,-⟩:=DB.cells HE 1 rfl
      go_wp2_with fail
      (with_reducible refine (cmpV_d (x:=P3) (y:=H2) _ (DB.dv HE 0 rfl) (DB.dv HE 1 rfl) BP3 BH2 (by omega) HN3.out).mono ?_)
      rintro e w8 ⟨rfl,ho⟩
      replace HE:=hid (HE.out.step ho)
      replace HK:=hid (HK.out.step ho)
      replace HI:=hid (HI.out.step ho)
      clear i0 i1 i2 j0 j1 j2
      clear ho
      go_upto_if 46 with fail
      by_cases hx:0<o3
      ·have hxx:=HXH3.out.1 (by omega)
       subst hxx
       obtain⟨j0,j1,j2,-,-,-⟩:=DB.cells HE 0 rfl
       obtain⟨h0,h1,h2,fh0,fh1,fh2⟩:=DB.cells HE 1 rfl
       go_upto_region 9 with fail
       go_upto_region 10 with fail
       have hput:=HE.out.put 1 rfl (DB.iv HE 0 rfl).out
       have hkf:=HK.out.far3 (g:=g3) (u:= .bool r3) (v:= .slice R3 j3_ l3_) (x:= .int .i64 P3.e) (ne3 (by dsimp only;omega) (by dsimp only;omega) (by dsimp only;omega)) (by omega)
       have hif:=HI.out.far3 (x:= .bool r3) (y:= .slice R3 j3_ l3_) (u:= .int .i64 P3.e) (HE.out.all 1 _ rfl).1 (noLimb3 _ _ _ _ _)
       clear j0 j1 j2 h0 h1 h2 fh0 fh1 fh2
       clear HE HK HI
       have HE:=hid hput
       have HK:=hid hkf
       have HI:=hid hif
       clear hput hkf hif
       generalize ((w8.setCell _ _).setCell _ _).setCell _ _=wy at*
       go_wp2_with fail
       go_roundw
       case rel=>exact⟨3,_,_,_,_,_,_,_,_,_,_,rfl,by omega,rfl,rfl,HK,HI,hid HE.out.tail⟩
       case measure=>simp [intOf]
      ·have hxx:=HXH3.out.2 (by omega)
       subst hxx
       go_wp2_with fail
       go_roundw
       case rel=>exact⟨3,_,_,_,_,_,_,_,_,_,_,rfl,by omega,rfl,rfl,HK,HI,hid HE.out.tail⟩
       case measure=>simp [intOf]
     ·have hmm:=HXL3.out.2 (by omega)
      subst hmm
      obtain⟨i0,i1,i2,-,-,-⟩:=DB.cells HE 0 rfl
      obtain⟨j0,j1,j2,-,-,-⟩:=DB.cells HE 1 rfl
      go_wp2_with fail
      (with_reducible refine (cmpV_d (x:=P3) (y:=H2) _ (DB.dv HE 0 rfl) (DB.dv HE 1 rfl) BP3 BH2 (by omega) HN3.out).mono ?_)
      rintro e w8 ⟨rfl,ho⟩
      replace HE:=hid (HE.out.step ho)
      replace HK:=hid (HK.out.step ho)
      replace HI:=hid (HI.out.step ho)
      clear i0 i1 i2 j0 j1 j2
      clear ho
      go_upto_if 46 with fail
      by_cases hx:0<o3
      ·have hxx:=HXH3.out.1 (by omega)
       subst hxx
       obtain⟨j0,j1,j2,-,-,-⟩:=DB.cells HE 0 rfl
       obtain⟨h0,h1,h2,fh0,fh1,fh2⟩:=DB.cells HE 1 rfl
       go_upto_region 9 with fail
       go_upto_region 10 with fail
       have hput:=HE.out.put 1 rfl (DB.iv HE 0 rfl).out
       have hkf:=HK.out.far3 (g:=g3) (u:= .bool r3) (v:= .slice R3 j3_ l3_) (x:= .int .i64 P3.e) (ne3 (by dsimp only;omega) (by dsimp only;omega) (by dsimp only;omega)) (by omega)
       have hif:=HI.out.far3 (x:= .bool r3) (y:= .slice R3 j3_ l3_) (u:= .int .i64 P3.e) (HE.out.all 1 _ rfl).1 (noLimb3 _ _ _ _ _)
       clear j0 j1 j2 h0 h1 h2 fh0 fh1 fh2
       clear HE HK HI
       have HE:=hid hput
       have HK:=hid hkf
       have HI:=hid hif
       clear hput hkf hif
       generalize ((w8.setCell _ _).setCell _ _).setCell _ _=wy at*
       go_wp2_with fail
       go_roundw
       case rel=>exact⟨3,_,_,_,_,_,_,_,_,_,_,rfl,by omega,rfl,rfl,HK,HI,hid HE.out.tail⟩
       case measure=>simp [intOf]
      ·have hxx:=HXH3.out.2 (by omega)
       subst hxx
       go_wp2_with fail
       go_roundw
       case rel=>exact⟨3,_,_,_,_,_,_,_,_,_,_,rfl,by omega,rfl,rfl,HK,HI,hid HE.out.tail⟩
       case measure=>simp [intOf]
    ·simp only [at5] at hlo hhi
     subst hlo hhi
     clear hn
     clear HI
     go_upto_region 11 with fail
     apply wp_region_typed_tail2 6 (by kernel_rfl) [isV _,isV _,isD lo_,isV _,isV _,isD hi_] [[],[],[0,1],[],[],[3,4]] (by kernel_rfl) (by kernel_rfl) (by kernel_rfl)
     case ho=>
      simp only [List.take_succ_cons,List.take_zero]
      iterate 6
       refine owes2_cons (fun wx hox=>?_) ?_
       ·skip
        have he:=hid (HE.out.step hox)
        obtain⟨i0,i1,i2,-,-,-⟩:=DB.cells he 1 rfl
        obtain⟨j0,j1,j2,-,-,-⟩:=DB.cells he 0 rfl
        have ivl:=DB.dv he 1 rfl
        have ivh:=DB.dv he 0 rfl
        have htx:=hid (hT.out.keep he.out.only)
        clear he
        refine withs_plain rfl ?_
        simp only [withs,List.getElem?_cons_zero,List.getElem?_cons_succ,Option.bind,Option.getD]
        with_reducible repeat first|refine all_isV ?_|(refine all_isD ?_;intro sx Ax kx cx hvx hwx)
        go_simp
        first
        |exact⟨Only.refl _ _,isV.self _ _⟩
        |with_reducible exact grow_d (roundV_d p (-1) lo_ HLo.out ivl BL3 (by omega) htx)
        |with_reducible exact grow_d (roundV_d p 1 hi_ HHi.out ivh BH3 (by omega) htx)
      exact owes2_nil
     case he=>
      simp only [List.drop_succ_cons,List.drop_zero]
      intro wx hox
      refine withs_of (by simp only [List.length,List.range,List.range.loop];exact rfl) ?_
      simp only [withs,List.getElem?_cons_zero,List.getElem?_cons_succ,Option.bind,Option.getD]
      with_reducible refine all_isV ?_
      with_reducible refine all_isV ?_
      with_reducible refine all_isD ?_
      intro s2 A2 k2 c2 hv2 hw2
      with_reducible refine all_isV ?_
      with_reducible refine all_isV ?_
      with_reducible refine all_isD ?_
      intro s5 A5 k5 c5 hv5 hw5
      go_simp
      replace HK:=hid (HK.out.step hox)
      obtain⟨q0,q1,q2,q3,q4,q5⟩:=HK.out.c6 0 rfl
      obtain⟨f0,f1,f2,f3,f4,f5⟩:=HK.out.f6 0 rfl
      clear hox
      go_wp2_with fail
      refine bodyPost_ret (v:= .agg #[.bool s2,.slice A2 k2 c2,.int .i64 (lo_.e),.bool s5,.slice A5 k5 c5,.int .i64 (hi_.e)]) (by simp [results,Tryz.results24,go_sem,q0,q1,q2,q3,q4,q5]) rfl ?_
      exact bfin hw2 hv2 hw5 hv5 (by omega) (HK.out.blk 0 rfl) (noLimb6 _ _ _ _ _ _ _ _ _ _) HK.out.only (only_set6 _ _ _ _ _ _ _ _)
     case hl=>
      repeat (refine List.forall_mem_cons.2 ⟨?_,?_⟩;first|exact isV.lasts _|exact isD.lasts _)
      exact fun _ h=>(by cases h)
  case hl=>
   repeat (refine List.forall_mem_cons.2 ⟨?_,?_⟩;first|exact isV.lasts _|exact isD.lasts _|exact isD3.lasts _ _ _)
   exact fun _ h=>(by cases h)
theorem bmul_b {w:World} {a b:Value} {x y u v:Dy} {N:Nat} (p:Int) (lo hi:Dy) (hlo:rndD (widthP p) false (mulLo x y u v)=lo) (hhi:rndD (widthP p) true (mulHi x y u v)=hi) (ha:Hid (BV w a x y)) (hb:Hid (BV w b u v)) (bx:Hid (Bnd N x)) (by_:Hid (Bnd N y)) (bu:Hid (Bnd N u)) (bv:Hid (Bnd N v)) (hN:N≤200000) (hT:Hid (Tab6 w)):Calls Tryz.prog 24 #[a,b,.int .i64 p] w (BPost lo hi w):=by
 have b0:=bx.out.mul bu.out (Nat.le_refl _)
 have b1:=bx.out.mul bv.out (Nat.le_refl _)
 have b2:=by_.out.mul bu.out (Nat.le_refl _)
 have b3:=by_.out.mul bv.out (Nat.le_refl _)
 exact bmul_core (M:=4*N) p _ _ _ _ (dMul x u) (minD (dMul x u) (dMul x v)) (minD (minD (dMul x u) (dMul x v)) (dMul y u)) (mulLo x y u v) (dMul x u) (maxD (dMul x u) (dMul x v)) (maxD (maxD (dMul x u) (dMul x v)) (dMul y u)) (mulHi x y u v) lo hi _ _ _ _ _ _
  (hid rfl) (hid rfl) (hid rfl) (hid rfl) (hid rfl) (hid rfl) (hid hlo) (hid hhi)
  (hid rfl) (hid (minD_pick _ _)) (hid rfl) (hid (maxD_pick _ _)) (hid rfl) (hid (minD_pick _ _)) (hid rfl) (hid (maxD_pick _ _)) (hid rfl) (hid (minD_pick _ _)) (hid rfl) (hid (maxD_pick _ _))
  (hid b1) (hid b2) (hid b3) (hid b0) (hid (minD_bnd b0 b1)) (hid (minD_bnd (minD_bnd b0 b1) b2)) (hid (minD_bnd (minD_bnd (minD_bnd b0 b1) b2) b3)) (hid b0) (hid (maxD_bnd b0 b1)) (hid (maxD_bnd (maxD_bnd b0 b1) b2)) (hid (maxD_bnd (maxD_bnd (maxD_bnd b0 b1) b2) b3)) ha hb bx by_ bu bv (by omega) (by omega) hT
set_option maxHeartbeats 8000000 in
set_option maxRecDepth 100000 in
theorem bsqrt_no {w:World} {a:Value} {x y:Dy} (p sy:Int) (HSY:Hid (y.z.sign=sy)) (hy0:sy<0) (ha:Hid (BV w a x y)):Calls Tryz.prog 12 #[a,.int .i64 p] w (QBPost ⟨0,0⟩ ⟨0,0⟩ false w):=by
 obtain⟨s1,A1,k1,c1,t1,B1,m1,d1,rfl,hx1,hy1⟩:=ha.out
 have hk:=((KB.start w).new 34 [.bool s1,.slice A1 k1 c1,.int .i64 x.e,.bool t1,.slice B1 m1 d1,.int .i64 y.e]).new 34 [.bool false,.slice none 0 0,.int .i64 0,.bool false,.slice none 0 0,.int .i64 0]
 simp only [World.size_alloc] at hk
 have hi:=((IVL.nil w).cons hy1).cons hx1
 have HI:=hid (hi.step hk.only)
 have HK:=hid hk
 clear hk hi hx1 hy1 ha
 obtain⟨j0,j1,j2,j3,j4,j5⟩:=HK.out.c6 1 rfl
 go_enter Tryz.func12,Tryz.ntmps12
 go_wp2_with fail
 (with_reducible refine (signV_d sy (DV.of (IVL.at HI 1 rfl)) HSY.out).mono ?_)
 rintro e w2 ⟨rfl,ho⟩
 replace HK:=hid (HK.out.step ho)
 replace HI:=hid (HI.out.step ho)
 clear ho
 clear j0 j1 j2 j3 j4 j5
 obtain⟨q0,q1,q2,q3,q4,q5⟩:=HK.out.c6 0 rfl
 obtain⟨f0,f1,f2,f3,f4,f5⟩:=HK.out.f6 0 rfl
 go_wp2_with fail
 refine bodyPost_ret (v:= .tuple #[.agg #[.bool false,.slice none 0 0,.int .i64 (0),.bool false,.slice none 0 0,.int .i64 (0)],.bool false]) (by simp [results,Tryz.results12,go_sem,q0,q1,q2,q3,q4,q5]) rfl ?_
 exact qbfin (x:=⟨0,0⟩) (y:=⟨0,0⟩) (hid cn_zero) (hid (IV.zero _)) (hid cn_zero) (hid (IV.zero _)) (by omega) (HK.out.blk 0 rfl) (noLimb6 _ _ _ _ _ _ _ _ _ _) HK.out.only (only_set6 _ _ _ _ _ _ _ _)
set_option maxHeartbeats 8000000 in
set_option maxRecDepth 100000 in
theorem bsqrt_core {w:World} {a:Value} {x y lo hi x':Dy} {N:Nat} (p sy sx:Int) (HSY:Hid (y.z.sign=sy)) (hy0: ¬sy<0) (HSX:Hid (x.z.sign=sx)) (HX':Hid ((sx<0→x'=⟨0,0⟩)∧(¬ sx<0→x=x'))) (HLo:Hid (sqrtQ (widthP p) (decide ((0:Int)≤ -1)) x'=lo)) (HHi:Hid (sqrtQ (widthP p) (decide ((0:Int)≤1)) y=hi)) (HOKl:Hid (decide (0≤x'.z)=true)) (HOKh:Hid (decide (0≤y.z)=true))
  (ha:Hid (BV w a x y)) (BL:Hid (Bnd N x')) (by_:Hid (Bnd N y)) (hN:N≤100000) (hT:Hid (Tab6 w)):Calls Tryz.prog 12 #[a,.int .i64 p] w (QBPost lo hi true w):=by
 obtain⟨s1,A1,k1,c1,t1,B1,m1,d1,rfl,hx1,hy1⟩:=ha.out
 have hk:=((KB.start w).new 34 [.bool s1,.slice A1 k1 c1,.int .i64 x.e,.bool t1,.slice B1 m1 d1,.int .i64 y.e]).new 34 [.bool false,.slice none 0 0,.int .i64 0,.bool false,.slice none 0 0,.int .i64 0]
 simp only [World.size_alloc] at hk
 have hi:=((IVL.nil w).cons hy1).cons hx1
 have HI:=hid (hi.step hk.only)
 have HK:=hid hk
 clear hk hi hx1 hy1 ha
 obtain⟨j0,j1,j2,j3,j4,j5⟩:=HK.out.c6 1 rfl
 go_enter Tryz.func12,Tryz.ntmps12
 go_wp2_with fail
 (with_reducible refine (signV_d sy (DV.of (IVL.at HI 1 rfl)) HSY.out).mono ?_)
 rintro e w2 ⟨rfl,ho⟩
 replace HK:=hid (HK.out.step ho)
 replace HI:=hid (HI.out.step ho)
 clear ho
 clear j0 j1 j2 j3 j4 j5
 obtain⟨j0,j1,j2,j3,j4,j5⟩:=HK.out.c6 1 rfl
 have hg3:w.heap.size+2≤w2.heap.size:=by have:=(HK.out.blk 0 rfl).lt;omega
 go_upto_region 4 with fail
 have HE:=hid (((DB.start w).step HK.out.only).new (IVL.at HI 0 rfl).out)
 have ho:=(Only.refl [] w2).alloc (.cells #[.bool s1,.slice A1 k1 c1,.int .i64 x.e] 32)
 replace HK:=hid (HK.out.step ho)
 replace HI:=hid (HI.out.step ho)
 clear j0 j1 j2 j3 j4 j5
 clear ho
 generalize w2.heap.size=gl at*
 generalize w2.alloc _=w3 at*
 obtain⟨i0,i1,i2,-,-,-⟩:=DB.cells HE 0 rfl
 go_wp2_with fail
 (with_reducible refine (signV_d sx (DB.dv HE 0 rfl) HSX.out).mono ?_)
 rintro e w4 ⟨rfl,ho⟩
 replace HE:=hid (HE.out.step ho)
 replace HK:=hid (HK.out.step ho)
 replace HI:=hid (HI.out.step ho)
 clear ho
 clear i0 i1 i2
 go_upto_if 20 with fail
 by_cases hs0:sx<0
 ·have hxx:=HX'.out.1 (by omega)
  subst hxx
  obtain⟨l0,l1,l2,fl0,fl1,fl2⟩:=DB.cells HE 0 rfl
  go_upto_region 5 with fail
  go_upto_region 6 with fail
  have hput:=HE.out.put (x:=⟨0,0⟩) 0 rfl (IV.zero _)
  have hkf:=HK.out.far3 (g:=gl) (u:= .bool false) (v:= .slice none 0 0) (x:= .int .i64 0) (fun j y hy=>by rcases j with _|_|j<;>first|(obtain rfl:=(Option.some.inj hy).symm;dsimp only;omega)|simp at hy) (by omega)
  have hif:=HI.out.far3 (x:= .bool false) (y:= .slice none 0 0) (u:= .int .i64 0) (HE.out.all 0 _ rfl).1 (noLimb3 _ _ _ _ _)
  clear l0 l1 l2 fl0 fl1 fl2
  clear HE HK HI
  have HE:=hid hput
  have HK:=hid hkf
  have HI:=hid hif
  clear hput hkf hif
  generalize ((w4.setCell _ _).setCell _ _).setCell _ _=wz at*
  obtain⟨i0,i1,i2,-,-,-⟩:=DB.cells HE 0 rfl
  go_wp2_with fail
  (with_reducible refine (sqrtV_d p (-1) lo true HLo.out HOKl.out (DB.dv HE 0 rfl) BL (by omega) (hid (hT.out.keep HK.out.only))).mono ?_)
  rintro e w5 ⟨s5,A5,k5,c5,rfl,hs,hk,hv,ho⟩
  have HC5:Hid (Cn s5 k5 lo.z):=⟨hs,hk⟩
  replace HE:=hid ((HE.out.step ho).new hv)
  replace HK:=hid (HK.out.step ho)
  replace HI:=hid (HI.out.step ho)
  clear hs hk hv ho
  clear i0 i1 i2
  have ho:=(Only.refl [] w5).alloc (.cells #[.bool s5,.slice A5 k5 c5,.int .i64 lo.e] 32)
  replace HK:=hid (HK.out.step ho)
  replace HI:=hid (HI.out.step ho)
  clear ho
  go_upto_region 7 with fail
  generalize w5.heap.size=g5 at*
  generalize w5.alloc _=w6 at*
  obtain⟨j0,j1,j2,j3,j4,j5⟩:=HK.out.c6 1 rfl
  go_wp2_with fail
  (with_reducible refine (sqrtV_d p 1 hi true HHi.out HOKh.out (DV.of (IVL.at HI 1 rfl)) by_ (by omega) (hid (hT.out.keep HK.out.only))).mono ?_)
  rintro e w7 ⟨s6,A6,k6,c6,rfl,hs,hk,hv,ho⟩
  have HC6:Hid (Cn s6 k6 hi.z):=⟨hs,hk⟩
  replace HE:=hid ((HE.out.step ho).new hv)
  replace HK:=hid (HK.out.step ho)
  replace HI:=hid (HI.out.step ho)
  clear hs hk hv ho
  clear j0 j1 j2 j3 j4 j5
  have ho:=(Only.refl [] w7).alloc (.cells #[.bool s6,.slice A6 k6 c6,.int .i64 hi.e] 32)
  replace HK:=hid (HK.out.step ho)
  replace HI:=hid (HI.out.step ho)
  clear ho
  go_upto_region 8 with fail
  generalize w7.heap.size=g7 at*
  generalize w7.alloc _=w8 at*
  obtain⟨i0,i1,i2,-,-,-⟩:=DB.cells HE 1 rfl
  obtain⟨l0,l1,l2,-,-,-⟩:=DB.cells HE 0 rfl
  obtain⟨q0,q1,q2,q3,q4,q5⟩:=HK.out.c6 0 rfl
  obtain⟨f0,f1,f2,f3,f4,f5⟩:=HK.out.f6 0 rfl
  go_wp2_with fail
  refine bodyPost_ret (v:= .tuple #[.agg #[.bool s5,.slice A5 k5 c5,.int .i64 (lo.e),.bool s6,.slice A6 k6 c6,.int .i64 (hi.e)],.bool true]) (by simp [results,Tryz.results12,go_sem,q0,q1,q2,q3,q4,q5]) rfl ?_
  exact qbfin HC5 (DB.iv HE 1 rfl) HC6 (DB.iv HE 0 rfl) (by omega) (HK.out.blk 0 rfl) (noLimb6 _ _ _ _ _ _ _ _ _ _) HK.out.only (only_set6 _ _ _ _ _ _ _ _)
 ·have hxx:=HX'.out.2 (by omega)
  subst hxx
  obtain⟨i0,i1,i2,-,-,-⟩:=DB.cells HE 0 rfl
  go_wp2_with fail
  (with_reducible refine (sqrtV_d p (-1) lo true HLo.out HOKl.out (DB.dv HE 0 rfl) BL (by omega) (hid (hT.out.keep HK.out.only))).mono ?_)
  rintro e w5 ⟨s5,A5,k5,c5,rfl,hs,hk,hv,ho⟩
  have HC5:Hid (Cn s5 k5 lo.z):=⟨hs,hk⟩
  replace HE:=hid ((HE.out.step ho).new hv)
  replace HK:=hid (HK.out.step ho)
  replace HI:=hid (HI.out.step ho)
  clear hs hk hv ho
  clear i0 i1 i2
  have ho:=(Only.refl [] w5).alloc (.cells #[.bool s5,.slice A5 k5 c5,.int .i64 lo.e] 32)
  replace HK:=hid (HK.out.step ho)
  replace HI:=hid (HI.out.step ho)
  clear ho
  go_upto_region 7 with fail
  generalize w5.heap.size=g5 at*
  generalize w5.alloc _=w6 at*
  obtain⟨j0,j1,j2,j3,j4,j5⟩:=HK.out.c6 1 rfl
  go_wp2_with fail
  (with_reducible refine (sqrtV_d p 1 hi true HHi.out HOKh.out (DV.of (IVL.at HI 1 rfl)) by_ (by omega) (hid (hT.out.keep HK.out.only))).mono ?_)
  rintro e w7 ⟨s6,A6,k6,c6,rfl,hs,hk,hv,ho⟩
  have HC6:Hid (Cn s6 k6 hi.z):=⟨hs,hk⟩
  replace HE:=hid ((HE.out.step ho).new hv)
  replace HK:=hid (HK.out.step ho)
  replace HI:=hid (HI.out.step ho)
  clear hs hk hv ho
  clear j0 j1 j2 j3 j4 j5
  have ho:=(Only.refl [] w7).alloc (.cells #[.bool s6,.slice A6 k6 c6,.int .i64 hi.e] 32)
  replace HK:=hid (HK.out.step ho)
  replace HI:=hid (HI.out.step ho)
  clear ho
  go_upto_region 8 with fail
  generalize w7.heap.size=g7 at*
  generalize w7.alloc _=w8 at*
  obtain⟨i0,i1,i2,-,-,-⟩:=DB.cells HE 1 rfl
  obtain⟨l0,l1,l2,-,-,-⟩:=DB.cells HE 0 rfl
  obtain⟨q0,q1,q2,q3,q4,q5⟩:=HK.out.c6 0 rfl
  obtain⟨f0,f1,f2,f3,f4,f5⟩:=HK.out.f6 0 rfl
  go_wp2_with fail
  refine bodyPost_ret (v:= .tuple #[.agg #[.bool s5,.slice A5 k5 c5,.int .i64 (lo.e),.bool s6,.slice A6 k6 c6,.int .i64 (hi.e)],.bool true]) (by simp [results,Tryz.results12,go_sem,q0,q1,q2,q3,q4,q5]) rfl ?_
  exact qbfin HC5 (DB.iv HE 1 rfl) HC6 (DB.iv HE 0 rfl) (by omega) (HK.out.blk 0 rfl) (noLimb6 _ _ _ _ _ _ _ _ _ _) HK.out.only (only_set6 _ _ _ _ _ _ _ _)
theorem bsqrt_b {w:World} {a:Value} {x y lo hi:Dy} {N:Nat} (p:Int) (hy0:0≤y.z) (hlo:sqrtQ (widthP p) false (if x.z<0 then ⟨0,0⟩ else x)=lo) (hhi:sqrtQ (widthP p) true y=hi) (ha:Hid (BV w a x y)) (bx:Hid (Bnd N x)) (by_:Hid (Bnd N y)) (hN:N≤100000) (hT:Hid (Tab6 w)):Calls Tryz.prog 12 #[a,.int .i64 p] w (QBPost lo hi true w):=by
 have sx:=sign_of x.z
 have sy:=sign_of y.z
 refine bsqrt_core (x':=if x.z<0 then ⟨0,0⟩ else x) p _ _ (hid rfl) (by omega) (hid rfl) (hid ⟨fun h=>by rw [if_pos (by omega)],fun h=>by rw [if_neg (by omega)]⟩) (hid hlo) (hid hhi) (hid ?_) (hid (by simpa using hy0)) ha (hid ?_) by_ hN hT
 ·split
  ·decide
  ·simp;omega
 ·split
  ·exact bnd_zero _
  ·exact bx.out
end Go.Proofs.YtigpnopeacicpaaGreatDoor
