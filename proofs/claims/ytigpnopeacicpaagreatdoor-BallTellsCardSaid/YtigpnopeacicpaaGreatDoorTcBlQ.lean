import Derived.Test.YtigpnopeacicpaaGreatDoorTcJ24
namespace Go.Proofs.YtigpnopeacicpaaGreatDoor
open Go.Lib (hid)
set_option linter.unusedSimpArgs false
open Go.RowKit
structure IX where
 s:Bool
 a:Option Addr
 k:Nat
 c:Nat
 z:Int
def IVL (w:World) (L:List IX):Prop:= ∀(i:Nat) (y:IX),L[i]? =some y→IV w (.agg #[.bool y.s,.slice y.a y.k y.c]) y.z
theorem IVL.nil (w:World):IVL w []:=fun i y h=>by simp at h
theorem IVL.cons {w:World} {L:List IX} (h:IVL w L) {s:Bool} {A:Option Addr} {k c:Nat} {z:Int} (hv:IV w (.agg #[.bool s,.slice A k c]) z):IVL w (⟨s,A,k,c,z⟩::L):=fun i y hy=>by
 rcases i with _|i
 ·obtain rfl:=(Option.some.inj hy).symm;exact hv
 ·exact h i y hy
theorem IVL.step {w w':World} {L:List IX} (h:IVL w L) (ho:Only [] w w'):IVL w' L:=fun i y hy=>(h i y hy).only ho
theorem IVL.far3 {w:World} {L:List IX} (h:IVL w L) {g:Nat} {t:TypeId} {cs:List Value} {x y u:Value} (hb:Blk w g t cs) (hn:NoLimb cs):IVL (((w.setCell ⟨g,0,none⟩ x).setCell ⟨g,1,none⟩ y).setCell ⟨g,2,none⟩ u) L:=fun i z hz=>(h i z hz).set3 hb hn
theorem IVL.at {w:World} {L:List IX} (h:Hid (IVL w L)) (i:Nat) {s:Bool} {A:Option Addr} {k c:Nat} {z:Int} (hi:L[i]? =some ⟨s,A,k,c,z⟩):Hid (IV w (.agg #[.bool s,.slice A k c]) z):=h.out i _ hi
theorem KB.far3 {w0 w:World} {L:List EB} (h:KB w0 w L) {g:Nat} {u v x:Value} (hne: ∀(j:Nat) (y:EB),L[j]? =some y→y.g≠g) (hg:w0.heap.size≤g):KB w0 (((w.setCell ⟨g,0,none⟩ u).setCell ⟨g,1,none⟩ v).setCell ⟨g,2,none⟩ x) L:=
 ⟨h.only.trans (only_set3 w g u v x) (fun k hk=> .inr (by simp at hk;omega)),fun j y hj=>(h.all j y hj).only (only_set3 w g u v x) (by simp;exact hne j y hj)⟩
theorem DB.tail {w0 w:World} {L:List DX} {b:DX} (h:DB w0 w (b::L)):DB w0 w L:=
 ⟨h.only,fun i x hx=>h.all (i+1) x hx,fun i x hx=>h.base (i+1) x hx,fun i j x y hij hx hy=>h.ne (i+1) (j+1) x y (by omega) hx hy⟩
theorem ne3 {a b c:EB} {g:Nat} (h1:a.g≠g) (h2:b.g≠g) (h3:c.g≠g): ∀(j:Nat) (y:EB),[a,b,c][j]? =some y→y.g≠g:=fun j y hy=>by
 rcases j with _|_|_|j
 ·obtain rfl:=(Option.some.inj hy).symm;exact h1
 ·obtain rfl:=(Option.some.inj hy).symm;exact h2
 ·obtain rfl:=(Option.some.inj hy).symm;exact h3
 ·simp at hy
def QBPost (x y:Dy) (ok:Bool) (w:World) (e:Ending) (w':World):Prop:= ∃s A k c t B m d,e= .returned (.tuple #[.agg #[.bool s,.slice A k c,.int .i64 x.e,.bool t,.slice B m d,.int .i64 y.e],.bool ok])∧Cn s k x.z∧IV w' (.agg #[.bool s,.slice A k c]) x.z∧Cn t m y.z∧IV w' (.agg #[.bool t,.slice B m d]) y.z∧Only [] w w'
theorem qbfin {ok:Bool} {x y:Dy} {w w1 w2:World} {b:Nat} {t:TypeId} {cs:List Value} {s s':Bool} {A A':Option Addr} {k c k' c':Nat} (hc:Hid (Cn s k x.z)) (hv:Hid (IV w1 (.agg #[.bool s,.slice A k c]) x.z)) (hc':Hid (Cn s' k' y.z)) (hv':Hid (IV w1 (.agg #[.bool s',.slice A' k' c']) y.z)) (hb:w.heap.size≤b) (hB:Blk w1 b t cs) (hn:NoLimb cs) (ho:Only [] w w1) (ho2:Only [b] w1 w2):
  QBPost x y ok w (.returned (.tuple #[.agg #[.bool s,.slice A k c,.int .i64 x.e,.bool s',.slice A' k' c',.int .i64 y.e],.bool ok])) w2:=
 ⟨s,A,k,c,s',A',k',c',rfl,hc.out,hv.out.farS ho2 (fun g hg=>by rw [List.mem_singleton] at hg;subst hg;exact hv.out.far_blk hB hn),hc'.out,hv'.out.farS ho2 (fun g hg=>by rw [List.mem_singleton] at hg;subst hg;exact hv'.out.far_blk hB hn),ho.trans ho2 (fun k hk=> .inr (by simp at hk;omega))⟩
theorem cn_zero:Cn false 0 0:=⟨by decide,by show 0=(limbsOf 0).length;rw [limbsOf_zero];rfl⟩
def at5 (n:Nat) (a b c d e:Dy):Dy:=match n with|0=>a|1=>b|2=>c|3=>d|_=>e
set_option maxHeartbeats 8000000 in
set_option maxRecDepth 100000 in
theorem bquo_core {w:World} {a b:Value} {x y u v:Dy} {N M:Nat} (p:Int) (D0 D1 D2 D3 U0 U1 U2 U3 L1 L2 L3 H1 H2 H3:Dy) (z1 z2 z3 o1 o2 o3:Int)
  (HD0:Hid (quoQ (widthP p) (decide ((0:Int)≤ -1)) x u=D0)) (HU0:Hid (quoQ (widthP p) (decide ((0:Int)≤1)) x u=U0))
  (HD1:Hid (quoQ (widthP p) (decide ((0:Int)≤ -1)) x v=D1)) (HU1:Hid (quoQ (widthP p) (decide ((0:Int)≤1)) x v=U1))
  (HD2:Hid (quoQ (widthP p) (decide ((0:Int)≤ -1)) y u=D2)) (HU2:Hid (quoQ (widthP p) (decide ((0:Int)≤1)) y u=U2))
  (HD3:Hid (quoQ (widthP p) (decide ((0:Int)≤ -1)) y v=D3)) (HU3:Hid (quoQ (widthP p) (decide ((0:Int)≤1)) y v=U3))
  (HM1:Hid (cmpQ D1.q D0.q=z1)) (HXL1:Hid ((z1<0→D1=L1)∧(¬ z1<0→D0=L1))) (HN1:Hid (cmpQ U1.q U0.q=o1)) (HXH1:Hid ((0<o1→U1=H1)∧(¬ 0<o1→U0=H1)))
  (HM2:Hid (cmpQ D2.q L1.q=z2)) (HXL2:Hid ((z2<0→D2=L2)∧(¬ z2<0→L1=L2))) (HN2:Hid (cmpQ U2.q H1.q=o2)) (HXH2:Hid ((0<o2→U2=H2)∧(¬ 0<o2→H1=H2)))
  (HM3:Hid (cmpQ D3.q L2.q=z3)) (HXL3:Hid ((z3<0→D3=L3)∧(¬ z3<0→L2=L3))) (HN3:Hid (cmpQ U3.q H2.q=o3)) (HXH3:Hid ((0<o3→U3=H3)∧(¬ 0<o3→H2=H3)))
  (sv:Int) (HSu:Hid (u.z.sign=sv)) (HSv:Hid (v.z.sign=sv)) (hsv:(sv == 0)=false) (HOKu:Hid (decide (u.z≠0)=true)) (HOKv:Hid (decide (v.z≠0)=true))
  (BD1:Hid (Bnd M D1)) (BD2:Hid (Bnd M D2)) (BD3:Hid (Bnd M D3)) (BU1:Hid (Bnd M U1)) (BU2:Hid (Bnd M U2)) (BU3:Hid (Bnd M U3)) (BL0:Hid (Bnd M D0)) (BL1:Hid (Bnd M L1)) (BL2:Hid (Bnd M L2)) (BH0:Hid (Bnd M U0)) (BH1:Hid (Bnd M H1)) (BH2:Hid (Bnd M H2))
  (ha:Hid (BV w a x y)) (hb:Hid (BV w b u v)) (bx:Hid (Bnd N x)) (by_:Hid (Bnd N y)) (bu:Hid (Bnd N u)) (bv:Hid (Bnd N v)) (hN:N≤100000) (hM:M≤2000000) (hT:Hid (Tab6 w)):Calls Tryz.prog 10 #[a,b,.int .i64 p] w (QBPost L3 H3 true w):=by
 obtain⟨s1,A1,k1,c1,t1,B1,m1,d1,rfl,hx1,hy1⟩:=ha.out
 obtain⟨s2,A2,k2,c2,t2,B2,m2,d2,rfl,hx2,hy2⟩:=hb.out
 have HB2:Hid (BV w (.agg #[.bool s2,.slice A2 k2 c2,.int .i64 u.e,.bool t2,.slice B2 m2 d2,.int .i64 v.e]) u v):=hb
 have hk:=(((KB.start w).new 34 [.bool s1,.slice A1 k1 c1,.int .i64 x.e,.bool t1,.slice B1 m1 d1,.int .i64 y.e]).new 34 [.bool s2,.slice A2 k2 c2,.int .i64 u.e,.bool t2,.slice B2 m2 d2,.int .i64 v.e]).new 34 [.bool false,.slice none 0 0,.int .i64 0,.bool false,.slice none 0 0,.int .i64 0]
 simp only [World.size_alloc] at hk
 have hi:=((((IVL.nil w).cons hy2).cons hx2).cons hy1).cons hx1
 have HI:=hid (hi.step hk.only)
 replace HB2:=hid (HB2.out.only hk.only)
 have HK:=hid hk
 clear hk hi hx1 hy1 hx2 hy2 ha hb
 obtain⟨j0,j1,j2,j3,j4,j5⟩:=HK.out.c6 1 rfl
 go_enter Tryz.func10,Tryz.ntmps10
 go_wp2_with fail
 (with_reducible refine (bsign_b sv true (by rw [HSu.out,HSv.out,if_pos rfl]) (by rw [HSu.out,HSv.out,decide_eq_true rfl]) HB2).mono ?_)
 rintro e w3 ⟨rfl,ho⟩
 replace HK:=hid (HK.out.step ho)
 replace HI:=hid (HI.out.step ho)
 have HOn:=HK.out.only
 clear j0 j1 j2 j3 j4 j5 HB2
 have hg3:w.heap.size+3≤w3.heap.size:=by have:=(HK.out.blk 0 rfl).lt;omega
 have he:DB w ((w3.alloc (.cells #[.bool false,.slice none 0 0,.int .i64 0] 32)).alloc (.cells #[.bool false,.slice none 0 0,.int .i64 0] 32)) [⟨w3.heap.size+1,false,none,0,0,⟨0,0⟩⟩,⟨w3.heap.size,false,none,0,0,⟨0,0⟩⟩]:=by
  have h:=((((DB.start w).step HOn).new (x:=⟨0,0⟩) (IV.zero w3)).new (x:=⟨0,0⟩) ((IV.zero w3).only ((Only.refl [] w3).alloc _)))
  simp only [World.size_alloc] at h
  exact h
 have HE:=hid he
 have ho:=((Only.refl [] w3).alloc (.cells #[.bool false,.slice none 0 0,.int .i64 0] 32)).alloc (.cells #[.bool false,.slice none 0 0,.int .i64 0] 32)
 clear he
 replace HK:=hid (HK.out.step ho)
 replace HI:=hid (HI.out.step ho)
 clear ho HOn
 go_upto_region 5 with fail
 generalize w3.heap.size=gl at*
 generalize (w3.alloc _).alloc _=wl at*
 obtain⟨gh,hgh⟩: ∃gh,gl+1=gh:=⟨_,rfl⟩
 rw [hgh] at HE ⊢
 have HGH:=hid hgh
 have hgg:gl<gh:=by omega
 clear hgh
 obtain⟨j0,j1,j2,j3,j4,j5⟩:=HK.out.c6 2 rfl
 go_wp2_with fail
 clear j0 j1 j2 j3 j4 j5
 go_loopw [40] (fun i wr=> ∃(n:Nat) (lo hi:Dy) (s:Bool) (A:Option Addr) (k c:Nat) (t:Bool) (B:Option Addr) (m d:Nat),i= .int .i64 (n:Int)∧n≤4∧at5 n ⟨0,0⟩ D0 L1 L2 L3=lo∧at5 n ⟨0,0⟩ U0 H1 H2 H3=hi∧Hid (Cn s k lo.z)∧Hid (Cn t m hi.z)∧
   Hid (KB w wr [⟨w.heap.size+1+1,34,[.bool false,.slice none 0 0,.int .i64 0,.bool false,.slice none 0 0,.int .i64 0]⟩,⟨w.heap.size+1,34,[.bool s2,.slice A2 k2 c2,.int .i64 u.e,.bool t2,.slice B2 m2 d2,.int .i64 v.e]⟩,⟨w.heap.size,34,[.bool s1,.slice A1 k1 c1,.int .i64 x.e,.bool t1,.slice B1 m1 d1,.int .i64 y.e]⟩])∧Hid (IVL wr [⟨s1,A1,k1,c1,x.z⟩,⟨t1,B1,m1,d1,y.z⟩,⟨s2,A2,k2,c2,u.z⟩,⟨t2,B2,m2,d2,v.z⟩])∧Hid (DB w wr [⟨gh,t,B,m,d,hi⟩,⟨gl,s,A,k,c,lo⟩])) (fun i _=>4-(intOf i).toNat)
 case atStart=>exact⟨0,_,_,_,_,_,_,_,_,_,_,rfl,by omega,rfl,rfl,hid cn_zero,hid cn_zero,HK,HI,HE⟩
 case round=>
  obtain⟨n,lo,hi,s,A,k,c,t,B,m,d,rfl,hn,hlo,hhi,HCl,HCh,hK,hI,hE⟩:=hrel
  clear HK HI HE
  have HK:=hK
  have HI:=hI
  have HE:=hE
  clear hK hI hE
  obtain rfl|rfl|rfl|rfl|rfl:n=0∨n=1∨n=2∨n=3∨n=4:=by omega
  ·simp only [at5] at hlo hhi
   subst hlo hhi
   clear hn
   have hidx: ∀w:World,(Instr.index 77 (.agg #[.bool s1,.slice A1 k1 c1,.int .i64 x.e,.bool s1,.slice A1 k1 c1,.int .i64 x.e,.bool t1,.slice B1 m1 d1,.int .i64 y.e,.bool t1,.slice B1 m1 d1,.int .i64 y.e]) (.int .i64 0)).run Tryz.prog w= .ok (.agg #[.bool s1,.slice A1 k1 c1,.int .i64 x.e]) w:=fun _=>by kernel_rfl
   have hgx:w.heap.size+3≤wr.heap.size:=by have:=(HK.out.blk 0 rfl).lt;omega
   go_upto_region 8 with fail
   clear hidx
   have he:=HE.out.new (IVL.at HI 0 rfl).out
   have ho:=(Only.refl [] wr).alloc (.cells #[.bool s1,.slice A1 k1 c1,.int .i64 x.e] 32)
   replace HE:=hid he
   replace HK:=hid (HK.out.step ho)
   replace HI:=hid (HI.out.step ho)
   clear he ho
   have hsz:(wr.alloc (.cells #[.bool s1,.slice A1 k1 c1,.int .i64 x.e] 32)).heap.size=wr.heap.size+1:=World.size_alloc _ _
   generalize wr.heap.size=gx at*
   generalize wr.alloc _=wa at*
   obtain⟨j0,j1,j2,j3,j4,j5⟩:=HK.out.c6 1 rfl
   go_upto_region 9 with fail
   clear j0 j1 j2 j3 j4 j5
   have he:=HE.out.new (IVL.at HI 2 rfl).out
   have ho:=(Only.refl [] wa).alloc (.cells #[.bool s2,.slice A2 k2 c2,.int .i64 u.e] 32)
   replace HE:=hid he
   replace HK:=hid (HK.out.step ho)
   replace HI:=hid (HI.out.step ho)
   clear he ho
   rw [hsz] at HE
   clear hsz
   generalize wa.alloc _=w1 at*
   go_upto_region 11 with fail
   obtain⟨i0,i1,i2,-,-,-⟩:=DB.cells HE 1 rfl
   obtain⟨j0,j1,j2,-,-,-⟩:=DB.cells HE 0 rfl
   go_wp2_with fail
   (with_reducible refine (quoV_d p (-1) D0 true HD0.out HOKu.out (DB.dv HE 1 rfl) (DB.dv HE 0 rfl) bx bu (by omega) (hid (hT.out.keep HK.out.only))).mono ?_)
   rintro e w5 ⟨s5,A5,k5,c5,rfl,hs,hk,hv,ho⟩
   have HC5:Hid (Cn s5 k5 D0.z):=⟨hs,hk⟩
   replace HE:=hid ((HE.out.step ho).new hv)
   replace HK:=hid (HK.out.step ho)
   replace HI:=hid (HI.out.step ho)
   clear i0 i1 i2 j0 j1 j2
   clear hs hk hv ho
   have ho:=(Only.refl [] w5).alloc (.cells #[.bool s5,.slice A5 k5 c5,.int .i64 D0.e] 32)
   replace HK:=hid (HK.out.step ho)
   replace HI:=hid (HI.out.step ho)
   clear ho
   obtain⟨i0,i1,i2,-,-,-⟩:=DB.cells HE 2 rfl
   obtain⟨j0,j1,j2,-,-,-⟩:=DB.cells HE 1 rfl
   go_wp2_with fail
   (with_reducible refine (quoV_d p 1 U0 true HU0.out HOKu.out (DB.dv HE 2 rfl) (DB.dv HE 1 rfl) bx bu (by omega) (hid (hT.out.keep HK.out.only))).mono ?_)
   rintro e w6 ⟨s6,A6,k6,c6,rfl,hs,hk,hv,ho⟩
   have HC6:Hid (Cn s6 k6 U0.z):=⟨hs,hk⟩
   replace HE:=hid ((HE.out.step ho).new hv)
   replace HK:=hid (HK.out.step ho)
   replace HI:=hid (HI.out.step ho)
   clear i0 i1 i2 j0 j1 j2
   clear hs hk hv ho
   have ho:=(Only.refl [] w6).alloc (.cells #[.bool s6,.slice A6 k6 c6,.int .i64 U0.e] 32)
   replace HK:=hid (HK.out.step ho)
   replace HI:=hid (HI.out.step ho)
   clear ho
   go_upto_region 13 with fail
   generalize w6.alloc _=w7 at*
   obtain⟨i0,i1,i2,-,-,-⟩:=DB.cells HE 1 rfl
   obtain⟨j0,j1,j2,-,-,-⟩:=DB.cells HE 0 rfl
   obtain⟨l0,l1,l2,fl0,fl1,fl2⟩:=DB.cells HE 5 rfl
   obtain⟨h0,h1,h2,fh0,fh1,fh2⟩:=DB.cells HE 4 rfl
   go_upto_region 15 with fail
   have hput:=HE.out.put 5 rfl (DB.iv HE 1 rfl).out
   have hkf:=HK.out.far3 (g:=gl) (u:= .bool s5) (v:= .slice A5 k5 c5) (x:= .int .i64 D0.e) (ne3 (by dsimp only;omega) (by dsimp only;omega) (by dsimp only;omega)) (by omega)
   have hif:=HI.out.far3 (x:= .bool s5) (y:= .slice A5 k5 c5) (u:= .int .i64 D0.e) (HE.out.all 5 _ rfl).1 (noLimb3 _ _ _ _ _)
   clear i0 i1 i2 j0 j1 j2 l0 l1 l2 fl0 fl1 fl2 h0 h1 h2 fh0 fh1 fh2
   clear HE HK HI
   have HE:=hid hput
   have HK:=hid hkf
   have HI:=hid hif
   clear hput hkf hif
   generalize ((w7.setCell _ _).setCell _ _).setCell _ _=wz at*
   obtain⟨j0,j1,j2,-,-,-⟩:=DB.cells HE 0 rfl
   obtain⟨h0,h1,h2,fh0,fh1,fh2⟩:=DB.cells HE 4 rfl
   go_upto_region 17 with fail
   have hput:=HE.out.put 4 rfl (DB.iv HE 0 rfl).out
   have hkf:=HK.out.far3 (g:=gh) (u:= .bool s6) (v:= .slice A6 k6 c6) (x:= .int .i64 U0.e) (ne3 (by dsimp only;omega) (by dsimp only;omega) (by dsimp only;omega)) (by omega)
   have hif:=HI.out.far3 (x:= .bool s6) (y:= .slice A6 k6 c6) (u:= .int .i64 U0.e) (HE.out.all 4 _ rfl).1 (noLimb3 _ _ _ _ _)
   clear j0 j1 j2 h0 h1 h2 fh0 fh1 fh2
   clear HE HK HI
   have HE:=hid hput
   have HK:=hid hkf
   have HI:=hid hif
   clear hput hkf hif
   generalize ((wz.setCell _ _).setCell _ _).setCell _ _=wy at*
   go_wp2_with fail
   go_roundw
   case rel=>exact⟨1,D0,U0,_,_,_,_,_,_,_,_,rfl,by omega,rfl,rfl,HC5,HC6,HK,HI,hid (HE.out.tail.tail.tail.tail)⟩
   case measure=>simp [intOf]
  ·simp only [at5] at hlo hhi
   subst hlo hhi
   clear hn
   have hidx: ∀w:World,(Instr.index 77 (.agg #[.bool s1,.slice A1 k1 c1,.int .i64 x.e,.bool s1,.slice A1 k1 c1,.int .i64 x.e,.bool t1,.slice B1 m1 d1,.int .i64 y.e,.bool t1,.slice B1 m1 d1,.int .i64 y.e]) (.int .i64 1)).run Tryz.prog w= .ok (.agg #[.bool s1,.slice A1 k1 c1,.int .i64 x.e]) w:=fun _=>by kernel_rfl
   have hgx:w.heap.size+3≤wr.heap.size:=by have:=(HK.out.blk 0 rfl).lt;omega
   go_upto_region 8 with fail
   clear hidx
   have he:=HE.out.new (IVL.at HI 0 rfl).out
   have ho:=(Only.refl [] wr).alloc (.cells #[.bool s1,.slice A1 k1 c1,.int .i64 x.e] 32)
   replace HE:=hid he
   replace HK:=hid (HK.out.step ho)
   replace HI:=hid (HI.out.step ho)
   clear he ho
   have hsz:(wr.alloc (.cells #[.bool s1,.slice A1 k1 c1,.int .i64 x.e] 32)).heap.size=wr.heap.size+1:=World.size_alloc _ _
   generalize wr.heap.size=gx at*
   generalize wr.alloc _=wa at*
   obtain⟨j0,j1,j2,j3,j4,j5⟩:=HK.out.c6 1 rfl
   go_upto_region 9 with fail
   clear j0 j1 j2 j3 j4 j5
   have he:=HE.out.new (IVL.at HI 2 rfl).out
   have ho:=(Only.refl [] wa).alloc (.cells #[.bool s2,.slice A2 k2 c2,.int .i64 u.e] 32)
   replace HE:=hid he
   replace HK:=hid (HK.out.step ho)
   replace HI:=hid (HI.out.step ho)
   clear he ho
   rw [hsz] at HE
   clear hsz
   generalize wa.alloc _=w1 at*
   obtain⟨j0,j1,j2,j3,j4,j5⟩:=HK.out.c6 1 rfl
   obtain⟨l0,l1,l2,fl0,fl1,fl2⟩:=DB.cells HE 0 rfl
   go_upto_region 11 with fail
   clear j0 j1 j2 j3 j4 j5
   have hput:=HE.out.put 0 rfl (IVL.at HI 3 rfl).out
   have hkf:=HK.out.far3 (g:=gx+1) (u:= .bool t2) (v:= .slice B2 m2 d2) (x:= .int .i64 v.e) (ne3 (by dsimp only;omega) (by dsimp only;omega) (by dsimp only;omega)) (by omega)
   have hif:=HI.out.far3 (x:= .bool t2) (y:= .slice B2 m2 d2) (u:= .int .i64 v.e) (HE.out.all 0 _ rfl).1 (noLimb3 _ _ _ _ _)
   clear l0 l1 l2 fl0 fl1 fl2
   clear HE HK HI
   have HE:=hid hput
   have HK:=hid hkf
   have HI:=hid hif
   clear hput hkf hif
   generalize ((w1.setCell _ _).setCell _ _).setCell _ _=wb at*
   obtain⟨i0,i1,i2,-,-,-⟩:=DB.cells HE 1 rfl
   obtain⟨j0,j1,j2,-,-,-⟩:=DB.cells HE 0 rfl
   go_wp2_with fail
   (with_reducible refine (quoV_d p (-1) D1 true HD1.out HOKv.out (DB.dv HE 1 rfl) (DB.dv HE 0 rfl) bx bv (by omega) (hid (hT.out.keep HK.out.only))).mono ?_)
   rintro e w5 ⟨s5,A5,k5,c5,rfl,hs,hk,hv,ho⟩
   have HC5:Hid (Cn s5 k5 D1.z):=⟨hs,hk⟩
   replace HE:=hid ((HE.out.step ho).new hv)
   replace HK:=hid (HK.out.step ho)
   replace HI:=hid (HI.out.step ho)
   clear i0 i1 i2 j0 j1 j2
   clear hs hk hv ho
   have ho:=(Only.refl [] w5).alloc (.cells #[.bool s5,.slice A5 k5 c5,.int .i64 D1.e] 32)
   replace HK:=hid (HK.out.step ho)
   replace HI:=hid (HI.out.step ho)
   clear ho
   obtain⟨i0,i1,i2,-,-,-⟩:=DB.cells HE 2 rfl
   obtain⟨j0,j1,j2,-,-,-⟩:=DB.cells HE 1 rfl
   go_wp2_with fail
   (with_reducible refine (quoV_d p 1 U1 true HU1.out HOKv.out (DB.dv HE 2 rfl) (DB.dv HE 1 rfl) bx bv (by omega) (hid (hT.out.keep HK.out.only))).mono ?_)
   rintro e w6 ⟨s6,A6,k6,c6,rfl,hs,hk,hv,ho⟩
   have HC6:Hid (Cn s6 k6 U1.z):=⟨hs,hk⟩
   replace HE:=hid ((HE.out.step ho).new hv)
   replace HK:=hid (HK.out.step ho)
   replace HI:=hid (HI.out.step ho)
   clear i0 i1 i2 j0 j1 j2
   clear hs hk hv ho
   have ho:=(Only.refl [] w6).alloc (.cells #[.bool s6,.slice A6 k6 c6,.int .i64 U1.e] 32)
   replace HK:=hid (HK.out.step ho)
   replace HI:=hid (HI.out.step ho)
   clear ho
   go_upto_region 13 with fail
   generalize w6.alloc _=w7 at*
   obtain⟨i0,i1,i2,-,-,-⟩:=DB.cells HE 1 rfl
   obtain⟨j0,j1,j2,-,-,-⟩:=DB.cells HE 5 rfl
   go_wp2_with fail
   (with_reducible refine (cmpV_d (x:=D1) (y:=D0) _ (DB.dv HE 1 rfl) (DB.dv HE 5 rfl) BD1 BL0 (by omega) HM1.out).mono ?_)
   rintro e w8 ⟨rfl,ho⟩
   replace HE:=hid (HE.out.step ho)
   replace HK:=hid (HK.out.step ho)
   replace HI:=hid (HI.out.step ho)
   clear i0 i1 i2 j0 j1 j2
   clear ho
   go_upto_if 72 with fail
   by_cases hm:z1<0
   ·have hmm:=HXL1.out.1 (by omega)
    subst hmm
    obtain⟨i0,i1,i2,-,-,-⟩:=DB.cells HE 1 rfl
    obtain⟨l0,l1,l2,fl0,fl1,fl2⟩:=DB.cells HE 5 rfl
    go_upto_region 14 with fail
    go_upto_region 15 with fail
    have hput:=HE.out.put 5 rfl (DB.iv HE 1 rfl).out
    have hkf:=HK.out.far3 (g:=gl) (u:= .bool s5) (v:= .slice A5 k5 c5) (x:= .int .i64 D1.e) (ne3 (by dsimp only;omega) (by dsimp only;omega) (by dsimp only;omega)) (by omega)
    have hif:=HI.out.far3 (x:= .bool s5) (y:= .slice A5 k5 c5) (u:= .int .i64 D1.e) (HE.out.all 5 _ rfl).1 (noLimb3 _ _ _ _ _)
    clear i0 i1 i2 l0 l1 l2 fl0 fl1 fl2
    clear HE HK HI
    have HE:=hid hput
    have HK:=hid hkf
    have HI:=hid hif
    clear hput hkf hif
    generalize ((w8.setCell _ _).setCell _ _).setCell _ _=wz at*
    obtain⟨i0,i1,i2,-,-,-⟩:=DB.cells HE 0 rfl
    obtain⟨j0,j1,j2,-,-,-⟩:=DB.cells HE 4 rfl
    go_wp2_with fail
    (with_reducible refine (cmpV_d (x:=U1) (y:=U0) _ (DB.dv HE 0 rfl) (DB.dv HE 4 rfl) BU1 BH0 (by omega) HN1.out).mono ?_)
    rintro e w8 ⟨rfl,ho⟩
    replace HE:=hid (HE.out.step ho)
    replace HK:=hid (HK.out.step ho)
    replace HI:=hid (HI.out.step ho)
    clear i0 i1 i2 j0 j1 j2
    clear ho
    go_upto_if 81 with fail
    by_cases hx:0<o1
    ·have hxx:=HXH1.out.1 (by omega)
     subst hxx
     obtain⟨j0,j1,j2,-,-,-⟩:=DB.cells HE 0 rfl
     obtain⟨h0,h1,h2,fh0,fh1,fh2⟩:=DB.cells HE 4 rfl
     go_upto_region 16 with fail
     go_upto_region 17 with fail
     have hput:=HE.out.put 4 rfl (DB.iv HE 0 rfl).out
     have hkf:=HK.out.far3 (g:=gh) (u:= .bool s6) (v:= .slice A6 k6 c6) (x:= .int .i64 U1.e) (ne3 (by dsimp only;omega) (by dsimp only;omega) (by dsimp only;omega)) (by omega)
     have hif:=HI.out.far3 (x:= .bool s6) (y:= .slice A6 k6 c6) (u:= .int .i64 U1.e) (HE.out.all 4 _ rfl).1 (noLimb3 _ _ _ _ _)
     clear j0 j1 j2 h0 h1 h2 fh0 fh1 fh2
     clear HE HK HI
     have HE:=hid hput
     have HK:=hid hkf
     have HI:=hid hif
     clear hput hkf hif
     generalize ((w8.setCell _ _).setCell _ _).setCell _ _=wy at*
     go_wp2_with fail
     go_roundw
     case rel=>exact⟨2,_,_,_,_,_,_,_,_,_,_,rfl,by omega,rfl,rfl,HC5,HC6,HK,HI,hid (HE.out.tail.tail.tail.tail)⟩
     case measure=>simp [intOf]
    ·have hxx:=HXH1.out.2 (by omega)
     subst hxx
     go_wp2_with fail
     go_roundw
     case rel=>exact⟨2,_,_,_,_,_,_,_,_,_,_,rfl,by omega,rfl,rfl,HC5,HCh,HK,HI,hid (HE.out.tail.tail.tail.tail)⟩
     case measure=>simp [intOf]
   ·have hmm:=HXL1.out.2 (by omega)
    subst hmm
    obtain⟨i0,i1,i2,-,-,-⟩:=DB.cells HE 0 rfl
    obtain⟨j0,j1,j2,-,-,-⟩:=DB.cells HE 4 rfl
    go_wp2_with fail
    (with_reducible refine (cmpV_d (x:=U1) (y:=U0) _ (DB.dv HE 0 rfl) (DB.dv HE 4 rfl) BU1 BH0 (by omega) HN1.out).mono ?_)
    rintro e w8 ⟨rfl,ho⟩
    replace HE:=hid (HE.out.step ho)
    replace HK:=hid (HK.out.step ho)
    replace HI:=hid (HI.out.step ho)
    clear i0 i1 i2 j0 j1 j2
    clear ho
    go_upto_if 81 with fail
    by_cases hx:0<o1
    ·have hxx:=HXH1.out.1 (by omega)
     subst hxx
     obtain⟨j0,j1,j2,-,-,-⟩:=DB.cells HE 0 rfl
     obtain⟨h0,h1,h2,fh0,fh1,fh2⟩:=DB.cells HE 4 rfl
     go_upto_region 16 with fail
     go_upto_region 17 with fail
     have hput:=HE.out.put 4 rfl (DB.iv HE 0 rfl).out
     have hkf:=HK.out.far3 (g:=gh) (u:= .bool s6) (v:= .slice A6 k6 c6) (x:= .int .i64 U1.e) (ne3 (by dsimp only;omega) (by dsimp only;omega) (by dsimp only;omega)) (by omega)
     have hif:=HI.out.far3 (x:= .bool s6) (y:= .slice A6 k6 c6) (u:= .int .i64 U1.e) (HE.out.all 4 _ rfl).1 (noLimb3 _ _ _ _ _)
     clear j0 j1 j2 h0 h1 h2 fh0 fh1 fh2
     clear HE HK HI
     have HE:=hid hput
     have HK:=hid hkf
     have HI:=hid hif
     clear hput hkf hif
     generalize ((w8.setCell _ _).setCell _ _).setCell _ _=wy at*
     go_wp2_with fail
     go_roundw
     case rel=>exact⟨2,_,_,_,_,_,_,_,_,_,_,rfl,by omega,rfl,rfl,HCl,HC6,HK,HI,hid (HE.out.tail.tail.tail.tail)⟩
     case measure=>simp [intOf]
    ·have hxx:=HXH1.out.2 (by omega)
     subst hxx
     go_wp2_with fail
     go_roundw
     case rel=>exact⟨2,_,_,_,_,_,_,_,_,_,_,rfl,by omega,rfl,rfl,HCl,HCh,HK,HI,hid (HE.out.tail.tail.tail.tail)⟩
     case measure=>simp [intOf]
  ·simp only [at5] at hlo hhi
   subst hlo hhi
   clear hn
   have hidx: ∀w:World,(Instr.index 77 (.agg #[.bool s1,.slice A1 k1 c1,.int .i64 x.e,.bool s1,.slice A1 k1 c1,.int .i64 x.e,.bool t1,.slice B1 m1 d1,.int .i64 y.e,.bool t1,.slice B1 m1 d1,.int .i64 y.e]) (.int .i64 2)).run Tryz.prog w= .ok (.agg #[.bool t1,.slice B1 m1 d1,.int .i64 y.e]) w:=fun _=>by kernel_rfl
   have hgx:w.heap.size+3≤wr.heap.size:=by have:=(HK.out.blk 0 rfl).lt;omega
   go_upto_region 8 with fail
   clear hidx
   have he:=HE.out.new (IVL.at HI 1 rfl).out
   have ho:=(Only.refl [] wr).alloc (.cells #[.bool t1,.slice B1 m1 d1,.int .i64 y.e] 32)
   replace HE:=hid he
   replace HK:=hid (HK.out.step ho)
   replace HI:=hid (HI.out.step ho)
   clear he ho
   have hsz:(wr.alloc (.cells #[.bool t1,.slice B1 m1 d1,.int .i64 y.e] 32)).heap.size=wr.heap.size+1:=World.size_alloc _ _
   generalize wr.heap.size=gx at*
   generalize wr.alloc _=wa at*
   obtain⟨j0,j1,j2,j3,j4,j5⟩:=HK.out.c6 1 rfl
   go_upto_region 9 with fail
   clear j0 j1 j2 j3 j4 j5
   have he:=HE.out.new (IVL.at HI 2 rfl).out
   have ho:=(Only.refl [] wa).alloc (.cells #[.bool s2,.slice A2 k2 c2,.int .i64 u.e] 32)
   replace HE:=hid he
   replace HK:=hid (HK.out.step ho)
   replace HI:=hid (HI.out.step ho)
   clear he ho
   rw [hsz] at HE
   clear hsz
   generalize wa.alloc _=w1 at*
   go_upto_region 11 with fail
   obtain⟨i0,i1,i2,-,-,-⟩:=DB.cells HE 1 rfl
   obtain⟨j0,j1,j2,-,-,-⟩:=DB.cells HE 0 rfl
   go_wp2_with fail
   (with_reducible refine (quoV_d p (-1) D2 true HD2.out HOKu.out (DB.dv HE 1 rfl) (DB.dv HE 0 rfl) by_ bu (by omega) (hid (hT.out.keep HK.out.only))).mono ?_)
   rintro e w5 ⟨s5,A5,k5,c5,rfl,hs,hk,hv,ho⟩
   have HC5:Hid (Cn s5 k5 D2.z):=⟨hs,hk⟩
   replace HE:=hid ((HE.out.step ho).new hv)
   replace HK:=hid (HK.out.step ho)
   replace HI:=hid (HI.out.step ho)
   clear i0 i1 i2 j0 j1 j2
   clear hs hk hv ho
   have ho:=(Only.refl [] w5).alloc (.cells #[.bool s5,.slice A5 k5 c5,.int .i64 D2.e] 32)
   replace HK:=hid (HK.out.step ho)
   replace HI:=hid (HI.out.step ho)
   clear ho
   obtain⟨i0,i1,i2,-,-,-⟩:=DB.cells HE 2 rfl
   obtain⟨j0,j1,j2,-,-,-⟩:=DB.cells HE 1 rfl
   go_wp2_with fail
   (with_reducible refine (quoV_d p 1 U2 true HU2.out HOKu.out (DB.dv HE 2 rfl) (DB.dv HE 1 rfl) by_ bu (by omega) (hid (hT.out.keep HK.out.only))).mono ?_)
   rintro e w6 ⟨s6,A6,k6,c6,rfl,hs,hk,hv,ho⟩
   have HC6:Hid (Cn s6 k6 U2.z):=⟨hs,hk⟩
   replace HE:=hid ((HE.out.step ho).new hv)
   replace HK:=hid (HK.out.step ho)
   replace HI:=hid (HI.out.step ho)
   clear i0 i1 i2 j0 j1 j2
   clear hs hk hv ho
   have ho:=(Only.refl [] w6).alloc (.cells #[.bool s6,.slice A6 k6 c6,.int .i64 U2.e] 32)
   replace HK:=hid (HK.out.step ho)
   replace HI:=hid (HI.out.step ho)
   clear ho
   go_upto_region 13 with fail
   generalize w6.alloc _=w7 at*
   obtain⟨i0,i1,i2,-,-,-⟩:=DB.cells HE 1 rfl
   obtain⟨j0,j1,j2,-,-,-⟩:=DB.cells HE 5 rfl
   go_wp2_with fail
   (with_reducible refine (cmpV_d (x:=D2) (y:=L1) _ (DB.dv HE 1 rfl) (DB.dv HE 5 rfl) BD2 BL1 (by omega) HM2.out).mono ?_)
   rintro e w8 ⟨rfl,ho⟩
   replace HE:=hid (HE.out.step ho)
   replace HK:=hid (HK.out.step ho)
   replace HI:=hid (HI.out.step ho)
   clear i0 i1 i2 j0 j1 j2
   clear ho
   go_upto_if 72 with fail
   by_cases hm:z2<0
   ·have hmm:=HXL2.out.1 (by omega)
    subst hmm
    obtain⟨i0,i1,i2,-,-,-⟩:=DB.cells HE 1 rfl
    obtain⟨l0,l1,l2,fl0,fl1,fl2⟩:=DB.cells HE 5 rfl
    go_upto_region 14 with fail
    go_upto_region 15 with fail
    have hput:=HE.out.put 5 rfl (DB.iv HE 1 rfl).out
    have hkf:=HK.out.far3 (g:=gl) (u:= .bool s5) (v:= .slice A5 k5 c5) (x:= .int .i64 D2.e) (ne3 (by dsimp only;omega) (by dsimp only;omega) (by dsimp only;omega)) (by omega)
    have hif:=HI.out.far3 (x:= .bool s5) (y:= .slice A5 k5 c5) (u:= .int .i64 D2.e) (HE.out.all 5 _ rfl).1 (noLimb3 _ _ _ _ _)
    clear i0 i1 i2 l0 l1 l2 fl0 fl1 fl2
    clear HE HK HI
    have HE:=hid hput
    have HK:=hid hkf
    have HI:=hid hif
    clear hput hkf hif
    generalize ((w8.setCell _ _).setCell _ _).setCell _ _=wz at*
    obtain⟨i0,i1,i2,-,-,-⟩:=DB.cells HE 0 rfl
    obtain⟨j0,j1,j2,-,-,-⟩:=DB.cells HE 4 rfl
    go_wp2_with fail
    (with_reducible refine (cmpV_d (x:=U2) (y:=H1) _ (DB.dv HE 0 rfl) (DB.dv HE 4 rfl) BU2 BH1 (by omega) HN2.out).mono ?_)
    rintro e w8 ⟨rfl,ho⟩
    replace HE:=hid (HE.out.step ho)
    replace HK:=hid (HK.out.step ho)
    replace HI:=hid (HI.out.step ho)
    clear i0 i1 i2 j0 j1 j2
    clear ho
    go_upto_if 81 with fail
    by_cases hx:0<o2
    ·have hxx:=HXH2.out.1 (by omega)
     subst hxx
     obtain⟨j0,j1,j2,-,-,-⟩:=DB.cells HE 0 rfl
     obtain⟨h0,h1,h2,fh0,fh1,fh2⟩:=DB.cells HE 4 rfl
     go_upto_region 16 with fail
     go_upto_region 17 with fail
     have hput:=HE.out.put 4 rfl (DB.iv HE 0 rfl).out
     have hkf:=HK.out.far3 (g:=gh) (u:= .bool s6) (v:= .slice A6 k6 c6) (x:= .int .i64 U2.e) (ne3 (by dsimp only;omega) (by dsimp only;omega) (by dsimp only;omega)) (by omega)
     have hif:=HI.out.far3 (x:= .bool s6) (y:= .slice A6 k6 c6) (u:= .int .i64 U2.e) (HE.out.all 4 _ rfl).1 (noLimb3 _ _ _ _ _)
     clear j0 j1 j2 h0 h1 h2 fh0 fh1 fh2
     clear HE HK HI
     have HE:=hid hput
     have HK:=hid hkf
     have HI:=hid hif
     clear hput hkf hif
     generalize ((w8.setCell _ _).setCell _ _).setCell _ _=wy at*
     go_wp2_with fail
     go_roundw
     case rel=>exact⟨3,_,_,_,_,_,_,_,_,_,_,rfl,by omega,rfl,rfl,HC5,HC6,HK,HI,hid (HE.out.tail.tail.tail.tail)⟩
     case measure=>simp [intOf]
    ·have hxx:=HXH2.out.2 (by omega)
     subst hxx
     go_wp2_with fail
     go_roundw
     case rel=>exact⟨3,_,_,_,_,_,_,_,_,_,_,rfl,by omega,rfl,rfl,HC5,HCh,HK,HI,hid (HE.out.tail.tail.tail.tail)⟩
     case measure=>simp [intOf]
   ·have hmm:=HXL2.out.2 (by omega)
    subst hmm
    obtain⟨i0,i1,i2,-,-,-⟩:=DB.cells HE 0 rfl
    obtain⟨j0,j1,j2,-,-,-⟩:=DB.cells HE 4 rfl
    go_wp2_with fail
    (with_reducible refine (cmpV_d (x:=U2) (y:=H1) _ (DB.dv HE 0 rfl) (DB.dv HE 4 rfl) BU2 BH1 (by omega) HN2.out).mono ?_)
    rintro e w8 ⟨rfl,ho⟩
    replace HE:=hid (HE.out.step ho)
    replace HK:=hid (HK.out.step ho)
    replace HI:=hid (HI.out.step ho)
    clear i0 i1 i2 j0 j1 j2
    clear ho
    go_upto_if 81 with fail
    by_cases hx:0<o2
    ·have hxx:=HXH2.out.1 (by omega)
     subst hxx
     obtain⟨j0,j1,j2,-,-,-⟩:=DB.cells HE 0 rfl
     obtain⟨h0,h1,h2,fh0,fh1,fh2⟩:=DB.cells HE 4 rfl
     go_upto_region 16 with fail
     go_upto_region 17 with fail
     have hput:=HE.out.put 4 rfl (DB.iv HE 0 rfl).out
     have hkf:=HK.out.far3 (g:=gh) (u:= .bool s6) (v:= .slice A6 k6 c6) (x:= .int .i64 U2.e) (ne3 (by dsimp only;omega) (by dsimp only;omega) (by dsimp only;omega)) (by omega)
     have hif:=HI.out.far3 (x:= .bool s6) (y:= .slice A6 k6 c6) (u:= .int .i64 U2.e) (HE.out.all 4 _ rfl).1 (noLimb3 _ _ _ _ _)
     clear j0 j1 j2 h0 h1 h2 fh0 fh1 fh2
     clear HE HK HI
     have HE:=hid hput
     have HK:=hid hkf
     have HI:=hid hif
     clear hput hkf hif
     generalize ((w8.setCell _ _).setCell _ _).setCell _ _=wy at*
     go_wp2_with fail
     go_roundw
     case rel=>exact⟨3,_,_,_,_,_,_,_,_,_,_,rfl,by omega,rfl,rfl,HCl,HC6,HK,HI,hid (HE.out.tail.tail.tail.tail)⟩
     case measure=>simp [intOf]
    ·have hxx:=HXH2.out.2 (by omega)
     subst hxx
     go_wp2_with fail
     go_roundw
     case rel=>exact⟨3,_,_,_,_,_,_,_,_,_,_,rfl,by omega,rfl,rfl,HCl,HCh,HK,HI,hid (HE.out.tail.tail.tail.tail)⟩
     case measure=>simp [intOf]
  ·simp only [at5] at hlo hhi
   subst hlo hhi
   clear hn
   have hidx: ∀w:World,(Instr.index 77 (.agg #[.bool s1,.slice A1 k1 c1,.int .i64 x.e,.bool s1,.slice A1 k1 c1,.int .i64 x.e,.bool t1,.slice B1 m1 d1,.int .i64 y.e,.bool t1,.slice B1 m1 d1,.int .i64 y.e]) (.int .i64 3)).run Tryz.prog w= .ok (.agg #[.bool t1,.slice B1 m1 d1,.int .i64 y.e]) w:=fun _=>by kernel_rfl
   have hgx:w.heap.size+3≤wr.heap.size:=by have:=(HK.out.blk 0 rfl).lt;omega
   go_upto_region 8 with fail
   clear hidx
   have he:=HE.out.new (IVL.at HI 1 rfl).out
   have ho:=(Only.refl [] wr).alloc (.cells #[.bool t1,.slice B1 m1 d1,.int .i64 y.e] 32)
   replace HE:=hid he
   replace HK:=hid (HK.out.step ho)
   replace HI:=hid (HI.out.step ho)
   clear he ho
   have hsz:(wr.alloc (.cells #[.bool t1,.slice B1 m1 d1,.int .i64 y.e] 32)).heap.size=wr.heap.size+1:=World.size_alloc _ _
   generalize wr.heap.size=gx at*
   generalize wr.alloc _=wa at*
   obtain⟨j0,j1,j2,j3,j4,j5⟩:=HK.out.c6 1 rfl
   go_upto_region 9 with fail
   clear j0 j1 j2 j3 j4 j5
   have he:=HE.out.new (IVL.at HI 2 rfl).out
   have ho:=(Only.refl [] wa).alloc (.cells #[.bool s2,.slice A2 k2 c2,.int .i64 u.e] 32)
   replace HE:=hid he
   replace HK:=hid (HK.out.step ho)
   replace HI:=hid (HI.out.step ho)
   clear he ho
   rw [hsz] at HE
   clear hsz
   generalize wa.alloc _=w1 at*
   obtain⟨j0,j1,j2,j3,j4,j5⟩:=HK.out.c6 1 rfl
   obtain⟨l0,l1,l2,fl0,fl1,fl2⟩:=DB.cells HE 0 rfl
   go_upto_region 11 with fail
   clear j0 j1 j2 j3 j4 j5
   have hput:=HE.out.put 0 rfl (IVL.at HI 3 rfl).out
   have hkf:=HK.out.far3 (g:=gx+1) (u:= .bool t2) (v:= .slice B2 m2 d2) (x:= .int .i64 v.e) (ne3 (by dsimp only;omega) (by dsimp only;omega) (by dsimp only;omega)) (by omega)
   have hif:=HI.out.far3 (x:= .bool t2) (y:= .slice B2 m2 d2) (u:= .int .i64 v.e) (HE.out.all 0 _ rfl).1 (noLimb3 _ _ _ _ _)
   clear l0 l1 l2 fl0 fl1 fl2
   clear HE HK HI
   have HE:=hid hput
   have HK:=hid hkf
   have HI:=hid hif
   clear hput hkf hif
   generalize ((w1.setCell _ _).setCell _ _).setCell _ _=wb at*
   obtain⟨i0,i1,i2,-,-,-⟩:=DB.cells HE 1 rfl
   obtain⟨j0,j1,j2,-,-,-⟩:=DB.cells HE 0 rfl
   go_wp2_with fail
   (with_reducible refine (quoV_d p (-1) D3 true HD3.out HOKv.out (DB.dv HE 1 rfl) (DB.dv HE 0 rfl) by_ bv (by omega) (hid (hT.out.keep HK.out.only))).mono ?_)
   rintro e w5 ⟨s5,A5,k5,c5,rfl,hs,hk,hv,ho⟩
   have HC5:Hid (Cn s5 k5 D3.z):=⟨hs,hk⟩
   replace HE:=hid ((HE.out.step ho).new hv)
   replace HK:=hid (HK.out.step ho)
   replace HI:=hid (HI.out.step ho)
   clear i0 i1 i2 j0 j1 j2
   clear hs hk hv ho
   have ho:=(Only.refl [] w5).alloc (.cells #[.bool s5,.slice A5 k5 c5,.int .i64 D3.e] 32)
   replace HK:=hid (HK.out.step ho)
   replace HI:=hid (HI.out.step ho)
   clear ho
   obtain⟨i0,i1,i2,-,-,-⟩:=DB.cells HE 2 rfl
   obtain⟨j0,j1,j2,-,-,-⟩:=DB.cells HE 1 rfl
   go_wp2_with fail
   (with_reducible refine (quoV_d p 1 U3 true HU3.out HOKv.out (DB.dv HE 2 rfl) (DB.dv HE 1 rfl) by_ bv (by omega) (hid (hT.out.keep HK.out.only))).mono ?_)
   rintro e w6 ⟨s6,A6,k6,c6,rfl,hs,hk,hv,ho⟩
   have HC6:Hid (Cn s6 k6 U3.z):=⟨hs,hk⟩
   replace HE:=hid ((HE.out.step ho).new hv)
   replace HK:=hid (HK.out.step ho)
   replace HI:=hid (HI.out.step ho)
   clear i0 i1 i2 j0 j1 j2
   clear hs hk hv ho
   have ho:=(Only.refl [] w6).alloc (.cells #[.bool s6,.slice A6 k6 c6,.int .i64 U3.e] 32)
   replace HK:=hid (HK.out.step ho)
   replace HI:=hid (HI.out.step ho)
   clear ho
   go_upto_region 13 with fail
   generalize w6.alloc _=w7 at*
   obtain⟨i0,i1,i2,-,-,-⟩:=DB.cells HE 1 rfl
   obtain⟨j0,j1,j2,-,-,-⟩:=DB.cells HE 5 rfl
   go_wp2_with fail
   (with_reducible refine (cmpV_d (x:=D3) (y:=L2) _ (DB.dv HE 1 rfl) (DB.dv HE 5 rfl) BD3 BL2 (by omega) HM3.out).mono ?_)
   rintro e w8 ⟨rfl,ho⟩
   replace HE:=hid (HE.out.step ho)
   replace HK:=hid (HK.out.step ho)
   replace HI:=hid (HI.out.step ho)
   clear i0 i1 i2 j0 j1 j2
   clear ho
   go_upto_if 72 with fail
   by_cases hm:z3<0
   ·have hmm:=HXL3.out.1 (by omega)
    subst hmm
    obtain⟨i0,i1,i2,-,-,-⟩:=DB.cells HE 1 rfl
    obtain⟨l0,l1,l2,fl0,fl1,fl2⟩:=DB.cells HE 5 rfl
    go_upto_region 14 with fail
    go_upto_region 15 with fail
    have hput:=HE.out.put 5 rfl (DB.iv HE 1 rfl).out
    have hkf:=HK.out.far3 (g:=gl) (u:= .bool s5) (v:= .slice A5 k5 c5) (x:= .int .i64 D3.e) (ne3 (by dsimp only;omega) (by dsimp only;omega) (by dsimp only;omega)) (by omega)
    have hif:=HI.out.far3 (x:= .bool s5) (y:= .slice A5 k5 c5) (u:= .int .i64 D3.e) (HE.out.all 5 _ rfl).1 (noLimb3 _ _ _ _ _)
    clear i0 i1 i2 l0 l1 l2 fl0 fl1 fl2
    clear HE HK HI
    have HE:=hid hput
    have HK:=hid hkf
    have HI:=hid hif
    clear hput hkf hif
    generalize ((w8.setCell _ _).setCell _ _).setCell _ _=wz at*
    obtain⟨i0,i1,i2,-,-,-⟩:=DB.cells HE 0 rfl
    obtain⟨j0,j1,j2,-,-,-⟩:=DB.cells HE 4 rfl
    go_wp2_with fail
    (with_reducible refine (cmpV_d (x:=U3) (y:=H2) _ (DB.dv HE 0 rfl) (DB.dv HE 4 rfl) BU3 BH2 (by omega) HN3.out).mono ?_)
    rintro e w8 ⟨rfl,ho⟩
    replace HE:=hid (HE.out.step ho)
    replace HK:=hid (HK.out.step ho)
    replace HI:=hid (HI.out.step ho)
    clear i0 i1 i2 j0 j1 j2
    clear ho
    go_upto_if 81 with fail
    by_cases hx:0<o3
    ·have hxx:=HXH3.out.1 (by omega)
     subst hxx
     obtain⟨j0,j1,j2,-,-,-⟩:=DB.cells HE 0 rfl
     obtain⟨h0,h1,h2,fh0,fh1,fh2⟩:=DB.cells HE 4 rfl
     go_upto_region 16 with fail
     go_upto_region 17 with fail
     have hput:=HE.out.put 4 rfl (DB.iv HE 0 rfl).out
     have hkf:=HK.out.far3 (g:=gh) (u:= .bool s6) (v:= .slice A6 k6 c6) (x:= .int .i64 U3.e) (ne3 (by dsimp only;omega) (by dsimp only;omega) (by dsimp only;omega)) (by omega)
     have hif:=HI.out.far3 (x:= .bool s6) (y:= .slice A6 k6 c6) (u:= .int .i64 U3.e) (HE.out.all 4 _ rfl).1 (noLimb3 _ _ _ _ _)
     clear j0 j1 j2 h0 h1 h2 fh0 fh1 fh2
     clear HE HK HI
     have HE:=hid hput
     have HK:=hid hkf
     have HI:=hid hif
     clear hput hkf hif
     generalize ((w8.setCell _ _).setCell _ _).setCell _ _=wy at*
     go_wp2_with fail
     go_roundw
     case rel=>exact⟨4,_,_,_,_,_,_,_,_,_,_,rfl,by omega,rfl,rfl,HC5,HC6,HK,HI,hid (HE.out.tail.tail.tail.tail)⟩
     case measure=>simp [intOf]
    ·have hxx:=HXH3.out.2 (by omega)
     subst hxx
     go_wp2_with fail
     go_roundw
     case rel=>exact⟨4,_,_,_,_,_,_,_,_,_,_,rfl,by omega,rfl,rfl,HC5,HCh,HK,HI,hid (HE.out.tail.tail.tail.tail)⟩
     case measure=>simp [intOf]
   ·have hmm:=HXL3.out.2 (by omega)
    subst hmm
    obtain⟨i0,i1,i2,-,-,-⟩:=DB.cells HE 0 rfl
    obtain⟨j0,j1,j2,-,-,-⟩:=DB.cells HE 4 rfl
    go_wp2_with fail
    (with_reducible refine (cmpV_d (x:=U3) (y:=H2) _ (DB.dv HE 0 rfl) (DB.dv HE 4 rfl) BU3 BH2 (by omega) HN3.out).mono ?_)
    rintro e w8 ⟨rfl,ho⟩
    replace HE:=hid (HE.out.step ho)
    replace HK:=hid (HK.out.step ho)
    replace HI:=hid (HI.out.step ho)
    clear i0 i1 i2 j0 j1 j2
    clear ho
    go_upto_if 81 with fail
    by_cases hx:0<o3
    ·have hxx:=HXH3.out.1 (by omega)
     subst hxx
     obtain⟨j0,j1,j2,-,-,-⟩:=DB.cells HE 0 rfl
     obtain⟨h0,h1,h2,fh0,fh1,fh2⟩:=DB.cells HE 4 rfl
     go_upto_region 16 with fail
     go_upto_region 17 with fail
     have hput:=HE.out.put 4 rfl (DB.iv HE 0 rfl).out
     have hkf:=HK.out.far3 (g:=gh) (u:= .bool s6) (v:= .slice A6 k6 c6) (x:= .int .i64 U3.e) (ne3 (by dsimp only;omega) (by dsimp only;omega) (by dsimp only;omega)) (by omega)
     have hif:=HI.out.far3 (x:= .bool s6) (y:= .slice A6 k6 c6) (u:= .int .i64 U3.e) (HE.out.all 4 _ rfl).1 (noLimb3 _ _ _ _ _)
     clear j0 j1 j2 h0 h1 h2 fh0 fh1 fh2
     clear HE HK HI
     have HE:=hid hput
     have HK:=hid hkf
     have HI:=hid hif
     clear hput hkf hif
     generalize ((w8.setCell _ _).setCell _ _).setCell _ _=wy at*
     go_wp2_with fail
     go_roundw
     case rel=>exact⟨4,_,_,_,_,_,_,_,_,_,_,rfl,by omega,rfl,rfl,HCl,HC6,HK,HI,hid (HE.out.tail.tail.tail.tail)⟩
     case measure=>simp [intOf]
    ·have hxx:=HXH3.out.2 (by omega)
     subst hxx
     go_wp2_with fail
     go_roundw
     case rel=>exact⟨4,_,_,_,_,_,_,_,_,_,_,rfl,by omega,rfl,rfl,HCl,HCh,HK,HI,hid (HE.out.tail.tail.tail.tail)⟩
     case measure=>simp [intOf]
  ·simp only [at5] at hlo hhi
   subst hlo hhi
   clear hn
   obtain⟨i0,i1,i2,-,-,-⟩:=DB.cells HE 1 rfl
   obtain⟨j0,j1,j2,-,-,-⟩:=DB.cells HE 0 rfl
   obtain⟨q0,q1,q2,q3,q4,q5⟩:=HK.out.c6 0 rfl
   obtain⟨f0,f1,f2,f3,f4,f5⟩:=HK.out.f6 0 rfl
   go_wp2_with fail
   refine bodyPost_ret (v:= .tuple #[.agg #[.bool s,.slice A k c,.int .i64 (L3.e),.bool t,.slice B m d,.int .i64 (H3.e)],.bool true]) (by simp [results,Tryz.results10,go_sem,q0,q1,q2,q3,q4,q5]) rfl ?_
   exact qbfin HCl (DB.iv HE 1 rfl) HCh (DB.iv HE 0 rfl) (by omega) (HK.out.blk 0 rfl) (noLimb6 _ _ _ _ _ _ _ _ _ _) HK.out.only (only_set6 _ _ _ _ _ _ _ _)
end Go.Proofs.YtigpnopeacicpaaGreatDoor
