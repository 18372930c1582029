/-
  Joined texts.
-/
import Derived.Test.YtigpnopeacicpaaGreatDoorTcJ18
import Derived.Test.YtigpnopeacicpaaGreatDoorTcGRd
namespace Go.Proofs.YtigpnopeacicpaaGreatDoor
open Go.Lib (hid)
set_option linter.unusedSimpArgs false
open Go.RowKit
def BVPost (x y:Dy) (w:World) (e:Ending) (w':World):Prop:= ∃s A k c t B m d,e= .returned (.agg #[.bool s,.slice A k c,.int .i64 x.e,.bool t,.slice B m d,.int .i64 y.e])∧IV w' (.agg #[.bool s,.slice A k c]) x.z∧IV w' (.agg #[.bool t,.slice B m d]) y.z∧Only [] w w'
theorem rrefV_d {w:World} {a:Value} {x:Dy} {N:Nat} (r:Dy) (hr:nrm x.z x.e=r) (ha:Hid (DV w a x)) (bx:Hid (Bnd N x)) (hN:N≤8000000):Calls Tryz.prog 18 #[a] w (RDP r w):=hr▸rref_d ha bx hN
set_option maxHeartbeats 8000000 in
set_option maxRecDepth 100000 in
theorem of_b (n1 n2:Bool) (B1 B2:Option Addr) (L1 L2:List Nat) (d1 d2:Nat) (x y lo hi:Dy) (w:World) (N:Nat) (HZ1:Hid (sg n1 (val L1)=x.z)) (HZ2:Hid (sg n2 (val L2)=y.z)) (H1:Hid (LimbsIn w B1 L1)) (H2:Hid (LimbsIn w B2 L2))
  (hl1:(L1.length:Int)≤40) (hl2:(L2.length:Int)≤40) (BX:Hid (Bnd N x)) (BY:Hid (Bnd N y)) (hN:N≤500000) (cm:Int) (hcm:cmpQ x.q y.q=cm) (HLH:Hid ((0<cm→y=lo∧x=hi)∧(¬ 0<cm→x=lo∧y=hi))):
  Calls Tryz.prog 8 #[.agg #[.bool n1,.slice B1 L1.length d1,.int .i64 x.e],.agg #[.bool n2,.slice B2 L2.length d2,.int .i64 y.e]] w (BVPost lo hi w):=by
 have hal: ∀w:World,(Instr.alloc 32 true (.tuple #[])).run Tryz.prog w= .ok (.pointer (some ⟨w.heap.size,0,none⟩)) (w.alloc (.cells #[.bool false,.slice none 0 0,.int .i64 0] 32)):=fun _=>by kernel_rfl
 have HAL:=hid hal
 obtain⟨rx,hrx⟩: ∃d,nrm x.z x.e=d:=⟨_,rfl⟩
 obtain⟨ry,hry⟩: ∃d,nrm y.z y.e=d:=⟨_,rfl⟩
 have CX:Hid (Can rx):=by rw [← hrx];exact nrm_can _ _
 have BRX:Hid (Bnd (2*N) rx):=by rw [← hrx];exact BX.out.norm (Nat.le_refl _)
 have BRY:Hid (Bnd (2*N) ry):=by rw [← hry];exact BY.out.norm (Nat.le_refl _)
 have HCM:Hid (cmpQ rx.q ry.q=cm):=by show _=_;rw [← hrx,←hry,nrm_q,nrm_q];exact hcm
 have HRX:=hid hrx
 have HRY:=hid hry
 have hk:=(((KB.start w).new 24 [.bool n1,.slice B1 L1.length d1,.int .i64 x.e]).new 24 [.bool n2,.slice B2 L2.length d2,.int .i64 y.e]).new 34 [.bool false,.slice none 0 0,.int .i64 0,.bool false,.slice none 0 0,.int .i64 0]
 simp only [World.size_alloc] at hk
 have HK:=hid hk
 replace H1:=hid (H1.out.only hk.only)
 replace H2:=hid (H2.out.only hk.only)
 clear hk hal hrx hry hcm
 go_enter Tryz.func8,Tryz.ntmps8
 go_upto_region 1 with fail
 generalize ((w.alloc _).alloc _).alloc _=wq at*
 have hal:=HAL.out
 apply wp_region_typed_tail3 6 [4,5] 32 #[.bool false,.slice none 0 0,.int .i64 0] (by kernel_rfl) (by kernel_rfl) hal (by kernel_rfl) [isV _,isDV x,isV _,isDV y,isPtr wq 32 [.bool false,.slice none 0 0,.int .i64 0],isPtr wq 32 [.bool false,.slice none 0 0,.int .i64 0]] [[],[0],[],[2],[],[]] (by kernel_rfl) (by kernel_rfl) (by kernel_rfl)
 case ho=>
  simp only [List.take_succ_cons,List.take_zero]
  iterate 6
   refine owes2_cons (fun wx hox=>?_) ?_
   ·skip
    have hk:=HK.out.step hox
    obtain⟨i0,i1,i2,-,-,-⟩:=hk.c3 2 rfl
    obtain⟨j0,j1,j2,-,-,-⟩:=hk.c3 1 rfl
    clear hk
    refine withs_plain rfl ?_
    simp only [withs,List.getElem?_cons_zero,List.getElem?_cons_succ,Option.bind,Option.getD]
    with_reducible repeat first|refine all_isV ?_|(refine all_isDV ?_;intro sx Ax kx cx hvx)|(refine all_isPtr ?_;intro gp' hbp hgp)
    go_simp
    first
    |exact⟨Only.refl _ _,isV.self _ _⟩
    |with_reducible exact grow_dv (numOfV_any n1 B1 L1 d1 x _ HZ1.out (hid (H1.out.only hox)) hl1)
    |with_reducible exact grow_dv (numOfV_any n2 B2 L2 d2 y _ HZ2.out (hid (H2.out.only hox)) hl2)
    |exact isPtr.new hox _ _
  exact owes2_nil
 case he=>
  simp only [List.drop_succ_cons,List.drop_zero]
  intro wx hox
  refine withs_of (by simp only [List.length,List.range,List.range.loop];exact rfl) ?_
  simp only [withs,List.getElem?_cons_zero,List.getElem?_cons_succ,Option.bind,Option.getD]
  with_reducible refine all_isV ?_
  with_reducible refine all_isDV ?_
  intro s1 A1 k1 c1 hv1
  with_reducible refine all_isV ?_
  with_reducible refine all_isDV ?_
  intro s3 A3 k3 c3 hv3
  with_reducible refine all_isPtr ?_
  intro g4 hb4 hg4
  with_reducible refine all_isPtr ?_
  intro g5 hb5 hg5
  go_simp
  intro hap
  have nab: ¬g4=g5:=fun hc=>hap 4 (by decide) 5 (by decide) (by decide) 5 6 rfl rfl (by rw [hc];rfl)
  have mab: ¬g5=g4:=fun hc=>nab hc.symm
  clear hap
  have bla:=hb4.out
  have blb:=hb5.out
  have q40:=bla.cell 0
  have f40:=bla.frozen 0
  have q41:=bla.cell 1
  have f41:=bla.frozen 1
  have q42:=bla.cell 2
  have f42:=bla.frozen 2
  have q50:=blb.cell 0
  have f50:=blb.frozen 0
  have q51:=blb.cell 1
  have f51:=blb.frozen 1
  have q52:=blb.cell 2
  have f52:=blb.frozen 2
  simp only [List.getElem?_cons_zero,List.getElem?_cons_succ] at q40 q41 q42 q50 q51 q52
  have hsz:=HK.out.only.size
  have hk:=HK.out.step hox
  have hbl:=hk.blk 0 rfl
  have hwq:=(HK.out.blk 0 rfl).lt
  have he0:DB w wx []:=(DB.start w).step (HK.out.only.nil_trans hox)
  have he1:=he0.adopt bla ⟨_,_,_,rfl⟩ (noLimb3 _ _ _ _ _) (Nat.le_trans hsz hg4.out) (fun i y h=>by simp at h) hv1.out
  have he2:=he1.adopt (blb.set3 mab) ⟨_,_,_,rfl⟩ (noLimb3 _ _ _ _ _) (Nat.le_trans hsz hg5.out) (fun i y h=>by
   rcases i with _|i
   ·obtain rfl:=(Option.some.inj h).symm;exact nab
   ·simp at h) (hv3.out.set3 bla (noLimb3 _ _ _ _ _))
  have HBl:=hid ((hbl.set3 (g':=g4) (x:= .bool s1) (y:= .slice A1 k1 c1) (u:= .int .i64 x.e) (by have:=hg4.out;omega)).set3 (g':=g5) (x:= .bool s3) (y:= .slice A3 k3 c3) (u:= .int .i64 y.e) (by have:=hg5.out;omega))
  have hd4:w.heap.size+1+1≠g4:=by have:=hg4.out;omega
  have hd5:w.heap.size+1+1≠g5:=by have:=hg5.out;omega
  have HD4:=hid hd4
  have HD5:=hid hd5
  have HE:=hid he2
  clear he0 he1 he2 bla blb hb4 hb5 hv1 hv3 hox HK H1 H2 hsz hk hbl hwq hd4 hd5
  go_upto_region 2 with fail
  clear q40 q41 q42 q50 q51 q52 f40 f41 f42 f50 f51 f52 nab mab hg4 hg5
  generalize (((((wx.setCell _ _).setCell _ _).setCell _ _).setCell _ _).setCell _ _).setCell _ _=wv at*
  apply wp_region_typed2 (by kernel_rfl) [isV _,isRD rx,isV _,isRD ry,isV _,isV _] [[],[0],[],[2],[1,3],[4]] (by kernel_rfl) (by kernel_rfl)
  case ho=>
   iterate 6
    refine owes2_cons (fun wx hox=>?_) ?_
    ·skip
     have he:=hid (HE.out.step hox)
     obtain⟨i0,i1,i2,-,-,-⟩:=DB.cells he 1 rfl
     obtain⟨j0,j1,j2,-,-,-⟩:=DB.cells he 0 rfl
     have ivx:=DB.dv he 1 rfl
     have ivy:=DB.dv he 0 rfl
     clear he
     refine withs_plain rfl ?_
     simp only [withs,List.getElem?_cons_zero,List.getElem?_cons_succ,Option.bind,Option.getD]
     with_reducible repeat first|refine all_isV ?_|(refine all_isRD ?_;intro sx Ax kx cx hvx hwx)
     go_simp
     first
     |exact⟨Only.refl _ _,isV.self _ _⟩
     |with_reducible exact grow_rd (rrefV_d rx HRX.out ivx BX (by omega))
     |with_reducible exact grow_rd (rrefV_d ry HRY.out ivy BY (by omega))
     |with_reducible exact grow_of (rcmp_d cm (RD.of (by assumption) (by assumption)) (RD.of (by assumption) (by assumption)) CX BRX BRY (by omega) HCM.out)
   exact owes2_nil
  case he=>
   intro wx hox
   refine withs_of (by simp only [List.length,List.range,List.range.loop];exact rfl) ?_
   simp only [withs,List.getElem?_cons_zero,List.getElem?_cons_succ,Option.bind,Option.getD]
   repeat (first|(with_reducible refine all_isV ?_)|(with_reducible refine all_isRD ?_;intro sx Ax kx cx hvx hwx))
   go_simp
   replace HE:=hid (HE.out.step hox)
   replace HBl:=hid (HBl.out.only hox (by simp))
   clear hox hal
   go_upto_if 16 with fail
   by_cases hgt:0<cm
   ·obtain⟨hlo,hhi⟩:=HLH.out.1 hgt
    subst hlo hhi
    clear HLH
    obtain⟨i0,i1,i2,u0,u1,u2⟩:=DB.cells HE 1 rfl
    obtain⟨j0,j1,j2,v0,v1,v2⟩:=DB.cells HE 0 rfl
    have hne: ¬g4=g5:=HE.out.ne 1 0 _ _ (by decide) rfl rfl
    have hne': ¬g5=g4:=fun h=>hne h.symm
    go_upto_region 3 with fail
    go_upto_region 4 with fail
    have he1:=HE.out.put 1 rfl (DB.iv HE 0 rfl).out
    have he2:=he1.put 0 rfl ((DB.iv HE 1 rfl).out.set3 (HE.out.all 1 _ rfl).1 (noLimb3 _ _ _ _ _))
    have hbl:=(HBl.out.set3 (x:= .bool s3) (y:= .slice A3 k3 c3) (u:= .int .i64 y.e) HD4.out).set3 (x:= .bool s1) (y:= .slice A1 k1 c1) (u:= .int .i64 x.e) HD5.out
    have HE2:=hid he2
    have HB2:=hid hbl
    clear he1 he2 hbl
    clear i0 i1 i2 u0 u1 u2 j0 j1 j2 v0 v1 v2 hne hne'
    clear HE HBl
    have HE:=HE2
    have HBl:=HB2
    clear HE2 HB2
    generalize (((((wx.setCell _ _).setCell _ _).setCell _ _).setCell _ _).setCell _ _).setCell _ _=wu at*
    obtain⟨i0,i1,i2,-,-,-⟩:=DB.cells HE 1 rfl
    obtain⟨j0,j1,j2,-,-,-⟩:=DB.cells HE 0 rfl
    obtain⟨y0,y1,y2,y3,y4,y5⟩:=(⟨HBl.out.cell 0,HBl.out.cell 1,HBl.out.cell 2,HBl.out.cell 3,HBl.out.cell 4,HBl.out.cell 5⟩:_∧_∧_∧_∧_∧_)
    obtain⟨g0,g1,g2,g3,g4',g5'⟩:=(⟨HBl.out.frozen 0,HBl.out.frozen 1,HBl.out.frozen 2,HBl.out.frozen 3,HBl.out.frozen 4,HBl.out.frozen 5⟩:_∧_∧_∧_∧_∧_)
    simp only [List.getElem?_cons_zero,List.getElem?_cons_succ] at y0 y1 y2 y3 y4 y5
    go_wp2_with fail
    refine bodyPost_ret (v:= .agg #[.bool s3,.slice A3 k3 c3,.int .i64 (y.e),.bool s1,.slice A1 k1 c1,.int .i64 (x.e)]) (by simp [results,Tryz.results8,go_sem,y0,y1,y2,y3,y4,y5]) rfl ?_
    exact⟨_,_,_,_,_,_,_,_,rfl,(DB.iv HE 1 rfl).out.farS (only_set6 _ _ _ _ _ _ _ _) (fun g hg=>by rw [List.mem_singleton] at hg;subst hg;exact (DB.iv HE 1 rfl).out.far_blk HBl.out (noLimb6 _ _ _ _ _ _ _ _ _ _)),(DB.iv HE 0 rfl).out.farS (only_set6 _ _ _ _ _ _ _ _) (fun g hg=>by rw [List.mem_singleton] at hg;subst hg;exact (DB.iv HE 0 rfl).out.far_blk HBl.out (noLimb6 _ _ _ _ _ _ _ _ _ _)),HE.out.only.trans (only_set6 _ _ _ _ _ _ _ _) (fun k hk=> .inr (by simp at hk;omega))⟩
   ·obtain⟨hlo,hhi⟩:=HLH.out.2 hgt
    subst hlo hhi
    clear HLH
    obtain⟨i0,i1,i2,-,-,-⟩:=DB.cells HE 1 rfl
    obtain⟨j0,j1,j2,-,-,-⟩:=DB.cells HE 0 rfl
    obtain⟨y0,y1,y2,y3,y4,y5⟩:=(⟨HBl.out.cell 0,HBl.out.cell 1,HBl.out.cell 2,HBl.out.cell 3,HBl.out.cell 4,HBl.out.cell 5⟩:_∧_∧_∧_∧_∧_)
    obtain⟨g0,g1,g2,g3,g4',g5'⟩:=(⟨HBl.out.frozen 0,HBl.out.frozen 1,HBl.out.frozen 2,HBl.out.frozen 3,HBl.out.frozen 4,HBl.out.frozen 5⟩:_∧_∧_∧_∧_∧_)
    simp only [List.getElem?_cons_zero,List.getElem?_cons_succ] at y0 y1 y2 y3 y4 y5
    go_wp2_with fail
    refine bodyPost_ret (v:= .agg #[.bool s1,.slice A1 k1 c1,.int .i64 (x.e),.bool s3,.slice A3 k3 c3,.int .i64 (y.e)]) (by simp [results,Tryz.results8,go_sem,y0,y1,y2,y3,y4,y5]) rfl ?_
    exact⟨_,_,_,_,_,_,_,_,rfl,(DB.iv HE 1 rfl).out.farS (only_set6 _ _ _ _ _ _ _ _) (fun g hg=>by rw [List.mem_singleton] at hg;subst hg;exact (DB.iv HE 1 rfl).out.far_blk HBl.out (noLimb6 _ _ _ _ _ _ _ _ _ _)),(DB.iv HE 0 rfl).out.farS (only_set6 _ _ _ _ _ _ _ _) (fun g hg=>by rw [List.mem_singleton] at hg;subst hg;exact (DB.iv HE 0 rfl).out.far_blk HBl.out (noLimb6 _ _ _ _ _ _ _ _ _ _)),HE.out.only.trans (only_set6 _ _ _ _ _ _ _ _) (fun k hk=> .inr (by simp at hk;omega))⟩
  case hl=>
   repeat (refine List.forall_mem_cons.2 ⟨?_,?_⟩;first|exact isV.lasts _|exact isRD.lasts _)
   exact fun _ h=>(by cases h)
 case hl=>
  repeat (refine List.forall_mem_cons.2 ⟨?_,?_⟩;first|exact isV.lasts _|exact isDV.lasts _|exact isPtr.lasts _ _ _)
  exact fun _ h=>(by cases h)
theorem sameV_d {w:World} {a:Value} {x:Dy} {N:Nat} (r:Dy) (hr:nrm x.z x.e=r) (ha:Hid (DV w a x)) (bx:Hid (Bnd N x)) (hN:N≤8000000) (hT:Hid (Tab6 w)):Calls Tryz.prog 69 #[a] w (DPost r w):=hr▸same_d ha bx hN hT
set_option maxHeartbeats 8000000 in
set_option maxRecDepth 100000 in
theorem between_b {w:World} {a b:Value} {x y:Dy} {N:Nat} (cm:Int) (lo hi:Dy) (hcm:cmpQ x.q y.q=cm) (h1:0<cm→nrm y.z y.e=lo∧nrm x.z x.e=hi) (h2: ¬0<cm→nrm x.z x.e=lo∧nrm y.z y.e=hi) (ha:Hid (DV w a x)) (hb:Hid (DV w b y)) (bx:Hid (Bnd N x)) (by_:Hid (Bnd N y)) (hN:N≤2000000) (hT:Hid (Tab6 w)):Calls Tryz.prog 33 #[a,b] w (BPost lo hi w):=by
 obtain⟨s8,A8,k8,c8,rfl,hx⟩:=ha.out
 obtain⟨s9,A9,k9,c9,rfl,hy⟩:=hb.out
 have he:=((DB.start w).new hx).new (hy.only ((Only.refl [] w).alloc _))
 have hbl:=Blk.new ((w.alloc (.cells #[.bool s8,.slice A8 k8 c8,.int .i64 x.e] 32)).alloc (.cells #[.bool s9,.slice A9 k9 c9,.int .i64 y.e] 32)) 34 [.bool false,.slice none 0 0,.int .i64 0,.bool false,.slice none 0 0,.int .i64 0]
 have he2:=he.step ((Only.refl [] _).alloc (.cells #[.bool false,.slice none 0 0,.int .i64 0,.bool false,.slice none 0 0,.int .i64 0] 34))
 simp only [World.size_alloc] at he2 hbl
 have HE:=hid he2
 have HBl:=hid hbl
 have HC:=hid hcm
 have H1:=hid h1
 have H2:=hid h2
 clear he he2 hbl hcm hx hy ha hb h1 h2
 obtain⟨i0,i1,i2,u0,u1,u2⟩:=DB.cells HE 1 rfl
 obtain⟨j0,j1,j2,v0,v1,v2⟩:=DB.cells HE 0 rfl
 go_enter Tryz.func33,Tryz.ntmps33
 go_wp2_with fail
 (with_reducible refine (cmpV_d (x:=x) (y:=y) cm (DB.dv HE 1 rfl) (DB.dv HE 0 rfl) bx by_ hN HC.out).mono ?_)
 rintro e w5 ⟨rfl,ho⟩
 replace HE:=hid (HE.out.step ho)
 replace HBl:=hid (HBl.out.only ho (by simp))
 clear ho i0 i1 i2 u0 u1 u2 j0 j1 j2 v0 v1 v2
 by_cases hgt:0<cm
 ·obtain⟨hlo,hhi⟩:=H1.out (by omega)
  have HX:=hid hlo
  have HY:=hid hhi
  clear H1 H2 hlo hhi
  obtain⟨i0,i1,i2,u0,u1,u2⟩:=DB.cells HE 1 rfl
  obtain⟨j0,j1,j2,v0,v1,v2⟩:=DB.cells HE 0 rfl
  go_upto_region 3 with fail
  have he1:=HE.out.put 1 rfl (DB.iv HE 0 rfl).out
  have he2:=he1.put 0 rfl ((DB.iv HE 1 rfl).out.set3 (HE.out.all 1 _ rfl).1 (noLimb3 _ _ _ _ _))
  have hbl:=(HBl.out.set3 (g':=w.heap.size) (x:= .bool s9) (y:= .slice A9 k9 c9) (u:= .int .i64 y.e) (by omega)).set3 (g':=w.heap.size+1) (x:= .bool s8) (y:= .slice A8 k8 c8) (u:= .int .i64 x.e) (by omega)
  have HE2:=hid he2
  have HB2:=hid hbl
  clear he1 he2 hbl
  clear i0 i1 i2 u0 u1 u2 j0 j1 j2 v0 v1 v2
  clear HE HBl
  have HE:=HE2
  have HBl:=HB2
  clear HE2 HB2
  generalize (((((w5.setCell _ _).setCell _ _).setCell _ _).setCell _ _).setCell _ _).setCell _ _=wu at*
  apply wp_region_typed_tail2 4 (by kernel_rfl) [isV _,isD lo,isV _,isD hi] [[],[0],[],[2]] (by kernel_rfl) (by kernel_rfl) (by kernel_rfl)
  case ho=>
   simp only [List.take_succ_cons,List.take_zero]
   iterate 4
    refine owes2_cons (fun wx hox=>?_) ?_
    ·skip
     have he:=hid (HE.out.step hox)
     obtain⟨i0,i1,i2,-,-,-⟩:=DB.cells he 1 rfl
     obtain⟨j0,j1,j2,-,-,-⟩:=DB.cells he 0 rfl
     refine withs_plain rfl ?_
     simp only [withs,List.getElem?_cons_zero,List.getElem?_cons_succ,Option.bind,Option.getD]
     with_reducible repeat first|refine all_isV ?_|(refine all_isD ?_;intro sx Ax kx cx hvx hwx)
     go_simp
     first
     |exact⟨Only.refl _ _,isV.self _ _⟩
     |with_reducible exact grow_d (sameV_d lo HX.out (DB.dv he 1 rfl) by_ (by omega) (hid (hT.out.keep he.out.only)))
     |with_reducible exact grow_d (sameV_d hi HY.out (DB.dv he 0 rfl) bx (by omega) (hid (hT.out.keep he.out.only)))
   exact owes2_nil
  case he=>
   simp only [List.drop_succ_cons,List.drop_zero]
   intro wx hox
   refine withs_of (by simp only [List.length,List.range,List.range.loop];exact rfl) ?_
   simp only [withs,List.getElem?_cons_zero,List.getElem?_cons_succ,Option.bind,Option.getD]
   with_reducible refine all_isV ?_
   with_reducible refine all_isD ?_
   intro s1 A1 k1 c1 hv1 hw1
   with_reducible refine all_isV ?_
   with_reducible refine all_isD ?_
   intro s3 A3 k3 c3 hv3 hw3
   go_simp
   replace HBl:=hid (HBl.out.only hox (by simp))
   replace HE:=hid (HE.out.step hox)
   obtain⟨y0,y1,y2,y3,y4,y5⟩:=(⟨HBl.out.cell 0,HBl.out.cell 1,HBl.out.cell 2,HBl.out.cell 3,HBl.out.cell 4,HBl.out.cell 5⟩:_∧_∧_∧_∧_∧_)
   obtain⟨f0,f1,f2,f3,f4,f5⟩:=(⟨HBl.out.frozen 0,HBl.out.frozen 1,HBl.out.frozen 2,HBl.out.frozen 3,HBl.out.frozen 4,HBl.out.frozen 5⟩:_∧_∧_∧_∧_∧_)
   simp only [List.getElem?_cons_zero,List.getElem?_cons_succ] at y0 y1 y2 y3 y4 y5
   clear hox
   go_wp2_with fail
   refine bodyPost_ret (v:= .agg #[.bool s1,.slice A1 k1 c1,.int .i64 (lo.e),.bool s3,.slice A3 k3 c3,.int .i64 (hi.e)]) (by simp [results,Tryz.results33,go_sem,y0,y1,y2,y3,y4,y5]) rfl ?_
   exact bfin hw1 hv1 hw3 hv3 (by omega) HBl.out (noLimb6 _ _ _ _ _ _ _ _ _ _) HE.out.only (only_set6 _ _ _ _ _ _ _ _)
  case hl=>
   repeat (refine List.forall_mem_cons.2 ⟨?_,?_⟩;first|exact isV.lasts _|exact isD.lasts _)
   exact fun _ h=>(by cases h)
 ·obtain⟨hlo,hhi⟩:=H2.out (by omega)
  have HX:=hid hlo
  have HY:=hid hhi
  clear H1 H2 hlo hhi
  go_upto_region 3 with fail
  apply wp_region_typed_tail2 4 (by kernel_rfl) [isV _,isD lo,isV _,isD hi] [[],[0],[],[2]] (by kernel_rfl) (by kernel_rfl) (by kernel_rfl)
  case ho=>
   simp only [List.take_succ_cons,List.take_zero]
   iterate 4
    refine owes2_cons (fun wx hox=>?_) ?_
    ·skip
     have he:=hid (HE.out.step hox)
     obtain⟨i0,i1,i2,-,-,-⟩:=DB.cells he 1 rfl
     obtain⟨j0,j1,j2,-,-,-⟩:=DB.cells he 0 rfl
     refine withs_plain rfl ?_
     simp only [withs,List.getElem?_cons_zero,List.getElem?_cons_succ,Option.bind,Option.getD]
     with_reducible repeat first|refine all_isV ?_|(refine all_isD ?_;intro sx Ax kx cx hvx hwx)
     go_simp
     first
     |exact⟨Only.refl _ _,isV.self _ _⟩
     |with_reducible exact grow_d (sameV_d lo HX.out (DB.dv he 1 rfl) bx (by omega) (hid (hT.out.keep he.out.only)))
     |with_reducible exact grow_d (sameV_d hi HY.out (DB.dv he 0 rfl) by_ (by omega) (hid (hT.out.keep he.out.only)))
   exact owes2_nil
  case he=>
   simp only [List.drop_succ_cons,List.drop_zero]
   intro wx hox
   refine withs_of (by simp only [List.length,List.range,List.range.loop];exact rfl) ?_
   simp only [withs,List.getElem?_cons_zero,List.getElem?_cons_succ,Option.bind,Option.getD]
   with_reducible refine all_isV ?_
   with_reducible refine all_isD ?_
   intro s1 A1 k1 c1 hv1 hw1
   with_reducible refine all_isV ?_
   with_reducible refine all_isD ?_
   intro s3 A3 k3 c3 hv3 hw3
   go_simp
   replace HBl:=hid (HBl.out.only hox (by simp))
   replace HE:=hid (HE.out.step hox)
   obtain⟨y0,y1,y2,y3,y4,y5⟩:=(⟨HBl.out.cell 0,HBl.out.cell 1,HBl.out.cell 2,HBl.out.cell 3,HBl.out.cell 4,HBl.out.cell 5⟩:_∧_∧_∧_∧_∧_)
   obtain⟨f0,f1,f2,f3,f4,f5⟩:=(⟨HBl.out.frozen 0,HBl.out.frozen 1,HBl.out.frozen 2,HBl.out.frozen 3,HBl.out.frozen 4,HBl.out.frozen 5⟩:_∧_∧_∧_∧_∧_)
   simp only [List.getElem?_cons_zero,List.getElem?_cons_succ] at y0 y1 y2 y3 y4 y5
   clear hox
   go_wp2_with fail
   refine bodyPost_ret (v:= .agg #[.bool s1,.slice A1 k1 c1,.int .i64 (lo.e),.bool s3,.slice A3 k3 c3,.int .i64 (hi.e)]) (by simp [results,Tryz.results33,go_sem,y0,y1,y2,y3,y4,y5]) rfl ?_
   exact bfin hw1 hv1 hw3 hv3 (by omega) HBl.out (noLimb6 _ _ _ _ _ _ _ _ _ _) HE.out.only (only_set6 _ _ _ _ _ _ _ _)
  case hl=>
   repeat (refine List.forall_mem_cons.2 ⟨?_,?_⟩;first|exact isV.lasts _|exact isD.lasts _)
   exact fun _ h=>(by cases h)
end Go.Proofs.YtigpnopeacicpaaGreatDoor
