/-
  Joined texts.
-/
import Derived.Test.YtigpnopeacicpaaGreatDoorTcJ31
namespace Go.Proofs.YtigpnopeacicpaaGreatDoor
open Go.Lib (hid)
set_option linter.unusedSimpArgs false
open Go.RowKit
def E4 (w:World) (g:Nat) (dv:Nat→Dy):Prop:= ∀n,n<4→ ∃s A k c,w.cell? ⟨g,n*3,none⟩=some (.bool s)∧w.cell? ⟨g,n*3+1,none⟩=some (.slice A k c)∧w.cell? ⟨g,n*3+2,none⟩=some (.int .i64 (dv n).e)∧RD w (.agg #[.bool s,.slice A k c,.int .i64 (dv n).e]) (dv n)
theorem E4.only {w w':World} {g:Nat} {dv:Nat→Dy} (h:E4 w g dv) (ho:Only [] w w'):E4 w' g dv:=fun n hn=>by
 obtain⟨s,A,k,c,h0,h1,h2,h3⟩:=h n hn
 exact⟨s,A,k,c,ho.cell h0 (by simp),ho.cell h1 (by simp),ho.cell h2 (by simp),h3.only ho⟩
theorem RD.far {w w':World} {x:Dy} {s:Bool} {A:Option Addr} {k c g:Nat} {t:TypeId} {cs:List Value} (h:RD w (.agg #[.bool s,.slice A k c,.int .i64 x.e]) x) (ho:Only [g] w w') (hb:Blk w g t cs) (hn:NoLimb cs):RD w' (.agg #[.bool s,.slice A k c,.int .i64 x.e]) x:=by
 obtain⟨h1,h2⟩:=rd_parts h
 have h3:=((RL.nil w).cons (hid h2) (hid h1)).far ho hb hn
 exact (RL.rd (x:=x) (hid h3) 0 rfl).out
theorem E4.far {w w':World} {g b:Nat} {dv:Nat→Dy} {t:TypeId} {cs:List Value} (h:E4 w g dv) (ho:Only [b] w w') (hb:Blk w b t cs) (hn:NoLimb cs) (hne:g≠b):E4 w' g dv:=fun n hn'=>by
 obtain⟨s,A,k,c,h0,h1,h2,h3⟩:=h n hn'
 exact⟨s,A,k,c,ho.cell h0 (by simpa using hne),ho.cell h1 (by simpa using hne),ho.cell h2 (by simpa using hne),h3.far ho hb hn⟩
def isE4 (dv:Nat→Dy):VP:=fun u w=> ∃g,u= .slice (some ⟨g,0,none⟩) 4 4∧E4 w g dv
theorem isE4.lasts (dv:Nat→Dy):Lasts (isE4 dv):=fun _ _ _ ⟨g,h1,h2⟩ ho=>⟨g,h1,h2.only ho⟩
theorem all_isE4 {dv:Nat→Dy} {w:World} {K:Value→Prop} (h: ∀g,Hid (E4 w g dv)→K (.slice (some ⟨g,0,none⟩) 4 4)): ∀v,isE4 dv v w→K v:=fun v ⟨g,h1,h2⟩=>by
 subst h1
 exact h g h2
def d4 (a b c d:Dy):Nat→Dy|0=>a|1=>b|2=>c|_=>d
theorem isE4.new {w:World} {a b c d:Dy} {s0 s1 s2 s3:Bool} {A0 A1 A2 A3:Option Addr} {k0 k1 k2 k3 c0 c1 c2 c3:Nat} (h0:Hid (RD w (.agg #[.bool s0,.slice A0 k0 c0,.int .i64 a.e]) a)) (h1:Hid (RD w (.agg #[.bool s1,.slice A1 k1 c1,.int .i64 b.e]) b)) (h2:Hid (RD w (.agg #[.bool s2,.slice A2 k2 c2,.int .i64 c.e]) c)) (h3:Hid (RD w (.agg #[.bool s3,.slice A3 k3 c3,.int .i64 d.e]) d)):
  Only [] w (w.alloc (.cells #[.bool s0,.slice A0 k0 c0,.int .i64 a.e,.bool s1,.slice A1 k1 c1,.int .i64 b.e,.bool s2,.slice A2 k2 c2,.int .i64 c.e,.bool s3,.slice A3 k3 c3,.int .i64 d.e] 38))∧isE4 (d4 a b c d) (.slice (some ⟨w.heap.size,0,none⟩) 4 4) (w.alloc (.cells #[.bool s0,.slice A0 k0 c0,.int .i64 a.e,.bool s1,.slice A1 k1 c1,.int .i64 b.e,.bool s2,.slice A2 k2 c2,.int .i64 c.e,.bool s3,.slice A3 k3 c3,.int .i64 d.e] 38)):=by
 have ho:=(Only.refl [] w).alloc (.cells #[.bool s0,.slice A0 k0 c0,.int .i64 a.e,.bool s1,.slice A1 k1 c1,.int .i64 b.e,.bool s2,.slice A2 k2 c2,.int .i64 c.e,.bool s3,.slice A3 k3 c3,.int .i64 d.e] 38)
 have hb:=Blk.new w 38 [.bool s0,.slice A0 k0 c0,.int .i64 a.e,.bool s1,.slice A1 k1 c1,.int .i64 b.e,.bool s2,.slice A2 k2 c2,.int .i64 c.e,.bool s3,.slice A3 k3 c3,.int .i64 d.e]
 refine⟨ho,_,rfl,fun n hn=>?_⟩
 obtain rfl|rfl|rfl|rfl:n=0∨n=1∨n=2∨n=3:=by omega
 ·exact⟨s0,A0,k0,c0,hb.cell 0,hb.cell 1,hb.cell 2,h0.out.only ho⟩
 ·exact⟨s1,A1,k1,c1,hb.cell 3,hb.cell 4,hb.cell 5,h1.out.only ho⟩
 ·exact⟨s2,A2,k2,c2,hb.cell 6,hb.cell 7,hb.cell 8,h2.out.only ho⟩
 ·exact⟨s3,A3,k3,c3,hb.cell 9,hb.cell 10,hb.cell 11,h3.out.only ho⟩
set_option maxHeartbeats 8000000 in
set_option maxRecDepth 100000 in
theorem pleast_core {w:World} {g N:Nat} {dv L H:Nat→Dy} (p:Int) (rlo rhi:Dy) (HL1:Hid (dv 0=L 1)) (HH1:Hid (dv 0=H 1)) (HLs:Hid (∀ m,1≤m→m<4→(cmpQ (dv m).q (L m).q<0→dv m=L (m+1))∧(¬ cmpQ (dv m).q (L m).q<0→L m=L (m+1)))) (HHs:Hid (∀ m,1≤m→m<4→(0<cmpQ (dv m).q (H m).q→dv m=H (m+1))∧(¬ 0<cmpQ (dv m).q (H m).q→H m=H (m+1))))
  (HC:Hid (∀ m,m<4→Can (dv m))) (HB:Hid (∀ m,m<4→Bnd N (dv m))) (HBL:Hid (∀ m,1≤m→m≤4→Bnd N (L m))) (HBH:Hid (∀ m,1≤m→m≤4→Bnd N (H m))) (HRL0:Hid (rndD (widthP p) (decide ((0:Int)≤ -1)) (L 4)=rlo)) (HRH0:Hid (rndD (widthP p) (decide ((0:Int)≤1)) (H 4)=rhi)) (hE:Hid (E4 w g dv)) (hN:N≤1000000):
  Calls Tryz.prog 52 #[.slice (some ⟨g,0,none⟩) 4 4,.int .i64 p] w (RBP rlo rhi w):=by
 have HGW:Hid (g<w.heap.size):=by
  obtain⟨s,A,k,c,h0,-,-,-⟩:=hE.out 0 (by omega)
  exact World.block_lt_of_cell? _ _ h0
 have hg:=(GB.start w).new 40 [.bool false,.slice none 0 0,.int .i64 0,.bool false,.slice none 0 0,.int .i64 0] (noLimb6 _ _ _ _ _ _ _ _ _ _)
 have HG:=hid hg
 have HE:=hid (hE.out.only hg.only)
 have HG1:Hid (w.heap.size+1=(w.alloc (.cells #[.bool false,.slice none 0 0,.int .i64 0,.bool false,.slice none 0 0,.int .i64 0] 40)).heap.size):=(World.size_alloc _ _).symm
 clear hg hE
 go_enter Tryz.func52,Tryz.ntmps52
 go_upto_region 1 with fail
 generalize w.alloc _=w1 at*
 obtain⟨s0,A0,k0,c0,z0,z1,z2,hr0⟩:=HE.out 0 (by omega)
 have HR0:=hid hr0
 simp only [Nat.zero_mul,Nat.zero_add] at z0 z1 z2
 clear hr0
 have halr: ∀w:World,(Instr.alloc 38 true (.tuple #[])).run Tryz.prog w= .ok (.pointer (some ⟨w.heap.size,0,none⟩)) (w.alloc (.cells #[.bool false,.slice none 0 0,.int .i64 0] 38)):=fun _=>by kernel_rfl
 go_cut [5,6] from 8 to 13 (fun lv hv wx=> ∃g2 g3:Nat,lv= .pointer (some ⟨g2,0,none⟩)∧hv= .pointer (some ⟨g3,0,none⟩)∧w.heap.size≤g2∧w.heap.size≤g3∧Hid (GB w wx [⟨g3,38,[.bool s0,.slice A0 k0 c0,.int .i64 (dv 0).e]⟩,⟨g2,38,[.bool s0,.slice A0 k0 c0,.int .i64 (dv 0).e]⟩,⟨w.heap.size,40,[.bool false,.slice none 0 0,.int .i64 0,.bool false,.slice none 0 0,.int .i64 0]⟩])∧Hid (RD wx (.agg #[.bool s0,.slice A0 k0 c0,.int .i64 (dv 0).e]) (dv 0))∧Hid (E4 wx g dv))
 case first=>
  rename_i JJ KK hJ hK
  have HJJ:=hid hJ
  have HKK:=hid hK
  clear hJ hK
  have o_:=((Only.refl [] w1).alloc (.cells #[.bool false,.slice none 0 0,.int .i64 0] 38))
  have az0:=o_.cell z0 (by simp)
  have az1:=o_.cell z1 (by simp)
  have az2:=o_.cell z2 (by simp)
  clear o_
  have o_:=((Only.refl [] w1).alloc (.cells #[.bool s0,.slice A0 k0 c0,.int .i64 (dv 0).e] 38))
  have ap0:=o_.cell z0 (by simp)
  have ap1:=o_.cell z1 (by simp)
  have ap2:=o_.cell z2 (by simp)
  clear o_
  have o_:=(((Only.refl [] w1).alloc (.cells #[.bool false,.slice none 0 0,.int .i64 0] 38)).alloc (.cells #[.bool false,.slice none 0 0,.int .i64 0] 38))
  have azz0:=o_.cell z0 (by simp)
  have azz1:=o_.cell z1 (by simp)
  have azz2:=o_.cell z2 (by simp)
  clear o_
  have o_:=(((Only.refl [] w1).alloc (.cells #[.bool false,.slice none 0 0,.int .i64 0] 38)).alloc (.cells #[.bool s0,.slice A0 k0 c0,.int .i64 (dv 0).e] 38))
  have azp0:=o_.cell z0 (by simp)
  have azp1:=o_.cell z1 (by simp)
  have azp2:=o_.cell z2 (by simp)
  clear o_
  have o_:=(((Only.refl [] w1).alloc (.cells #[.bool s0,.slice A0 k0 c0,.int .i64 (dv 0).e] 38)).alloc (.cells #[.bool false,.slice none 0 0,.int .i64 0] 38))
  have apz0:=o_.cell z0 (by simp)
  have apz1:=o_.cell z1 (by simp)
  have apz2:=o_.cell z2 (by simp)
  clear o_
  have hsz:(w1.alloc (.cells #[.bool s0,.slice A0 k0 c0,.int .i64 (dv 0).e] 38)).heap.size=w1.heap.size+1:=World.size_alloc _ _
  have ho2:=(((Only.refl [] w1).alloc (.cells #[.bool s0,.slice A0 k0 c0,.int .i64 (dv 0).e] 38)).alloc (.cells #[.bool s0,.slice A0 k0 c0,.int .i64 (dv 0).e] 38)).drew
  have hg3:=(HG.out.new 38 [.bool s0,.slice A0 k0 c0,.int .i64 (dv 0).e] (noLimb3 _ _ _ _ _)).new 38 [.bool s0,.slice A0 k0 c0,.int .i64 (dv 0).e] (noLimb3 _ _ _ _ _)
  rw [hsz] at hg3
  have HG3:=hid (hg3.step ((Only.refl [] _).drew))
  have HG4:=hid HG3.out.swap
  have HR3:=hid (HR0.out.only ho2)
  have HE3:=hid (HE.out.only ho2)
  have hg8:w.heap.size≤w1.heap.size:=by have:=HG1.out;omega
  have hg9:w.heap.size≤w1.heap.size+1:=by omega
  clear ho2 hg3 hsz
  go_region
  all_goals refine HKK.out _ _ (Met.intro (HJJ.out _ _ ?_))
  all_goals first
   |exact⟨_,_,_,_,_,_,_,_,⟨_,_,rfl,rfl,hg8,hg9,HG3,HR3,HE3⟩,rfl⟩
   |exact⟨_,_,_,_,_,_,_,_,⟨_,_,rfl,rfl,hg9,hg8,HG4,HR3,HE3⟩,rfl⟩
 case rest=>
  obtain⟨gl,gh,rfl,rfl,hgl,hgh,HGa,h0a,HEa⟩:=hcut
  have HGl:Hid (w.heap.size≤gl∧w.heap.size≤gh):=⟨hgl,hgh⟩
  clear HG HE HR0 halr z0 z1 z2 hgl hgh
  go_upto_region 3 with fail
  go_loopw [7] (fun i wr=> ∃(m:Nat) (lo hi:Dy) (s:Bool) (A:Option Addr) (k c:Nat) (t:Bool) (B:Option Addr) (q d:Nat),i= .int .i64 (m:Int)∧1≤m∧m≤4∧L m=lo∧H m=hi∧Hid (GB w wr [⟨gh,38,[.bool t,.slice B q d,.int .i64 hi.e]⟩,⟨gl,38,[.bool s,.slice A k c,.int .i64 lo.e]⟩,⟨w.heap.size,40,[.bool false,.slice none 0 0,.int .i64 0,.bool false,.slice none 0 0,.int .i64 0]⟩])∧Hid (RD wr (.agg #[.bool s,.slice A k c,.int .i64 lo.e]) lo)∧Hid (RD wr (.agg #[.bool t,.slice B q d,.int .i64 hi.e]) hi)∧Hid (E4 wr g dv)) (fun i _=>(4-intOf i).toNat)
  case atStart=>exact⟨1,dv 0,dv 0,_,_,_,_,_,_,_,_,rfl,by omega,by omega,HL1.out.symm,HH1.out.symm,HGa,h0a,h0a,HEa⟩
  case round=>
   obtain⟨m,lo,hi,s,A,k,c,t,B,q,d,rfl,hm1,hm5,hlo,hhi,hG,hLo,hHi,hE⟩:=hrel
   clear HGa h0a HEa
   have HG:=hG
   have HLo:=hLo
   have HHi:=hHi
   have HE:=hE
   clear hG hLo hHi hE
   by_cases hm4:m<4
   ·have hmi:(m:Int)<4:=by omega
    obtain⟨s1,A1,k1,c1,e0,e1,e2,hx⟩:=HE.out m hm4
    have HX:=hid hx
    clear hx
    obtain⟨cm,hcm⟩: ∃z,cmpQ (dv m).q lo.q=z:=⟨_,rfl⟩
    obtain⟨ch,hch⟩: ∃z,cmpQ (dv m).q hi.q=z:=⟨_,rfl⟩
    have HCM:=hid hcm
    have HCH:=hid hch
    have HCM2:Hid (cmpQ (dv m).q (L m).q=cm):=by rw [hlo];exact HCM
    have HCH2:Hid (cmpQ (dv m).q (H m).q=ch):=by rw [hhi];exact HCH
    have HBLm:Hid (Bnd N lo):=by rw [← hlo];exact hid (HBL.out m hm1 (by omega))
    have HBHm:Hid (Bnd N hi):=by rw [← hhi];exact hid (HBH.out m hm1 (by omega))
    have hw1:IntKind.i64.wrap ((m:Int)+1)=(m:Int)+1:=by rw [IntKind.wrap_i64];omega
    clear hcm hch
    go_upto_region 5 with fail
    apply wp_region_typed2 (by kernel_rfl) [isV _,isV _,isV _,isV _,isV _,isV _,isV _] [[],[],[0,1],[2],[],[3,4],[5]] (by kernel_rfl) (by kernel_rfl)
    case ho=>
     refine owes2_cons (fun wx hox=>?_) ?_
     ·skip
      skip
      refine withs_plain rfl ?_
      simp only [withs,List.getElem?_cons_zero,List.getElem?_cons_succ,Option.bind,Option.getD]
      repeat (with_reducible refine all_isV ?_)
      go_simp
      exact⟨Only.refl _ _,isV.self _ _⟩
     refine owes2_cons (fun wx hox=>?_) ?_
     ·skip
      skip
      refine withs_plain rfl ?_
      simp only [withs,List.getElem?_cons_zero,List.getElem?_cons_succ,Option.bind,Option.getD]
      repeat (with_reducible refine all_isV ?_)
      go_simp
      exact⟨Only.refl _ _,isV.self _ _⟩
     refine owes2_cons (fun wx hox=>?_) ?_
     ·skip
      skip
      refine withs_plain rfl ?_
      simp only [withs,List.getElem?_cons_zero,List.getElem?_cons_succ,Option.bind,Option.getD]
      repeat (with_reducible refine all_isV ?_)
      go_simp
      exact⟨Only.refl _ _,isV.self _ _⟩
     refine owes2_cons (fun wx hox=>?_) ?_
     ·skip
      have hk:=hid (HG.out.step hox)
      obtain⟨l0,l1,l2⟩:=GB.c3 hk 1 rfl
      obtain⟨h0,h1,h2⟩:=GB.c3 hk 0 rfl
      have i0:=hox.cell e0 (by simp)
      have i1:=hox.cell e1 (by simp)
      have i2:=hox.cell e2 (by simp)
      refine withs_plain rfl ?_
      simp only [withs,List.getElem?_cons_zero,List.getElem?_cons_succ,Option.bind,Option.getD]
      repeat (with_reducible refine all_isV ?_)
      go_simp
      exact⟨Only.refl _ _,isV.self _ _⟩
     refine owes2_cons (fun wx hox=>?_) ?_
     ·skip
      have hk:=hid (HG.out.step hox)
      obtain⟨l0,l1,l2⟩:=GB.c3 hk 1 rfl
      obtain⟨h0,h1,h2⟩:=GB.c3 hk 0 rfl
      have i0:=hox.cell e0 (by simp)
      have i1:=hox.cell e1 (by simp)
      have i2:=hox.cell e2 (by simp)
      refine withs_plain rfl ?_
      simp only [withs,List.getElem?_cons_zero,List.getElem?_cons_succ,Option.bind,Option.getD]
      repeat (with_reducible refine all_isV ?_)
      go_simp
      exact⟨Only.refl _ _,isV.self _ _⟩
     refine owes2_cons (fun wx hox=>?_) ?_
     ·skip
      have hk:=hid (HG.out.step hox)
      obtain⟨l0,l1,l2⟩:=GB.c3 hk 1 rfl
      obtain⟨h0,h1,h2⟩:=GB.c3 hk 0 rfl
      have i0:=hox.cell e0 (by simp)
      have i1:=hox.cell e1 (by simp)
      have i2:=hox.cell e2 (by simp)
      refine withs_plain rfl ?_
      simp only [withs,List.getElem?_cons_zero,List.getElem?_cons_succ,Option.bind,Option.getD]
      repeat (with_reducible refine all_isV ?_)
      go_simp
      (with_reducible exact grow_of (rcmp_d (x:=dv m) (y:=lo) cm (hid (HX.out.only hox)) (hid (HLo.out.only hox)) (hid (HC.out m hm4)) (hid (HB.out m hm4)) HBLm (by omega) HCM.out))
     refine owes2_cons (fun wx hox=>?_) ?_
     ·skip
      skip
      refine withs_plain rfl ?_
      simp only [withs,List.getElem?_cons_zero,List.getElem?_cons_succ,Option.bind,Option.getD]
      repeat (with_reducible refine all_isV ?_)
      go_simp
      exact⟨Only.refl _ _,isV.self _ _⟩
     exact owes2_nil
    case he=>
     intro wx hox
     refine withs_of (by simp only [List.length,List.range,List.range.loop];exact rfl) ?_
     simp only [withs,List.getElem?_cons_zero,List.getElem?_cons_succ,Option.bind,Option.getD]
     repeat (with_reducible refine all_isV ?_)
     go_simp
     replace HG:=hid (HG.out.step hox)
     replace HLo:=hid (HLo.out.only hox)
     replace HHi:=hid (HHi.out.only hox)
     replace HE:=hid (HE.out.only hox)
     replace HX:=hid (HX.out.only hox)
     replace e0:=hox.cell e0 (by simp)
     replace e1:=hox.cell e1 (by simp)
     replace e2:=hox.cell e2 (by simp)
     clear hox
     clear HCM
     by_cases hlt:cm<0
     ·have hl:=hid ((HLs.out m hm1 hm4).1 (by rw [HCM2.out];omega))
      obtain⟨l0,l1,l2⟩:=GB.c3 HG 1 rfl
      obtain⟨fl0,fl1,fl2⟩:=GB.f3 HG 1 rfl
      go_upto_region 7 with fail
      have hg:=HG.out.put3 (u:= .bool s1) (v:= .slice A1 k1 c1) (x:= .int .i64 (dv m).e) 1 rfl (noLimb3 _ _ _ _ _)
      have hb:=GB.blk HG 1 rfl
      have hn:=GB.nolimb HG 1 rfl
      have hos:=only_set3 wx gl (.bool s1) (.slice A1 k1 c1) (.int .i64 (dv m).e)
      have hx:=HX.out.far hos hb hn
      have hy:=HHi.out.far hos hb hn
      have he:=HE.out.far hos hb hn (by have:=HGW.out;have:=HGl.out;omega)
      have E0:=hos.cell e0 (by have:=HGW.out;have:=HGl.out;simp;omega)
      have E1:=hos.cell e1 (by have:=HGW.out;have:=HGl.out;simp;omega)
      have E2:=hos.cell e2 (by have:=HGW.out;have:=HGl.out;simp;omega)
      clear l0 l1 l2 fl0 fl1 fl2 hb hn hos e0 e1 e2
      clear HG HX HLo HHi HE
      have HG:=hid hg
      have HX:=hid hx
      have HHi:=hid hy
      have HE:=hid he
      have HLo:=HX
      have e0:=E0
      have e1:=E1
      have e2:=E2
      clear hg hx hy he E0 E1 E2
      generalize ((wx.setCell _ _).setCell _ _).setCell _ _=wu at*
      apply wp_region_typed2 (by kernel_rfl) [isV _,isV _,isV _,isV _,isV _,isV _,isV _] [[],[],[0,1],[2],[],[3,4],[5]] (by kernel_rfl) (by kernel_rfl)
      case ho=>
       refine owes2_cons (fun wx hox=>?_) ?_
       ·skip
        skip
        refine withs_plain rfl ?_
        simp only [withs,List.getElem?_cons_zero,List.getElem?_cons_succ,Option.bind,Option.getD]
        repeat (with_reducible refine all_isV ?_)
        go_simp
        exact⟨Only.refl _ _,isV.self _ _⟩
       refine owes2_cons (fun wx hox=>?_) ?_
       ·skip
        skip
        refine withs_plain rfl ?_
        simp only [withs,List.getElem?_cons_zero,List.getElem?_cons_succ,Option.bind,Option.getD]
        repeat (with_reducible refine all_isV ?_)
        go_simp
        exact⟨Only.refl _ _,isV.self _ _⟩
       refine owes2_cons (fun wx hox=>?_) ?_
       ·skip
        skip
        refine withs_plain rfl ?_
        simp only [withs,List.getElem?_cons_zero,List.getElem?_cons_succ,Option.bind,Option.getD]
        repeat (with_reducible refine all_isV ?_)
        go_simp
        exact⟨Only.refl _ _,isV.self _ _⟩
       refine owes2_cons (fun wx hox=>?_) ?_
       ·skip
        have hk:=hid (HG.out.step hox)
        obtain⟨l0,l1,l2⟩:=GB.c3 hk 1 rfl
        obtain⟨h0,h1,h2⟩:=GB.c3 hk 0 rfl
        have i0:=hox.cell e0 (by simp)
        have i1:=hox.cell e1 (by simp)
        have i2:=hox.cell e2 (by simp)
        refine withs_plain rfl ?_
        simp only [withs,List.getElem?_cons_zero,List.getElem?_cons_succ,Option.bind,Option.getD]
        repeat (with_reducible refine all_isV ?_)
        go_simp
        exact⟨Only.refl _ _,isV.self _ _⟩
       refine owes2_cons (fun wx hox=>?_) ?_
       ·skip
        have hk:=hid (HG.out.step hox)
        obtain⟨l0,l1,l2⟩:=GB.c3 hk 1 rfl
        obtain⟨h0,h1,h2⟩:=GB.c3 hk 0 rfl
        have i0:=hox.cell e0 (by simp)
        have i1:=hox.cell e1 (by simp)
        have i2:=hox.cell e2 (by simp)
        refine withs_plain rfl ?_
        simp only [withs,List.getElem?_cons_zero,List.getElem?_cons_succ,Option.bind,Option.getD]
        repeat (with_reducible refine all_isV ?_)
        go_simp
        exact⟨Only.refl _ _,isV.self _ _⟩
       refine owes2_cons (fun wx hox=>?_) ?_
       ·skip
        have hk:=hid (HG.out.step hox)
        obtain⟨l0,l1,l2⟩:=GB.c3 hk 1 rfl
        obtain⟨h0,h1,h2⟩:=GB.c3 hk 0 rfl
        have i0:=hox.cell e0 (by simp)
        have i1:=hox.cell e1 (by simp)
        have i2:=hox.cell e2 (by simp)
        refine withs_plain rfl ?_
        simp only [withs,List.getElem?_cons_zero,List.getElem?_cons_succ,Option.bind,Option.getD]
        repeat (with_reducible refine all_isV ?_)
        go_simp
        (with_reducible exact grow_of (rcmp_d (x:=dv m) (y:=hi) ch (hid (HX.out.only hox)) (hid (HHi.out.only hox)) (hid (HC.out m hm4)) (hid (HB.out m hm4)) HBHm (by omega) HCH.out))
       refine owes2_cons (fun wx hox=>?_) ?_
       ·skip
        skip
        refine withs_plain rfl ?_
        simp only [withs,List.getElem?_cons_zero,List.getElem?_cons_succ,Option.bind,Option.getD]
        repeat (with_reducible refine all_isV ?_)
        go_simp
        exact⟨Only.refl _ _,isV.self _ _⟩
       exact owes2_nil
      case he=>
       intro wx hox
       refine withs_of (by simp only [List.length,List.range,List.range.loop];exact rfl) ?_
       simp only [withs,List.getElem?_cons_zero,List.getElem?_cons_succ,Option.bind,Option.getD]
       repeat (with_reducible refine all_isV ?_)
       go_simp
       replace HG:=hid (HG.out.step hox)
       replace HLo:=hid (HLo.out.only hox)
       replace HHi:=hid (HHi.out.only hox)
       replace HE:=hid (HE.out.only hox)
       replace HX:=hid (HX.out.only hox)
       replace e0:=hox.cell e0 (by simp)
       replace e1:=hox.cell e1 (by simp)
       replace e2:=hox.cell e2 (by simp)
       clear hox
       clear HCH
       by_cases hgt:0<ch
       ·have hh:=hid ((HHs.out m hm1 hm4).1 (by rw [HCH2.out];omega))
        obtain⟨l0,l1,l2⟩:=GB.c3 HG 0 rfl
        obtain⟨fl0,fl1,fl2⟩:=GB.f3 HG 0 rfl
        go_upto_region 4 with fail
        have hg:=HG.out.put3 (u:= .bool s1) (v:= .slice A1 k1 c1) (x:= .int .i64 (dv m).e) 0 rfl (noLimb3 _ _ _ _ _)
        have hb:=GB.blk HG 0 rfl
        have hn:=GB.nolimb HG 0 rfl
        have hos:=only_set3 wx gh (.bool s1) (.slice A1 k1 c1) (.int .i64 (dv m).e)
        have hx:=HX.out.far hos hb hn
        have hy:=HLo.out.far hos hb hn
        have he:=HE.out.far hos hb hn (by have:=HGW.out;have:=HGl.out;omega)
        have E0:=hos.cell e0 (by have:=HGW.out;have:=HGl.out;simp;omega)
        have E1:=hos.cell e1 (by have:=HGW.out;have:=HGl.out;simp;omega)
        have E2:=hos.cell e2 (by have:=HGW.out;have:=HGl.out;simp;omega)
        clear l0 l1 l2 fl0 fl1 fl2 hb hn hos e0 e1 e2
        clear HG HX HHi HLo HE
        have HG:=hid hg
        have HX:=hid hx
        have HLo:=hid hy
        have HE:=hid he
        have HHi:=HX
        have e0:=E0
        have e1:=E1
        have e2:=E2
        clear hg hx hy he E0 E1 E2
        generalize ((wx.setCell _ _).setCell _ _).setCell _ _=wu at*
        clear e0 e1 e2 HX
        go_wp2_with fail
        go_roundw
        case rel=>exact⟨m+1,dv m,dv m,_,_,_,_,_,_,_,_,by go_num,by omega,by omega,hl.out.symm,hh.out.symm,HG,HLo,HHi,HE⟩
        case measure=>simp [intOf];omega
       ·have hh:=hid (hhi▸(HHs.out m hm1 hm4).2 (by rw [HCH2.out];omega))
        clear e0 e1 e2
        go_upto_region 4 with fail
        go_wp2_with fail
        go_roundw
        case rel=>exact⟨m+1,dv m,hi,_,_,_,_,_,_,_,_,by go_num,by omega,by omega,hl.out.symm,hh.out.symm,HG,HLo,HHi,HE⟩
        case measure=>simp [intOf];omega
      case hl=>
       repeat (refine List.forall_mem_cons.2 ⟨?_,?_⟩;exact isV.lasts _)
       exact fun _ h=>(by cases h)
     ·have hl:=hid (hlo▸(HLs.out m hm1 hm4).2 (by rw [HCM2.out];omega))
      go_upto_region 7 with fail
      apply wp_region_typed2 (by kernel_rfl) [isV _,isV _,isV _,isV _,isV _,isV _,isV _] [[],[],[0,1],[2],[],[3,4],[5]] (by kernel_rfl) (by kernel_rfl)
      case ho=>
       refine owes2_cons (fun wx hox=>?_) ?_
       ·skip
        skip
        refine withs_plain rfl ?_
        simp only [withs,List.getElem?_cons_zero,List.getElem?_cons_succ,Option.bind,Option.getD]
        repeat (with_reducible refine all_isV ?_)
        go_simp
        exact⟨Only.refl _ _,isV.self _ _⟩
       refine owes2_cons (fun wx hox=>?_) ?_
       ·skip
        skip
        refine withs_plain rfl ?_
        simp only [withs,List.getElem?_cons_zero,List.getElem?_cons_succ,Option.bind,Option.getD]
        repeat (with_reducible refine all_isV ?_)
        go_simp
        exact⟨Only.refl _ _,isV.self _ _⟩
       refine owes2_cons (fun wx hox=>?_) ?_
       ·skip
        skip
        refine withs_plain rfl ?_
        simp only [withs,List.getElem?_cons_zero,List.getElem?_cons_succ,Option.bind,Option.getD]
        repeat (with_reducible refine all_isV ?_)
        go_simp
        exact⟨Only.refl _ _,isV.self _ _⟩
       refine owes2_cons (fun wx hox=>?_) ?_
       ·skip
        have hk:=hid (HG.out.step hox)
        obtain⟨l0,l1,l2⟩:=GB.c3 hk 1 rfl
        obtain⟨h0,h1,h2⟩:=GB.c3 hk 0 rfl
        have i0:=hox.cell e0 (by simp)
        have i1:=hox.cell e1 (by simp)
        have i2:=hox.cell e2 (by simp)
        refine withs_plain rfl ?_
        simp only [withs,List.getElem?_cons_zero,List.getElem?_cons_succ,Option.bind,Option.getD]
        repeat (with_reducible refine all_isV ?_)
        go_simp
        exact⟨Only.refl _ _,isV.self _ _⟩
       refine owes2_cons (fun wx hox=>?_) ?_
       ·skip
        have hk:=hid (HG.out.step hox)
        obtain⟨l0,l1,l2⟩:=GB.c3 hk 1 rfl
        obtain⟨h0,h1,h2⟩:=GB.c3 hk 0 rfl
        have i0:=hox.cell e0 (by simp)
        have i1:=hox.cell e1 (by simp)
        have i2:=hox.cell e2 (by simp)
        refine withs_plain rfl ?_
        simp only [withs,List.getElem?_cons_zero,List.getElem?_cons_succ,Option.bind,Option.getD]
        repeat (with_reducible refine all_isV ?_)
        go_simp
        exact⟨Only.refl _ _,isV.self _ _⟩
       refine owes2_cons (fun wx hox=>?_) ?_
       ·skip
        have hk:=hid (HG.out.step hox)
        obtain⟨l0,l1,l2⟩:=GB.c3 hk 1 rfl
        obtain⟨h0,h1,h2⟩:=GB.c3 hk 0 rfl
        have i0:=hox.cell e0 (by simp)
        have i1:=hox.cell e1 (by simp)
        have i2:=hox.cell e2 (by simp)
        refine withs_plain rfl ?_
        simp only [withs,List.getElem?_cons_zero,List.getElem?_cons_succ,Option.bind,Option.getD]
        repeat (with_reducible refine all_isV ?_)
        go_simp
        (with_reducible exact grow_of (rcmp_d (x:=dv m) (y:=hi) ch (hid (HX.out.only hox)) (hid (HHi.out.only hox)) (hid (HC.out m hm4)) (hid (HB.out m hm4)) HBHm (by omega) HCH.out))
       refine owes2_cons (fun wx hox=>?_) ?_
       ·skip
        skip
        refine withs_plain rfl ?_
        simp only [withs,List.getElem?_cons_zero,List.getElem?_cons_succ,Option.bind,Option.getD]
        repeat (with_reducible refine all_isV ?_)
        go_simp
        exact⟨Only.refl _ _,isV.self _ _⟩
       exact owes2_nil
      case he=>
       intro wx hox
       refine withs_of (by simp only [List.length,List.range,List.range.loop];exact rfl) ?_
       simp only [withs,List.getElem?_cons_zero,List.getElem?_cons_succ,Option.bind,Option.getD]
       repeat (with_reducible refine all_isV ?_)
       go_simp
       replace HG:=hid (HG.out.step hox)
       replace HLo:=hid (HLo.out.only hox)
       replace HHi:=hid (HHi.out.only hox)
       replace HE:=hid (HE.out.only hox)
       replace HX:=hid (HX.out.only hox)
       replace e0:=hox.cell e0 (by simp)
       replace e1:=hox.cell e1 (by simp)
       replace e2:=hox.cell e2 (by simp)
       clear hox
       clear HCH
       by_cases hgt:0<ch
       ·have hh:=hid ((HHs.out m hm1 hm4).1 (by rw [HCH2.out];omega))
        obtain⟨l0,l1,l2⟩:=GB.c3 HG 0 rfl
        obtain⟨fl0,fl1,fl2⟩:=GB.f3 HG 0 rfl
        go_upto_region 4 with fail
        have hg:=HG.out.put3 (u:= .bool s1) (v:= .slice A1 k1 c1) (x:= .int .i64 (dv m).e) 0 rfl (noLimb3 _ _ _ _ _)
        have hb:=GB.blk HG 0 rfl
        have hn:=GB.nolimb HG 0 rfl
        have hos:=only_set3 wx gh (.bool s1) (.slice A1 k1 c1) (.int .i64 (dv m).e)
        have hx:=HX.out.far hos hb hn
        have hy:=HLo.out.far hos hb hn
        have he:=HE.out.far hos hb hn (by have:=HGW.out;have:=HGl.out;omega)
        have E0:=hos.cell e0 (by have:=HGW.out;have:=HGl.out;simp;omega)
        have E1:=hos.cell e1 (by have:=HGW.out;have:=HGl.out;simp;omega)
        have E2:=hos.cell e2 (by have:=HGW.out;have:=HGl.out;simp;omega)
        clear l0 l1 l2 fl0 fl1 fl2 hb hn hos e0 e1 e2
        clear HG HX HHi HLo HE
        have HG:=hid hg
        have HX:=hid hx
        have HLo:=hid hy
        have HE:=hid he
        have HHi:=HX
        have e0:=E0
        have e1:=E1
        have e2:=E2
        clear hg hx hy he E0 E1 E2
        generalize ((wx.setCell _ _).setCell _ _).setCell _ _=wu at*
        clear e0 e1 e2 HX
        go_wp2_with fail
        go_roundw
        case rel=>exact⟨m+1,lo,dv m,_,_,_,_,_,_,_,_,by go_num,by omega,by omega,hl.out.symm,hh.out.symm,HG,HLo,HHi,HE⟩
        case measure=>simp [intOf];omega
       ·have hh:=hid (hhi▸(HHs.out m hm1 hm4).2 (by rw [HCH2.out];omega))
        clear e0 e1 e2
        go_upto_region 4 with fail
        go_wp2_with fail
        go_roundw
        case rel=>exact⟨m+1,lo,hi,_,_,_,_,_,_,_,_,by go_num,by omega,by omega,hl.out.symm,hh.out.symm,HG,HLo,HHi,HE⟩
        case measure=>simp [intOf];omega
      case hl=>
       repeat (refine List.forall_mem_cons.2 ⟨?_,?_⟩;exact isV.lasts _)
       exact fun _ h=>(by cases h)
    case hl=>
     repeat (refine List.forall_mem_cons.2 ⟨?_,?_⟩;exact isV.lasts _)
     exact fun _ h=>(by cases h)
   ·have hm4:m=4:=by omega
    subst hm4
    have HRL:Hid (rndD (widthP p) (decide ((0:Int)≤ -1)) lo=rlo):=by rw [← hlo];exact HRL0
    have HRH:Hid (rndD (widthP p) (decide ((0:Int)≤1)) hi=rhi):=by rw [← hhi];exact HRH0
    have HBLm:Hid (Bnd N lo):=by rw [← hlo];exact hid (HBL.out 4 (by omega) (by omega))
    have HBHm:Hid (Bnd N hi):=by rw [← hhi];exact hid (HBH.out 4 (by omega) (by omega))
    clear hlo hhi HRL0 HRH0
    go_upto_region 9 with fail
    apply wp_region_typed_tail2 6 (by kernel_rfl) [isV _,isV _,isRD rlo,isV _,isV _,isRD rhi] [[],[],[0,1],[],[],[3,4]] (by kernel_rfl) (by kernel_rfl) (by kernel_rfl)
    case ho=>
     simp only [List.take_succ_cons,List.take_zero]
     iterate 6
      refine owes2_cons (fun wx hox=>?_) ?_
      ·skip
       have hk:=hid (HG.out.step hox)
       obtain⟨l0,l1,l2⟩:=GB.c3 hk 1 rfl
       obtain⟨h0,h1,h2⟩:=GB.c3 hk 0 rfl
       refine withs_plain rfl ?_
       simp only [withs,List.getElem?_cons_zero,List.getElem?_cons_succ,Option.bind,Option.getD]
       with_reducible repeat first|refine all_isV ?_|(refine all_isRD ?_;intro sx Ax kx cx hvx hwx)
       go_simp
       first
       |exact⟨Only.refl _ _,isV.self _ _⟩
       |with_reducible exact grow_rd (rround_d p (-1) rlo HRL.out (hid (HLo.out.only hox)) HBLm (by omega))
       |with_reducible exact grow_rd (rround_d p 1 rhi HRH.out (hid (HHi.out.only hox)) HBHm (by omega))
     exact owes2_nil
    case he=>
     simp only [List.drop_succ_cons,List.drop_zero]
     intro wx hox
     refine withs_of (by simp only [List.length,List.range,List.range.loop];exact rfl) ?_
     simp only [withs,List.getElem?_cons_zero,List.getElem?_cons_succ,Option.bind,Option.getD]
     with_reducible refine all_isV ?_
     with_reducible refine all_isV ?_
     with_reducible refine all_isRD ?_
     intro s2 A2 k2 c2 hv2 hw2
     with_reducible refine all_isV ?_
     with_reducible refine all_isV ?_
     with_reducible refine all_isRD ?_
     intro s5 A5 k5 c5 hv5 hw5
     go_simp
     replace HG:=hid (HG.out.step hox)
     clear hox
     obtain⟨q0,q1,q2,q3,q4,q5⟩:=GB.c6 HG 2 rfl
     obtain⟨f0,f1,f2,f3,f4,f5⟩:=GB.f6 HG 2 rfl
     go_wp2_with fail
     refine bodyPost_ret (v:= .agg #[.bool s2,.slice A2 k2 c2,.int .i64 (rlo.e),.bool s5,.slice A5 k5 c5,.int .i64 (rhi.e)]) (by simp [results,Tryz.results52,go_sem,q0,q1,q2,q3,q4,q5]) rfl ?_
     exact rbfin hw2 hv2 hw5 hv5 (by omega) (GB.blk HG 2 rfl) (noLimb6 _ _ _ _ _ _ _ _ _ _) HG.out.only (only_set6 _ _ _ _ _ _ _ _)
    case hl=>
     repeat (refine List.forall_mem_cons.2 ⟨?_,?_⟩;first|exact isV.lasts _|exact isRD.lasts _)
     exact fun _ h=>(by cases h)
theorem rbfin2 {x y:Dy} {w w1 w2:World} {b:Nat} {t:TypeId} {cs:List Value} {s s':Bool} {A A':Option Addr} {k c k' c':Nat} (h:Hid (RD w1 (.agg #[.bool s,.slice A k c,.int .i64 x.e]) x)) (h':Hid (RD w1 (.agg #[.bool s',.slice A' k' c',.int .i64 y.e]) y)) (hb:w.heap.size≤b) (hB:Blk w1 b t cs) (hn:NoLimb cs) (ho:Only [] w w1) (ho2:Only [b] w1 w2):
  RBP x y w (.returned (.agg #[.bool s,.slice A k c,.int .i64 x.e,.bool s',.slice A' k' c',.int .i64 y.e])) w2:=
 rbfin (hid (rd_parts h.out).1) (hid (rd_parts h.out).2) (hid (rd_parts h'.out).1) (hid (rd_parts h'.out).2) hb hB hn ho ho2
def min4 (a b c d:Dy):Nat→Dy|0=>a|1=>a|2=>minD a b|3=>minD (minD a b) c|_=>minD (minD (minD a b) c) d
def max4 (a b c d:Dy):Nat→Dy|0=>a|1=>a|2=>maxD a b|3=>maxD (maxD a b) c|_=>maxD (maxD (maxD a b) c) d
theorem pleast_b {w:World} {g N:Nat} (p:Int) (a b c d rlo rhi:Dy) (hlo:rndD (widthP p) false (minD (minD (minD a b) c) d)=rlo) (hhi:rndD (widthP p) true (maxD (maxD (maxD a b) c) d)=rhi) (hE:Hid (E4 w g (d4 a b c d))) (ca:Hid (Can a)) (cb:Hid (Can b)) (cc:Hid (Can c)) (cd:Hid (Can d)) (ba:Hid (Bnd N a)) (bb:Hid (Bnd N b)) (bc:Hid (Bnd N c)) (bd:Hid (Bnd N d)) (hN:N≤1000000):
  Calls Tryz.prog 52 #[.slice (some ⟨g,0,none⟩) 4 4,.int .i64 p] w (RBP rlo rhi w):=by
 have l2:=minD_bnd ba.out bb.out
 have l3:=minD_bnd l2 bc.out
 have l4:=minD_bnd l3 bd.out
 have h2:=maxD_bnd ba.out bb.out
 have h3:=maxD_bnd h2 bc.out
 have h4:=maxD_bnd h3 bd.out
 refine pleast_core (L:=min4 a b c d) (H:=max4 a b c d) p rlo rhi (hid rfl) (hid rfl) (hid fun m h1 hm=>?_) (hid fun m h1 hm=>?_) (hid fun m hm=>?_) (hid fun m hm=>?_) (hid fun m h1 hm=>?_) (hid fun m h1 hm=>?_) (hid hlo) (hid hhi) hE hN
 ·obtain rfl|rfl|rfl:m=1∨m=2∨m=3:=by omega
  ·exact minD_pick a b
  ·exact minD_pick (minD a b) c
  ·exact minD_pick (minD (minD a b) c) d
 ·obtain rfl|rfl|rfl:m=1∨m=2∨m=3:=by omega
  ·exact maxD_pick a b
  ·exact maxD_pick (maxD a b) c
  ·exact maxD_pick (maxD (maxD a b) c) d
 ·obtain rfl|rfl|rfl|rfl:m=0∨m=1∨m=2∨m=3:=by omega
  ·exact ca.out
  ·exact cb.out
  ·exact cc.out
  ·exact cd.out
 ·obtain rfl|rfl|rfl|rfl:m=0∨m=1∨m=2∨m=3:=by omega
  ·exact ba.out
  ·exact bb.out
  ·exact bc.out
  ·exact bd.out
 ·obtain rfl|rfl|rfl|rfl:m=1∨m=2∨m=3∨m=4:=by omega
  ·exact ba.out
  ·exact l2
  ·exact l3
  ·exact l4
 ·obtain rfl|rfl|rfl|rfl:m=1∨m=2∨m=3∨m=4:=by omega
  ·exact ba.out
  ·exact h2
  ·exact h3
  ·exact h4
set_option maxHeartbeats 8000000 in
set_option maxRecDepth 100000 in
theorem pmul_b {w:World} {a b:Value} {x y u v:Dy} {N M:Nat} (p:Int) (e0 e1 e2 e3 lo hi:Dy) (HE0:Hid (dMul x u=e0)) (HE1:Hid (dMul x v=e1)) (HE2:Hid (dMul y u=e2)) (HE3:Hid (dMul y v=e3)) (CE0:Hid (Can e0)) (BE0:Hid (Bnd M e0)) (CE1:Hid (Can e1)) (BE1:Hid (Bnd M e1)) (CE2:Hid (Can e2)) (BE2:Hid (Bnd M e2)) (CE3:Hid (Can e3)) (BE3:Hid (Bnd M e3)) (HLo:Hid (rndD (widthP p) false (minD (minD (minD e0 e1) e2) e3)=lo)) (HHi:Hid (rndD (widthP p) true (maxD (maxD (maxD e0 e1) e2) e3)=hi)) (ha:Hid (RBV w a x y)) (hb:Hid (RBV w b u v)) (BX1:Hid (Bnd N x)) (BX2:Hid (Bnd N y)) (BY1:Hid (Bnd N u)) (BY2:Hid (Bnd N v)) (hN:N≤1000000) (hM:M≤1000000):Calls Tryz.prog 25 #[a,b,.int .i64 p] w (RBP lo hi w):=by
 obtain⟨s1,A1,k1,c1,t1,B1,m1,d1,rfl,hx1,hy1⟩:=ha.out
 obtain⟨s2,A2,k2,c2,t2,B2,m2,d2,rfl,hx2,hy2⟩:=hb.out
 have hk:=(((KB.start w).new 40 [.bool s1,.slice A1 k1 c1,.int .i64 x.e,.bool t1,.slice B1 m1 d1,.int .i64 y.e]).new 40 [.bool s2,.slice A2 k2 c2,.int .i64 u.e,.bool t2,.slice B2 m2 d2,.int .i64 v.e]).new 40 [.bool false,.slice none 0 0,.int .i64 0,.bool false,.slice none 0 0,.int .i64 0]
 simp only [World.size_alloc] at hk
 have HX1:=hid (hx1.only hk.only)
 have HX2:=hid (hy1.only hk.only)
 have HY1:=hid (hx2.only hk.only)
 have HY2:=hid (hy2.only hk.only)
 have HK:=hid hk
 clear hk hx1 hy1 hx2 hy2 ha hb
 go_enter Tryz.func25,Tryz.ntmps25
 go_upto_region 1 with fail
 apply wp_region_typed_tail2 23 (by kernel_rfl) [isV _,isV _,isV _,isV _,isRD e0,isV _,isV _,isV _,isV _,isRD e1,isV _,isV _,isV _,isV _,isRD e2,isV _,isV _,isV _,isV _,isRD e3,isE4 (d4 e0 e1 e2 e3),isV _,isRB lo hi] [[],[0],[],[2],[1,3],[],[5],[],[7],[6,8],[],[10],[],[12],[11,13],[],[15],[],[17],[16,18],[4,9,14,19],[],[20,21]] (by kernel_rfl) (by kernel_rfl) (by kernel_rfl)
 case ho=>
  simp only [List.take_succ_cons,List.take_zero]
  iterate 23
   refine owes2_cons (fun wx hox=>?_) ?_
   ·skip
    have hk:=HK.out.step hox
    obtain⟨i0,i1,i2,i3,i4,i5⟩:=hk.c6 2 rfl
    obtain⟨j0,j1,j2,j3,j4,j5⟩:=hk.c6 1 rfl
    clear hk
    refine withs_plain rfl ?_
    simp only [withs,List.getElem?_cons_zero,List.getElem?_cons_succ,Option.bind,Option.getD]
    with_reducible repeat first|refine all_isV ?_|(refine all_isRD ?_;intro sx Ax kx cx hvx hwx)|(refine all_isRB ?_;intro sx Ax kx cx tx Bx mx dx hvx hwx)|(refine all_isE4 ?_;intro gx hvx)
    go_simp
    first
    |exact⟨Only.refl _ _,isV.self _ _⟩
    |with_reducible exact grow_rd (rmulB_d e0 HE0.out (hid (HX1.out.only hox)) (hid (HY1.out.only hox)) BX1 BY1 (by omega))
    |with_reducible exact grow_rd (rmulB_d e1 HE1.out (hid (HX1.out.only hox)) (hid (HY2.out.only hox)) BX1 BY2 (by omega))
    |with_reducible exact grow_rd (rmulB_d e2 HE2.out (hid (HX2.out.only hox)) (hid (HY1.out.only hox)) BX2 BY1 (by omega))
    |with_reducible exact grow_rd (rmulB_d e3 HE3.out (hid (HX2.out.only hox)) (hid (HY2.out.only hox)) BX2 BY2 (by omega))
    |exact isE4.new (RD.of (by assumption) (by assumption)) (RD.of (by assumption) (by assumption)) (RD.of (by assumption) (by assumption)) (RD.of (by assumption) (by assumption))
    |with_reducible exact grow_rb (pleast_b p e0 e1 e2 e3 lo hi HLo.out HHi.out (by assumption) CE0 CE1 CE2 CE3 BE0 BE1 BE2 BE3 hM)
  exact owes2_nil
 case he=>
  simp only [List.drop_succ_cons,List.drop_zero]
  intro wx hox
  refine withs_of (by simp only [List.length,List.range,List.range.loop];exact rfl) ?_
  simp only [withs,List.getElem?_cons_zero,List.getElem?_cons_succ,Option.bind,Option.getD]
  with_reducible refine all_isV ?_
  with_reducible refine all_isV ?_
  with_reducible refine all_isV ?_
  with_reducible refine all_isV ?_
  with_reducible refine all_isRD ?_
  intro s4 A4 k4 c4 hv4 hw4
  with_reducible refine all_isV ?_
  with_reducible refine all_isV ?_
  with_reducible refine all_isV ?_
  with_reducible refine all_isV ?_
  with_reducible refine all_isRD ?_
  intro s9 A9 k9 c9 hv9 hw9
  with_reducible refine all_isV ?_
  with_reducible refine all_isV ?_
  with_reducible refine all_isV ?_
  with_reducible refine all_isV ?_
  with_reducible refine all_isRD ?_
  intro s14 A14 k14 c14 hv14 hw14
  with_reducible refine all_isV ?_
  with_reducible refine all_isV ?_
  with_reducible refine all_isV ?_
  with_reducible refine all_isV ?_
  with_reducible refine all_isRD ?_
  intro s19 A19 k19 c19 hv19 hw19
  with_reducible refine all_isE4 ?_
  intro g20 hv20
  with_reducible refine all_isV ?_
  with_reducible refine all_isRB ?_
  intro s22 A22 k22 c22 t22 B22 m22 d22 hv22 hw22
  go_simp
  have hk:=HK.out.step hox
  obtain⟨q0,q1,q2,q3,q4,q5⟩:=hk.c6 0 rfl
  obtain⟨f0,f1,f2,f3,f4,f5⟩:=hk.f6 0 rfl
  have HB:=hid (hk.blk 0 rfl)
  have HO:=hid hk.only
  clear hk hox HK
  go_wp2_with fail
  refine bodyPost_ret (v:= .agg #[.bool s22,.slice A22 k22 c22,.int .i64 (lo.e),.bool t22,.slice B22 m22 d22,.int .i64 (hi.e)]) (by simp [results,Tryz.results25,go_sem,q0,q1,q2,q3,q4,q5]) rfl ?_
  exact rbfin2 hv22 hw22 (by omega) HB.out (noLimb6 _ _ _ _ _ _ _ _ _ _) HO.out (only_set6 _ _ _ _ _ _ _ _)
 case hl=>
  repeat (refine List.forall_mem_cons.2 ⟨?_,?_⟩;first|exact isV.lasts _|exact isRD.lasts _|exact isRB.lasts _ _|exact isE4.lasts _)
  exact fun _ h=>(by cases h)
end Go.Proofs.YtigpnopeacicpaaGreatDoor
