import Derived.Test.YtigpnopeacicpaaGreatDoorTcGWhB
import Derived.Test.YtigpnopeacicpaaGreatDoorTcGDyP
import Derived.Test.YtigpnopeacicpaaGreatDoorTcGTyp
namespace Go.Proofs.YtigpnopeacicpaaGreatDoor
open Go.Lib (hid)
set_option linter.unusedSimpArgs false
open Go.RowKit
def DV (w:World) (v:Value) (x:Dy):Prop:= ∃s A k c,v= .agg #[.bool s,.slice A k c,.int .i64 x.e]∧IV w (.agg #[.bool s,.slice A k c]) x.z
theorem DV.only {w w':World} {v:Value} {x:Dy} (h:DV w v x) (ho:Only [] w w'):DV w' v x:=by
 obtain⟨s,A,k,c,h1,h2⟩:=h
 exact⟨s,A,k,c,h1,h2.only ho⟩
def isD (x:Dy):VP:=fun u w=> ∃s A k c,u= .agg #[.bool s,.slice A k c,.int .i64 x.e]∧s=decide (x.z<0)∧k=(limbsOf x.z.natAbs).length∧IV w (.agg #[.bool s,.slice A k c]) x.z
theorem isD.lasts (x:Dy):Lasts (isD x):=fun _ _ _ ⟨s,A,k,c,h1,h2,h3,h4⟩ ho=>⟨s,A,k,c,h1,h2,h3,h4.only ho⟩
theorem isD.dv {w:World} {v:Value} {x:Dy} (h:isD x v w):DV w v x:=by
 obtain⟨s,A,k,c,h1,_,_,h4⟩:=h
 exact⟨s,A,k,c,h1,h4⟩
def DPost (x:Dy) (w:World) (e:Ending) (w':World):Prop:= ∃s A k c,e= .returned (.agg #[.bool s,.slice A k c,.int .i64 x.e])∧s=decide (x.z<0)∧k=(limbsOf x.z.natAbs).length∧IV w' (.agg #[.bool s,.slice A k c]) x.z∧Only [] w w'
theorem grow_d {f:FuncId} {args:Array Value} {w:World} {x:Dy} (h:Calls Tryz.prog f args w (DPost x w)):
  Calls Tryz.prog f args w fun e w''=> ∃u,e= .returned u∧Only [] w w''∧isD x u w'':=
 h.mono fun _ _ ⟨s,A,k,c,he,hs,hk,hv,ho2⟩=>⟨_,he,ho2,s,A,k,c,rfl,hs,hk,hv⟩
def Cn (s:Bool) (k:Nat) (z:Int):Prop:=s=decide (z<0)∧k=(limbsOf z.natAbs).length
theorem all_isD {x:Dy} {w:World} {K:Value→Prop} (h: ∀s A k c,Hid (IV w (.agg #[.bool s,.slice A k c]) x.z)→Hid (Cn s k x.z)→K (.agg #[.bool s,.slice A k c,.int .i64 x.e])): ∀v,isD x v w→K v:=fun v ⟨s,A,k,c,h1,h2,h3,h4⟩=>by
 subst h1
 exact h s A k c h4 ⟨h2,h3⟩
theorem isD.of {x:Dy} {w:World} {s:Bool} {A:Option Addr} {k c:Nat} (h:Hid (IV w (.agg #[.bool s,.slice A k c]) x.z)) (hc:Hid (Cn s k x.z)):isD x (.agg #[.bool s,.slice A k c,.int .i64 x.e]) w:=⟨s,A,k,c,rfl,hc.out.1,hc.out.2,h.out⟩
def isWC (z:Int):VP:=fun u w=> ∃s A k c,u= .agg #[.bool s,.slice A k c]∧Cn s k z∧IV w u z
theorem isWC.lasts (z:Int):Lasts (isWC z):=fun _ _ _ ⟨s,A,k,c,h1,h2,h4⟩ ho=>⟨s,A,k,c,h1,h2,h4.only ho⟩
theorem all_isWC {z:Int} {w:World} {K:Value→Prop} (h: ∀s A k c,Hid (IV w (.agg #[.bool s,.slice A k c]) z)→Hid (Cn s k z)→K (.agg #[.bool s,.slice A k c])): ∀v,isWC z v w→K v:=fun v ⟨s,A,k,c,h1,h2,h4⟩=>by
 subst h1
 exact h s A k c h4 h2
theorem grow_wc {f:FuncId} {args:Array Value} {w0 w:World} {z:Int} (h:Calls Tryz.prog f args w (WPost z w0 w)):
  Calls Tryz.prog f args w fun e w''=> ∃u,e= .returned u∧Only [] w w''∧isWC z u w'':=
 h.mono fun _ _ ⟨s,A,k,c,he,hs,hr,hv,ho2⟩=>⟨_,he,ho2,s,A,k,c,rfl,⟨hs,hr.len⟩,hv⟩
theorem all_isNR {w0:World} {n:Nat} {w:World} {K:Value→Prop} (h: ∀A k c,Hid (NV w (.slice A k c) n)→K (.slice A k c)): ∀v,isNR w0 n v w→K v:=fun v ⟨A,k,c,h1,h2,h3⟩=>by
 subst h1
 exact h A k c h3
def isNV (n:Nat):VP:=fun u w=> ∃A k c,u= .slice A k c∧NV w u n
theorem isNV.lasts (n:Nat):Lasts (isNV n):=fun _ _ _ ⟨A,k,c,h1,h3⟩ ho=>⟨A,k,c,h1,h3.only ho⟩
theorem all_isNV {n:Nat} {w:World} {K:Value→Prop} (h: ∀A k c,Hid (NV w (.slice A k c) n)→K (.slice A k c)): ∀v,isNV n v w→K v:=fun v ⟨A,k,c,h1,h3⟩=>by
 subst h1
 exact h A k c h3
def isDV (x:Dy):VP:=fun u w=>DV w u x
theorem isDV.lasts (x:Dy):Lasts (isDV x):=fun _ _ _ h ho=>h.only ho
theorem all_isDV {x:Dy} {w:World} {K:Value→Prop} (h: ∀s A k c,Hid (IV w (.agg #[.bool s,.slice A k c]) x.z)→K (.agg #[.bool s,.slice A k c,.int .i64 x.e])): ∀v,isDV x v w→K v:=fun v ⟨s,A,k,c,h1,h4⟩=>by
 subst h1
 exact h s A k c h4
def NoLimb (cs:List Value):Prop:= ∀(o:Nat) (n:Int),cs[o]? ≠some (.int .u64 n)
theorem IV.far_blk {w:World} {s:Bool} {A:Option Addr} {k c g:Nat} {z:Int} {t:TypeId} {cs:List Value} (h:IV w (.agg #[.bool s,.slice A k c]) z) (hb:Blk w g t cs) (hn:NoLimb cs):Far g A k:=fun hk p hp hc=>by
 obtain⟨A1,c1,xs,e,h2,h3,h4,h5⟩:=h.mag
 injection e with e1 e2 e3
 subst e1 e2
 obtain⟨b,o,e2,hcell⟩:=h2.read 0 hk
 rw [hp] at e2
 injection e2 with e2
 subst e2
 simp only at hc
 subst hc
 rw [hb.cell] at hcell
 exact hn _ _ hcell
theorem noLimb3 (s:Bool) (A:Option Addr) (k c:Nat) (e:Int):NoLimb [.bool s,.slice A k c,.int .i64 e]:=fun o n h=>by
 rcases o with _|_|_|o<;>simp at h
structure EB where
 g:Nat
 t:TypeId
 cs:List Value
structure KB (w0 w:World) (L:List EB):Prop where
 only:Only [] w0 w
 all: ∀(i:Nat) (x:EB),L[i]? =some x→Blk w x.g x.t x.cs
theorem KB.start (w:World):KB w w []:=⟨Only.refl _ _,fun i x h=>by simp at h⟩
theorem KB.step {w0 w w':World} {L:List EB} (h:KB w0 w L) (ho:Only [] w w'):KB w0 w' L:=⟨h.only.nil_trans ho,fun i x hx=>(h.all i x hx).only ho (by simp)⟩
theorem KB.new {w0 w:World} {L:List EB} (h:KB w0 w L) (t:TypeId) (cs:List Value):KB w0 (w.alloc (.cells cs.toArray t)) (⟨w.heap.size,t,cs⟩::L):=
 ⟨h.only.alloc _,fun i x hx=>by
  rcases i with _|i
  ·obtain rfl:=Option.some.inj hx
   exact Blk.new w t cs
  ·exact (h.all i x hx).alloc _⟩
theorem KB.blk {w0 w:World} {L:List EB} (h:KB w0 w L) (i:Nat) {g:Nat} {t:TypeId} {cs:List Value} (hi:L[i]? =some ⟨g,t,cs⟩):Blk w g t cs:=h.all i _ hi
theorem KB.c2 {w0 w:World} {L:List EB} (h:KB w0 w L) (i:Nat) {g:Nat} {t:TypeId} {u v:Value} (hi:L[i]? =some ⟨g,t,[u,v]⟩):
  w.cell? ⟨g,0,none⟩=some u∧w.cell? ⟨g,1,none⟩=some v∧w.frozen? ⟨g,0,none⟩=false∧w.frozen? ⟨g,1,none⟩=false:=
 ⟨(h.blk i hi).cell 0,(h.blk i hi).cell 1,(h.blk i hi).frozen 0,(h.blk i hi).frozen 1⟩
theorem KB.c3 {w0 w:World} {L:List EB} (h:KB w0 w L) (i:Nat) {g:Nat} {t:TypeId} {u v x:Value} (hi:L[i]? =some ⟨g,t,[u,v,x]⟩):
  w.cell? ⟨g,0,none⟩=some u∧w.cell? ⟨g,1,none⟩=some v∧w.cell? ⟨g,2,none⟩=some x∧w.frozen? ⟨g,0,none⟩=false∧w.frozen? ⟨g,1,none⟩=false∧w.frozen? ⟨g,2,none⟩=false:=
 ⟨(h.blk i hi).cell 0,(h.blk i hi).cell 1,(h.blk i hi).cell 2,(h.blk i hi).frozen 0,(h.blk i hi).frozen 1,(h.blk i hi).frozen 2⟩
theorem only_set3 (w:World) (b:Nat) (x y u:Value):Only [b] w (((w.setCell ⟨b,0,none⟩ x).setCell ⟨b,1,none⟩ y).setCell ⟨b,2,none⟩ u):=(((Only.refl [b] w).setCell (.inl (by simp)) x).setCell (.inl (by simp)) y).setCell (.inl (by simp)) u
theorem dfin {x:Dy} {w w1 w2:World} {b:Nat} {t:TypeId} {cs:List Value} {s:Bool} {A:Option Addr} {k c:Nat} (hc:Hid (Cn s k x.z)) (hv:Hid (IV w1 (.agg #[.bool s,.slice A k c]) x.z)) (hb:w.heap.size≤b) (hB:Blk w1 b t cs) (hn:NoLimb cs) (ho:Only [] w w1) (ho2:Only [b] w1 w2):
  DPost x w (.returned (.agg #[.bool s,.slice A k c,.int .i64 x.e])) w2:=
 ⟨s,A,k,c,rfl,hc.out.1,hc.out.2,hv.out.farS ho2 (fun g hg=>by rw [List.mem_singleton] at hg;subst hg;exact hv.out.far_blk hB hn),ho.trans ho2 (fun k hk=> .inr (by simp at hk;omega))⟩
set_option maxHeartbeats 800000 in
theorem right_d {w:World} {a:Value} {n:Nat} (k:Nat) (hk:(k:Int)≤16777216) (ha:Hid (NV w a n)):Calls Tryz.prog 86 #[a,.int .i64 (k:Int)] w (NPostV (n/2^k) w w):=by
 have hf:Hid (Few (shlN n (-(k:Int)))):=by show Few _;rw [shlN_down n k hk];exact ha.out.few.le (Nat.div_le_self _ _)
 have HS:=hid (shlN_down n k hk)
 go_enter Tryz.func86,Tryz.ntmps86
 go_wp2_with fail
 refine wp_loop_rounds 1 ?_
 rw [rounds_succ]
 go_wp2_with fail
 (with_reducible refine (shr_v _ ha hf).mono ?_)
 rintro e w1 ⟨A1,k1,c1,rfl,hr,hv,ho⟩
 rw [HS.out] at hr hv
 have HR:=hid hr
 have HV:=hid hv
 have HO:=hid ho
 clear hr hv ho
 go_wp2_with fail
 go_ret
 exact⟨A1,k1,c1,rfl,HR.out,HV.out,HO.out⟩
set_option maxHeartbeats 800000 in
theorem left_d {w:World} {a:Value} {n:Nat} (k:Nat) (hk:(k:Int)≤16777216) (ha:Hid (NV w a n)) (hf:Hid (Few (n*2^k))):Calls Tryz.prog 84 #[a,.int .i64 (k:Int)] w (NPostV (n*2^k) w w):=by
 have hf2:Hid (Few (shlN n (k:Int))):=by show Few _;rw [shlN_up n k hk];exact hf.out
 have HS:=hid (shlN_up n k hk)
 go_enter Tryz.func84,Tryz.ntmps84
 go_wp2_with fail
 refine wp_loop_rounds 1 ?_
 rw [rounds_succ]
 go_wp2_with fail
 (with_reducible refine (shl_v _ ha hf2).mono ?_)
 rintro e w1 ⟨A1,k1,c1,rfl,hr,hv,ho⟩
 rw [HS.out] at hr hv
 have HR:=hid hr
 have HV:=hid hv
 have HO:=hid ho
 clear hr hv ho
 go_wp2_with fail
 go_ret
 exact⟨A1,k1,c1,rfl,HR.out,HV.out,HO.out⟩
theorem Tab6.keep {w w':World} (h:Tab6 w) (ho:Only [] w w'):Tab6 w':=by
 unfold Tab6 at*
 exact tabis_only h ho
theorem IV.zero (w:World):IV w (.agg #[.bool false,.slice none 0 0]) 0:=⟨false,none,0,0,0,rfl,NV.nil w,rfl⟩
set_option maxHeartbeats 1600000 in
set_option maxRecDepth 100000 in
theorem make_d {w:World} {m:Value} {z e:Int} (ha:Hid (IV w m z)) (hb:Hid (bitsN z.natAbs≤16777216)) (h1: -4000000000000000000≤e) (h2:e≤4000000000000000000) (hT:Hid (Tab6 w)):Calls Tryz.prog 75 #[m,.int .i64 e] w (DPost (nrm z e) w):=by
 obtain⟨s,A,k,c,rfl,hs⟩:=ha.out.form
 have hk:=((KB.start w).new 30 [.bool s,.slice A k c]).new 32 [.bool false,.slice none 0 0,.int .i64 0]
 simp only [World.size_alloc] at hk
 have HX:=hid (ha.out.only hk.only)
 have HM:=hid HX.out.mag
 have HT:=hid (hT.out.keep hk.only)
 have HK:=hid hk
 have hsg:=sign_of z
 clear ha hk hT
 by_cases hz:z=0
 ·subst hz
  clear hsg
  go_enter Tryz.func75,Tryz.ntmps75
  go_wp2_with fail
  (with_reducible refine (sign_w HX).mono ?_)
  rintro e1 w2 ⟨rfl,ho⟩
  rw [Int.sign_zero]
  have hk:=HK.out.step ho
  obtain⟨c0,c1',c2,f0,f1,f2⟩:=hk.c3 0 rfl
  replace hk:=hid hk
  clear ho
  go_wp2_with fail
  refine bodyPost_ret (v:= .agg #[.bool false,.slice none 0 0,.int .i64 (0)]) (by simp [results,Tryz.results75,go_sem,c0,c1',c2]) rfl ?_
  rw [nrm_zero]
  exact dfin (x:=⟨0,0⟩) ⟨by decide,by show 0=(limbsOf 0).length;rw [limbsOf_zero];rfl⟩ (IV.zero _) (by omega) (hk.out.blk 0 rfl) (noLimb3 _ _ _ _ _) hk.out.only (only_set3 _ _ _ _ _)
 ·obtain⟨p,hp⟩: ∃p,z.sign=p:=⟨_,rfl⟩
  have hp0:(p == 0)=false:=by rw [beq_eq_false_iff_ne];omega
  have hlo:(lowN z.natAbs:Int)≤16777216:=by have:=lowN_le_bits z.natAbs;have:=hb.out;omega
  clear hb
  have hN:=nrm_nz e hz
  obtain rfl:s=decide (z<0):=by cases s<;>simp only [sg_false,sg_true] at hs<;>simp<;>omega
  obtain⟨l,hq⟩: ∃l,lowN z.natAbs=l:=⟨_,rfl⟩
  rw [hq] at hN hlo
  have HQ:=hid hq
  rw [hN]
  clear hq
  generalize decide (z<0)=s at*
  have hsum:IntKind.i64.wrap (e+(l:Int))=e+(l:Int):=wrap_i64 (by omega)
  replace hp:=hid hp
  clear hsg hz hN hs
  go_enter Tryz.func75,Tryz.ntmps75
  go_wp2_with fail
  (with_reducible refine (sign_w HX).mono ?_)
  rintro e1 w2 ⟨rfl,ho⟩
  rw [hp.out]
  have hk:=HK.out.step ho
  obtain⟨c0,c1',f0,f1⟩:=hk.c2 1 rfl
  have HM2:=hid (HM.out.only ho)
  have HT2:=hid (HT.out.keep ho)
  replace HK:=hid hk
  clear ho hk HM HT
  go_wp2_with fail
  (with_reducible refine (low_v HM2 HT2).mono ?_)
  rintro e2 w3 ⟨rfl,rfl⟩
  rw [HQ.out]
  go_upto_region 4 with fail
  clear HX c0 c1' f0 f1 hp0
  apply wp_region_typed_tail2 11 (by kernel_rfl) [isV _,isV _,isV _,isV _,isV _,isNR w2 (z.natAbs/2^l),isWC (sg s (z.natAbs/2^l)),isV _,isV _,isV _,isD ⟨sg s (z.natAbs/2^l),e+(l:Int)⟩] [[],[0],[],[2],[],[3,4],[1,5],[],[],[7,8],[6,9]] (by kernel_rfl) (by kernel_rfl) (by kernel_rfl)
  case ho=>
   simp only [List.take_succ_cons,List.take_zero]
   iterate 11
    refine owes2_cons (fun wx hox=>?_) ?_
    ·skip
     have hk:=HK.out.step hox
     obtain⟨b0,b1,-,-⟩:=hk.c2 1 rfl
     clear hk
     refine withs_plain rfl ?_
     simp only [withs,List.getElem?_cons_zero,List.getElem?_cons_succ,Option.bind,Option.getD]
     with_reducible repeat first|refine all_isV ?_|(refine all_isWC ?_;intro sx Ax kx cx hvx hwx)|(refine all_isNR ?_;intro Ax kx cx hvx)|(refine all_isD ?_;intro sx Ax kx cx hvx hwx)
     go_simp
     first
     |exact⟨Only.refl _ _,isV.self _ _⟩
     |with_reducible exact grow_n (right_d l hlo (hid (HM2.out.only hox))) hox
     |with_reducible exact grow_wc (make_w s (by assumption))
     |exact⟨Only.refl _ _,isD.of (x:=⟨sg s (z.natAbs/2^l),e+(l:Int)⟩) (by assumption) (by assumption)⟩
   exact owes2_nil
  case he=>
   simp only [List.drop_succ_cons,List.drop_zero]
   intro wx hox
   refine withs_of (by simp only [List.length,List.range,List.range.loop];exact rfl) ?_
   simp only [withs,List.getElem?_cons_zero,List.getElem?_cons_succ,Option.bind,Option.getD]
   repeat (first|(with_reducible refine all_isV ?_)|(with_reducible refine all_isWC ?_;intro sx Ax kx cx hvx hwx)|(with_reducible refine all_isNR ?_;intro Ax kx cx hvx)|(with_reducible refine all_isD ?_;intro sx Ax kx cx hvx hwx))
   go_simp
   have hk:=HK.out.step hox
   obtain⟨c0,c1',c2,f0,f1,f2⟩:=hk.c3 0 rfl
   replace hk:=hid hk
   clear hox
   go_wp2_with fail
   refine bodyPost_ret (v:= .agg #[.bool sx,.slice Ax kx cx,.int .i64 (e+(l:Int))]) (by simp [results,Tryz.results75,go_sem,c0,c1',c2]) rfl ?_
   exact dfin (x:=⟨sg s (z.natAbs/2^l),e+(l:Int)⟩) (by assumption) (by assumption) (by omega) (hk.out.blk 0 rfl) (noLimb3 _ _ _ _ _) hk.out.only (only_set3 _ _ _ _ _)
  case hl=>
   repeat (refine List.forall_mem_cons.2 ⟨?_,?_⟩;first|exact isV.lasts _|exact isD.lasts _|exact isWC.lasts _|exact isNR.lasts _ _)
   exact fun _ h=>(by cases h)
theorem DV.of {w:World} {s:Bool} {A:Option Addr} {k c:Nat} {x:Dy} (h:Hid (IV w (.agg #[.bool s,.slice A k c]) x.z)):Hid (DV w (.agg #[.bool s,.slice A k c,.int .i64 x.e]) x):=⟨s,A,k,c,rfl,h.out⟩
theorem DV.form {w:World} {v:Value} {x:Dy} (h:DV w v x): ∃s A k c,v= .agg #[.bool s,.slice A k c,.int .i64 x.e]∧IV w (.agg #[.bool s,.slice A k c]) x.z:=h
theorem lim_i64 {N:Nat} {x:Dy} (h:Bnd N x) (hN:N≤8000000): -8000000≤x.e∧x.e≤8000000:=by have:=h.lo;have:=h.hi;omega
set_option maxHeartbeats 800000 in
theorem of_d (v:Int) (w:World) (hv:Hid (-9223372036854775808≤v∧v≤9223372036854775807)) (hT:Hid (Tab6 w)):Calls Tryz.prog 39 #[.int .i64 v] w (DPost (nrm v 0) w):=by
 have hk:=(KB.start w).new 32 [.bool false,.slice none 0 0,.int .i64 0]
 have HT:=hid (hT.out.keep hk.only)
 have HK:=hid hk
 have HB:Hid (bitsN v.natAbs≤16777216):=by
  have h2:v.natAbs<2^64:=by have:=hv.out;omega
  show _≤_
  exact Nat.le_trans (bitsN_le h2) (by decide)
 clear hk hT
 go_enter Tryz.func39,Tryz.ntmps39
 go_wp2_with fail
 (with_reducible refine (of_w v _ hv).mono ?_)
 rintro e1 w2 ⟨s1,A1,k1,c1,rfl,-,-,hv1,ho⟩
 replace HK:=hid (HK.out.step ho)
 replace HT:=hid (HT.out.keep ho)
 replace hv1:=hid hv1
 clear ho
 go_wp2_with fail
 (with_reducible refine (make_d hv1 HB (by omega) (by omega) HT).mono ?_)
 rintro e2 w3 ⟨s2,A2,k2,c2',rfl,hs2,hk2,hv2,ho⟩
 replace HK:=hid (HK.out.step ho)
 have HC:Hid (Cn s2 k2 (nrm v 0).z):=⟨hs2,hk2⟩
 have HV:=hid hv2
 obtain⟨c0,c1',c2,f0,f1,f2⟩:=HK.out.c3 0 rfl
 clear ho hs2 hk2 hv2
 generalize nrm v 0=x at*
 go_wp2_with fail
 refine bodyPost_ret (v:= .agg #[.bool s2,.slice A2 k2 c2',.int .i64 (x.e)]) (by simp [results,Tryz.results39,go_sem,c0,c1',c2]) rfl ?_
 exact dfin HC HV (by omega) (HK.out.blk 0 rfl) (noLimb3 _ _ _ _ _) HK.out.only (only_set3 _ _ _ _ _)
set_option maxHeartbeats 800000 in
theorem sign_d {w:World} {a:Value} {x:Dy} (ha:Hid (DV w a x)):Calls Tryz.prog 53 #[a] w fun e w'=>e= .returned (.int .i64 x.z.sign)∧Only [] w w':=by
 obtain⟨s,A,k,c,rfl,hv⟩:=ha.out.form
 have hk:=(KB.start w).new 32 [.bool s,.slice A k c,.int .i64 x.e]
 have HX:=hid (hv.only hk.only)
 have HK:=hid hk
 clear hk hv ha
 go_enter Tryz.func53,Tryz.ntmps53
 go_wp2_with fail
 (with_reducible refine (sign_w HX).mono ?_)
 rintro e1 w2 ⟨rfl,ho⟩
 have HO:=hid (HK.out.step ho).only
 clear ho
 go_wp2_with fail
 go_ret
 exact⟨rfl,HO.out⟩
theorem bits_few {n N:Nat} (h:n<2^N) (hN:N≤16000000):bitsN n≤16777216:=Nat.le_trans (bitsN_le h) (by omega)
set_option maxHeartbeats 1600000 in
set_option maxRecDepth 100000 in
theorem top_d {w:World} {a:Value} {x:Dy} {N:Nat} (ha:Hid (DV w a x)) (hx:Hid (Bnd N x)) (hN:N≤8000000):Calls Tryz.prog 67 #[a] w fun e w'=>e= .returned (.int .i64 (topD x))∧Only [] w w':=by
 obtain⟨s,A,k,c,rfl,hv⟩:=ha.out.form
 have hk:=(KB.start w).new 32 [.bool s,.slice A k c,.int .i64 x.e]
 have HX:=hid (hv.only hk.only)
 have HV:=DV.of HX
 have HK:=hid hk
 have hxe:=lim_i64 hx.out hN
 have hbl:=bitsN_le hx.out.z
 have hsg:=sign_of x.z
 clear hk hv ha
 by_cases hz:x.z=0
 ·have HR:Hid (topD x=0):=by show topD x=0;unfold topD;rw [if_pos hz]
  have hp0:x.z.sign=0:=by omega
  replace hp0:=hid hp0
  clear hsg hz
  go_enter Tryz.func67,Tryz.ntmps67
  go_wp2_with fail
  (with_reducible refine (sign_d HV).mono ?_)
  rintro e1 w2 ⟨rfl,ho⟩
  rw [hp0.out]
  have HO:=hid (HK.out.step ho).only
  clear ho
  go_wp2_with fail
  go_ret
  exact⟨by rw [HR.out];rfl,HO.out⟩
 ·obtain⟨p,hp⟩: ∃p,x.z.sign=p:=⟨_,rfl⟩
  have hp0:(p == 0)=false:=by rw [beq_eq_false_iff_ne];omega
  have HR:Hid (topD x=(bitsN x.z.natAbs:Int)+x.e):=by show topD x=_;unfold topD;rw [if_neg hz]
  have hsum:IntKind.i64.wrap ((bitsN x.z.natAbs:Int)+x.e)=(bitsN x.z.natAbs:Int)+x.e:=wrap_i64 (by omega)
  replace hp:=hid hp
  clear hsg hz
  go_enter Tryz.func67,Tryz.ntmps67
  go_wp2_with fail
  (with_reducible refine (sign_d HV).mono ?_)
  rintro e1 w2 ⟨rfl,ho⟩
  rw [hp.out]
  replace HX:=hid (HX.out.only ho)
  replace HK:=hid (HK.out.step ho)
  clear ho HV
  go_wp2_with fail
  apply wp_region_typed2 (by kernel_rfl) [isV _,isV _,isV _,isV _,isV _,isV _,isV _,isV _] [[],[0],[1],[2],[],[4],[3,5],[6]] (by kernel_rfl) (by kernel_rfl)
  case ho=>
   refine owes2_cons (fun wx hox=>?_) ?_
   ·skip
    skip
    refine withs_plain rfl ?_
    simp only [withs,List.getElem?_cons_zero,List.getElem?_cons_succ,Option.bind,Option.getD]
    repeat (with_reducible refine all_isV ?_)
    go_simp
    exact⟨Only.refl _ _,isV.self _ _⟩
   refine owes2_cons (fun wx hox=>?_) ?_
   ·skip
    skip
    refine withs_plain rfl ?_
    simp only [withs,List.getElem?_cons_zero,List.getElem?_cons_succ,Option.bind,Option.getD]
    repeat (with_reducible refine all_isV ?_)
    go_simp
    exact⟨Only.refl _ _,isV.self _ _⟩
   refine owes2_cons (fun wx hox=>?_) ?_
   ·skip
    have hk:=HK.out.step hox
    obtain⟨a0,a1,a2,-,-,-⟩:=hk.c3 0 rfl
    have ivx:=hid (HX.out.only hox)
    clear hk
    refine withs_plain rfl ?_
    simp only [withs,List.getElem?_cons_zero,List.getElem?_cons_succ,Option.bind,Option.getD]
    repeat (with_reducible refine all_isV ?_)
    go_simp
    exact⟨Only.refl _ _,isV.self _ _⟩
   refine owes2_cons (fun wx hox=>?_) ?_
   ·skip
    have hk:=HK.out.step hox
    obtain⟨a0,a1,a2,-,-,-⟩:=hk.c3 0 rfl
    have ivx:=hid (HX.out.only hox)
    clear hk
    refine withs_plain rfl ?_
    simp only [withs,List.getElem?_cons_zero,List.getElem?_cons_succ,Option.bind,Option.getD]
    repeat (with_reducible refine all_isV ?_)
    go_simp
    (with_reducible exact grow_same (bits_v (hid ivx.out.mag)))
   refine owes2_cons (fun wx hox=>?_) ?_
   ·skip
    skip
    refine withs_plain rfl ?_
    simp only [withs,List.getElem?_cons_zero,List.getElem?_cons_succ,Option.bind,Option.getD]
    repeat (with_reducible refine all_isV ?_)
    go_simp
    exact⟨Only.refl _ _,isV.self _ _⟩
   refine owes2_cons (fun wx hox=>?_) ?_
   ·skip
    have hk:=HK.out.step hox
    obtain⟨a0,a1,a2,-,-,-⟩:=hk.c3 0 rfl
    have ivx:=hid (HX.out.only hox)
    clear hk
    refine withs_plain rfl ?_
    simp only [withs,List.getElem?_cons_zero,List.getElem?_cons_succ,Option.bind,Option.getD]
    repeat (with_reducible refine all_isV ?_)
    go_simp
    exact⟨Only.refl _ _,isV.self _ _⟩
   refine owes2_cons (fun wx hox=>?_) ?_
   ·skip
    skip
    refine withs_plain rfl ?_
    simp only [withs,List.getElem?_cons_zero,List.getElem?_cons_succ,Option.bind,Option.getD]
    repeat (with_reducible refine all_isV ?_)
    go_simp
    exact⟨Only.refl _ _,isV.self _ _⟩
   refine owes2_cons (fun wx hox=>?_) ?_
   ·skip
    skip
    refine withs_plain rfl ?_
    simp only [withs,List.getElem?_cons_zero,List.getElem?_cons_succ,Option.bind,Option.getD]
    repeat (with_reducible refine all_isV ?_)
    go_simp
    exact⟨Only.refl _ _,isV.self _ _⟩
   exact owes2_nil
  case he=>
   intro wx hox
   refine withs_of (by simp only [List.length,List.range,List.range.loop];exact rfl) ?_
   simp only [withs,List.getElem?_cons_zero,List.getElem?_cons_succ,Option.bind,Option.getD]
   repeat (with_reducible refine all_isV ?_)
   go_simp
   go_wp2_with fail
   go_ret
   exact⟨by rw [HR.out];rfl,HK.out.only.nil_trans hox⟩
  case hl=>
   repeat (refine List.forall_mem_cons.2 ⟨?_,?_⟩;exact isV.lasts _)
   exact fun _ h=>(by cases h)
set_option maxHeartbeats 1600000 in
set_option maxRecDepth 100000 in
theorem not_d {w:World} {a:Value} {x:Dy} {N:Nat} (ha:Hid (DV w a x)) (hx:Hid (Bnd N x)) (hN:N≤8000000) (hT:Hid (Tab6 w)):Calls Tryz.prog 66 #[a] w (DPost (dNot x) w):=by
 unfold dNot
 obtain⟨s,A,k,c,rfl,hv⟩:=ha.out.form
 have hk:=((KB.start w).new 32 [.bool s,.slice A k c,.int .i64 x.e]).new 32 [.bool false,.slice none 0 0,.int .i64 0]
 simp only [World.size_alloc] at hk
 have HX:=hid (hv.only hk.only)
 have HK:=hid hk
 have HT:=hid (hT.out.keep hk.only)
 have hxe:=lim_i64 hx.out hN
 have HB:Hid (bitsN (-x.z).natAbs≤16777216):=by show _≤_;rw [Int.natAbs_neg];exact bits_few hx.out.z (by omega)
 clear hk hv ha hT
 go_enter Tryz.func66,Tryz.ntmps66
 go_wp2_with fail
 generalize (w.alloc (.cells #[.bool s,.slice A k c,.int .i64 x.e] 32)).alloc (.cells #[.bool false,.slice none 0 0,.int .i64 0] 32)=w1 at*
 apply wp_region_typed_tail2 6 (by kernel_rfl) [isV _,isV _,isWC (-x.z),isV _,isV _,isD (nrm (-x.z) x.e)] [[],[0],[1],[],[3],[2,4]] (by kernel_rfl) (by kernel_rfl) (by kernel_rfl)
 case ho=>
  simp only [List.take_succ_cons,List.take_zero]
  iterate 6
   refine owes2_cons (fun wx hox=>?_) ?_
   ·skip
    have hk:=HK.out.step hox
    obtain⟨a0,a1,a2,-,-,-⟩:=hk.c3 1 rfl
    have ivx:=hid (HX.out.only hox)
    have htx:=hid (HT.out.keep hox)
    clear hk
    refine withs_plain rfl ?_
    simp only [withs,List.getElem?_cons_zero,List.getElem?_cons_succ,Option.bind,Option.getD]
    with_reducible repeat first|refine all_isV ?_|(refine all_isWC ?_;intro sx Ax kx cx hvx hwx)|(refine all_isD ?_;intro sx Ax kx cx hvx hwx)
    go_simp
    first
    |exact⟨Only.refl _ _,isV.self _ _⟩
    |with_reducible exact grow_wc (not_w ivx)
    |with_reducible exact grow_d (make_d (by assumption) HB (by omega) (by omega) htx)
  exact owes2_nil
 case he=>
  simp only [List.drop_succ_cons,List.drop_zero]
  intro wx hox
  refine withs_of (by simp only [List.length,List.range,List.range.loop];exact rfl) ?_
  simp only [withs,List.getElem?_cons_zero,List.getElem?_cons_succ,Option.bind,Option.getD]
  repeat (first|(with_reducible refine all_isV ?_)|(with_reducible refine all_isWC ?_;intro sx Ax kx cx hvx hwx)|(with_reducible refine all_isD ?_;intro sx Ax kx cx hvx hwx))
  go_simp
  have hk:=HK.out.step hox
  obtain⟨c0,c1',c2,f0,f1,f2⟩:=hk.c3 0 rfl
  replace hk:=hid hk
  clear hox
  go_wp2_with fail
  refine bodyPost_ret (v:= .agg #[.bool sx,.slice Ax kx cx,.int .i64 ((nrm (-x.z) x.e).e)]) (by simp [results,Tryz.results66,go_sem,c0,c1',c2]) rfl ?_
  exact dfin (x:=nrm (-x.z) x.e) (by assumption) (by assumption) (by omega) (hk.out.blk 0 rfl) (noLimb3 _ _ _ _ _) hk.out.only (only_set3 _ _ _ _ _)
 case hl=>
  repeat (refine List.forall_mem_cons.2 ⟨?_,?_⟩;first|exact isV.lasts _|exact isD.lasts _|exact isWC.lasts _)
  exact fun _ h=>(by cases h)
set_option maxHeartbeats 1600000 in
set_option maxRecDepth 100000 in
theorem mul_d {w:World} {a b:Value} {x y:Dy} {N:Nat} (ha:Hid (DV w a x)) (hb:Hid (DV w b y)) (hx:Hid (Bnd N x)) (hy:Hid (Bnd N y)) (hN:N≤2000000) (hT:Hid (Tab6 w)):Calls Tryz.prog 41 #[a,b] w (DPost (dMul x y) w):=by
 unfold dMul
 obtain⟨s,A,k,c,rfl,hv⟩:=ha.out.form
 obtain⟨t,B,l,d,rfl,hv'⟩:=hb.out.form
 have hk:=(((KB.start w).new 32 [.bool s,.slice A k c,.int .i64 x.e]).new 32 [.bool t,.slice B l d,.int .i64 y.e]).new 32 [.bool false,.slice none 0 0,.int .i64 0]
 simp only [World.size_alloc] at hk
 have HX:=hid (hv.only hk.only)
 have HY:=hid (hv'.only hk.only)
 have HT:=hid (hT.out.keep hk.only)
 have HK:=hid hk
 clear hk hv hv' ha hb hT
 have hxe:=lim_i64 hx.out (by omega)
 have hye:=lim_i64 hy.out (by omega)
 have hm:=abs_mul_lt hx.out.z hy.out.z
 have HB:Hid (bitsN (x.z*y.z).natAbs≤16777216):=bits_few hm (by omega)
 have HF:Hid (Few (x.z*y.z).natAbs):=few_two_pow hm (by omega)
 have hsum:IntKind.i64.wrap (x.e+y.e)=x.e+y.e:=wrap_i64 (by omega)
 clear hm
 go_enter Tryz.func41,Tryz.ntmps41
 go_wp2_with fail
 generalize ((w.alloc (.cells #[.bool s,.slice A k c,.int .i64 x.e] 32)).alloc (.cells #[.bool t,.slice B l d,.int .i64 y.e] 32)).alloc (.cells #[.bool false,.slice none 0 0,.int .i64 0] 32)=w1 at*
 apply wp_region_typed_tail2 12 (by kernel_rfl) [isV _,isV _,isV _,isV _,isRow 30 1 [.bool t,.slice B l d],isWC (x.z*y.z),isV _,isV _,isV _,isV _,isV _,isD (nrm (x.z*y.z) (x.e+y.e))] [[],[0],[],[2],[3],[1,4],[],[6],[],[8],[7,9],[5,10]] (by kernel_rfl) (by kernel_rfl) (by kernel_rfl)
 case ho=>
  simp only [List.take_succ_cons,List.take_zero]
  iterate 12
   refine owes2_cons (fun wx hox=>?_) ?_
   ·skip
    have hk:=HK.out.step hox
    obtain⟨a0,a1,a2,-,-,-⟩:=hk.c3 2 rfl
    obtain⟨b0,b1,b2,-,-,-⟩:=hk.c3 1 rfl
    have ivx:=hid (HX.out.only hox)
    have ivy:=hid (HY.out.only hox)
    have htx:=hid (HT.out.keep hox)
    clear hk
    refine withs_plain rfl ?_
    simp only [withs,List.getElem?_cons_zero,List.getElem?_cons_succ,Option.bind,Option.getD]
    with_reducible repeat first|refine all_isV ?_|(refine all_isWC ?_;intro sx Ax kx cx hvx hwx)|(refine all_isD ?_;intro sx Ax kx cx hvx hwx)|(refine all_isRow ?_;intro gx' hbx)
    go_simp
    first
    |exact⟨Only.refl _ _,isV.self _ _⟩
    |exact isRow.new _ _ _ _
    |with_reducible exact grow_wc (mul1_w (by assumption) (by assumption) (by assumption) HF)
    |with_reducible exact grow_d (make_d (by assumption) HB (by omega) (by omega) htx)
  exact owes2_nil
 case he=>
  simp only [List.drop_succ_cons,List.drop_zero]
  intro wx hox
  refine withs_of (by simp only [List.length,List.range,List.range.loop];exact rfl) ?_
  simp only [withs,List.getElem?_cons_zero,List.getElem?_cons_succ,Option.bind,Option.getD]
  repeat (first|(with_reducible refine all_isV ?_)|(with_reducible refine all_isWC ?_;intro sx Ax kx cx hvx hwx)|(with_reducible refine all_isD ?_;intro sx Ax kx cx hvx hwx)|(with_reducible refine all_isRow ?_;intro gx' hbx))
  go_simp
  have hk:=HK.out.step hox
  obtain⟨c0,c1',c2,f0,f1,f2⟩:=hk.c3 0 rfl
  replace hk:=hid hk
  clear hox
  go_wp2_with fail
  refine bodyPost_ret (v:= .agg #[.bool sx,.slice Ax kx cx,.int .i64 ((nrm (x.z*y.z) (x.e+y.e)).e)]) (by simp [results,Tryz.results41,go_sem,c0,c1',c2]) rfl ?_
  exact dfin (x:=nrm (x.z*y.z) (x.e+y.e)) (by assumption) (by assumption) (by omega) (hk.out.blk 0 rfl) (noLimb3 _ _ _ _ _) hk.out.only (only_set3 _ _ _ _ _)
 case hl=>
  repeat (refine List.forall_mem_cons.2 ⟨?_,?_⟩;first|exact isV.lasts _|exact isD.lasts _|exact isWC.lasts _|exact isRow.lasts _ _ _)
  exact fun _ h=>(by cases h)
theorem only_set22 (w:World) (b d:Nat) (x y u v:Value):Only [b,d] w ((((w.setCell ⟨b,0,none⟩ x).setCell ⟨b,1,none⟩ y).setCell ⟨d,0,none⟩ u).setCell ⟨d,1,none⟩ v):=
 ((((Only.refl [b,d] w).setCell (.inl (by simp)) x).setCell (.inl (by simp)) y).setCell (.inl (by simp)) u).setCell (.inl (by simp)) v
def APost (x y:Dy) (w:World) (e:Ending) (w':World):Prop:= ∃s A k c t B l d,e= .returned (.tuple #[.agg #[.bool s,.slice A k c],.agg #[.bool t,.slice B l d],.int .i64 (min x.e y.e)])∧IV w' (.agg #[.bool s,.slice A k c]) (alX x y)∧IV w' (.agg #[.bool t,.slice B l d]) (alY x y)∧Only [] w w'
theorem apost {x y:Dy} {w w1 w2:World} {g h:Nat} {e:Int} {s0 s1 s t:Bool} {A0 A1 A B:Option Addr} {k0 c0 k1 c1 k c l d:Nat} (he:min x.e y.e=e) (hv:Hid (IV w1 (.agg #[.bool s,.slice A k c]) (alX x y))) (hv':Hid (IV w1 (.agg #[.bool t,.slice B l d]) (alY x y)))
  (hg:w.heap.size≤g) (hG:Blk w1 g 30 [.bool s0,.slice A0 k0 c0]) (hh:w.heap.size≤h) (hH:Blk w1 h 30 [.bool s1,.slice A1 k1 c1]) (ho:Only [] w w1) (ho2:Only [g,h] w1 w2):
  APost x y w (.returned (.tuple #[.agg #[.bool s,.slice A k c],.agg #[.bool t,.slice B l d],.int .i64 e])) w2:=by
 have far: ∀{r:Bool} {C:Option Addr} {i j:Nat} {z:Int},IV w1 (.agg #[.bool r,.slice C i j]) z→ ∀b∈[g,h],Far b C i:=fun hiv b hb=>by
  rcases List.mem_cons.1 hb with rfl|hb
  ·exact hiv.far_box hG
  ·rw [List.mem_singleton] at hb;subst hb;exact hiv.far_box hH
 exact⟨s,A,k,c,t,B,l,d,by rw [he],hv.out.farS ho2 (far hv.out),hv'.out.farS ho2 (far hv'.out),ho.trans ho2 (fun b hb=> .inr (by
  rcases List.mem_cons.1 hb with rfl|hb
  ·exact hg
  ·rw [List.mem_singleton] at hb;subst hb;exact hh))⟩
theorem sg_shl (s:Bool) {z:Int} (n:Nat) (h:sg s z.natAbs=z):z*2^n=sg s (z.natAbs*2^n):=by
 have e:((z.natAbs*2^n:Nat):Int)=(z.natAbs:Int)*2^n:=by push_cast;rfl
 cases s
 ·rw [sg_false] at h ⊢;rw [e,h]
 ·rw [sg_true] at h ⊢;rw [e,←Int.neg_mul,h]
theorem nat_shl_lt {a n N:Nat} (h:a<2^N):a*2^n<2^(N+n):=by
 rw [Nat.pow_add]
 exact Nat.mul_lt_mul_of_pos_right h (Nat.pow_pos (by decide))
set_option maxHeartbeats 1600000 in
set_option maxRecDepth 100000 in
theorem align_d {w:World} {a b:Value} {x y:Dy} {N:Nat} (ha:Hid (DV w a x)) (hb:Hid (DV w b y)) (hx:Hid (Bnd N x)) (hy:Hid (Bnd N y)) (hN:N≤2000000):Calls Tryz.prog 79 #[a,b] w (APost x y w):=by
 obtain⟨s,A,k,c,rfl,hv⟩:=ha.out.form
 obtain⟨t,B,l,d,rfl,hv'⟩:=hb.out.form
 have hk:=((((KB.start w).new 32 [.bool s,.slice A k c,.int .i64 x.e]).new 32 [.bool t,.slice B l d,.int .i64 y.e]).new 30 [.bool false,.slice none 0 0]).new 30 [.bool false,.slice none 0 0]
 simp only [World.size_alloc] at hk
 have hs:=hv.sign
 have ht:=hv'.sign
 have HX:=hid (hv.only hk.only)
 have HY:=hid (hv'.only hk.only)
 have HK:=hid hk
 have hxe:=lim_i64 hx.out (by omega)
 have hye:=lim_i64 hy.out (by omega)
 have hxz:=hx.out.z
 have hyz:=hy.out.z
 have hl1:=hx.out.lo
 have hl2:=hx.out.hi
 have hl3:=hy.out.lo
 have hl4:=hy.out.hi
 clear hk hv hv' ha hb
 by_cases hle:x.e≤y.e
 ·have hmin:min x.e y.e=x.e:=Int.min_eq_left hle
  obtain⟨n,hn0⟩: ∃n,(y.e-x.e).toNat=n:=⟨_,rfl⟩
  have hn1:y.e-x.e=(n:Int):=by omega
  have hn:(n:Int)≤16777216:=by omega
  have HF:Hid (Few (y.z.natAbs*2^n)):=few_two_pow (nat_shl_lt hyz) (by omega)
  have HAX:Hid (alX x y=x.z):=by show alX x y=_;unfold alX;rw [hmin,Int.sub_self];simp
  have HAY:Hid (alY x y=sg t (y.z.natAbs*2^n)):=by show alY x y=_;unfold alY;rw [hmin,hn0];exact sg_shl t n ht
  have HM:=hid hmin
  have hsub:IntKind.i64.wrap (y.e-x.e)=(n:Int):=by rw [hn1];exact wrap_i64 (by omega)
  clear hs ht hxz hyz hmin hn0 hn1 hl1 hl2 hl3 hl4 hx hy
  go_enter Tryz.func79,Tryz.ntmps79
  go_wp2_with fail
  generalize (((w.alloc (.cells #[.bool s,.slice A k c,.int .i64 x.e] 32)).alloc (.cells #[.bool t,.slice B l d,.int .i64 y.e] 32)).alloc (.cells #[.bool false,.slice none 0 0] 30)).alloc (.cells #[.bool false,.slice none 0 0] 30)=w1 at*
  have q1:w.heap.size<w.heap.size+1:=by omega
  have q2:w.heap.size+1<w.heap.size+1+1:=by omega
  have q3:w.heap.size+1+1<w.heap.size+1+1+1:=by omega
  generalize w.heap.size+1+1+1=g3 at*
  generalize w.heap.size+1+1=g2 at*
  generalize w.heap.size+1=g1 at*
  have n1: ¬w.heap.size=g2:=by omega
  have n2: ¬w.heap.size=g3:=by omega
  have n3: ¬g1=g2:=by omega
  have n4: ¬g1=g3:=by omega
  have n5: ¬g2=g3:=by omega
  have n6: ¬g3=g2:=by omega
  have m1: ¬g2=w.heap.size:=by omega
  have m2: ¬g3=w.heap.size:=by omega
  have m3: ¬g2=g1:=by omega
  have m4: ¬g3=g1:=by omega
  obtain⟨a0,a1,a2,-,-,-⟩:=HK.out.c3 3 rfl
  obtain⟨b0,b1,b2,-,-,-⟩:=HK.out.c3 2 rfl
  have HK1:=hid (HK.out.step (Only.refl [] w1).drew)
  have HM1:=hid (HY.out.mag.only (Only.refl [] w1).drew)
  have HX1:=hid (HX.out.only (Only.refl [] w1).drew)
  go_region_held3 (fun w'=>w'.cell? ⟨w.heap.size,0,none⟩=some (.bool s)∧w'.cell? ⟨w.heap.size,1,none⟩=some (.slice A k c)∧w'.cell? ⟨w.heap.size,2,none⟩=some (.int .i64 x.e)∧w'.cell? ⟨g1,0,none⟩=some (.bool t)∧w'.cell? ⟨g1,1,none⟩=some (.slice B l d)∧w'.cell? ⟨g1,2,none⟩=some (.int .i64 y.e)) (go_keep) (first|(go_at_call 107;(with_reducible refine (make_w _ HV3).mono ?_);rintro e4 w4 ⟨sx,Ax,kx,cx,rfl,-,-,hv4,ho4⟩;have HK4:=hid (HK3.out.step ho4);have HV4:=hid hv4;have HX4:=hid (HX3.out.only ho4);clear hv4 ho4;obtain⟨a0,a1,a2,-,-,-⟩:=HK4.out.c3 3 rfl;obtain⟨b0,b1,b2,-,-,-⟩:=HK4.out.c3 2 rfl;obtain⟨c0,c1',f0,f1⟩:=HK4.out.c2 1 rfl;obtain⟨d0,d1,i0,i1⟩:=HK4.out.c2 0 rfl)|(go_at_call 84;(with_reducible refine (left_d n hn HM1 HF).mono ?_);rintro e3 w3 ⟨A3,k3,c3,rfl,-,hv3,ho3⟩;have HK3:=hid (HK1.out.step ho3);have HV3:=hid hv3;have HX3:=hid (HX1.out.only ho3);clear hv3 ho3;obtain⟨a0,a1,a2,-,-,-⟩:=HK3.out.c3 3 rfl;obtain⟨b0,b1,b2,-,-,-⟩:=HK3.out.c3 2 rfl))
  go_wp2_with fail
  refine bodyPost_ret (v:= .tuple #[.agg #[.bool s,.slice A k c],.agg #[.bool sx,.slice Ax kx cx],.int .i64 x.e]) (by simp [results,Tryz.results79,go_sem,c0,c1',d0,d1]) rfl ?_
  exact apost HM.out (hid (HAX.out.symm▸HX4.out)) (hid (HAY.out.symm▸HV4.out)) (by omega) (HK4.out.blk 1 rfl) (by omega) (HK4.out.blk 0 rfl) HK4.out.only (only_set22 _ _ _ _ _ _ _)
 ·have hmin:min x.e y.e=y.e:=Int.min_eq_right (by omega)
  obtain⟨n,hn0⟩: ∃n,(x.e-y.e).toNat=n:=⟨_,rfl⟩
  have hn1:x.e-y.e=(n:Int):=by omega
  have hn:(n:Int)≤16777216:=by omega
  have HF:Hid (Few (x.z.natAbs*2^n)):=few_two_pow (nat_shl_lt hxz) (by omega)
  have HAY:Hid (alY x y=y.z):=by show alY x y=_;unfold alY;rw [hmin,Int.sub_self];simp
  have HAX:Hid (alX x y=sg s (x.z.natAbs*2^n)):=by show alX x y=_;unfold alX;rw [hmin,hn0];exact sg_shl s n hs
  have HM:=hid hmin
  have hsub:IntKind.i64.wrap (x.e-y.e)=(n:Int):=by rw [hn1];exact wrap_i64 (by omega)
  clear hs ht hxz hyz hmin hn0 hn1 hl1 hl2 hl3 hl4 hx hy
  go_enter Tryz.func79,Tryz.ntmps79
  go_wp2_with fail
  generalize (((w.alloc (.cells #[.bool s,.slice A k c,.int .i64 x.e] 32)).alloc (.cells #[.bool t,.slice B l d,.int .i64 y.e] 32)).alloc (.cells #[.bool false,.slice none 0 0] 30)).alloc (.cells #[.bool false,.slice none 0 0] 30)=w1 at*
  have q1:w.heap.size<w.heap.size+1:=by omega
  have q2:w.heap.size+1<w.heap.size+1+1:=by omega
  have q3:w.heap.size+1+1<w.heap.size+1+1+1:=by omega
  generalize w.heap.size+1+1+1=g3 at*
  generalize w.heap.size+1+1=g2 at*
  generalize w.heap.size+1=g1 at*
  have n1: ¬w.heap.size=g2:=by omega
  have n2: ¬w.heap.size=g3:=by omega
  have n3: ¬g1=g2:=by omega
  have n4: ¬g1=g3:=by omega
  have n5: ¬g2=g3:=by omega
  have n6: ¬g3=g2:=by omega
  have m1: ¬g2=w.heap.size:=by omega
  have m2: ¬g3=w.heap.size:=by omega
  have m3: ¬g2=g1:=by omega
  have m4: ¬g3=g1:=by omega
  obtain⟨a0,a1,a2,-,-,-⟩:=HK.out.c3 3 rfl
  obtain⟨b0,b1,b2,-,-,-⟩:=HK.out.c3 2 rfl
  have HK1:=hid (HK.out.step (Only.refl [] w1).drew)
  have HM1:=hid (HX.out.mag.only (Only.refl [] w1).drew)
  have HX1:=hid (HY.out.only (Only.refl [] w1).drew)
  go_region_held3 (fun w'=>w'.cell? ⟨w.heap.size,0,none⟩=some (.bool s)∧w'.cell? ⟨w.heap.size,1,none⟩=some (.slice A k c)∧w'.cell? ⟨w.heap.size,2,none⟩=some (.int .i64 x.e)∧w'.cell? ⟨g1,0,none⟩=some (.bool t)∧w'.cell? ⟨g1,1,none⟩=some (.slice B l d)∧w'.cell? ⟨g1,2,none⟩=some (.int .i64 y.e)) (go_keep) (first|(go_at_call 107;(with_reducible refine (make_w _ HV3).mono ?_);rintro e4 w4 ⟨sx,Ax,kx,cx,rfl,-,-,hv4,ho4⟩;have HK4:=hid (HK3.out.step ho4);have HV4:=hid hv4;have HX4:=hid (HX3.out.only ho4);clear hv4 ho4;obtain⟨a0,a1,a2,-,-,-⟩:=HK4.out.c3 3 rfl;obtain⟨b0,b1,b2,-,-,-⟩:=HK4.out.c3 2 rfl;obtain⟨c0,c1',f0,f1⟩:=HK4.out.c2 1 rfl;obtain⟨d0,d1,i0,i1⟩:=HK4.out.c2 0 rfl)|(go_at_call 84;(with_reducible refine (left_d n hn HM1 HF).mono ?_);rintro e3 w3 ⟨A3,k3,c3,rfl,-,hv3,ho3⟩;have HK3:=hid (HK1.out.step ho3);have HV3:=hid hv3;have HX3:=hid (HX1.out.only ho3);clear hv3 ho3;obtain⟨a0,a1,a2,-,-,-⟩:=HK3.out.c3 3 rfl;obtain⟨b0,b1,b2,-,-,-⟩:=HK3.out.c3 2 rfl))
  go_wp2_with fail
  refine bodyPost_ret (v:= .tuple #[.agg #[.bool sx,.slice Ax kx cx],.agg #[.bool t,.slice B l d],.int .i64 y.e]) (by simp [results,Tryz.results79,go_sem,c0,c1',d0,d1]) rfl ?_
  exact apost HM.out (hid (HAX.out.symm▸HV4.out)) (hid (HAY.out.symm▸HX4.out)) (by omega) (HK4.out.blk 1 rfl) (by omega) (HK4.out.blk 0 rfl) HK4.out.only (only_set22 _ _ _ _ _ _ _)
end Go.Proofs.YtigpnopeacicpaaGreatDoor
