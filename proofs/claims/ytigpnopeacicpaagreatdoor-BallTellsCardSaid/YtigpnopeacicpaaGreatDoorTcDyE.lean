import Derived.Test.YtigpnopeacicpaaGreatDoorTcGDyA
namespace Go.Proofs.YtigpnopeacicpaaGreatDoor
open Go.Lib (hid)
set_option linter.unusedSimpArgs false
open Go.RowKit
theorem signV_d {w:World} {a:Value} {x:Dy} (c:Int) (ha:Hid (DV w a x)) (hc:x.z.sign=c):Calls Tryz.prog 53 #[a] w fun e w'=>e= .returned (.int .i64 c)∧Only [] w w':=hc▸sign_d ha
theorem topV_d {w:World} {a:Value} {x:Dy} {N:Nat} (c:Int) (ha:Hid (DV w a x)) (hx:Hid (Bnd N x)) (hN:N≤8000000) (hc:topD x=c):Calls Tryz.prog 67 #[a] w fun e w'=>e= .returned (.int .i64 c)∧Only [] w w':=hc▸top_d ha hx hN
theorem top_range {x:Dy} {N:Nat} (hx:Bnd N x) (hN:N≤8000000): -8000000≤topD x∧topD x≤16000000:=by
 have:=hx.lo;have:=hx.hi;have:=bitsN_le hx.z
 unfold topD
 split<;>omega
set_option maxHeartbeats 1600000 in
set_option maxRecDepth 100000 in
theorem cmp_d {w:World} {a b:Value} {x y:Dy} {N:Nat} (ha:Hid (DV w a x)) (hb:Hid (DV w b y)) (hx:Hid (Bnd N x)) (hy:Hid (Bnd N y)) (hN:N≤2000000):Calls Tryz.prog 42 #[a,b] w fun e w'=>e= .returned (.int .i64 (cmpQ x.q y.q))∧Only [] w w':=by
 obtain⟨s,A,k,c,rfl,hv⟩:=ha.out.form
 obtain⟨t,B,l,d,rfl,hv'⟩:=hb.out.form
 have hk:=((KB.start w).new 32 [.bool s,.slice A k c,.int .i64 x.e]).new 32 [.bool t,.slice B l d,.int .i64 y.e]
 simp only [World.size_alloc] at hk
 have HX:=hid (hv.only hk.only)
 have HY:=hid (hv'.only hk.only)
 have HK:=hid hk
 have hsx:=sign_of x.z
 have hsy:=sign_of y.z
 clear hk hv hv' ha hb
 obtain⟨p,hp⟩: ∃p,x.z.sign=p:=⟨_,rfl⟩
 obtain⟨q,hq⟩: ∃p,y.z.sign=p:=⟨_,rfl⟩
 rw [hp] at hsx
 rw [hq] at hsy
 have HP:=hid hp
 have HQ:=hid hq
 by_cases h1:p<q
 ·have HR:Hid (cmpQ x.q y.q= -1):=cmp_sign_lt (by omega)
  clear hp hq
  clear hsx hsy
  go_enter Tryz.func42,Tryz.ntmps42
  go_wp2_with fail
  generalize (w.alloc (.cells #[.bool s,.slice A k c,.int .i64 x.e] 32)).alloc (.cells #[.bool t,.slice B l d,.int .i64 y.e] 32)=w1 at*
  apply wp_region_typed2 (by kernel_rfl) [isV _,isV (.int .i64 p),isV _,isV (.int .i64 q),isV _,isV _] [[],[0],[],[2],[1],[3]] (by kernel_rfl) (by kernel_rfl)
  case ho=>
   refine owes2_cons (fun wx hox=>?_) ?_
   ·skip
    have hk:=HK.out.step hox
    obtain⟨a0,a1,a2,-,-,-⟩:=hk.c3 1 rfl
    obtain⟨b0,b1,b2,-,-,-⟩:=hk.c3 0 rfl
    have ivx:=hid (HX.out.only hox)
    have ivy:=hid (HY.out.only hox)
    clear hk
    refine withs_plain rfl ?_
    simp only [withs,List.getElem?_cons_zero,List.getElem?_cons_succ,Option.bind,Option.getD]
    repeat (with_reducible refine all_isV ?_)
    go_simp
    exact⟨Only.refl _ _,isV.self _ _⟩
   refine owes2_cons (fun wx hox=>?_) ?_
   ·skip
    have hk:=HK.out.step hox
    obtain⟨a0,a1,a2,-,-,-⟩:=hk.c3 1 rfl
    obtain⟨b0,b1,b2,-,-,-⟩:=hk.c3 0 rfl
    have ivx:=hid (HX.out.only hox)
    have ivy:=hid (HY.out.only hox)
    clear hk
    refine withs_plain rfl ?_
    simp only [withs,List.getElem?_cons_zero,List.getElem?_cons_succ,Option.bind,Option.getD]
    repeat (with_reducible refine all_isV ?_)
    go_simp
    (with_reducible exact grow_of (signV_d p (DV.of ivx) HP.out))
   refine owes2_cons (fun wx hox=>?_) ?_
   ·skip
    have hk:=HK.out.step hox
    obtain⟨a0,a1,a2,-,-,-⟩:=hk.c3 1 rfl
    obtain⟨b0,b1,b2,-,-,-⟩:=hk.c3 0 rfl
    have ivx:=hid (HX.out.only hox)
    have ivy:=hid (HY.out.only hox)
    clear hk
    refine withs_plain rfl ?_
    simp only [withs,List.getElem?_cons_zero,List.getElem?_cons_succ,Option.bind,Option.getD]
    repeat (with_reducible refine all_isV ?_)
    go_simp
    exact⟨Only.refl _ _,isV.self _ _⟩
   refine owes2_cons (fun wx hox=>?_) ?_
   ·skip
    have hk:=HK.out.step hox
    obtain⟨a0,a1,a2,-,-,-⟩:=hk.c3 1 rfl
    obtain⟨b0,b1,b2,-,-,-⟩:=hk.c3 0 rfl
    have ivx:=hid (HX.out.only hox)
    have ivy:=hid (HY.out.only hox)
    clear hk
    refine withs_plain rfl ?_
    simp only [withs,List.getElem?_cons_zero,List.getElem?_cons_succ,Option.bind,Option.getD]
    repeat (with_reducible refine all_isV ?_)
    go_simp
    (with_reducible exact grow_of (signV_d q (DV.of ivy) HQ.out))
   refine owes2_cons (fun wx hox=>?_) ?_
   ·skip
    skip
    refine withs_plain rfl ?_
    simp only [withs,List.getElem?_cons_zero,List.getElem?_cons_succ,Option.bind,Option.getD]
    repeat (with_reducible refine all_isV ?_)
    go_simp
    exact⟨Only.refl _ _,isV.self _ _⟩
   refine owes2_cons (fun wx hox=>?_) ?_
   ·skip
    skip
    refine withs_plain rfl ?_
    simp only [withs,List.getElem?_cons_zero,List.getElem?_cons_succ,Option.bind,Option.getD]
    repeat (with_reducible refine all_isV ?_)
    go_simp
    exact⟨Only.refl _ _,isV.self _ _⟩
   exact owes2_nil
  case he=>
   intro wx hox
   refine withs_of (by simp only [List.length,List.range,List.range.loop];exact rfl) ?_
   simp only [withs,List.getElem?_cons_zero,List.getElem?_cons_succ,Option.bind,Option.getD]
   repeat (with_reducible refine all_isV ?_)
   go_simp
   replace HK:=hid (HK.out.step hox)
   replace HX:=hid (HX.out.only hox)
   replace HY:=hid (HY.out.only hox)
   clear hox
   go_wp2_with fail
   go_ret
   exact⟨by rw [HR.out];rfl,HK.out.only⟩
  case hl=>
   repeat (refine List.forall_mem_cons.2 ⟨?_,?_⟩;exact isV.lasts _)
   exact fun _ h=>(by cases h)
 by_cases h2:q<p
 ·have HR:Hid (cmpQ x.q y.q=1):=cmp_sign_gt (by omega)
  clear hp hq
  clear hsx hsy
  go_enter Tryz.func42,Tryz.ntmps42
  go_wp2_with fail
  generalize (w.alloc (.cells #[.bool s,.slice A k c,.int .i64 x.e] 32)).alloc (.cells #[.bool t,.slice B l d,.int .i64 y.e] 32)=w1 at*
  apply wp_region_typed2 (by kernel_rfl) [isV _,isV (.int .i64 p),isV _,isV (.int .i64 q),isV _,isV _] [[],[0],[],[2],[1],[3]] (by kernel_rfl) (by kernel_rfl)
  case ho=>
   refine owes2_cons (fun wx hox=>?_) ?_
   ·skip
    have hk:=HK.out.step hox
    obtain⟨a0,a1,a2,-,-,-⟩:=hk.c3 1 rfl
    obtain⟨b0,b1,b2,-,-,-⟩:=hk.c3 0 rfl
    have ivx:=hid (HX.out.only hox)
    have ivy:=hid (HY.out.only hox)
    clear hk
    refine withs_plain rfl ?_
    simp only [withs,List.getElem?_cons_zero,List.getElem?_cons_succ,Option.bind,Option.getD]
    repeat (with_reducible refine all_isV ?_)
    go_simp
    exact⟨Only.refl _ _,isV.self _ _⟩
   refine owes2_cons (fun wx hox=>?_) ?_
   ·skip
    have hk:=HK.out.step hox
    obtain⟨a0,a1,a2,-,-,-⟩:=hk.c3 1 rfl
    obtain⟨b0,b1,b2,-,-,-⟩:=hk.c3 0 rfl
    have ivx:=hid (HX.out.only hox)
    have ivy:=hid (HY.out.only hox)
    clear hk
    refine withs_plain rfl ?_
    simp only [withs,List.getElem?_cons_zero,List.getElem?_cons_succ,Option.bind,Option.getD]
    repeat (with_reducible refine all_isV ?_)
    go_simp
    (with_reducible exact grow_of (signV_d p (DV.of ivx) HP.out))
   refine owes2_cons (fun wx hox=>?_) ?_
   ·skip
    have hk:=HK.out.step hox
    obtain⟨a0,a1,a2,-,-,-⟩:=hk.c3 1 rfl
    obtain⟨b0,b1,b2,-,-,-⟩:=hk.c3 0 rfl
    have ivx:=hid (HX.out.only hox)
    have ivy:=hid (HY.out.only hox)
    clear hk
    refine withs_plain rfl ?_
    simp only [withs,List.getElem?_cons_zero,List.getElem?_cons_succ,Option.bind,Option.getD]
    repeat (with_reducible refine all_isV ?_)
    go_simp
    exact⟨Only.refl _ _,isV.self _ _⟩
   refine owes2_cons (fun wx hox=>?_) ?_
   ·skip
    have hk:=HK.out.step hox
    obtain⟨a0,a1,a2,-,-,-⟩:=hk.c3 1 rfl
    obtain⟨b0,b1,b2,-,-,-⟩:=hk.c3 0 rfl
    have ivx:=hid (HX.out.only hox)
    have ivy:=hid (HY.out.only hox)
    clear hk
    refine withs_plain rfl ?_
    simp only [withs,List.getElem?_cons_zero,List.getElem?_cons_succ,Option.bind,Option.getD]
    repeat (with_reducible refine all_isV ?_)
    go_simp
    (with_reducible exact grow_of (signV_d q (DV.of ivy) HQ.out))
   refine owes2_cons (fun wx hox=>?_) ?_
   ·skip
    skip
    refine withs_plain rfl ?_
    simp only [withs,List.getElem?_cons_zero,List.getElem?_cons_succ,Option.bind,Option.getD]
    repeat (with_reducible refine all_isV ?_)
    go_simp
    exact⟨Only.refl _ _,isV.self _ _⟩
   refine owes2_cons (fun wx hox=>?_) ?_
   ·skip
    skip
    refine withs_plain rfl ?_
    simp only [withs,List.getElem?_cons_zero,List.getElem?_cons_succ,Option.bind,Option.getD]
    repeat (with_reducible refine all_isV ?_)
    go_simp
    exact⟨Only.refl _ _,isV.self _ _⟩
   exact owes2_nil
  case he=>
   intro wx hox
   refine withs_of (by simp only [List.length,List.range,List.range.loop];exact rfl) ?_
   simp only [withs,List.getElem?_cons_zero,List.getElem?_cons_succ,Option.bind,Option.getD]
   repeat (with_reducible refine all_isV ?_)
   go_simp
   replace HK:=hid (HK.out.step hox)
   replace HX:=hid (HX.out.only hox)
   replace HY:=hid (HY.out.only hox)
   clear hox
   go_wp2_with fail
   go_ret
   exact⟨by rw [HR.out];rfl,HK.out.only⟩
  case hl=>
   repeat (refine List.forall_mem_cons.2 ⟨?_,?_⟩;exact isV.lasts _)
   exact fun _ h=>(by cases h)
 by_cases h3:p=0
 ·have HR:Hid (cmpQ x.q y.q=0):=cmp_zero (by omega) (by omega)
  have h0:(p == 0)=true:=by rw [h3];rfl
  clear hp hq h3
  clear hsx hsy
  go_enter Tryz.func42,Tryz.ntmps42
  go_wp2_with fail
  generalize (w.alloc (.cells #[.bool s,.slice A k c,.int .i64 x.e] 32)).alloc (.cells #[.bool t,.slice B l d,.int .i64 y.e] 32)=w1 at*
  apply wp_region_typed2 (by kernel_rfl) [isV _,isV (.int .i64 p),isV _,isV (.int .i64 q),isV _,isV _] [[],[0],[],[2],[1],[3]] (by kernel_rfl) (by kernel_rfl)
  case ho=>
   refine owes2_cons (fun wx hox=>?_) ?_
   ·skip
    have hk:=HK.out.step hox
    obtain⟨a0,a1,a2,-,-,-⟩:=hk.c3 1 rfl
    obtain⟨b0,b1,b2,-,-,-⟩:=hk.c3 0 rfl
    have ivx:=hid (HX.out.only hox)
    have ivy:=hid (HY.out.only hox)
    clear hk
    refine withs_plain rfl ?_
    simp only [withs,List.getElem?_cons_zero,List.getElem?_cons_succ,Option.bind,Option.getD]
    repeat (with_reducible refine all_isV ?_)
    go_simp
    exact⟨Only.refl _ _,isV.self _ _⟩
   refine owes2_cons (fun wx hox=>?_) ?_
   ·skip
    have hk:=HK.out.step hox
    obtain⟨a0,a1,a2,-,-,-⟩:=hk.c3 1 rfl
    obtain⟨b0,b1,b2,-,-,-⟩:=hk.c3 0 rfl
    have ivx:=hid (HX.out.only hox)
    have ivy:=hid (HY.out.only hox)
    clear hk
    refine withs_plain rfl ?_
    simp only [withs,List.getElem?_cons_zero,List.getElem?_cons_succ,Option.bind,Option.getD]
    repeat (with_reducible refine all_isV ?_)
    go_simp
    (with_reducible exact grow_of (signV_d p (DV.of ivx) HP.out))
   refine owes2_cons (fun wx hox=>?_) ?_
   ·skip
    have hk:=HK.out.step hox
    obtain⟨a0,a1,a2,-,-,-⟩:=hk.c3 1 rfl
    obtain⟨b0,b1,b2,-,-,-⟩:=hk.c3 0 rfl
    have ivx:=hid (HX.out.only hox)
    have ivy:=hid (HY.out.only hox)
    clear hk
    refine withs_plain rfl ?_
    simp only [withs,List.getElem?_cons_zero,List.getElem?_cons_succ,Option.bind,Option.getD]
    repeat (with_reducible refine all_isV ?_)
    go_simp
    exact⟨Only.refl _ _,isV.self _ _⟩
   refine owes2_cons (fun wx hox=>?_) ?_
   ·skip
    have hk:=HK.out.step hox
    obtain⟨a0,a1,a2,-,-,-⟩:=hk.c3 1 rfl
    obtain⟨b0,b1,b2,-,-,-⟩:=hk.c3 0 rfl
    have ivx:=hid (HX.out.only hox)
    have ivy:=hid (HY.out.only hox)
    clear hk
    refine withs_plain rfl ?_
    simp only [withs,List.getElem?_cons_zero,List.getElem?_cons_succ,Option.bind,Option.getD]
    repeat (with_reducible refine all_isV ?_)
    go_simp
    (with_reducible exact grow_of (signV_d q (DV.of ivy) HQ.out))
   refine owes2_cons (fun wx hox=>?_) ?_
   ·skip
    skip
    refine withs_plain rfl ?_
    simp only [withs,List.getElem?_cons_zero,List.getElem?_cons_succ,Option.bind,Option.getD]
    repeat (with_reducible refine all_isV ?_)
    go_simp
    exact⟨Only.refl _ _,isV.self _ _⟩
   refine owes2_cons (fun wx hox=>?_) ?_
   ·skip
    skip
    refine withs_plain rfl ?_
    simp only [withs,List.getElem?_cons_zero,List.getElem?_cons_succ,Option.bind,Option.getD]
    repeat (with_reducible refine all_isV ?_)
    go_simp
    exact⟨Only.refl _ _,isV.self _ _⟩
   exact owes2_nil
  case he=>
   intro wx hox
   refine withs_of (by simp only [List.length,List.range,List.range.loop];exact rfl) ?_
   simp only [withs,List.getElem?_cons_zero,List.getElem?_cons_succ,Option.bind,Option.getD]
   repeat (with_reducible refine all_isV ?_)
   go_simp
   replace HK:=hid (HK.out.step hox)
   replace HX:=hid (HX.out.only hox)
   replace HY:=hid (HY.out.only hox)
   clear hox
   go_wp2_with fail
   go_ret
   exact⟨by rw [HR.out];rfl,HK.out.only⟩
  case hl=>
   repeat (refine List.forall_mem_cons.2 ⟨?_,?_⟩;exact isV.lasts _)
   exact fun _ h=>(by cases h)
 have h0:(p == 0)=false:=by rw [beq_eq_false_iff_ne];exact h3
 obtain⟨m,hm⟩: ∃p,topD x=p:=⟨_,rfl⟩
 obtain⟨n,hn⟩: ∃p,topD y=p:=⟨_,rfl⟩
 have hmr:=top_range hx.out (by omega)
 have hnr:=top_range hy.out (by omega)
 rw [hm] at hmr
 rw [hn] at hnr
 have HM:=hid hm
 have HN:=hid hn
 have hxz:x.z≠0:=by omega
 have hyz:y.z≠0:=by omega
 have hpr: -1≤p∧p≤1:=by omega
 have HXZ:=hid hxz
 have HYZ:=hid hyz
 have hpq:p=q:=by omega
 clear h3 hsx hsy hxz hyz
 by_cases h4:m<n
 ·have HR:Hid (cmpQ x.q y.q= -p):=by show _=_;rw [← hp];exact cmp_top_lt (by rw [hp,hq,hpq]) HXZ.out (by omega)
  clear hp hq hm hn hpq
  go_enter Tryz.func42,Tryz.ntmps42
  go_wp2_with fail
  generalize (w.alloc (.cells #[.bool s,.slice A k c,.int .i64 x.e] 32)).alloc (.cells #[.bool t,.slice B l d,.int .i64 y.e] 32)=w1 at*
  apply wp_region_typed2 (by kernel_rfl) [isV _,isV (.int .i64 p),isV _,isV (.int .i64 q),isV _,isV _] [[],[0],[],[2],[1],[3]] (by kernel_rfl) (by kernel_rfl)
  case ho=>
   refine owes2_cons (fun wx hox=>?_) ?_
   ·skip
    have hk:=HK.out.step hox
    obtain⟨a0,a1,a2,-,-,-⟩:=hk.c3 1 rfl
    obtain⟨b0,b1,b2,-,-,-⟩:=hk.c3 0 rfl
    have ivx:=hid (HX.out.only hox)
    have ivy:=hid (HY.out.only hox)
    clear hk
    refine withs_plain rfl ?_
    simp only [withs,List.getElem?_cons_zero,List.getElem?_cons_succ,Option.bind,Option.getD]
    repeat (with_reducible refine all_isV ?_)
    go_simp
    exact⟨Only.refl _ _,isV.self _ _⟩
   refine owes2_cons (fun wx hox=>?_) ?_
   ·skip
    have hk:=HK.out.step hox
    obtain⟨a0,a1,a2,-,-,-⟩:=hk.c3 1 rfl
    obtain⟨b0,b1,b2,-,-,-⟩:=hk.c3 0 rfl
    have ivx:=hid (HX.out.only hox)
    have ivy:=hid (HY.out.only hox)
    clear hk
    refine withs_plain rfl ?_
    simp only [withs,List.getElem?_cons_zero,List.getElem?_cons_succ,Option.bind,Option.getD]
    repeat (with_reducible refine all_isV ?_)
    go_simp
    (with_reducible exact grow_of (signV_d p (DV.of ivx) HP.out))
   refine owes2_cons (fun wx hox=>?_) ?_
   ·skip
    have hk:=HK.out.step hox
    obtain⟨a0,a1,a2,-,-,-⟩:=hk.c3 1 rfl
    obtain⟨b0,b1,b2,-,-,-⟩:=hk.c3 0 rfl
    have ivx:=hid (HX.out.only hox)
    have ivy:=hid (HY.out.only hox)
    clear hk
    refine withs_plain rfl ?_
    simp only [withs,List.getElem?_cons_zero,List.getElem?_cons_succ,Option.bind,Option.getD]
    repeat (with_reducible refine all_isV ?_)
    go_simp
    exact⟨Only.refl _ _,isV.self _ _⟩
   refine owes2_cons (fun wx hox=>?_) ?_
   ·skip
    have hk:=HK.out.step hox
    obtain⟨a0,a1,a2,-,-,-⟩:=hk.c3 1 rfl
    obtain⟨b0,b1,b2,-,-,-⟩:=hk.c3 0 rfl
    have ivx:=hid (HX.out.only hox)
    have ivy:=hid (HY.out.only hox)
    clear hk
    refine withs_plain rfl ?_
    simp only [withs,List.getElem?_cons_zero,List.getElem?_cons_succ,Option.bind,Option.getD]
    repeat (with_reducible refine all_isV ?_)
    go_simp
    (with_reducible exact grow_of (signV_d q (DV.of ivy) HQ.out))
   refine owes2_cons (fun wx hox=>?_) ?_
   ·skip
    skip
    refine withs_plain rfl ?_
    simp only [withs,List.getElem?_cons_zero,List.getElem?_cons_succ,Option.bind,Option.getD]
    repeat (with_reducible refine all_isV ?_)
    go_simp
    exact⟨Only.refl _ _,isV.self _ _⟩
   refine owes2_cons (fun wx hox=>?_) ?_
   ·skip
    skip
    refine withs_plain rfl ?_
    simp only [withs,List.getElem?_cons_zero,List.getElem?_cons_succ,Option.bind,Option.getD]
    repeat (with_reducible refine all_isV ?_)
    go_simp
    exact⟨Only.refl _ _,isV.self _ _⟩
   exact owes2_nil
  case he=>
   intro wx hox
   refine withs_of (by simp only [List.length,List.range,List.range.loop];exact rfl) ?_
   simp only [withs,List.getElem?_cons_zero,List.getElem?_cons_succ,Option.bind,Option.getD]
   repeat (with_reducible refine all_isV ?_)
   go_simp
   replace HK:=hid (HK.out.step hox)
   replace HX:=hid (HX.out.only hox)
   replace HY:=hid (HY.out.only hox)
   clear hox
   go_wp2_with fail
   apply wp_region_typed2 (by kernel_rfl) [isV _,isV (.int .i64 m),isV _,isV (.int .i64 n),isV _,isV _] [[],[0],[],[2],[1],[3]] (by kernel_rfl) (by kernel_rfl)
   case ho=>
    refine owes2_cons (fun wx hox=>?_) ?_
    ·skip
     have hk:=HK.out.step hox
     obtain⟨a0,a1,a2,-,-,-⟩:=hk.c3 1 rfl
     obtain⟨b0,b1,b2,-,-,-⟩:=hk.c3 0 rfl
     have ivx:=hid (HX.out.only hox)
     have ivy:=hid (HY.out.only hox)
     clear hk
     refine withs_plain rfl ?_
     simp only [withs,List.getElem?_cons_zero,List.getElem?_cons_succ,Option.bind,Option.getD]
     repeat (with_reducible refine all_isV ?_)
     go_simp
     exact⟨Only.refl _ _,isV.self _ _⟩
    refine owes2_cons (fun wx hox=>?_) ?_
    ·skip
     have hk:=HK.out.step hox
     obtain⟨a0,a1,a2,-,-,-⟩:=hk.c3 1 rfl
     obtain⟨b0,b1,b2,-,-,-⟩:=hk.c3 0 rfl
     have ivx:=hid (HX.out.only hox)
     have ivy:=hid (HY.out.only hox)
     clear hk
     refine withs_plain rfl ?_
     simp only [withs,List.getElem?_cons_zero,List.getElem?_cons_succ,Option.bind,Option.getD]
     repeat (with_reducible refine all_isV ?_)
     go_simp
     (with_reducible exact grow_of (topV_d m (DV.of ivx) hx (by omega) HM.out))
    refine owes2_cons (fun wx hox=>?_) ?_
    ·skip
     have hk:=HK.out.step hox
     obtain⟨a0,a1,a2,-,-,-⟩:=hk.c3 1 rfl
     obtain⟨b0,b1,b2,-,-,-⟩:=hk.c3 0 rfl
     have ivx:=hid (HX.out.only hox)
     have ivy:=hid (HY.out.only hox)
     clear hk
     refine withs_plain rfl ?_
     simp only [withs,List.getElem?_cons_zero,List.getElem?_cons_succ,Option.bind,Option.getD]
     repeat (with_reducible refine all_isV ?_)
     go_simp
     exact⟨Only.refl _ _,isV.self _ _⟩
    refine owes2_cons (fun wx hox=>?_) ?_
    ·skip
     have hk:=HK.out.step hox
     obtain⟨a0,a1,a2,-,-,-⟩:=hk.c3 1 rfl
     obtain⟨b0,b1,b2,-,-,-⟩:=hk.c3 0 rfl
     have ivx:=hid (HX.out.only hox)
     have ivy:=hid (HY.out.only hox)
     clear hk
     refine withs_plain rfl ?_
     simp only [withs,List.getElem?_cons_zero,List.getElem?_cons_succ,Option.bind,Option.getD]
     repeat (with_reducible refine all_isV ?_)
     go_simp
     (with_reducible exact grow_of (topV_d n (DV.of ivy) hy (by omega) HN.out))
    refine owes2_cons (fun wx hox=>?_) ?_
    ·skip
     skip
     refine withs_plain rfl ?_
     simp only [withs,List.getElem?_cons_zero,List.getElem?_cons_succ,Option.bind,Option.getD]
     repeat (with_reducible refine all_isV ?_)
     go_simp
     exact⟨Only.refl _ _,isV.self _ _⟩
    refine owes2_cons (fun wx hox=>?_) ?_
    ·skip
     skip
     refine withs_plain rfl ?_
     simp only [withs,List.getElem?_cons_zero,List.getElem?_cons_succ,Option.bind,Option.getD]
     repeat (with_reducible refine all_isV ?_)
     go_simp
     exact⟨Only.refl _ _,isV.self _ _⟩
    exact owes2_nil
   case he=>
    intro wx hox
    refine withs_of (by simp only [List.length,List.range,List.range.loop];exact rfl) ?_
    simp only [withs,List.getElem?_cons_zero,List.getElem?_cons_succ,Option.bind,Option.getD]
    repeat (with_reducible refine all_isV ?_)
    go_simp
    replace HK:=hid (HK.out.step hox)
    replace HX:=hid (HX.out.only hox)
    replace HY:=hid (HY.out.only hox)
    clear hox
    go_wp2_with fail
    go_ret
    exact⟨by rw [HR.out];rfl,HK.out.only⟩
   case hl=>
    repeat (refine List.forall_mem_cons.2 ⟨?_,?_⟩;exact isV.lasts _)
    exact fun _ h=>(by cases h)
  case hl=>
   repeat (refine List.forall_mem_cons.2 ⟨?_,?_⟩;exact isV.lasts _)
   exact fun _ h=>(by cases h)
 by_cases h5:n<m
 ·have HR:Hid (cmpQ x.q y.q=p):=by show _=_;rw [← hp];exact cmp_top_gt (by rw [hp,hq,hpq]) HYZ.out (by omega)
  clear hp hq hm hn hpq
  go_enter Tryz.func42,Tryz.ntmps42
  go_wp2_with fail
  generalize (w.alloc (.cells #[.bool s,.slice A k c,.int .i64 x.e] 32)).alloc (.cells #[.bool t,.slice B l d,.int .i64 y.e] 32)=w1 at*
  apply wp_region_typed2 (by kernel_rfl) [isV _,isV (.int .i64 p),isV _,isV (.int .i64 q),isV _,isV _] [[],[0],[],[2],[1],[3]] (by kernel_rfl) (by kernel_rfl)
  case ho=>
   refine owes2_cons (fun wx hox=>?_) ?_
   ·skip
    have hk:=HK.out.step hox
    obtain⟨a0,a1,a2,-,-,-⟩:=hk.c3 1 rfl
    obtain⟨b0,b1,b2,-,-,-⟩:=hk.c3 0 rfl
    have ivx:=hid (HX.out.only hox)
    have ivy:=hid (HY.out.only hox)
    clear hk
    refine withs_plain rfl ?_
    simp only [withs,List.getElem?_cons_zero,List.getElem?_cons_succ,Option.bind,Option.getD]
    repeat (with_reducible refine all_isV ?_)
    go_simp
    exact⟨Only.refl _ _,isV.self _ _⟩
   refine owes2_cons (fun wx hox=>?_) ?_
   ·skip
    have hk:=HK.out.step hox
    obtain⟨a0,a1,a2,-,-,-⟩:=hk.c3 1 rfl
    obtain⟨b0,b1,b2,-,-,-⟩:=hk.c3 0 rfl
    have ivx:=hid (HX.out.only hox)
    have ivy:=hid (HY.out.only hox)
    clear hk
    refine withs_plain rfl ?_
    simp only [withs,List.getElem?_cons_zero,List.getElem?_cons_succ,Option.bind,Option.getD]
    repeat (with_reducible refine all_isV ?_)
    go_simp
    (with_reducible exact grow_of (signV_d p (DV.of ivx) HP.out))
   refine owes2_cons (fun wx hox=>?_) ?_
   ·skip
    have hk:=HK.out.step hox
    obtain⟨a0,a1,a2,-,-,-⟩:=hk.c3 1 rfl
    obtain⟨b0,b1,b2,-,-,-⟩:=hk.c3 0 rfl
    have ivx:=hid (HX.out.only hox)
    have ivy:=hid (HY.out.only hox)
    clear hk
    refine withs_plain rfl ?_
    simp only [withs,List.getElem?_cons_zero,List.getElem?_cons_succ,Option.bind,Option.getD]
    repeat (with_reducible refine all_isV ?_)
    go_simp
    exact⟨Only.refl _ _,isV.self _ _⟩
   refine owes2_cons (fun wx hox=>?_) ?_
   ·skip
    have hk:=HK.out.step hox
    obtain⟨a0,a1,a2,-,-,-⟩:=hk.c3 1 rfl
    obtain⟨b0,b1,b2,-,-,-⟩:=hk.c3 0 rfl
    have ivx:=hid (HX.out.only hox)
    have ivy:=hid (HY.out.only hox)
    clear hk
    refine withs_plain rfl ?_
    simp only [withs,List.getElem?_cons_zero,List.getElem?_cons_succ,Option.bind,Option.getD]
    repeat (with_reducible refine all_isV ?_)
    go_simp
    (with_reducible exact grow_of (signV_d q (DV.of ivy) HQ.out))
   refine owes2_cons (fun wx hox=>?_) ?_
   ·skip
    skip
    refine withs_plain rfl ?_
    simp only [withs,List.getElem?_cons_zero,List.getElem?_cons_succ,Option.bind,Option.getD]
    repeat (with_reducible refine all_isV ?_)
    go_simp
    exact⟨Only.refl _ _,isV.self _ _⟩
   refine owes2_cons (fun wx hox=>?_) ?_
   ·skip
    skip
    refine withs_plain rfl ?_
    simp only [withs,List.getElem?_cons_zero,List.getElem?_cons_succ,Option.bind,Option.getD]
    repeat (with_reducible refine all_isV ?_)
    go_simp
    exact⟨Only.refl _ _,isV.self _ _⟩
   exact owes2_nil
  case he=>
   intro wx hox
   refine withs_of (by simp only [List.length,List.range,List.range.loop];exact rfl) ?_
   simp only [withs,List.getElem?_cons_zero,List.getElem?_cons_succ,Option.bind,Option.getD]
   repeat (with_reducible refine all_isV ?_)
   go_simp
   replace HK:=hid (HK.out.step hox)
   replace HX:=hid (HX.out.only hox)
   replace HY:=hid (HY.out.only hox)
   clear hox
   go_wp2_with fail
   apply wp_region_typed2 (by kernel_rfl) [isV _,isV (.int .i64 m),isV _,isV (.int .i64 n),isV _,isV _] [[],[0],[],[2],[1],[3]] (by kernel_rfl) (by kernel_rfl)
   case ho=>
    refine owes2_cons (fun wx hox=>?_) ?_
    ·skip
     have hk:=HK.out.step hox
     obtain⟨a0,a1,a2,-,-,-⟩:=hk.c3 1 rfl
     obtain⟨b0,b1,b2,-,-,-⟩:=hk.c3 0 rfl
     have ivx:=hid (HX.out.only hox)
     have ivy:=hid (HY.out.only hox)
     clear hk
     refine withs_plain rfl ?_
     simp only [withs,List.getElem?_cons_zero,List.getElem?_cons_succ,Option.bind,Option.getD]
     repeat (with_reducible refine all_isV ?_)
     go_simp
     exact⟨Only.refl _ _,isV.self _ _⟩
    refine owes2_cons (fun wx hox=>?_) ?_
    ·skip
     have hk:=HK.out.step hox
     obtain⟨a0,a1,a2,-,-,-⟩:=hk.c3 1 rfl
     obtain⟨b0,b1,b2,-,-,-⟩:=hk.c3 0 rfl
     have ivx:=hid (HX.out.only hox)
     have ivy:=hid (HY.out.only hox)
     clear hk
     refine withs_plain rfl ?_
     simp only [withs,List.getElem?_cons_zero,List.getElem?_cons_succ,Option.bind,Option.getD]
     repeat (with_reducible refine all_isV ?_)
     go_simp
     (with_reducible exact grow_of (topV_d m (DV.of ivx) hx (by omega) HM.out))
    refine owes2_cons (fun wx hox=>?_) ?_
    ·skip
     have hk:=HK.out.step hox
     obtain⟨a0,a1,a2,-,-,-⟩:=hk.c3 1 rfl
     obtain⟨b0,b1,b2,-,-,-⟩:=hk.c3 0 rfl
     have ivx:=hid (HX.out.only hox)
     have ivy:=hid (HY.out.only hox)
     clear hk
     refine withs_plain rfl ?_
     simp only [withs,List.getElem?_cons_zero,List.getElem?_cons_succ,Option.bind,Option.getD]
     repeat (with_reducible refine all_isV ?_)
     go_simp
     exact⟨Only.refl _ _,isV.self _ _⟩
    refine owes2_cons (fun wx hox=>?_) ?_
    ·skip
     have hk:=HK.out.step hox
     obtain⟨a0,a1,a2,-,-,-⟩:=hk.c3 1 rfl
     obtain⟨b0,b1,b2,-,-,-⟩:=hk.c3 0 rfl
     have ivx:=hid (HX.out.only hox)
     have ivy:=hid (HY.out.only hox)
     clear hk
     refine withs_plain rfl ?_
     simp only [withs,List.getElem?_cons_zero,List.getElem?_cons_succ,Option.bind,Option.getD]
     repeat (with_reducible refine all_isV ?_)
     go_simp
     (with_reducible exact grow_of (topV_d n (DV.of ivy) hy (by omega) HN.out))
    refine owes2_cons (fun wx hox=>?_) ?_
    ·skip
     skip
     refine withs_plain rfl ?_
     simp only [withs,List.getElem?_cons_zero,List.getElem?_cons_succ,Option.bind,Option.getD]
     repeat (with_reducible refine all_isV ?_)
     go_simp
     exact⟨Only.refl _ _,isV.self _ _⟩
    refine owes2_cons (fun wx hox=>?_) ?_
    ·skip
     skip
     refine withs_plain rfl ?_
     simp only [withs,List.getElem?_cons_zero,List.getElem?_cons_succ,Option.bind,Option.getD]
     repeat (with_reducible refine all_isV ?_)
     go_simp
     exact⟨Only.refl _ _,isV.self _ _⟩
    exact owes2_nil
   case he=>
    intro wx hox
    refine withs_of (by simp only [List.length,List.range,List.range.loop];exact rfl) ?_
    simp only [withs,List.getElem?_cons_zero,List.getElem?_cons_succ,Option.bind,Option.getD]
    repeat (with_reducible refine all_isV ?_)
    go_simp
    replace HK:=hid (HK.out.step hox)
    replace HX:=hid (HX.out.only hox)
    replace HY:=hid (HY.out.only hox)
    clear hox
    go_wp2_with fail
    go_ret
    exact⟨by rw [HR.out];rfl,HK.out.only⟩
   case hl=>
    repeat (refine List.forall_mem_cons.2 ⟨?_,?_⟩;exact isV.lasts _)
    exact fun _ h=>(by cases h)
  case hl=>
   repeat (refine List.forall_mem_cons.2 ⟨?_,?_⟩;exact isV.lasts _)
   exact fun _ h=>(by cases h)
 ·obtain⟨r,hr⟩: ∃r,cmpQ x.q y.q=r:=⟨_,rfl⟩
  have HR:Hid (cmpI (alX x y) (alY x y)=r):=(cmp_al x y).trans hr
  rw [hr]
  clear hp hq hm hn hr hpq
  go_enter Tryz.func42,Tryz.ntmps42
  go_wp2_with fail
  generalize (w.alloc (.cells #[.bool s,.slice A k c,.int .i64 x.e] 32)).alloc (.cells #[.bool t,.slice B l d,.int .i64 y.e] 32)=w1 at*
  apply wp_region_typed2 (by kernel_rfl) [isV _,isV (.int .i64 p),isV _,isV (.int .i64 q),isV _,isV _] [[],[0],[],[2],[1],[3]] (by kernel_rfl) (by kernel_rfl)
  case ho=>
   refine owes2_cons (fun wx hox=>?_) ?_
   ·skip
    have hk:=HK.out.step hox
    obtain⟨a0,a1,a2,-,-,-⟩:=hk.c3 1 rfl
    obtain⟨b0,b1,b2,-,-,-⟩:=hk.c3 0 rfl
    have ivx:=hid (HX.out.only hox)
    have ivy:=hid (HY.out.only hox)
    clear hk
    refine withs_plain rfl ?_
    simp only [withs,List.getElem?_cons_zero,List.getElem?_cons_succ,Option.bind,Option.getD]
    repeat (with_reducible refine all_isV ?_)
    go_simp
    exact⟨Only.refl _ _,isV.self _ _⟩
   refine owes2_cons (fun wx hox=>?_) ?_
   ·skip
    have hk:=HK.out.step hox
    obtain⟨a0,a1,a2,-,-,-⟩:=hk.c3 1 rfl
    obtain⟨b0,b1,b2,-,-,-⟩:=hk.c3 0 rfl
    have ivx:=hid (HX.out.only hox)
    have ivy:=hid (HY.out.only hox)
    clear hk
    refine withs_plain rfl ?_
    simp only [withs,List.getElem?_cons_zero,List.getElem?_cons_succ,Option.bind,Option.getD]
    repeat (with_reducible refine all_isV ?_)
    go_simp
    (with_reducible exact grow_of (signV_d p (DV.of ivx) HP.out))
   refine owes2_cons (fun wx hox=>?_) ?_
   ·skip
    have hk:=HK.out.step hox
    obtain⟨a0,a1,a2,-,-,-⟩:=hk.c3 1 rfl
    obtain⟨b0,b1,b2,-,-,-⟩:=hk.c3 0 rfl
    have ivx:=hid (HX.out.only hox)
    have ivy:=hid (HY.out.only hox)
    clear hk
    refine withs_plain rfl ?_
    simp only [withs,List.getElem?_cons_zero,List.getElem?_cons_succ,Option.bind,Option.getD]
    repeat (with_reducible refine all_isV ?_)
    go_simp
    exact⟨Only.refl _ _,isV.self _ _⟩
   refine owes2_cons (fun wx hox=>?_) ?_
   ·skip
    have hk:=HK.out.step hox
    obtain⟨a0,a1,a2,-,-,-⟩:=hk.c3 1 rfl
    obtain⟨b0,b1,b2,-,-,-⟩:=hk.c3 0 rfl
    have ivx:=hid (HX.out.only hox)
    have ivy:=hid (HY.out.only hox)
    clear hk
    refine withs_plain rfl ?_
    simp only [withs,List.getElem?_cons_zero,List.getElem?_cons_succ,Option.bind,Option.getD]
    repeat (with_reducible refine all_isV ?_)
    go_simp
    (with_reducible exact grow_of (signV_d q (DV.of ivy) HQ.out))
   refine owes2_cons (fun wx hox=>?_) ?_
   ·skip
    skip
    refine withs_plain rfl ?_
    simp only [withs,List.getElem?_cons_zero,List.getElem?_cons_succ,Option.bind,Option.getD]
    repeat (with_reducible refine all_isV ?_)
    go_simp
    exact⟨Only.refl _ _,isV.self _ _⟩
   refine owes2_cons (fun wx hox=>?_) ?_
   ·skip
    skip
    refine withs_plain rfl ?_
    simp only [withs,List.getElem?_cons_zero,List.getElem?_cons_succ,Option.bind,Option.getD]
    repeat (with_reducible refine all_isV ?_)
    go_simp
    exact⟨Only.refl _ _,isV.self _ _⟩
   exact owes2_nil
  case he=>
   intro wx hox
   refine withs_of (by simp only [List.length,List.range,List.range.loop];exact rfl) ?_
   simp only [withs,List.getElem?_cons_zero,List.getElem?_cons_succ,Option.bind,Option.getD]
   repeat (with_reducible refine all_isV ?_)
   go_simp
   replace HK:=hid (HK.out.step hox)
   replace HX:=hid (HX.out.only hox)
   replace HY:=hid (HY.out.only hox)
   clear hox
   go_wp2_with fail
   apply wp_region_typed2 (by kernel_rfl) [isV _,isV (.int .i64 m),isV _,isV (.int .i64 n),isV _,isV _] [[],[0],[],[2],[1],[3]] (by kernel_rfl) (by kernel_rfl)
   case ho=>
    refine owes2_cons (fun wx hox=>?_) ?_
    ·skip
     have hk:=HK.out.step hox
     obtain⟨a0,a1,a2,-,-,-⟩:=hk.c3 1 rfl
     obtain⟨b0,b1,b2,-,-,-⟩:=hk.c3 0 rfl
     have ivx:=hid (HX.out.only hox)
     have ivy:=hid (HY.out.only hox)
     clear hk
     refine withs_plain rfl ?_
     simp only [withs,List.getElem?_cons_zero,List.getElem?_cons_succ,Option.bind,Option.getD]
     repeat (with_reducible refine all_isV ?_)
     go_simp
     exact⟨Only.refl _ _,isV.self _ _⟩
    refine owes2_cons (fun wx hox=>?_) ?_
    ·skip
     have hk:=HK.out.step hox
     obtain⟨a0,a1,a2,-,-,-⟩:=hk.c3 1 rfl
     obtain⟨b0,b1,b2,-,-,-⟩:=hk.c3 0 rfl
     have ivx:=hid (HX.out.only hox)
     have ivy:=hid (HY.out.only hox)
     clear hk
     refine withs_plain rfl ?_
     simp only [withs,List.getElem?_cons_zero,List.getElem?_cons_succ,Option.bind,Option.getD]
     repeat (with_reducible refine all_isV ?_)
     go_simp
     (with_reducible exact grow_of (topV_d m (DV.of ivx) hx (by omega) HM.out))
    refine owes2_cons (fun wx hox=>?_) ?_
    ·skip
     have hk:=HK.out.step hox
     obtain⟨a0,a1,a2,-,-,-⟩:=hk.c3 1 rfl
     obtain⟨b0,b1,b2,-,-,-⟩:=hk.c3 0 rfl
     have ivx:=hid (HX.out.only hox)
     have ivy:=hid (HY.out.only hox)
     clear hk
     refine withs_plain rfl ?_
     simp only [withs,List.getElem?_cons_zero,List.getElem?_cons_succ,Option.bind,Option.getD]
     repeat (with_reducible refine all_isV ?_)
     go_simp
     exact⟨Only.refl _ _,isV.self _ _⟩
    refine owes2_cons (fun wx hox=>?_) ?_
    ·skip
     have hk:=HK.out.step hox
     obtain⟨a0,a1,a2,-,-,-⟩:=hk.c3 1 rfl
     obtain⟨b0,b1,b2,-,-,-⟩:=hk.c3 0 rfl
     have ivx:=hid (HX.out.only hox)
     have ivy:=hid (HY.out.only hox)
     clear hk
     refine withs_plain rfl ?_
     simp only [withs,List.getElem?_cons_zero,List.getElem?_cons_succ,Option.bind,Option.getD]
     repeat (with_reducible refine all_isV ?_)
     go_simp
     (with_reducible exact grow_of (topV_d n (DV.of ivy) hy (by omega) HN.out))
    refine owes2_cons (fun wx hox=>?_) ?_
    ·skip
     skip
     refine withs_plain rfl ?_
     simp only [withs,List.getElem?_cons_zero,List.getElem?_cons_succ,Option.bind,Option.getD]
     repeat (with_reducible refine all_isV ?_)
     go_simp
     exact⟨Only.refl _ _,isV.self _ _⟩
    refine owes2_cons (fun wx hox=>?_) ?_
    ·skip
     skip
     refine withs_plain rfl ?_
     simp only [withs,List.getElem?_cons_zero,List.getElem?_cons_succ,Option.bind,Option.getD]
     repeat (with_reducible refine all_isV ?_)
     go_simp
     exact⟨Only.refl _ _,isV.self _ _⟩
    exact owes2_nil
   case he=>
    intro wx hox
    refine withs_of (by simp only [List.length,List.range,List.range.loop];exact rfl) ?_
    simp only [withs,List.getElem?_cons_zero,List.getElem?_cons_succ,Option.bind,Option.getD]
    repeat (with_reducible refine all_isV ?_)
    go_simp
    replace HK:=hid (HK.out.step hox)
    replace HX:=hid (HX.out.only hox)
    replace HY:=hid (HY.out.only hox)
    clear hox
    obtain⟨a0,a1,a2,-,-,-⟩:=HK.out.c3 1 rfl
    obtain⟨b0,b1,b2,-,-,-⟩:=HK.out.c3 0 rfl
    go_wp2_with fail
    clear a0 a1 a2 b0 b1 b2
    (with_reducible refine (align_d (DV.of HX) (DV.of HY) hx hy hN).mono ?_)
    rintro e5 w5 ⟨s1,A1,k1,c1,t1,B1,l1,d1,rfl,hv1,hv2,ho⟩
    have ho':Only [] w5 ((w5.alloc (.cells #[.bool s1,.slice A1 k1 c1] 30)).alloc (.cells #[.bool t1,.slice B1 l1 d1] 30)):=((Only.refl [] _).alloc _).alloc _
    have HV1:=hid (hv1.only ho')
    have HV2:=hid (hv2.only ho')
    have HO5:=hid ((HK.out.only.nil_trans ho).nil_trans ho')
    clear hv1 hv2 ho ho' HK HX HY
    go_wp2_with fail
    (with_reducible refine (cmpV_w r HV1 HV2 HR.out).mono ?_)
    rintro e6 w6 ⟨rfl,ho⟩
    have HO6:=hid (HO5.out.nil_trans ho)
    clear ho HR HV1 HV2 HO5
    go_wp2_with fail
    go_ret
    exact⟨rfl,HO6.out⟩
   case hl=>
    repeat (refine List.forall_mem_cons.2 ⟨?_,?_⟩;exact isV.lasts _)
    exact fun _ h=>(by cases h)
  case hl=>
   repeat (refine List.forall_mem_cons.2 ⟨?_,?_⟩;exact isV.lasts _)
   exact fun _ h=>(by cases h)
end Go.Proofs.YtigpnopeacicpaaGreatDoor
