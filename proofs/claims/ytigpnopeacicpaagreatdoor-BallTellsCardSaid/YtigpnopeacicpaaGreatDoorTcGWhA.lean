import Derived.Test.YtigpnopeacicpaaGreatDoorTcJ0
import Derived.Test.YtigpnopeacicpaaGreatDoorTcJ7
import Derived.Test.YtigpnopeacicpaaGreatDoorTcGTyp
namespace Go.Proofs.YtigpnopeacicpaaGreatDoor
open Go.Lib (hid)
set_option linter.unusedSimpArgs false
set_option linter.unusedVariables false
def sg (s:Bool) (n:Nat):Int:=if s then -(n:Int) else (n:Int)
theorem sg_true (n:Nat):sg true n= -(n:Int):=rfl
theorem sg_false (n:Nat):sg false n=(n:Int):=rfl
theorem sg_abs (s:Bool) (n:Nat):(sg s n).natAbs=n:=by cases s<;>simp [sg]
theorem sg_self (z:Int):sg (decide (z<0)) z.natAbs=z:=by
 by_cases h:z<0
 ·rw [decide_eq_true h,sg_true];omega
 ·rw [decide_eq_false h,sg_false];omega
theorem sg_not (s:Bool) (n:Nat):sg (!s) n= -(sg s n):=by cases s<;>simp [sg]
theorem sg_zero (s:Bool):sg s 0=0:=by cases s<;>rfl
theorem sg_add (s:Bool) (n m:Nat):sg s (n+m)=sg s n+sg s m:=by
 cases s<;>simp only [sg_true,sg_false,Int.natCast_add]<;>omega
theorem sg_sub (s:Bool) (n m:Nat) (h:m≤n):sg s (n-m)=sg s n+sg (!s) m:=by
 cases s<;>simp only [sg_true,sg_false,Bool.not_true,Bool.not_false]<;>omega
theorem sg_mul (s t:Bool) (n m:Nat):sg (s != t) (n*m)=sg s n*sg t m:=by
 cases s<;>cases t<;>simp [sg,Int.neg_mul,Int.mul_neg,Int.natCast_mul]
def cmpI (x y:Int):Int:=if x<y then -1 else if x=y then 0 else 1
theorem cmpI_sub (x y:Int):cmpI x y=(x-y).sign:=by
 unfold cmpI
 by_cases h:x<y
 ·rw [if_pos h,Int.sign_eq_neg_one_of_neg (by omega)]
 ·rw [if_neg h]
  by_cases h2:x=y
  ·rw [if_pos h2,h2,Int.sub_self];rfl
  ·rw [if_neg h2,Int.sign_eq_one_of_pos (by omega)]
theorem sign_of (z:Int):(z.sign= -1∧z<0)∨(z.sign=0∧z=0)∨(z.sign=1∧0<z):=by
 rcases Int.lt_trichotomy z 0 with h|h|h
 ·exact .inl ⟨Int.sign_eq_neg_one_of_neg h,h⟩
 ·exact .inr (.inl ⟨by rw [h];rfl,h⟩)
 ·exact .inr (.inr ⟨Int.sign_eq_one_of_pos h,h⟩)
theorem cmpI_lt {x y:Int} (h:x<y):cmpI x y= -1:=by unfold cmpI;rw [if_pos h]
theorem cmpI_gt {x y:Int} (h:y<x):cmpI x y=1:=by unfold cmpI;rw [if_neg (by omega),if_neg (by omega)]
theorem cmpI_same {x y:Int} (h:x.sign=y.sign):x.sign*cmpZ x.natAbs y.natAbs=cmpI x y:=by
 unfold cmpZ cmpI
 rcases sign_of x with⟨h1,h2⟩|⟨h1,h2⟩|⟨h1,h2⟩<;>rcases sign_of y with⟨h3,h4⟩|⟨h3,h4⟩|⟨h3,h4⟩<;>rw [h1] at h<;>(try rw [h3] at h)<;>(try omega)
 ·rw [h1]
  by_cases a:x<y
  ·rw [if_pos a,if_neg (by omega),if_neg (by omega)];rfl
  ·by_cases b:x=y
   ·rw [if_neg a,if_pos b,if_neg (by omega),if_pos (by omega)];rfl
   ·rw [if_neg a,if_neg b,if_pos (by omega)];rfl
 ·subst h2 h4;rfl
 ·rw [h1]
  by_cases a:x<y
  ·rw [if_pos a,if_pos (by omega)];rfl
  ·by_cases b:x=y
   ·rw [if_neg a,if_pos b,if_neg (by omega),if_pos (by omega)];rfl
   ·rw [if_neg a,if_neg b,if_neg (by omega),if_neg (by omega)];rfl
end Go.Proofs.YtigpnopeacicpaaGreatDoor
namespace Go.Proofs.YtigpnopeacicpaaGreatDoor
open Go.Lib (hid)
set_option linter.unusedSimpArgs false
open Go.RowKit
def IV (w:World) (v:Value) (z:Int):Prop:= ∃s A k c n,v= .agg #[.bool s,.slice A k c]∧NV w (.slice A k c) n∧sg s n=z
theorem IV.only {w w':World} {v:Value} {z:Int} (h:IV w v z) (ho:Only [] w w'):IV w' v z:=by
 obtain⟨s,A,k,c,n,h1,h2,h3⟩:=h
 exact⟨s,A,k,c,n,h1,h2.only ho,h3⟩
theorem IV.mag {w:World} {s:Bool} {v:Value} {z:Int} (h:IV w (.agg #[.bool s,v]) z):NV w v z.natAbs:=by
 obtain⟨s',A,k,c,n,h1,h2,h3⟩:=h
 simp only [Value.agg.injEq,Array.mk.injEq,List.cons.injEq,Value.bool.injEq,and_true] at h1
 obtain⟨rfl,rfl⟩:=h1
 rw [← h3,sg_abs]
 exact h2
theorem IV.sign {w:World} {s:Bool} {v:Value} {z:Int} (h:IV w (.agg #[.bool s,v]) z):sg s z.natAbs=z:=by
 obtain⟨s',A,k,c,n,h1,h2,h3⟩:=h
 simp only [Value.agg.injEq,Array.mk.injEq,List.cons.injEq,Value.bool.injEq,and_true] at h1
 obtain⟨rfl,rfl⟩:=h1
 rw [← h3,sg_abs]
theorem IV.mk {w:World} {s:Bool} {A:Option Addr} {k c n:Nat} (h:NV w (.slice A k c) n):IV w (.agg #[.bool s,.slice A k c]) (sg s n):=⟨s,A,k,c,n,rfl,h,rfl⟩
theorem IV.few {w:World} {v:Value} {z:Int} (h:IV w v z):Few z.natAbs:=by
 obtain⟨s,A,k,c,n,h1,h2,h3⟩:=h
 rw [← h3,sg_abs]
 exact h2.few
def WPost (z:Int) (w0 w:World) (e:Ending) (w':World):Prop:= ∃s A k c,e= .returned (.agg #[.bool s,.slice A k c])∧s=decide (z<0)∧Res w0 w' (.slice A k c) z.natAbs∧IV w' (.agg #[.bool s,.slice A k c]) z∧Only [] w w'
theorem wpost {z:Int} {w0 w w':World} {s:Bool} {A:Option Addr} {k c:Nat} (hs:s=decide (z<0)) (hr:Res w0 w' (.slice A k c) z.natAbs) (hv:NV w' (.slice A k c) z.natAbs) (ho:Only [] w w'):WPost z w0 w (.returned (.agg #[.bool s,.slice A k c])) w':=
 ⟨s,A,k,c,rfl,hs,hr,⟨s,A,k,c,_,rfl,hv,by rw [hs,sg_self]⟩,ho⟩
theorem bits_zero_iff {n:Nat}:bitsN n=0↔n=0:=by
 unfold bitsN
 constructor
 ·intro h
  apply Decidable.byContradiction
  intro h0
  rw [if_neg h0] at h
  omega
 ·rintro rfl
  rfl
theorem res_len0 {n k:Nat} (h:k=(limbsOf n).length):(n=0∧k=0)∨(n≠0∧0<k):=by
 by_cases h0:n=0
 ·subst h0
  exact .inl ⟨rfl,by rw [h,limbsOf_zero];rfl⟩
 ·refine .inr ⟨h0,?_⟩
  rw [h,limbsOf_pos (by omega)]
  simp
theorem wfin {z:Int} {w wb w1 w2:World} {b:Nat} {s:Bool} {A:Option Addr} {k c:Nat} (hs:s=decide (z<0)) (hb:w.heap.size≤b) (hr:Res wb w1 (.slice A k c) z.natAbs) (hwb:b<wb.heap.size) (hf:Few z.natAbs) (ho:Only [] w w1) (ho2:Only [b] w1 w2):
  WPost z w w (.returned (.agg #[.bool s,.slice A k c])) w2:=by
 have hr2:Res w w2 (.slice A k c) z.natAbs:=(hr.only ho2 (fun g hg hc=>by
  have:=hr.fresh g hg
  simp at hc
  omega)).pre (by omega)
 exact wpost hs hr2 (NV.of_res hr2 hf) (ho.trans ho2 (fun k hk=> .inr (by simp at hk;omega)))
theorem only_set2 (w:World) (b:Nat) (x y:Value):Only [b] w ((w.setCell ⟨b,0,none⟩ x).setCell ⟨b,1,none⟩ y):=((Only.refl [b] w).setCell (.inl (by simp)) x).setCell (.inl (by simp)) y
set_option maxHeartbeats 800000 in
theorem make_w {w:World} {a:Value} {n:Nat} (s:Bool) (ha:Hid (NV w a n)):Calls Tryz.prog 107 #[.bool s,a] w (WPost (sg s n) w w):=by
 have HF:=hid ha.out.few
 obtain⟨A,c,xs,rfl,-⟩:=id ha.out
 have ho0:Only [] w (w.alloc (.cells #[.bool false,.slice none 0 0] 30)):=(Only.refl [] w).alloc _
 have HA:=hid (ha.out.only ho0)
 have hB:=Blk.new w 30 [.bool false,.slice none 0 0]
 have HO0:=hid ho0
 cases s
 ·skip
  go_enter Tryz.func107,Tryz.ntmps107
  go_wp2_with fail
  refine (of_v HA).mono ?_
  rintro e w1 ⟨A1,k1,c1,rfl,hr,hv,ho⟩
  have hB1:=hB.only ho (by simp)
  have c0:=hB1.cell 0
  have c1':=hB1.cell 1
  have f0:=hB1.frozen 0
  have f1:=hB1.frozen 1
  simp only [List.getElem?_cons_zero,List.getElem?_cons_succ] at c0 c1'
  have HR:=hid hr
  have HO:=hid (HO0.out.nil_trans ho)
  have HK:=hid (res_len0 hr.len)
  clear hr hv ho
  rcases HK.out with⟨h0,h1⟩|⟨h0,h1⟩
  ·subst h0 h1
   go_wp2_with fail
   refine bodyPost_ret (v:= .agg #[.bool false,.slice A1 0 c1]) (by simp [results,Tryz.results107,go_sem,c0,c1']) rfl ?_
   rw [sg_zero]
   exact wfin rfl (Nat.le_refl _) HR.out (by simp) HF.out HO.out (only_set2 _ _ _ _)
  ·have h2:(0:Int)<(k1:Int):=by omega
   clear h1
   go_wp2_with fail
   refine bodyPost_ret (v:= .agg #[.bool false,.slice A1 k1 c1]) (by simp [results,Tryz.results107,go_sem,c0,c1',Int.natCast_pos.1 h2]) rfl ?_
   refine wfin ?_ (Nat.le_refl _) (by rw [sg_abs];exact HR.out) (by simp) (by rw [sg_abs];exact HF.out) HO.out (only_set2 _ _ _ _)
   simp only [sg_true,sg_false]
   symm
   exact decide_eq_false (by omega)
 ·skip
  go_enter Tryz.func107,Tryz.ntmps107
  go_wp2_with fail
  refine (of_v HA).mono ?_
  rintro e w1 ⟨A1,k1,c1,rfl,hr,hv,ho⟩
  have hB1:=hB.only ho (by simp)
  have c0:=hB1.cell 0
  have c1':=hB1.cell 1
  have f0:=hB1.frozen 0
  have f1:=hB1.frozen 1
  simp only [List.getElem?_cons_zero,List.getElem?_cons_succ] at c0 c1'
  have HR:=hid hr
  have HO:=hid (HO0.out.nil_trans ho)
  have HK:=hid (res_len0 hr.len)
  clear hr hv ho
  rcases HK.out with⟨h0,h1⟩|⟨h0,h1⟩
  ·subst h0 h1
   go_wp2_with fail
   refine bodyPost_ret (v:= .agg #[.bool false,.slice A1 0 c1]) (by simp [results,Tryz.results107,go_sem,c0,c1']) rfl ?_
   rw [sg_zero]
   exact wfin rfl (Nat.le_refl _) HR.out (by simp) HF.out HO.out (only_set2 _ _ _ _)
  ·have h2:(0:Int)<(k1:Int):=by omega
   clear h1
   go_wp2_with fail
   refine bodyPost_ret (v:= .agg #[.bool true,.slice A1 k1 c1]) (by simp [results,Tryz.results107,go_sem,c0,c1',Int.natCast_pos.1 h2]) rfl ?_
   refine wfin ?_ (Nat.le_refl _) (by rw [sg_abs];exact HR.out) (by simp) (by rw [sg_abs];exact HF.out) HO.out (only_set2 _ _ _ _)
   simp only [sg_true,sg_false]
   symm
   exact decide_eq_true (by omega)
theorem IV.form {w:World} {v:Value} {z:Int} (h:IV w v z): ∃s A k c,v= .agg #[.bool s,.slice A k c]∧sg s z.natAbs=z:=by
 obtain⟨s,A,k,c,n,h1,h2,h3⟩:=h
 exact⟨s,A,k,c,h1,by rw [← h3,sg_abs]⟩
set_option maxHeartbeats 800000 in
theorem sign_w {w:World} {a:Value} {z:Int} (ha:Hid (IV w a z)):Calls Tryz.prog 93 #[a] w fun e w'=>e= .returned (.int .i64 z.sign)∧Only [] w w':=by
 obtain⟨s,A,k,c,rfl,hs⟩:=ha.out.form
 have HM:=hid ha.out.mag
 have ho0:Only [] w (w.alloc (.cells #[.bool s,.slice A k c] 30)):=(Only.refl [] w).alloc _
 have HM1:=hid (HM.out.only ho0)
 have HO0:=hid ho0
 have HB:=hid (bits_zero_iff (n:=z.natAbs))
 clear ho0 ha
 generalize z.natAbs=n at*
 rcases sign_of z with⟨h1,h2⟩|⟨h1,h2⟩|⟨h1,h2⟩
 ·obtain rfl:s=true:=by cases s;(simp only [sg_false] at hs;omega);rfl
  have hn:((bitsN n:Int) == 0)=false:=by
   rw [beq_eq_false_iff_ne]
   intro hc
   have:=HB.out.1 (by omega)
   simp only [sg_true] at hs
   omega
  rw [h1]
  clear h1
  go_enter Tryz.func93,Tryz.ntmps93
  go_wp2_with fail
  refine (bits_v HM1).mono ?_
  rintro e w1 ⟨rfl,rfl⟩
  go_wp2_with fail
  go_ret
  exact⟨rfl,HO0.out⟩
 ·have hn:(bitsN n:Int)=0:=by
   have:n=0:=by cases s<;>simp only [sg_false,sg_true] at hs<;>omega
   have:=HB.out.2 this
   omega
  rw [h1]
  clear h1
  go_enter Tryz.func93,Tryz.ntmps93
  go_wp2_with fail
  refine (bits_v HM1).mono ?_
  rintro e w1 ⟨rfl,rfl⟩
  rw [hn]
  go_wp2_with fail
  go_ret
  exact⟨rfl,HO0.out⟩
 ·obtain rfl:s=false:=by cases s;rfl;(simp only [sg_true] at hs;omega)
  have hn:((bitsN n:Int) == 0)=false:=by
   rw [beq_eq_false_iff_ne]
   intro hc
   have:=HB.out.1 (by omega)
   simp only [sg_false] at hs
   omega
  rw [h1]
  clear h1
  go_enter Tryz.func93,Tryz.ntmps93
  go_wp2_with fail
  refine (bits_v HM1).mono ?_
  rintro e w1 ⟨rfl,rfl⟩
  go_wp2_with fail
  go_ret
  exact⟨rfl,HO0.out⟩
theorem WPost.fwd {z:Int} {w wb w1 w2:World} {b:Nat} {s:Bool} {A:Option Addr} {k c:Nat} (h:s=decide (z<0)∧Res wb w1 (.slice A k c) z.natAbs) (hf:Few z.natAbs) (hb:w.heap.size≤b) (hwb:b<wb.heap.size) (ho:Only [] w w1) (ho2:Only [b] w1 w2):
  WPost z w w (.returned (.agg #[.bool s,.slice A k c])) w2:=wfin h.1 hb h.2 hwb hf ho ho2
set_option maxHeartbeats 800000 in
theorem not_w {w:World} {a:Value} {z:Int} (ha:Hid (IV w a z)):Calls Tryz.prog 110 #[a] w (WPost (-z) w w):=by
 obtain⟨s,A,k,c,rfl,hs⟩:=ha.out.form
 have HM:=hid ha.out.mag
 have HF:Hid (Few (-z).natAbs):=by show Few _;rw [Int.natAbs_neg];exact HM.out.few
 have HS:Hid (sg (!s) z.natAbs= -z):=by show _=_;rw [sg_not,hs]
 have ho0:Only [] w ((w.alloc (.cells #[.bool s,.slice A k c] 30)).alloc (.cells #[.bool false,.slice none 0 0] 30)):=((Only.refl [] w).alloc _).alloc _
 have HM1:=hid (HM.out.only ho0)
 have HO0:=hid ho0
 have hB:=Blk.new (w.alloc (.cells #[.bool s,.slice A k c] 30)) 30 [.bool false,.slice none 0 0]
 simp only [World.size_alloc] at hB
 clear ho0 ha hs
 go_enter Tryz.func110,Tryz.ntmps110
 go_wp2_with fail
 refine (make_w _ HM1).mono ?_
 rintro e w1 ⟨s1,A1,k1,c1,rfl,hs1,hr,hv,ho⟩
 rw [HS.out] at hs1 hr hv
 have HR:=hid (⟨hs1,hr⟩:_∧_)
 have HO1:=hid (HO0.out.nil_trans ho)
 have hB1:=hB.only ho (by simp)
 have c0:=hB1.cell 0
 have c1':=hB1.cell 1
 have f0:=hB1.frozen 0
 have f1:=hB1.frozen 1
 simp only [List.getElem?_cons_zero,List.getElem?_cons_succ] at c0 c1'
 clear hs1 hr hv ho
 go_wp2_with fail
 refine bodyPost_ret (v:= .agg #[.bool s1,.slice A1 k1 c1]) (by simp [results,Tryz.results110,go_sem,c0,c1']) rfl ?_
 exact WPost.fwd HR.out HF.out (by omega) (by simp) HO1.out (only_set2 _ _ _ _)
def isNR (w0:World) (n:Nat):VP:=fun u w=> ∃A k c,u= .slice A k c∧Res w0 w u n∧NV w u n
theorem isNR.lasts (w0:World) (n:Nat):Lasts (isNR w0 n):=fun _ _ _ ⟨A,k,c,h1,h2,h3⟩ ho=>⟨A,k,c,h1,h2.nil ho,h3.only ho⟩
def isWR (w0:World) (z:Int):VP:=fun u w=> ∃s A k c,u= .agg #[.bool s,.slice A k c]∧s=decide (z<0)∧Res w0 w (.slice A k c) z.natAbs∧IV w u z
theorem isWR.lasts (w0:World) (z:Int):Lasts (isWR w0 z):=fun _ _ _ ⟨s,A,k,c,h1,h2,h3,h4⟩ ho=>⟨s,A,k,c,h1,h2,h3.nil ho,h4.only ho⟩
def isRow (t:TypeId) (n:Nat) (cs:List Value):VP:=fun u w=> ∃g,u= .slice (some ⟨g,0,none⟩) n n∧Blk w g t cs
theorem isRow.lasts (t:TypeId) (n:Nat) (cs:List Value):Lasts (isRow t n cs):=fun _ _ _ ⟨g,h1,h2⟩ ho=>⟨g,h1,h2.only ho (by simp)⟩
theorem isRow.new (w:World) (t:TypeId) (n:Nat) (cs:List Value):Only [] w (w.alloc (.cells cs.toArray t))∧isRow t n cs (.slice (some ⟨w.heap.size,0,none⟩) n n) (w.alloc (.cells cs.toArray t)):=⟨(Only.refl [] w).alloc _,_,rfl,Blk.new w t cs⟩
theorem grow_n {f:FuncId} {args:Array Value} {w0 w:World} {n:Nat} (h:Calls Tryz.prog f args w (NPostV n w w)) (ho:Only [] w0 w):
  Calls Tryz.prog f args w fun e w''=> ∃u,e= .returned u∧Only [] w w''∧isNR w0 n u w'':=
 h.mono fun _ _ ⟨A,k,c,he,hr,hv,ho2⟩=>⟨_,he,ho2,A,k,c,rfl,hr.pre ho.size,hv⟩
theorem grow_w {f:FuncId} {args:Array Value} {w0 w:World} {z:Int} (h:Calls Tryz.prog f args w (WPost z w w)) (ho:Only [] w0 w):
  Calls Tryz.prog f args w fun e w''=> ∃u,e= .returned u∧Only [] w w''∧isWR w0 z u w'':=
 h.mono fun _ _ ⟨s,A,k,c,he,hs,hr,hv,ho2⟩=>⟨_,he,ho2,s,A,k,c,rfl,hs,hr.pre ho.size,hv⟩
theorem addB_v {w:World} {g:Nat} {a b:Value} {m n:Nat} (hb:Hid (Blk w g 28 [a,b])) (ha:Hid (NV w a m)) (hb2:Hid (NV w b n)) (hf:Hid (Few (m+n))):
  Calls Tryz.prog 106 #[.slice (some ⟨g,0,none⟩) 2 2] w (NPostV (m+n) w w):=by
 obtain⟨L,h1,h2,h3⟩:=NVs.items (w:=w) (vs:=[a,b]) (ns:=[m,n]) ⟨ha.out,hb2.out,trivial⟩
 have hr:Hid (NsRead w (some ⟨g,0,none⟩) L):=fun j hj=>by
  obtain⟨h4,h5⟩:=h3 j hj
  exact⟨_,0,rfl,by rw [hb.out.cell,Nat.zero_add];exact h4,h5⟩
 simp only [List.sum_cons,List.sum_nil,Nat.add_zero] at h2
 have hc:=add_any (some ⟨g,0,none⟩) 2 L w hr (by rw [h1];simp) (lt_big (by rw [h2];exact hf.out))
 rw [h1,h2] at hc
 exact hc.mono fun e w' hp=>NPostV.of hp hf.out
structure P3 (w:World) (b:Nat) (s:Bool) (u:Value) (t:Bool) (v:Value) (w':World):Prop where
 only:Only [] w w'
 lt:w.heap.size=b
 size:b+3≤w'.heap.size
 b1:Blk w' b 30 [.bool s,u]
 b2:Blk w' (b+1) 30 [.bool t,v]
 b3:Blk w' (b+2) 30 [.bool false,.slice none 0 0]
theorem P3.step {w w' w'':World} {b:Nat} {s t:Bool} {u v:Value} (h:P3 w b s u t v w') (ho:Only [] w' w''):P3 w b s u t v w'':=
 ⟨h.only.nil_trans ho,h.lt,Nat.le_trans h.size ho.size,h.b1.only ho (by simp),h.b2.only ho (by simp),h.b3.only ho (by simp)⟩
theorem P3.start (w:World) (s t:Bool) (u v:Value):P3 w w.heap.size s u t v (((w.alloc (.cells #[.bool s,u] 30)).alloc (.cells #[.bool t,v] 30)).alloc (.cells #[.bool false,.slice none 0 0] 30)):=by
 have hB1:=((Blk.new w 30 [.bool s,u]).alloc (.cells #[.bool t,v] 30)).alloc (.cells #[.bool false,.slice none 0 0] 30)
 have hB2:=(Blk.new (w.alloc (.cells #[.bool s,u] 30)) 30 [.bool t,v]).alloc (.cells #[.bool false,.slice none 0 0] 30)
 have hB3:=Blk.new ((w.alloc (.cells #[.bool s,u] 30)).alloc (.cells #[.bool t,v] 30)) 30 [.bool false,.slice none 0 0]
 simp only [World.size_alloc] at hB2 hB3
 exact⟨(((Only.refl [] w).alloc _).alloc _).alloc _,rfl,by simp,hB1,hB2,hB3⟩
theorem P3.cells {w w':World} {b:Nat} {s t:Bool} {u v:Value} (h:P3 w b s u t v w'):
  w'.cell? ⟨b,0,none⟩=some (.bool s)∧w'.cell? ⟨b,1,none⟩=some u∧w'.cell? ⟨b+1,0,none⟩=some (.bool t)∧w'.cell? ⟨b+1,1,none⟩=some v∧
  w'.cell? ⟨b+2,0,none⟩=some (.bool false)∧w'.cell? ⟨b+2,1,none⟩=some (.slice none 0 0)∧w'.frozen? ⟨b+2,0,none⟩=false∧w'.frozen? ⟨b+2,1,none⟩=false:=
 ⟨h.b1.cell 0,h.b1.cell 1,h.b2.cell 0,h.b2.cell 1,h.b3.cell 0,h.b3.cell 1,h.b3.frozen 0,h.b3.frozen 1⟩
theorem P3.fin {w w1 w2 wb:World} {b:Nat} {s t r:Bool} {u v:Value} {A:Option Addr} {k c:Nat} {z:Int} (h:P3 w b s u t v w1) (hr:r=decide (z<0)∧Res wb w1 (.slice A k c) z.natAbs) (hf:Few z.natAbs) (hb:b+3≤wb.heap.size) (ho:Only [b+2] w1 w2):
  WPost z w w (.returned (.agg #[.bool r,.slice A k c])) w2:=WPost.fwd hr hf (by rw [h.lt];omega) (by omega) h.only ho
set_option maxHeartbeats 1600000 in
set_option maxRecDepth 100000 in
theorem plus_w {w:World} {a b:Value} {x y:Int} (ha:Hid (IV w a x)) (hb:Hid (IV w b y)) (hf:Hid (Few (x+y).natAbs)):Calls Tryz.prog 133 #[a,b] w (WPost (x+y) w w):=by
 obtain⟨s,A,k,c,rfl,hs⟩:=ha.out.form
 obtain⟨t,B,l,d,rfl,ht⟩:=hb.out.form
 have hp:=P3.start w s t (.slice A k c) (.slice B l d)
 have HX:=hid (ha.out.mag.only hp.only)
 have HY:=hid (hb.out.mag.only hp.only)
 have hc:=hp.cells
 have HP:=hid hp
 have HZ:Hid (x+y=sg s x.natAbs+sg t y.natAbs):=by show _=_;rw [hs,ht]
 rw [HZ.out] at hf ⊢
 clear hs ht ha hb hp
 generalize x.natAbs=n at*
 generalize y.natAbs=m at*
 by_cases hst:s=t
 ·subst hst
  have HS:Hid (sg s (n+m)=sg s n+sg s m):=sg_add s n m
  have HF2:Hid (Few (n+m)):=by
   have:=hf.out
   rw [← HS.out,sg_abs] at this
   exact this
  go_enter Tryz.func133,Tryz.ntmps133
  go_wp2_with fail
  generalize ((w.alloc (.cells #[.bool s,.slice A k c] 30)).alloc (.cells #[.bool s,.slice B l d] 30)).alloc (.cells #[.bool false,.slice none 0 0] 30)=w1 at*
  apply wp_region_typed_tail 9 (by kernel_rfl) [isV _,isV _,isV _,isV _,isV _,isV _,isRow 28 2 [.slice A k c,.slice B l d],isNR w1 (n+m),isWR w1 (sg s n+sg s m)] (by kernel_rfl) (by kernel_rfl)
  case ho=>
   simp only [List.take_succ_cons,List.take_zero]
   refine owes_cons (fun wx hox=>?_) ?_
   ·simp only [waits,withs,Region.binds,List.filter,List.map,List.getElem?_cons_zero,List.getElem?_cons_succ,Option.bind,Option.getD,List.range,List.range.loop,List.length]
    repeat (first|refine all_isV ?_|(intro vx hx';replace hx':=hid hx'))
    have hp:=HP.out.step hox
    obtain⟨c0,c1',c2,c3,c4,c5,f4,f5⟩:=hp.cells
    clear hp
    go_simp
    first|exact⟨Only.refl _ _,isV.self _ _⟩|(fail)
   refine owes_cons (fun wx hox=>?_) ?_
   ·simp only [waits,withs,Region.binds,List.filter,List.map,List.getElem?_cons_zero,List.getElem?_cons_succ,Option.bind,Option.getD,List.range,List.range.loop,List.length]
    repeat (first|refine all_isV ?_|(intro vx hx';replace hx':=hid hx'))
    have hp:=HP.out.step hox
    obtain⟨c0,c1',c2,c3,c4,c5,f4,f5⟩:=hp.cells
    clear hp
    go_simp
    first|exact⟨Only.refl _ _,isV.self _ _⟩|(fail)
   refine owes_cons (fun wx hox=>?_) ?_
   ·simp only [waits,withs,Region.binds,List.filter,List.map,List.getElem?_cons_zero,List.getElem?_cons_succ,Option.bind,Option.getD,List.range,List.range.loop,List.length]
    repeat (first|refine all_isV ?_|(intro vx hx';replace hx':=hid hx'))
    have hp:=HP.out.step hox
    obtain⟨c0,c1',c2,c3,c4,c5,f4,f5⟩:=hp.cells
    clear hp
    go_simp
    first|exact⟨Only.refl _ _,isV.self _ _⟩|(fail)
   refine owes_cons (fun wx hox=>?_) ?_
   ·simp only [waits,withs,Region.binds,List.filter,List.map,List.getElem?_cons_zero,List.getElem?_cons_succ,Option.bind,Option.getD,List.range,List.range.loop,List.length]
    repeat (first|refine all_isV ?_|(intro vx hx';replace hx':=hid hx'))
    have hp:=HP.out.step hox
    obtain⟨c0,c1',c2,c3,c4,c5,f4,f5⟩:=hp.cells
    clear hp
    go_simp
    first|exact⟨Only.refl _ _,isV.self _ _⟩|(fail)
   refine owes_cons (fun wx hox=>?_) ?_
   ·simp only [waits,withs,Region.binds,List.filter,List.map,List.getElem?_cons_zero,List.getElem?_cons_succ,Option.bind,Option.getD,List.range,List.range.loop,List.length]
    repeat (first|refine all_isV ?_|(intro vx hx';replace hx':=hid hx'))
    have hp:=HP.out.step hox
    obtain⟨c0,c1',c2,c3,c4,c5,f4,f5⟩:=hp.cells
    clear hp
    go_simp
    first|exact⟨Only.refl _ _,isV.self _ _⟩|(fail)
   refine owes_cons (fun wx hox=>?_) ?_
   ·simp only [waits,withs,Region.binds,List.filter,List.map,List.getElem?_cons_zero,List.getElem?_cons_succ,Option.bind,Option.getD,List.range,List.range.loop,List.length]
    repeat (first|refine all_isV ?_|(intro vx hx';replace hx':=hid hx'))
    have hp:=HP.out.step hox
    obtain⟨c0,c1',c2,c3,c4,c5,f4,f5⟩:=hp.cells
    clear hp
    go_simp
    first|exact⟨Only.refl _ _,isV.self _ _⟩|(fail)
   refine owes_cons (fun wx hox=>?_) ?_
   ·simp only [waits,withs,Region.binds,List.filter,List.map,List.getElem?_cons_zero,List.getElem?_cons_succ,Option.bind,Option.getD,List.range,List.range.loop,List.length]
    repeat (first|refine all_isV ?_|(intro vx hx';replace hx':=hid hx'))
    skip
    go_simp
    first|exact⟨Only.refl _ _,isV.self _ _⟩|(exact isRow.new _ _ _ _)
   refine owes_cons (fun wx hox=>?_) ?_
   ·simp only [waits,withs,Region.binds,List.filter,List.map,List.getElem?_cons_zero,List.getElem?_cons_succ,Option.bind,Option.getD,List.range,List.range.loop,List.length]
    (rintro v ⟨g,rfl,hb⟩;replace hb:=hid hb)
    go_simp
    exact grow_n (addB_v hb (hid (HX.out.only hox)) (hid (HY.out.only hox)) HF2) hox
   refine owes_cons (fun wx hox=>?_) ?_
   ·simp only [waits,withs,Region.binds,List.filter,List.map,List.getElem?_cons_zero,List.getElem?_cons_succ,Option.bind,Option.getD,List.range,List.range.loop,List.length]
    (refine all_isV ?_;rintro _ _ v ⟨A1,k1,c1,rfl,_,hv⟩;replace hv:=hid hv)
    go_simp
    (rw [← HS.out];exact grow_w (make_w _ hv) hox)
   exact owes_nil
  case he=>
   simp only [List.drop_succ_cons,List.drop_zero]
   intro wx hox
   simp only [waits,withs,Region.binds,List.filter,List.map,List.getElem?_cons_zero,List.getElem?_cons_succ,Option.bind,Option.getD,List.range,List.range.loop,List.length]
   repeat (first|refine all_isV ?_|(intro vx hx';replace hx':=hid hx'))
   obtain⟨s1,A1,k1,c1,rfl,hs1,hr1,-⟩:=hx'.out
   have hp:=HP.out.step hox
   obtain⟨c0,c1',c2,c3,c4,c5,f4,f5⟩:=hp.cells
   replace hp:=hid hp
   have HR:=hid (⟨hs1,hr1⟩:_∧_)
   clear hs1 hr1 hc
   go_simp
   go_wp2_with fail
   refine bodyPost_ret (v:= .agg #[.bool s1,.slice A1 k1 c1]) (by simp [results,Tryz.results133,go_sem,c4,c5]) rfl ?_
   exact P3.fin hp.out HR.out hf.out HP.out.size (only_set2 _ _ _ _)
  case hl=>
   repeat (refine List.forall_mem_cons.2 ⟨?_,?_⟩;first|exact isV.lasts _|exact isNR.lasts _ _|exact isWR.lasts _ _|exact isRow.lasts _ _ _)
   exact fun _ h=>(by cases h)
 ·have hts:t= !s:=by cases s<;>cases t<;>simp_all
  subst hts
  clear hst
  cases s
  ·skip
   have HLe:m≤n→Hid (sg false (n-m)=sg false n+sg true m):=fun h=>sg_sub false n m h
   have HGt: ¬m≤n→Hid (sg true (m-n)=sg false n+sg true m):=fun h=>by
    show _=_
    rw [sg_sub true m n (by omega),Int.add_comm]
    rfl
   simp only [Bool.not_false,Bool.not_true] at*
   by_cases hmn:m≤n
   ·have HS:=HLe hmn
    have HD:=hid (decide_eq_true hmn)
    clear HLe HGt hmn
    go_enter Tryz.func133,Tryz.ntmps133
    go_wp2_with fail
    (with_reducible refine (sub_v HX HY).mono ?_)
    rintro e w2 ⟨A1,k1,c1,_,rfl,rfl,-,hv,ho⟩
    rw [HD.out]
    have hp:=HP.out.step ho
    obtain⟨c0,c1',c2,c3,c4,c5,f4,f5⟩:=hp.cells
    replace hp:=hid hp
    replace hv:=hid hv
    clear ho hc
    go_wp2_with fail
    (with_reducible refine (make_w _ hv).mono ?_)
    rintro e w3 ⟨s1,A2,k2,c2',rfl,hs1,hr1,-,ho⟩
    rw [HS.out] at hs1 hr1
    have hp3:=hp.out.step ho
    obtain⟨e0,e1,e2,e3,e4,e5,g4,g5⟩:=hp3.cells
    replace hp3:=hid hp3
    have HR:=hid (⟨hs1,hr1⟩:_∧_)
    clear ho hs1 hr1 c0 c1' c2 c3 c4 c5 f4 f5
    go_wp2_with fail
    refine bodyPost_ret (v:= .agg #[.bool s1,.slice A2 k2 c2']) (by simp [results,Tryz.results133,go_sem,e4,e5]) rfl ?_
    exact P3.fin hp3.out HR.out hf.out hp.out.size (only_set2 _ _ _ _)
   ·have HS:=HGt hmn
    have HD:=hid (decide_eq_false hmn)
    clear HLe HGt hmn
    go_enter Tryz.func133,Tryz.ntmps133
    go_wp2_with fail
    (with_reducible refine (sub_v HX HY).mono ?_)
    rintro e w2 ⟨A1,k1,c1,_,rfl,rfl,-,-,ho⟩
    rw [HD.out]
    have hp:=HP.out.step ho
    obtain⟨c0,c1',c2,c3,c4,c5,f4,f5⟩:=hp.cells
    replace hp:=hid hp
    have HX2:=hid (HX.out.only ho)
    have HY2:=hid (HY.out.only ho)
    clear ho hc
    go_wp2_with fail
    (with_reducible refine (sub_v HY2 HX2).mono ?_)
    rintro e w3 ⟨A2,k2,c2',_,rfl,rfl,-,hv,ho⟩
    have hp3:=hp.out.step ho
    obtain⟨e0,e1,e2,e3,e4,e5,g4,g5⟩:=hp3.cells
    replace hp3:=hid hp3
    replace hv:=hid hv
    clear ho c0 c1' c2 c3 c4 c5 f4 f5
    go_wp2_with fail
    (with_reducible refine (make_w _ hv).mono ?_)
    rintro e w4 ⟨s1,A3,k3,c3',rfl,hs1,hr1,-,ho⟩
    rw [HS.out] at hs1 hr1
    have hp4:=hp3.out.step ho
    obtain⟨i0,i1,i2,i3,i4,i5,j4,j5⟩:=hp4.cells
    replace hp4:=hid hp4
    have HR:=hid (⟨hs1,hr1⟩:_∧_)
    clear ho hs1 hr1 e0 e1 e2 e3 e4 e5 g4 g5
    go_wp2_with fail
    refine bodyPost_ret (v:= .agg #[.bool s1,.slice A3 k3 c3']) (by simp [results,Tryz.results133,go_sem,i4,i5]) rfl ?_
    exact P3.fin hp4.out HR.out hf.out hp3.out.size (only_set2 _ _ _ _)
  ·skip
   have HLe:m≤n→Hid (sg true (n-m)=sg true n+sg false m):=fun h=>sg_sub true n m h
   have HGt: ¬m≤n→Hid (sg false (m-n)=sg true n+sg false m):=fun h=>by
    show _=_
    rw [sg_sub false m n (by omega),Int.add_comm]
    rfl
   simp only [Bool.not_false,Bool.not_true] at*
   by_cases hmn:m≤n
   ·have HS:=HLe hmn
    have HD:=hid (decide_eq_true hmn)
    clear HLe HGt hmn
    go_enter Tryz.func133,Tryz.ntmps133
    go_wp2_with fail
    (with_reducible refine (sub_v HX HY).mono ?_)
    rintro e w2 ⟨A1,k1,c1,_,rfl,rfl,-,hv,ho⟩
    rw [HD.out]
    have hp:=HP.out.step ho
    obtain⟨c0,c1',c2,c3,c4,c5,f4,f5⟩:=hp.cells
    replace hp:=hid hp
    replace hv:=hid hv
    clear ho hc
    go_wp2_with fail
    (with_reducible refine (make_w _ hv).mono ?_)
    rintro e w3 ⟨s1,A2,k2,c2',rfl,hs1,hr1,-,ho⟩
    rw [HS.out] at hs1 hr1
    have hp3:=hp.out.step ho
    obtain⟨e0,e1,e2,e3,e4,e5,g4,g5⟩:=hp3.cells
    replace hp3:=hid hp3
    have HR:=hid (⟨hs1,hr1⟩:_∧_)
    clear ho hs1 hr1 c0 c1' c2 c3 c4 c5 f4 f5
    go_wp2_with fail
    refine bodyPost_ret (v:= .agg #[.bool s1,.slice A2 k2 c2']) (by simp [results,Tryz.results133,go_sem,e4,e5]) rfl ?_
    exact P3.fin hp3.out HR.out hf.out hp.out.size (only_set2 _ _ _ _)
   ·have HS:=HGt hmn
    have HD:=hid (decide_eq_false hmn)
    clear HLe HGt hmn
    go_enter Tryz.func133,Tryz.ntmps133
    go_wp2_with fail
    (with_reducible refine (sub_v HX HY).mono ?_)
    rintro e w2 ⟨A1,k1,c1,_,rfl,rfl,-,-,ho⟩
    rw [HD.out]
    have hp:=HP.out.step ho
    obtain⟨c0,c1',c2,c3,c4,c5,f4,f5⟩:=hp.cells
    replace hp:=hid hp
    have HX2:=hid (HX.out.only ho)
    have HY2:=hid (HY.out.only ho)
    clear ho hc
    go_wp2_with fail
    (with_reducible refine (sub_v HY2 HX2).mono ?_)
    rintro e w3 ⟨A2,k2,c2',_,rfl,rfl,-,hv,ho⟩
    have hp3:=hp.out.step ho
    obtain⟨e0,e1,e2,e3,e4,e5,g4,g5⟩:=hp3.cells
    replace hp3:=hid hp3
    replace hv:=hid hv
    clear ho c0 c1' c2 c3 c4 c5 f4 f5
    go_wp2_with fail
    (with_reducible refine (make_w _ hv).mono ?_)
    rintro e w4 ⟨s1,A3,k3,c3',rfl,hs1,hr1,-,ho⟩
    rw [HS.out] at hs1 hr1
    have hp4:=hp3.out.step ho
    obtain⟨i0,i1,i2,i3,i4,i5,j4,j5⟩:=hp4.cells
    replace hp4:=hid hp4
    have HR:=hid (⟨hs1,hr1⟩:_∧_)
    clear ho hs1 hr1 e0 e1 e2 e3 e4 e5 g4 g5
    go_wp2_with fail
    refine bodyPost_ret (v:= .agg #[.bool s1,.slice A3 k3 c3']) (by simp [results,Tryz.results133,go_sem,i4,i5]) rfl ?_
    exact P3.fin hp4.out HR.out hf.out hp3.out.size (only_set2 _ _ _ _)
structure P2 (w:World) (b:Nat) (s:Bool) (u:Value) (t:Bool) (v:Value) (w':World):Prop where
 only:Only [] w w'
 lt:w.heap.size=b
 b1:Blk w' b 30 [.bool s,u]
 b2:Blk w' (b+1) 30 [.bool t,v]
theorem P2.step {w w' w'':World} {b:Nat} {s t:Bool} {u v:Value} (h:P2 w b s u t v w') (ho:Only [] w' w''):P2 w b s u t v w'':=
 ⟨h.only.nil_trans ho,h.lt,h.b1.only ho (by simp),h.b2.only ho (by simp)⟩
theorem P2.start (w:World) (s t:Bool) (u v:Value):P2 w w.heap.size s u t v ((w.alloc (.cells #[.bool s,u] 30)).alloc (.cells #[.bool t,v] 30)):=by
 have hB1:=((Blk.new w 30 [.bool s,u]).alloc (.cells #[.bool t,v] 30))
 have hB2:=(Blk.new (w.alloc (.cells #[.bool s,u] 30)) 30 [.bool t,v])
 simp only [World.size_alloc] at hB2
 exact⟨((Only.refl [] w).alloc _).alloc _,rfl,hB1,hB2⟩
theorem P2.cells {w w':World} {b:Nat} {s t:Bool} {u v:Value} (h:P2 w b s u t v w'):
  w'.cell? ⟨b,0,none⟩=some (.bool s)∧w'.cell? ⟨b,1,none⟩=some u∧w'.cell? ⟨b+1,0,none⟩=some (.bool t)∧w'.cell? ⟨b+1,1,none⟩=some v:=
 ⟨h.b1.cell 0,h.b1.cell 1,h.b2.cell 0,h.b2.cell 1⟩
theorem sign_range (z:Int): -1≤z.sign∧z.sign≤1:=by rcases sign_of z with h|h|h<;>omega
theorem cmpI_range (x y:Int): -1≤cmpI x y∧cmpI x y≤1:=by unfold cmpI;split<;>(try split)<;>omega
theorem wrap_i64 {z:Int} (h: -9223372036854775808≤z∧z≤9223372036854775807):IntKind.i64.wrap z=z:=by rw [IntKind.wrap_i64];omega
set_option maxHeartbeats 1600000 in
set_option maxRecDepth 100000 in
theorem cmp_w {w:World} {a b:Value} {x y:Int} (ha:Hid (IV w a x)) (hb:Hid (IV w b y)):Calls Tryz.prog 80 #[a,b] w fun e w'=>e= .returned (.int .i64 (cmpI x y))∧Only [] w w':=by
 obtain⟨s,A,k,c,rfl,hs⟩:=ha.out.form
 obtain⟨t,B,l,d,rfl,ht⟩:=hb.out.form
 have hp:=P2.start w s t (.slice A k c) (.slice B l d)
 have HX:=hid (ha.out.only hp.only)
 have HY:=hid (hb.out.only hp.only)
 have HP:=hid hp
 have hpq:=sign_of x
 have hqr:=sign_of y
 clear hs ht ha hb hp
 by_cases h1:x.sign<y.sign
 ·have HR:Hid (cmpI x y= -1):=cmpI_lt (by omega)
  clear hpq hqr
  go_enter Tryz.func80,Tryz.ntmps80
  go_wp2_with fail
  generalize (w.alloc (.cells #[.bool s,.slice A k c] 30)).alloc (.cells #[.bool t,.slice B l d] 30)=w1 at*
  apply wp_region_typed (by kernel_rfl) [isV _,isV _,isV _,isV _,isV _,isV _] (by kernel_rfl)
  case ho=>
   refine owes_cons (fun wx hox=>?_) ?_
   ·simp only [waits,withs,Region.binds,List.filter,List.map,List.getElem?_cons_zero,List.getElem?_cons_succ,Option.bind,Option.getD,List.range,List.range.loop,List.length]
    repeat (first|refine all_isV ?_|(intro vx hx';replace hx':=hid hx'))
    have hp:=HP.out.step hox
    obtain⟨c0,c1',c2,c3⟩:=hp.cells
    clear hp
    go_simp
    first|exact⟨Only.refl _ _,isV.self _ _⟩|(fail)
   refine owes_cons (fun wx hox=>?_) ?_
   ·simp only [waits,withs,Region.binds,List.filter,List.map,List.getElem?_cons_zero,List.getElem?_cons_succ,Option.bind,Option.getD,List.range,List.range.loop,List.length]
    repeat (first|refine all_isV ?_|(intro vx hx';replace hx':=hid hx'))
    skip
    go_simp
    first|exact⟨Only.refl _ _,isV.self _ _⟩|((with_reducible exact grow_of (sign_w (hid (HX.out.only hox)))))
   refine owes_cons (fun wx hox=>?_) ?_
   ·simp only [waits,withs,Region.binds,List.filter,List.map,List.getElem?_cons_zero,List.getElem?_cons_succ,Option.bind,Option.getD,List.range,List.range.loop,List.length]
    repeat (first|refine all_isV ?_|(intro vx hx';replace hx':=hid hx'))
    have hp:=HP.out.step hox
    obtain⟨c0,c1',c2,c3⟩:=hp.cells
    clear hp
    go_simp
    first|exact⟨Only.refl _ _,isV.self _ _⟩|(fail)
   refine owes_cons (fun wx hox=>?_) ?_
   ·simp only [waits,withs,Region.binds,List.filter,List.map,List.getElem?_cons_zero,List.getElem?_cons_succ,Option.bind,Option.getD,List.range,List.range.loop,List.length]
    repeat (first|refine all_isV ?_|(intro vx hx';replace hx':=hid hx'))
    skip
    go_simp
    first|exact⟨Only.refl _ _,isV.self _ _⟩|((with_reducible exact grow_of (sign_w (hid (HY.out.only hox)))))
   refine owes_cons (fun wx hox=>?_) ?_
   ·simp only [waits,withs,Region.binds,List.filter,List.map,List.getElem?_cons_zero,List.getElem?_cons_succ,Option.bind,Option.getD,List.range,List.range.loop,List.length]
    repeat (first|refine all_isV ?_|(intro vx hx';replace hx':=hid hx'))
    skip
    go_simp
    first|exact⟨Only.refl _ _,isV.self _ _⟩|(fail)
   refine owes_cons (fun wx hox=>?_) ?_
   ·simp only [waits,withs,Region.binds,List.filter,List.map,List.getElem?_cons_zero,List.getElem?_cons_succ,Option.bind,Option.getD,List.range,List.range.loop,List.length]
    repeat (first|refine all_isV ?_|(intro vx hx';replace hx':=hid hx'))
    skip
    go_simp
    first|exact⟨Only.refl _ _,isV.self _ _⟩|(fail)
   exact owes_nil
  case hl=>
   repeat (refine List.forall_mem_cons.2 ⟨?_,?_⟩;exact isV.lasts _)
   exact fun _ h=>(by cases h)
  case he=>
   intro wx hox
   simp only [waits,withs,Region.binds,List.filter,List.map,List.getElem?_cons_zero,List.getElem?_cons_succ,Option.bind,Option.getD,List.range,List.range.loop,List.length]
   repeat (first|refine all_isV ?_|(intro vx hx';replace hx':=hid hx'))
   have hp:=HP.out.step hox
   obtain⟨c0,c1',c2,c3⟩:=hp.cells
   clear hp
   go_simp
   go_wp2_with fail
   go_ret
   exact⟨by rw [HR.out];rfl,HP.out.only.nil_trans hox⟩
 ·by_cases h2:y.sign<x.sign
  ·have HR:Hid (cmpI x y=1):=cmpI_gt (by omega)
   clear hpq hqr
   go_enter Tryz.func80,Tryz.ntmps80
   go_wp2_with fail
   generalize (w.alloc (.cells #[.bool s,.slice A k c] 30)).alloc (.cells #[.bool t,.slice B l d] 30)=w1 at*
   apply wp_region_typed (by kernel_rfl) [isV _,isV _,isV _,isV _,isV _,isV _] (by kernel_rfl)
   case ho=>
    refine owes_cons (fun wx hox=>?_) ?_
    ·simp only [waits,withs,Region.binds,List.filter,List.map,List.getElem?_cons_zero,List.getElem?_cons_succ,Option.bind,Option.getD,List.range,List.range.loop,List.length]
     repeat (first|refine all_isV ?_|(intro vx hx';replace hx':=hid hx'))
     have hp:=HP.out.step hox
     obtain⟨c0,c1',c2,c3⟩:=hp.cells
     clear hp
     go_simp
     first|exact⟨Only.refl _ _,isV.self _ _⟩|(fail)
    refine owes_cons (fun wx hox=>?_) ?_
    ·simp only [waits,withs,Region.binds,List.filter,List.map,List.getElem?_cons_zero,List.getElem?_cons_succ,Option.bind,Option.getD,List.range,List.range.loop,List.length]
     repeat (first|refine all_isV ?_|(intro vx hx';replace hx':=hid hx'))
     skip
     go_simp
     first|exact⟨Only.refl _ _,isV.self _ _⟩|((with_reducible exact grow_of (sign_w (hid (HX.out.only hox)))))
    refine owes_cons (fun wx hox=>?_) ?_
    ·simp only [waits,withs,Region.binds,List.filter,List.map,List.getElem?_cons_zero,List.getElem?_cons_succ,Option.bind,Option.getD,List.range,List.range.loop,List.length]
     repeat (first|refine all_isV ?_|(intro vx hx';replace hx':=hid hx'))
     have hp:=HP.out.step hox
     obtain⟨c0,c1',c2,c3⟩:=hp.cells
     clear hp
     go_simp
     first|exact⟨Only.refl _ _,isV.self _ _⟩|(fail)
    refine owes_cons (fun wx hox=>?_) ?_
    ·simp only [waits,withs,Region.binds,List.filter,List.map,List.getElem?_cons_zero,List.getElem?_cons_succ,Option.bind,Option.getD,List.range,List.range.loop,List.length]
     repeat (first|refine all_isV ?_|(intro vx hx';replace hx':=hid hx'))
     skip
     go_simp
     first|exact⟨Only.refl _ _,isV.self _ _⟩|((with_reducible exact grow_of (sign_w (hid (HY.out.only hox)))))
    refine owes_cons (fun wx hox=>?_) ?_
    ·simp only [waits,withs,Region.binds,List.filter,List.map,List.getElem?_cons_zero,List.getElem?_cons_succ,Option.bind,Option.getD,List.range,List.range.loop,List.length]
     repeat (first|refine all_isV ?_|(intro vx hx';replace hx':=hid hx'))
     skip
     go_simp
     first|exact⟨Only.refl _ _,isV.self _ _⟩|(fail)
    refine owes_cons (fun wx hox=>?_) ?_
    ·simp only [waits,withs,Region.binds,List.filter,List.map,List.getElem?_cons_zero,List.getElem?_cons_succ,Option.bind,Option.getD,List.range,List.range.loop,List.length]
     repeat (first|refine all_isV ?_|(intro vx hx';replace hx':=hid hx'))
     skip
     go_simp
     first|exact⟨Only.refl _ _,isV.self _ _⟩|(fail)
    exact owes_nil
   case hl=>
    repeat (refine List.forall_mem_cons.2 ⟨?_,?_⟩;exact isV.lasts _)
    exact fun _ h=>(by cases h)
   case he=>
    intro wx hox
    simp only [waits,withs,Region.binds,List.filter,List.map,List.getElem?_cons_zero,List.getElem?_cons_succ,Option.bind,Option.getD,List.range,List.range.loop,List.length]
    repeat (first|refine all_isV ?_|(intro vx hx';replace hx':=hid hx'))
    have hp:=HP.out.step hox
    obtain⟨c0,c1',c2,c3⟩:=hp.cells
    clear hp
    go_simp
    go_wp2_with fail
    go_ret
    exact⟨by rw [HR.out];rfl,HP.out.only.nil_trans hox⟩
  ·have he:x.sign=y.sign:=by omega
   have hr:=cmpI_same he
   have hcr:=cmpI_range x y
   have HW:Hid (IntKind.i64.wrap (y.sign*cmpZ x.natAbs y.natAbs)=cmpI x y):=by
    show _=_
    rw [← he,hr]
    exact wrap_i64 (by omega)
   rw [he] at h1 h2
   clear hpq hqr hr hcr h1 h2
   go_enter Tryz.func80,Tryz.ntmps80
   go_wp2_with fail
   generalize (w.alloc (.cells #[.bool s,.slice A k c] 30)).alloc (.cells #[.bool t,.slice B l d] 30)=w1 at*
   apply wp_region_typed (by kernel_rfl) [isV _,isV _,isV _,isV _,isV _,isV _] (by kernel_rfl)
   case ho=>
    refine owes_cons (fun wx hox=>?_) ?_
    ·simp only [waits,withs,Region.binds,List.filter,List.map,List.getElem?_cons_zero,List.getElem?_cons_succ,Option.bind,Option.getD,List.range,List.range.loop,List.length]
     repeat (first|refine all_isV ?_|(intro vx hx';replace hx':=hid hx'))
     have hp:=HP.out.step hox
     obtain⟨c0,c1',c2,c3⟩:=hp.cells
     clear hp
     go_simp
     first|exact⟨Only.refl _ _,isV.self _ _⟩|(fail)
    refine owes_cons (fun wx hox=>?_) ?_
    ·simp only [waits,withs,Region.binds,List.filter,List.map,List.getElem?_cons_zero,List.getElem?_cons_succ,Option.bind,Option.getD,List.range,List.range.loop,List.length]
     repeat (first|refine all_isV ?_|(intro vx hx';replace hx':=hid hx'))
     skip
     go_simp
     first|exact⟨Only.refl _ _,isV.self _ _⟩|((with_reducible exact grow_of (sign_w (hid (HX.out.only hox)))))
    refine owes_cons (fun wx hox=>?_) ?_
    ·simp only [waits,withs,Region.binds,List.filter,List.map,List.getElem?_cons_zero,List.getElem?_cons_succ,Option.bind,Option.getD,List.range,List.range.loop,List.length]
     repeat (first|refine all_isV ?_|(intro vx hx';replace hx':=hid hx'))
     have hp:=HP.out.step hox
     obtain⟨c0,c1',c2,c3⟩:=hp.cells
     clear hp
     go_simp
     first|exact⟨Only.refl _ _,isV.self _ _⟩|(fail)
    refine owes_cons (fun wx hox=>?_) ?_
    ·simp only [waits,withs,Region.binds,List.filter,List.map,List.getElem?_cons_zero,List.getElem?_cons_succ,Option.bind,Option.getD,List.range,List.range.loop,List.length]
     repeat (first|refine all_isV ?_|(intro vx hx';replace hx':=hid hx'))
     skip
     go_simp
     first|exact⟨Only.refl _ _,isV.self _ _⟩|((with_reducible exact grow_of (sign_w (hid (HY.out.only hox)))))
    refine owes_cons (fun wx hox=>?_) ?_
    ·simp only [waits,withs,Region.binds,List.filter,List.map,List.getElem?_cons_zero,List.getElem?_cons_succ,Option.bind,Option.getD,List.range,List.range.loop,List.length]
     repeat (first|refine all_isV ?_|(intro vx hx';replace hx':=hid hx'))
     skip
     go_simp
     first|exact⟨Only.refl _ _,isV.self _ _⟩|(fail)
    refine owes_cons (fun wx hox=>?_) ?_
    ·simp only [waits,withs,Region.binds,List.filter,List.map,List.getElem?_cons_zero,List.getElem?_cons_succ,Option.bind,Option.getD,List.range,List.range.loop,List.length]
     repeat (first|refine all_isV ?_|(intro vx hx';replace hx':=hid hx'))
     skip
     go_simp
     first|exact⟨Only.refl _ _,isV.self _ _⟩|(fail)
    exact owes_nil
   case hl=>
    repeat (refine List.forall_mem_cons.2 ⟨?_,?_⟩;exact isV.lasts _)
    exact fun _ h=>(by cases h)
   case he=>
    intro wx hox
    simp only [waits,withs,Region.binds,List.filter,List.map,List.getElem?_cons_zero,List.getElem?_cons_succ,Option.bind,Option.getD,List.range,List.range.loop,List.length]
    repeat (first|refine all_isV ?_|(intro vx hx';replace hx':=hid hx'))
    have hp:=HP.out.step hox
    obtain⟨c0,c1',c2,c3⟩:=hp.cells
    clear hp
    go_simp
    go_wp2_with fail
    (with_reducible refine (cmp_v (hid (HX.out.mag.only hox)) (hid (HY.out.mag.only hox))).mono ?_)
    rintro e w2 ⟨rfl,ho⟩
    have HO:=hid ((HP.out.only.nil_trans hox).nil_trans ho)
    obtain⟨r,hr⟩: ∃r,cmpI x y=r:=⟨_,rfl⟩
    have hw:=HW.out
    rw [hr] at hw
    replace hr:=hid hr
    clear c0 c1' c2 c3 ho
    generalize cmpZ x.natAbs y.natAbs=q at*
    generalize y.sign=p at*
    go_wp2_with fail
    go_ret
    exact⟨by rw [hr.out];rfl,HO.out⟩
set_option maxHeartbeats 800000 in
theorem of_w (v:Int) (w:World) (hv:Hid (-9223372036854775808≤v∧v≤9223372036854775807)):Calls Tryz.prog 76 #[.int .i64 v] w (WPost v w w):=by
 have hB:=Blk.new w 30 [.bool false,.slice none 0 0]
 have HO0:Hid (Only [] w (w.alloc (.cells #[.bool false,.slice none 0 0] 30))):=(Only.refl [] w).alloc _
 have HF:Hid (Few v.natAbs):=few_small (by rw [BB_val];have:=hv.out;omega)
 have HS:=hid (sg_self v)
 have HR:Hid (v.natAbs<BB):=by show _<_;rw [BB_val];have:=hv.out;omega
 by_cases h0:v<0
 ·have e1:IntKind.u64.wrap v=v+18446744073709551616:=by rw [IntKind.wrap_u64];have:=hv.out;omega
  have e2:IntKind.u64.wrap (-(v+18446744073709551616))= -v:=by rw [IntKind.wrap_u64];have:=hv.out;omega
  have HZ:Hid ((v.natAbs:Int)= -v):=by show _=_;omega
  have HS2:Hid (sg true v.natAbs=v):=by show _=_;rw [sg_true];omega
  clear hv
  go_enter Tryz.func76,Tryz.ntmps76
  go_wp2_with fail
  clear e1 e2
  have hl:=of_lit v.natAbs _ (w.alloc (.cells #[.bool false,.slice none 0 0] 30)) HR HZ
  simp only [World.size_alloc] at hl
  (with_reducible refine hl.mono ?_)
  clear hl
  rintro e w2 ⟨A1,k1,c1,rfl,-,hv1,ho⟩
  have hB2:=hB.only ho (by simp)
  have HO2:=hid (HO0.out.nil_trans ho)
  replace hv1:=hid hv1
  have HSz:=hid ho.size
  clear ho
  go_wp2_with fail
  (with_reducible refine (make_w true hv1).mono ?_)
  rintro e w3 ⟨s1,A2,k2,c2,rfl,hs1,hr1,-,ho⟩
  rw [HS2.out] at hs1 hr1
  have hB3:=hB2.only ho (by simp)
  have c0:=hB3.cell 0
  have c1':=hB3.cell 1
  have f0:=hB3.frozen 0
  have f1:=hB3.frozen 1
  simp only [List.getElem?_cons_zero,List.getElem?_cons_succ] at c0 c1'
  have HR1:=hid (⟨hs1,hr1⟩:_∧_)
  have HO3:=hid (HO2.out.nil_trans ho)
  clear ho hs1 hr1
  go_wp2_with fail
  refine bodyPost_ret (v:= .agg #[.bool s1,.slice A2 k2 c2]) (by simp [results,Tryz.results76,go_sem,c0,c1']) rfl ?_
  exact WPost.fwd HR1.out HF.out (Nat.le_refl _) (by have:=HSz.out;simp at this;omega) HO3.out (only_set2 _ _ _ _)
 ·have e1:IntKind.u64.wrap v=v:=by rw [IntKind.wrap_u64];have:=hv.out;omega
  have HZ:Hid ((v.natAbs:Int)=v):=by show _=_;omega
  have HS2:Hid (sg false v.natAbs=v):=by show _=_;rw [sg_false];omega
  clear hv
  go_enter Tryz.func76,Tryz.ntmps76
  go_wp2_with fail
  clear e1
  have hl:=of_lit v.natAbs _ (w.alloc (.cells #[.bool false,.slice none 0 0] 30)) HR HZ
  simp only [World.size_alloc] at hl
  (with_reducible refine hl.mono ?_)
  clear hl
  rintro e w2 ⟨A1,k1,c1,rfl,-,hv1,ho⟩
  have hB2:=hB.only ho (by simp)
  have HO2:=hid (HO0.out.nil_trans ho)
  replace hv1:=hid hv1
  have HSz:=hid ho.size
  clear ho
  go_wp2_with fail
  (with_reducible refine (make_w false hv1).mono ?_)
  rintro e w3 ⟨s1,A2,k2,c2,rfl,hs1,hr1,-,ho⟩
  rw [HS2.out] at hs1 hr1
  have hB3:=hB2.only ho (by simp)
  have c0:=hB3.cell 0
  have c1':=hB3.cell 1
  have f0:=hB3.frozen 0
  have f1:=hB3.frozen 1
  simp only [List.getElem?_cons_zero,List.getElem?_cons_succ] at c0 c1'
  have HR1:=hid (⟨hs1,hr1⟩:_∧_)
  have HO3:=hid (HO2.out.nil_trans ho)
  clear ho hs1 hr1
  go_wp2_with fail
  refine bodyPost_ret (v:= .agg #[.bool s1,.slice A2 k2 c2]) (by simp [results,Tryz.results76,go_sem,c0,c1']) rfl ?_
  exact WPost.fwd HR1.out HF.out (Nat.le_refl _) (by have:=HSz.out;simp at this;omega) HO3.out (only_set2 _ _ _ _)
end Go.Proofs.YtigpnopeacicpaaGreatDoor
