import Derived.Test.YtigpnopeacicpaaGreatDoorTcJ15
import Derived.Test.YtigpnopeacicpaaGreatDoorTcJ7
namespace Go.Proofs.YtigpnopeacicpaaGreatDoor
open Go.Lib (hid)
set_option linter.unusedSimpArgs false
open Go.RowKit
set_option maxRecDepth 100000 in
theorem run_append_cp (T:TypeId) (hT:Tryz.prog.underlying T=some (.slice 133)) (w:World) (ty:TypeId) (A:Option Addr) (xs:List Nat) (c:Nat) (hr:LRead w A xs) (hl:(xs.length:Int)≤16000000):
  ∃v' w',(Builtin.append_ #[T,T] ty #[.slice none 0 0,.slice A xs.length c]).run Tryz.prog w= .ok v' w'∧LimbsAt w' v' xs∧(∀ g,v'.ownBlock=some g→w.heap.size≤g)∧Only [] w w':=by
 obtain⟨i0,hi,hz0,hz1,hz2⟩:=u64_parts
 cases xs with
 |nil=>
  cases A with
  |none=>
   refine⟨.slice none 0 0,w,?_,limbsAt_nil w,by simp [Value.ownBlock],Only.refl _ _⟩
   simp [Builtin.append_,run_underlying hT,sizeOf,typeInfo,hi,Builtin.lenOf,Builtin.firstCells]
  |some ad=>
   obtain⟨v',w',hrun,h1,h2,h3,_⟩:=run_append_own_at (P:=Tryz.prog) w 0 T ty 133 i0 _ 1 8 hT hi hz0 hz1 hz2 rfl (by decide) (.slice none 0 0) 0 [] (World.ownsRow_nil _ _ _ _) ad 0 c [] rfl (by simp) (by simp) (by simp [maxLen]) (by omega) (Nat.zero_le _)
   obtain rfl:=h3.2 ⟨rfl,rfl⟩
   exact⟨_,w',hrun,limbsAt_nil w',by simp [Value.ownBlock],Only.of_grown h2 (by simp [Value.ownBlock])⟩
 |cons x xs=>
  obtain⟨b,o,rfl,_⟩:=hr 0 (by simp)
  obtain⟨v',w',hrun,h1,h2,h3,h4⟩:=run_append_own_at (P:=Tryz.prog) w 0 T ty 133 i0 _ 1 8 hT hi hz0 hz1 hz2 rfl (by decide) (.slice none 0 0) 0 [] (World.ownsRow_nil _ _ _ _) ⟨b,o,none⟩ (x::xs).length c (limbV (x::xs)) (by simp [limbV]) (fun j u hu=>by
    have hjl:j<(x::xs).length:=by
     have:=(List.getElem?_eq_some_iff.1 hu).1
     rwa [limbV_len] at this
    rw [limbV_get _ _ hjl] at hu
    obtain⟨b',o',e,hc⟩:=hr j hjl
    injection e with e
    injection e with e1 e2 _
    subst e1 e2
    rw [addr_plus,hc,hu]) (by simp [limbV,Value.oneCell']) (by simp only [maxLen];omega) (by omega) (Nat.zero_le _)
  refine⟨v',w',hrun,by simpa [LimbsAt] using h1,?_,Only.of_grown h2 (by simp [Value.ownBlock])⟩
  intro g hg
  rcases h4 with e|e
  ·rw [e] at hg;simp [Value.ownBlock] at hg
  ·rw [e] at hg
   have:w.heap.size=g:=by simpa using hg
   omega
theorem grow_cp {w:World} {o:Oper} {a:Act} {p:VP} (T:TypeId) (hT:Tryz.prog.underlying T=some (.slice 133)) (s x:Operand)
  (ho:o.op= .call {callee:= .builtin .append,args:= #[s,x],argTypes:= #[T,T]}) (hs:a.eval s= .slice none 0 0) (A:Option Addr) (xs:List Nat) (n c:Nat) (hx:a.eval x= .slice A n c) (hn:n=xs.length) (hr:LRead w A xs) (hl:(n:Int)≤16000000)
  (h: ∀v' w',isNV (val xs) v' w'→Only [] w w'→p v' w') (hlimb:Limb xs:=by assumption) (hlm:(xs.length:Int)≤1000000:=by omega):growAt Tryz.prog o a w p:=by
 subst hn
 obtain⟨v',w',hrun,h1,h2,h3⟩:=run_append_cp T hT w o.type A xs c hr hl
 obtain⟨A',c',rfl,hr',hlc,_⟩:=h1.shape
 unfold growAt execOp
 simp only [ho,resolve,invoke,builtin,Sem.run_bind,Sem.run_pure,Result.andThen_ok,List.map_toArray,List.map_cons,List.map_nil,hs,hx,hrun]
 exact⟨h3,h _ _ ⟨A',_,c',rfl,NV.mk ⟨hr',hlimb,by omega⟩ hlc hlm⟩ h3⟩
def isWV (z:Int):VP:=fun u w=> ∃s A k c,u= .agg #[.bool s,.slice A k c]∧IV w u z
theorem isWV.lasts (z:Int):Lasts (isWV z):=fun _ _ _ ⟨s,A,k,c,h1,h4⟩ ho=>⟨s,A,k,c,h1,h4.only ho⟩
theorem all_isWV {z:Int} {w:World} {K:Value→Prop} (h: ∀s A k c,Hid (IV w (.agg #[.bool s,.slice A k c]) z)→K (.agg #[.bool s,.slice A k c])): ∀v,isWV z v w→K v:=fun v ⟨s,A,k,c,h1,h4⟩=>by
 subst h1
 exact h s A k c h4
theorem isWV.of {w:World} {s:Bool} {A:Option Addr} {k c n:Nat} (h:Hid (NV w (.slice A k c) n)):isWV (sg s n) (.agg #[.bool s,.slice A k c]) w:=⟨s,A,k,c,rfl,IV.mk h.out⟩
def DVPost (x:Dy) (w:World) (e:Ending) (w':World):Prop:= ∃s A k c,e= .returned (.agg #[.bool s,.slice A k c,.int .i64 x.e])∧IV w' (.agg #[.bool s,.slice A k c]) x.z∧Only [] w w'
theorem grow_dv {f:FuncId} {args:Array Value} {w:World} {x:Dy} (h:Calls Tryz.prog f args w (DVPost x w)):
  Calls Tryz.prog f args w fun e w''=> ∃u,e= .returned u∧Only [] w w''∧isDV x u w'':=
 h.mono fun _ _ ⟨s,A,k,c,he,hv,ho2⟩=>⟨_,he,ho2,s,A,k,c,rfl,hv⟩
set_option maxHeartbeats 1600000 in
set_option maxRecDepth 100000 in
theorem numOf_any (neg:Bool) (A:Option Addr) (L:List Nat) (c:Nat) (ez:Int) (w:World) (h:Hid (LimbsIn w A L)) (hl:(L.length:Int)≤40):
  Calls Tryz.prog 17 #[.agg #[.bool neg,.slice A L.length c,.int .i64 ez]] w (DVPost ⟨sg neg (val L),ez⟩ w):=by
 have hk:=((KB.start w).new 24 [.bool neg,.slice A L.length c,.int .i64 ez]).new 32 [.bool false,.slice none 0 0,.int .i64 0]
 simp only [World.size_alloc] at hk
 have HK:=hid hk
 have HL:=hid (h.out.only hk.only)
 clear hk h
 go_enter Tryz.func17,Tryz.ntmps17
 go_wp2_with fail
 apply wp_region_typed_tail2 9 (by kernel_rfl) [isV _,isV _,isV _,isV _,isNV (val L),isWV (sg neg (val L)),isV _,isV _,isDV ⟨sg neg (val L),ez⟩] [[],[0],[],[2],[3],[1,4],[],[6],[5,7]] (by kernel_rfl) (by kernel_rfl) (by kernel_rfl)
 case ho=>
  simp only [List.take_succ_cons,List.take_zero]
  iterate 4
   refine owes2_cons (fun wx hox=>?_) ?_
   ·skip
    have hk:=HK.out.step hox
    obtain⟨a0,a1,a2,-,-,-⟩:=hk.c3 1 rfl
    have hlb:=HL.out.2
    clear hk
    refine withs_plain rfl ?_
    simp only [withs,List.getElem?_cons_zero,List.getElem?_cons_succ,Option.bind,Option.getD]
    with_reducible repeat first|refine all_isV ?_|(refine all_isNV ?_;intro Ax kx cx hvx)|(refine all_isDV ?_;intro sx Ax kx cx hvx)|(refine all_isWV ?_;intro sx Ax kx cx hvx)
    go_simp
    exact⟨Only.refl _ _,isV.self _ _⟩
  refine owes2_cons (fun wx hox=>?_) ?_
  ·skip
   have hk:=HK.out.step hox
   obtain⟨a0,a1,a2,-,-,-⟩:=hk.c3 1 rfl
   clear hk
   have hlb:=HL.out.2
   refine withs_plain rfl ?_
   simp only [withs,List.getElem?_cons_zero,List.getElem?_cons_succ,Option.bind,Option.getD]
   repeat (first|(with_reducible refine all_isV ?_)|(with_reducible refine all_isNV ?_;intro Ax kx cx hvx)|(with_reducible refine all_isDV ?_;intro sx Ax kx cx hvx)|(with_reducible refine all_isWV ?_;intro sx Ax kx cx hvx))
   ((refine grow_cp 22 Tryz.underlying22 _ _ rfl rfl A L L.length c rfl rfl (HL.out.1.only hox) (by omega) ?_);intro v' w' h1 _;exact h1)
  iterate 4
   refine owes2_cons (fun wx hox=>?_) ?_
   ·skip
    have hk:=HK.out.step hox
    obtain⟨a0,a1,a2,-,-,-⟩:=hk.c3 1 rfl
    have hlb:=HL.out.2
    clear hk
    refine withs_plain rfl ?_
    simp only [withs,List.getElem?_cons_zero,List.getElem?_cons_succ,Option.bind,Option.getD]
    with_reducible repeat first|refine all_isV ?_|(refine all_isNV ?_;intro Ax kx cx hvx)|(refine all_isDV ?_;intro sx Ax kx cx hvx)|(refine all_isWV ?_;intro sx Ax kx cx hvx)
    go_simp
    first
    |exact⟨Only.refl _ _,isV.self _ _⟩
    |exact⟨Only.refl _ _,isWV.of (by assumption)⟩
    |exact⟨Only.refl _ _,(DV.of (x:=⟨sg neg (val L),ez⟩) (by assumption)).out⟩
  exact owes2_nil
 case he=>
  simp only [List.drop_succ_cons,List.drop_zero]
  intro wx hox
  refine withs_of (by simp only [List.length,List.range,List.range.loop];exact rfl) ?_
  simp only [withs,List.getElem?_cons_zero,List.getElem?_cons_succ,Option.bind,Option.getD]
  repeat (first|(with_reducible refine all_isV ?_)|(with_reducible refine all_isNV ?_;intro Ax kx cx hvx)|(with_reducible refine all_isDV ?_;intro sx Ax kx cx hvx)|(with_reducible refine all_isWV ?_;intro sx Ax kx cx hvx))
  go_simp
  have hk:=HK.out.step hox
  obtain⟨c0,c1',c2,f0,f1,f2⟩:=hk.c3 0 rfl
  replace hk:=hid hk
  clear hox
  go_wp2_with fail
  refine bodyPost_ret (v:= .agg #[.bool sx,.slice Ax kx cx,.int .i64 (ez)]) (by simp [results,Tryz.results17,go_sem,c0,c1',c2]) rfl ?_
  exact⟨_,_,_,_,rfl,hvx.out.farS (only_set3 _ _ _ _ _) (fun g hg=>by rw [List.mem_singleton] at hg;subst hg;exact hvx.out.far_blk (hk.out.blk 0 rfl) (noLimb3 _ _ _ _ _)),hk.out.only.trans (only_set3 _ _ _ _ _) (fun b hb=> .inr (by simp at hb;omega))⟩
 case hl=>
  repeat (refine List.forall_mem_cons.2 ⟨?_,?_⟩;first|exact isV.lasts _|exact isNV.lasts _|exact isDV.lasts _|exact isWV.lasts _)
  exact fun _ h=>(by cases h)
structure NR where
 s:Bool
 a:Option Addr
 n:Nat
 c:Nat
 e:Int
def NR.v (x:NR):Value:= .agg #[.bool x.s,.slice x.a x.n x.c,.int .i64 x.e]
def NumsRead (w:World) (A:Option Addr) (L:List NR):Prop:= ∀(k:Nat) (hk:k<L.length),∃b o,A=some ⟨b,o,none⟩∧w.cell? ⟨b,o+k*3+1,none⟩=some (.slice L[k].a L[k].n L[k].c)∧w.cell? ⟨b,o+k*3+2,none⟩=some (.int .i64 L[k].e)
def NR.ok (x:NR):Bool:=decide (x.n≤40) && decide (-3000≤x.e) && decide (x.e≤3000)
def lightN (L:List NR):Bool:=L.all NR.ok
theorem lightB_one (a:Option Addr) (n c:Nat):lightB [⟨a,n,c⟩]=decide (n≤40):=by simp [lightB]
set_option maxHeartbeats 1600000 in
set_option maxRecDepth 100000 in
theorem light3_any (A:Option Addr) (c:Nat) (L:List NR) (w:World) (h:Hid (NumsRead w A L)) (hl:(L.length:Int)≤1000):
  Calls Tryz.prog 6 #[.slice A L.length c] w fun e w'=>e= .returned (.bool (lightN L))∧Only [] w w':=by
 go_enter Tryz.func6,Tryz.ntmps6
 go_wp2_with fail
 go_loopw [3] (fun i wr=> ∃k:Nat,k≤L.length∧i= .int .i64 (k:Int)∧lightN (L.take k)=true∧Only [] w wr) (fun i _=>L.length-(intOf i).toNat)
 case atStart=>exact⟨0,Nat.zero_le _,rfl,rfl,Only.refl _ _⟩
 case round=>
  obtain⟨k,hk,rfl,hlt0,ho⟩:=hrel
  have HL:=hid hlt0
  have HO:=hid ho
  clear hlt0 ho
  by_cases hlt:k<L.length
  ·obtain⟨b,o,rfl,h1,h2⟩:=h.out k hlt
   replace h1:=HO.out.cell h1 (by simp)
   replace h2:=HO.out.cell h2 (by simp)
   have HK:Hid (lightN (L.take (k+1))=(lightN (L.take k) && NR.ok L[k])):=by
    show _=_
    unfold lightN
    rw [List.take_succ_eq_append_getElem hlt,List.all_append]
    simp only [List.all_cons,List.all_nil,Bool.and_true]
   have HM:Hid (NR.ok L[k]=false→lightN L=false):=fun hn=>by
    unfold lightN
    rw [List.all_eq_false]
    exact⟨L[k],List.getElem_mem hlt,by rw [hn];decide⟩
   have hk':(k:Int)<(L.length:Int):=by omega
   generalize L[k]=x at h1 h2 HK HM
   obtain⟨xs,xa,xn,xc,xe⟩:=x
   simp only at h1 h2 HK HM
   clear hlt
   by_cases ha:40<xn
   ·have HF:=hid (HM.out (by simp [NR.ok];omega))
    have hd:decide (xn≤40)=false:=decide_eq_false (by omega)
    clear ha
    have H1:=hid h1
    have H2:=hid h2
    go_wp2_with fail
    have hlv:=light_v (w:=wr) [⟨xa,xn,xc⟩] 1 (hid rfl) (by omega)
    rw [lightB_one,hd] at hlv
    simp only [List.map_cons,List.map_nil] at hlv
    (with_reducible refine hlv.mono ?_)
    clear hlv
    rintro e1 w1 ⟨rfl,ho⟩
    replace h1:=ho.cell H1.out (by simp)
    replace h2:=ho.cell H2.out (by simp)
    replace HO:=hid (HO.out.nil_trans ho)
    clear ho h1 h2
    go_wp2_with fail
    go_ret
    exact⟨by rw [HF.out];rfl,HO.out⟩
   have hd:decide (xn≤40)=true:=decide_eq_true (by omega)
   by_cases hb:xe< -3000
   ·have HF:=hid (HM.out (by simp [NR.ok];omega))
    clear ha
    have H1:=hid h1
    have H2:=hid h2
    go_wp2_with fail
    have hlv:=light_v (w:=wr) [⟨xa,xn,xc⟩] 1 (hid rfl) (by omega)
    rw [lightB_one,hd] at hlv
    simp only [List.map_cons,List.map_nil] at hlv
    (with_reducible refine hlv.mono ?_)
    clear hlv
    rintro e1 w1 ⟨rfl,ho⟩
    replace h1:=ho.cell H1.out (by simp)
    replace h2:=ho.cell H2.out (by simp)
    replace HO:=hid (HO.out.nil_trans ho)
    clear ho
    go_wp2_with fail
    go_ret
    exact⟨by rw [HF.out];rfl,HO.out⟩
   by_cases hc:3000<xe
   ·have HF:=hid (HM.out (by simp [NR.ok];omega))
    clear ha
    have H1:=hid h1
    have H2:=hid h2
    go_wp2_with fail
    have hlv:=light_v (w:=wr) [⟨xa,xn,xc⟩] 1 (hid rfl) (by omega)
    rw [lightB_one,hd] at hlv
    simp only [List.map_cons,List.map_nil] at hlv
    (with_reducible refine hlv.mono ?_)
    clear hlv
    rintro e1 w1 ⟨rfl,ho⟩
    replace h1:=ho.cell H1.out (by simp)
    replace h2:=ho.cell H2.out (by simp)
    replace HO:=hid (HO.out.nil_trans ho)
    clear ho
    go_wp2_with fail
    go_ret
    exact⟨by rw [HF.out];rfl,HO.out⟩
   ·have HT:Hid (lightN (L.take (k+1))=true):=by
     show _=_
     rw [HK.out,HL.out]
     simp [NR.ok]
     omega
    clear ha
    have H1:=hid h1
    have H2:=hid h2
    go_wp2_with fail
    have hlv:=light_v (w:=wr) [⟨xa,xn,xc⟩] 1 (hid rfl) (by omega)
    rw [lightB_one,hd] at hlv
    simp only [List.map_cons,List.map_nil] at hlv
    (with_reducible refine hlv.mono ?_)
    clear hlv
    rintro e1 w1 ⟨rfl,ho⟩
    replace h1:=ho.cell H1.out (by simp)
    replace h2:=ho.cell H2.out (by simp)
    replace HO:=hid (HO.out.nil_trans ho)
    clear ho
    go_wp2_with fail
    go_roundw
    case rel=>exact⟨k+1,by omega,by go_num,HT.out,HO.out⟩
    case measure=>simp [intOf];omega
  ·have hnl: ¬(k:Int)<(L.length:Int):=by omega
   have HF:Hid (lightN L=true):=by
    have h1:=HL.out
    rw [List.take_of_length_le (by omega)] at h1
    exact h1
   clear hlt
   go_wp2_with fail
   go_ret
   exact⟨by rw [HF.out];rfl,HO.out⟩
end Go.Proofs.YtigpnopeacicpaaGreatDoor
