import Derived.Test.YtigpnopeacicpaaGreatDoorTcJ0
import Derived.Test.YtigpnopeacicpaaGreatDoorProg
import Derived.Laws.OwnMore
import Derived.Laws.MakeOwn
import Derived.Laws.CopyOwn
import Derived.OwnWalk
import Derived.Shelf.Spec.BitsCarry
namespace Go.Proofs.YtigpnopeacicpaaGreatDoor
open Go.Lib (hid)
open Go.RowKit
theorem addr_plus (b o j:Nat):(⟨b,o,none⟩:Addr).add j=⟨b,o+j,none⟩:=by
 unfold Addr.add
 by_cases h:j=0<;>simp [h]
def limbV (xs:List Nat):List Value:=xs.map fun (x:Nat)=> .int .u64 (x:Int)
theorem limbV_len (xs:List Nat):(limbV xs).length=xs.length:=by simp [limbV]
theorem limbV_set (xs:List Nat) (i v:Nat):(limbV xs).set i (.int .u64 (v:Int))=limbV (xs.set i v):=by simp [limbV,List.map_set]
theorem limbV_get (xs:List Nat) (i:Nat) (h:i<xs.length):(limbV xs)[i]? =some (.int .u64 ((xs[i]?.getD 0:Nat):Int)):=by simp [limbV,h]
def LRead (w:World) (A:Option Addr) (xs:List Nat):Prop:= ∀k,k<xs.length→ ∃b o,A=some ⟨b,o,none⟩∧w.cell? ⟨b,o+k,none⟩=some (.int .u64 ((xs[k]?.getD 0:Nat):Int))
def LimbsAt (w:World) (u:Value) (xs:List Nat):Prop:=w.ownsRow 0 133 1 u xs.length (limbV xs)
section
variable {w w':World} {A:Option Addr} {xs:List Nat} {u:Value} {S:List Nat}
theorem LRead.only (h:LRead w A xs) (ho:Only [] w w'):LRead w' A xs:=fun k hk=>by
 obtain⟨b,o,h1,h2⟩:=h k hk
 exact⟨b,o,h1,ho.cell h2 (by simp)⟩
theorem LRead.onlyS (h:LRead w A xs) (ho:Only S w w') (hn: ∀a,A=some a→a.block∉S):LRead w' A xs:=fun k hk=>by
 obtain⟨b,o,h1,h2⟩:=h k hk
 exact⟨b,o,h1,ho.cell h2 (hn ⟨b,o,none⟩ h1)⟩
theorem LRead.take (h:LRead w A xs) (n:Nat):LRead w A (xs.take n):=fun k hk=>by
 rw [List.length_take] at hk
 obtain⟨b,o,h1,h2⟩:=h k (by omega)
 exact⟨b,o,h1,by rw [List.getElem?_take_of_lt (by omega)];exact h2⟩
theorem LRead.nil:LRead w A []:=fun k hk=>by simp at hk
theorem LRead.of_blk {g:Nat} {t:TypeId} (h:Blk w g t (limbV xs)):LRead w (some ⟨g,0,none⟩) xs:=fun k hk=>⟨g,0,rfl,by
 rw [h.cell,Nat.zero_add,limbV_get _ _ hk]⟩
theorem LimbsAt.read {c:Nat} {n:Nat} (h:LimbsAt w (.slice A n c) xs):n=xs.length∧LRead w A xs:=by
 rcases h.2 with⟨e,h0⟩|⟨g,cap,cur,e,_,hg,hn,hm,_⟩
 ·injection e with e1 e2 e3
  exact⟨by omega,fun k hk=>by omega⟩
 ·injection e with e1 e2 e3
  subst e1
  refine⟨e2,fun k hk=>⟨g,0,rfl,?_⟩⟩
  have hc:=World.ownsRow.cells h (g:=g) rfl
  have h1:=hc k _ (limbV_get _ _ hk)
  rw [addr_plus] at h1
  exact h1
theorem LimbsAt.shape (h:LimbsAt w u xs): ∃A c,u= .slice A xs.length c∧LRead w A xs∧xs.length≤c∧c≤maxLen:=by
 rcases h.2 with⟨rfl,h0⟩|⟨g,cap,cur,rfl,_,hg,hn,hm,_⟩
 ·exact⟨none,0,by rw [h0],fun k hk=>by omega,by omega,Nat.zero_le _⟩
 ·exact⟨_,cap,rfl,(LimbsAt.read h).2,hn,hm⟩
theorem LimbsAt.only (h:LimbsAt w u xs) (ho:Only S w w') (hn: ∀g,u.ownBlock=some g→g∉S):LimbsAt w' u xs:=by
 rcases h with⟨h0,h1|⟨g,cap,cur,rfl,hb,hg,h2⟩⟩
 ·exact⟨h0,.inl h1⟩
 ·exact⟨h0,.inr ⟨g,cap,cur,rfl,hb,ho.heap hg (hn g rfl),h2⟩⟩
theorem LimbsAt.lt (h:LimbsAt w u xs): ∀g,u.ownBlock=some g→g<w.heap.size:=fun g hg=>(World.ownsRow.lt h g hg).2
theorem limbsAt_nil (w:World):LimbsAt w (.slice none 0 0) []:=World.ownsRow_nil _ _ _ _
theorem LimbsAt.of_blk {g c:Nat} (h:Blk w g 133 (limbV xs)) (hc:c=xs.length) (hm:c≤maxLen) (n:Nat) (hn:n≤xs.length):LimbsAt w (.slice (some ⟨g,0,none⟩) n c) (xs.take n):=by
 subst hc
 have hl:(xs.take n).length=n:=by rw [List.length_take];omega
 refine⟨by simp [limbV],.inr ⟨g,xs.length,(limbV xs).toArray,by rw [hl],Nat.zero_le _,h,by rw [hl];exact hn,hm,by simp [limbV],?_⟩⟩
 rw [hl]
 simp [limbV]
end
structure Arg (w:World) (A:Option Addr) (xs:List Nat):Prop where
 read:LRead w A xs
 limb:Limb xs
 len:(xs.length:Int)≤4000000
theorem Arg.only {w w':World} {A:Option Addr} {xs:List Nat} (h:Arg w A xs) (ho:Only [] w w'):Arg w' A xs:=⟨h.read.only ho,h.limb,h.len⟩
theorem Arg.onlyS {w w':World} {A:Option Addr} {xs:List Nat} {S:List Nat} (h:Arg w A xs) (ho:Only S w w') (hn: ∀a,A=some a→a.block∉S):Arg w' A xs:=⟨h.read.onlyS ho hn,h.limb,h.len⟩
theorem Arg.trim {w:World} {A:Option Addr} {xs:List Nat} (h:Arg w A xs):Arg w A (limbsOf (val xs)):=by
 have e:=limbsOf_take h.limb
 refine⟨?_,limb_limbsOf _,by have:=h.len;have:=e.2;omega⟩
 rw [← e.1]
 exact h.read.take _
structure Res (w0 w:World) (u:Value) (n:Nat):Prop where
 at_:LimbsAt w u (limbsOf n)
 fresh: ∀g,u.ownBlock=some g→w0.heap.size≤g
theorem Res.only {w0 w w':World} {u:Value} {n:Nat} {S:List Nat} (h:Res w0 w u n) (ho:Only S w w') (hn: ∀g,u.ownBlock=some g→g∉S):Res w0 w' u n:=⟨h.at_.only ho hn,h.fresh⟩
theorem Res.nil {w0 w w':World} {u:Value} {n:Nat} (h:Res w0 w u n) (ho:Only [] w w'):Res w0 w' u n:=h.only ho (by simp)
theorem Res.pre {w0 w1 w:World} {u:Value} {n:Nat} (h:Res w1 w u n) (ho:w0.heap.size≤w1.heap.size):Res w0 w u n:=⟨h.at_,fun g hg=>Nat.le_trans ho (h.fresh g hg)⟩
theorem Res.shape {w0 w:World} {u:Value} {n:Nat} (h:Res w0 w u n) (hl:((limbsOf n).length:Int)≤4000000): ∃A c,u= .slice A (limbsOf n).length c∧Arg w A (limbsOf n)∧(∀ a,A=some a→w0.heap.size≤a.block∧a.block<w.heap.size):=by
 obtain⟨A,c,rfl,h1,_,_⟩:=h.at_.shape
 refine⟨A,c,rfl,⟨h1,limb_limbsOf n,hl⟩,?_⟩
 rintro a rfl
 exact⟨h.fresh a.block rfl,h.at_.lt a.block rfl⟩
theorem Res.shape2 {w0 w:World} {u:Value} {n:Nat} (h:Res w0 w u n) (hl:((limbsOf n).length:Int)≤4000000): ∃A c q,u= .slice A q c∧(limbsOf n).length=q∧q≤c∧Arg w A (limbsOf n)∧(∀ a,A=some a→w0.heap.size≤a.block∧a.block<w.heap.size):=by
 obtain⟨A,c,rfl,h1,h2,_⟩:=h.at_.shape
 refine⟨A,c,_,rfl,rfl,h2,⟨h1,limb_limbsOf n,hl⟩,?_⟩
 rintro a rfl
 exact⟨h.fresh a.block rfl,h.at_.lt a.block rfl⟩
def NPost (n:Nat) (w:World) (e:Ending) (w':World):Prop:= ∃u,e= .returned u∧Res w w' u n∧Only [] w w'
theorem Tryz.u64Info:(Tryz.prog.info? 133).map (fun i=>(i.zero,i.size,i.bytes))=some (some (.int .u64 0),1,8):=by kernel_rfl
theorem u64_parts: ∃i:TypeInfo,Tryz.prog.info? 133=some i∧i.zero=some (.int .u64 0)∧i.size=1∧i.bytes=8:=by
 obtain⟨i,h,e⟩:=Option.map_eq_some_iff.1 Tryz.u64Info
 simp only [Prod.mk.injEq] at e
 exact⟨i,h,e.1,e.2.1,e.2.2⟩
theorem limbV_zeros (n:Nat):limbV (List.replicate n 0)=List.replicate n (.int .u64 0):=by simp [limbV]
set_option maxRecDepth 100000 in
theorem make_nat (w:World) (n:Nat) (hn:(n:Int)≤16000000): ∃w',(Instr.makeSlice 28 (.int .i64 (n:Int)) (.int .i64 (n:Int))).run Tryz.prog w= .ok (.slice (some ⟨w.heap.size,0,none⟩) n n) w'∧
  Blk w' w.heap.size 133 (limbV (List.replicate n 0))∧Only [] w w'∧w.heap.size<w'.heap.size:=by
 obtain⟨i0,hi,hz0,hz1,hz2⟩:=u64_parts
 obtain⟨w',hr,ho,hg⟩:=run_make_full (P:=Tryz.prog) w 0 28 133 i0 _ 1 Tryz.underlying28 hi hz0 hz1 .i64 .i64 n (by rw [hz2];omega) (by simp only [maxLen];omega) (Nat.zero_le _)
 refine⟨w',hr,?_,Only.of_grown hg (by simp),(World.ownsRow.lt ho _ rfl).2⟩
 rcases ho.2 with⟨h0,_⟩|⟨g,cap,cur,e,_,hb,_,_,hs,ht⟩
 ·cases h0
 ·injection e with e1 e2 e3
  injection e1 with e1
  injection e1 with e1 _ _
  subst e1 e3
  unfold Blk
  rw [hb,limbV_zeros]
  congr 2
  apply Array.ext'
  rw [← List.take_of_length_le (l:=cur.toList) (i:=n*1) (by simp [hs]),ht]
  have e:(Value.int IntKind.u64 0).cells= #[.int .u64 0]:=rfl
  simp only [madeCells,e]
  simp [Nat.mod_one]
  apply List.ext_getElem<;>simp
set_option maxRecDepth 100000 in
theorem copy_nat (w:World) (g:Nat) (zs:List Nat) (A:Option Addr) (xs:List Nat) (c d:Nat) (ty:TypeId) (hb:Blk w g 133 (limbV zs)) (hr:LRead w A xs) (hl:xs.length≤zs.length):
  ∃w',(Builtin.copy_ #[28,28] ty #[.slice (some ⟨g,0,none⟩) zs.length d,.slice A xs.length c]).run Tryz.prog w= .ok (goInt xs.length) w'∧Blk w' g 133 (limbV (xs++zs.drop xs.length))∧Only [g] w w'∧w'.heap.size=w.heap.size:=by
 have hsz:(Tryz.prog.info? 133).map (·.size)=some 1:=by kernel_rfl
 cases xs with
 |nil=>
  refine⟨w,?_,by simpa using hb,Only.refl _ _,rfl⟩
  exact run_copy_none (P:=Tryz.prog) w 28 28 ty 133 (some ⟨g,0,none⟩) A zs.length d 0 c Tryz.underlying28 hsz (by simp)
 |cons x xs=>
  obtain⟨b,o,rfl,_⟩:=hr 0 (by simp)
  have hrun:=run_copy_row (P:=Tryz.prog) w 28 28 ty 133 g 0 zs.length d ⟨b,o,none⟩ (x::xs).length c (limbV zs).toArray 133 (limbV (x::xs)) Tryz.underlying28 hsz hb (by rw [limbV_len];exact (Nat.min_eq_left hl).symm)
   (fun j v hj=>by
    have hjl:j<(x::xs).length:=by
     have:=(List.getElem?_eq_some_iff.1 hj).1
     rwa [limbV_len] at this
    rw [limbV_get _ _ hjl] at hj
    obtain⟨b',o',e,hc⟩:=hr j hjl
    injection e with e
    injection e with e1 e2 _
    subst e1 e2
    rw [addr_plus,hc,hj]) (by simp [limbV] at hl ⊢;omega) (by simp [limbV,Value.oneCell'])
  rw [limbV_len] at hrun
  have e1:((limbV zs).toArray.toList.take 0++(limbV (x::xs)++(limbV zs).toArray.toList.drop (0+(x::xs).length)))=limbV ((x::xs)++zs.drop (x::xs).length):=by simp [limbV]
  have hh:=setRow_heap w g _ ((limbV zs).toArray.toList.take 0++(limbV (x::xs)++(limbV zs).toArray.toList.drop (0+(x::xs).length))).toArray 133 _ hb
  refine⟨_,hrun,?_,⟨rfl,rfl,rfl,by simp [World.setRow],fun k _ hn=>setRow_other w g k _ (by simpa using hn)⟩,by simp [World.setRow]⟩
  unfold Blk
  rw [← e1]
  exact hh
end Go.Proofs.YtigpnopeacicpaaGreatDoor
namespace Go.Proofs.YtigpnopeacicpaaGreatDoor
open Go.Lib (hid)
open Go.RowKit
set_option maxRecDepth 100000 in
theorem slice_head (A:Option Addr) (n c m:Nat) (h:m≤c) (w:World):(Instr.slice 28 (.slice A n c) none (some (.int .i64 (m:Int))) none).run Tryz.prog w= .ok (.slice A m c) w:=by
 have hs:(sizeOf (Tryz.prog.elem 28)).run Tryz.prog w= .ok 1 w:=by kernel_rfl
 rw [run_slice_h (P:=Tryz.prog) (w:=w) 28 A n c (by kernel_rfl) .i64 (m:Int) (by omega) (by omega),hs]
 simp only [Result.andThen,sliced,Int.toNat_natCast]
 cases A<;>simp [Addr.add]
set_option maxRecDepth 100000 in
theorem slice_tail (b o n c m:Nat) (h:m≤n) (hc:m≠c) (w:World):(Instr.slice 28 (.slice (some ⟨b,o,none⟩) n c) (some (.int .i64 (m:Int))) none none).run Tryz.prog w= .ok (.slice (some ⟨b,o+m,none⟩) (n-m) (c-m)) w:=by
 have hs:(sizeOf (Tryz.prog.elem 28)).run Tryz.prog w= .ok 1 w:=by kernel_rfl
 rw [run_slice_l (P:=Tryz.prog) (w:=w) 28 (some ⟨b,o,none⟩) n c (by kernel_rfl) .i64 (m:Int) (by omega) (by omega),hs]
 simp only [Result.andThen,sliced,Int.toNat_natCast]
 simp [addr_plus,Ne.symm hc]
set_option maxHeartbeats 800000 in
theorem trim_any (A:Option Addr) (c:Nat) (xs:List Nat) (w:World) (h:Hid (Arg w A xs)) (hc:xs.length≤c):
  Calls Tryz.prog 123 #[.slice A xs.length c] w fun e w'=>e= .returned (.slice A (limbsOf (val xs)).length c)∧w=w':=by
 have hlen:=h.out.len
 go_enter Tryz.func123,Tryz.ntmps123
 go_wp2
 go_loop [3] (fun t=> ∃n:Nat,n≤xs.length∧t= .int .i64 (n:Int)∧ ∀j,n≤j→j<xs.length→xs[j]?.getD 0=0) (fun t=>(intOf t).toNat)
 case atStart=>exact⟨xs.length,Nat.le_refl _,rfl,fun j h1 h2=>by omega⟩
 case round=>
  obtain⟨n,hn,rfl,hz⟩:=hrel
  have HZ:=hid hz
  clear hz
  cases n with
  |zero=>
   have HE:Hid ((limbsOf (val xs)).length=0):=(trim_stop h.out.limb 0 hn HZ.out (fun h=>by omega)).1
   go_wp2
   go_ret
   exact⟨by rw [HE.out];rfl,rfl⟩
  |succ m=>
   obtain⟨b,o,rfl,hcell⟩:=h.out.read m (by omega)
   by_cases h0:xs[m]?.getD 0=0
   ·have HZ':Hid (∀ j,m≤j→j<xs.length→xs[j]?.getD 0=0):=fun j h1 h2=>by
     by_cases e:j=m
     ·rw [e];exact h0
     ·exact HZ.out j (by omega) h2
    rw [h0] at hcell
    clear h0
    go_wp2
    go_round
    case rel=>exact⟨m,by omega,by go_num,HZ'.out⟩
    case measure=>simp [intOf]
   ·have HE:Hid ((limbsOf (val xs)).length=m+1):=(trim_stop h.out.limb (m+1) hn HZ.out (fun _=>by simpa using h0)).1
    have g0:(((xs[m]?.getD 0:Nat):Int) == 0)=false:=beq_eq_false_iff_ne.2 (by omega)
    generalize xs[m]?.getD 0=x at hcell g0
    clear h0
    go_wp2
    go_ret
    exact⟨by rw [HE.out];rfl,rfl⟩
theorem trim_row (g n c:Nat) (zs:List Nat) (w:World) (hb:Blk w g 133 (limbV zs)) (hz:Limb zs) (hn:n=zs.length) (hc:n≤c) (hl:(n:Int)≤4000000):
  Calls Tryz.prog 123 #[.slice (some ⟨g,0,none⟩) n c] w fun e w'=>e= .returned (.slice (some ⟨g,0,none⟩) (limbsOf (val zs)).length c)∧w=w':=by
 subst hn
 exact trim_any _ c zs w ⟨.of_blk hb,hz,hl⟩ hc
set_option maxRecDepth 100000 in
theorem run_append_limbs (w:World) (ty:TypeId) (A:Option Addr) (xs:List Nat) (c:Nat) (hr:LRead w A xs) (hl:(xs.length:Int)≤4000000):
  ∃v' w',(Builtin.append_ #[28,28] ty #[.slice none 0 0,.slice A xs.length c]).run Tryz.prog w= .ok v' w'∧LimbsAt w' v' xs∧(∀ g,v'.ownBlock=some g→w.heap.size≤g)∧Only [] w w':=by
 obtain⟨i0,hi,hz0,hz1,hz2⟩:=u64_parts
 cases xs with
 |nil=>
  cases A with
  |none=>
   refine⟨.slice none 0 0,w,?_,limbsAt_nil w,by simp [Value.ownBlock],Only.refl _ _⟩
   simp [Builtin.append_,run_underlying Tryz.underlying28,sizeOf,typeInfo,hi,Builtin.lenOf,Builtin.firstCells]
  |some ad=>
   obtain⟨v',w',hrun,h1,h2,h3,_⟩:=run_append_own_at (P:=Tryz.prog) w 0 28 ty 133 i0 _ 1 8 Tryz.underlying28 hi hz0 hz1 hz2 rfl (by decide) (.slice none 0 0) 0 [] (World.ownsRow_nil _ _ _ _) ad 0 c [] rfl (by simp) (by simp) (by simp [maxLen]) (by omega) (Nat.zero_le _)
   obtain rfl:=h3.2 ⟨rfl,rfl⟩
   exact⟨_,w',hrun,limbsAt_nil w',by simp [Value.ownBlock],Only.of_grown h2 (by simp [Value.ownBlock])⟩
 |cons x xs=>
  obtain⟨b,o,rfl,_⟩:=hr 0 (by simp)
  obtain⟨v',w',hrun,h1,h2,h3,h4⟩:=run_append_own_at (P:=Tryz.prog) w 0 28 ty 133 i0 _ 1 8 Tryz.underlying28 hi hz0 hz1 hz2 rfl (by decide) (.slice none 0 0) 0 [] (World.ownsRow_nil _ _ _ _) ⟨b,o,none⟩ (x::xs).length c (limbV (x::xs)) (by simp [limbV]) (fun j u hu=>by
    have hjl:j<(x::xs).length:=by
     have:=(List.getElem?_eq_some_iff.1 hu).1
     rwa [limbV_len] at this
    rw [limbV_get _ _ hjl] at hu
    obtain⟨b',o',e,hc⟩:=hr j hjl
    injection e with e
    injection e with e1 e2 _
    subst e1 e2
    rw [addr_plus,hc,hu]) (by simp [limbV,Value.oneCell']) (by simp only [maxLen];omega) (by omega) (Nat.zero_le _)
  refine⟨v',w',hrun,by simpa [LimbsAt] using h1,?_,Only.of_grown h2 (by simp [Value.ownBlock])⟩
  intro g hg
  rcases h4 with e|e
  ·rw [e] at hg;simp [Value.ownBlock] at hg
  ·rw [e] at hg
   have:w.heap.size=g:=by simpa using hg
   omega
theorem wpList_append_limbs {w:World} {ops:Array Oper} {rest:List Oper} {o:Oper} {a:Act} {Q:Exit→Act→World→Prop} (hgd:o.guard=none) (s x:Operand)
  (ho:o.op= .call {callee:= .builtin .append,args:= #[s,x],argTypes:= #[28,28]}) (hs:a.eval s= .slice none 0 0) (A:Option Addr) (xs:List Nat) (n c:Nat) (hx:a.eval x= .slice A n c) (hn:n=xs.length) (hr:LRead w A xs) (hl:(xs.length:Int)≤4000000)
  (h: ∀v' w',LimbsAt w' v' xs→(∀ g,v'.ownBlock=some g→w.heap.size≤g)→Only [] w w'→wpList Tryz.prog ops Q rest (a.put o.dst v') w'):wpList Tryz.prog ops Q (o::rest) a w:=by
 subst hn
 refine wpList_plain hgd fun K hK=>?_
 obtain⟨v',w',hrun,h1,h2,h3⟩:=run_append_limbs w o.type A xs c hr hl
 unfold Oper.wp execOp
 simp only [ho,resolve,invoke,builtin,Sem.run_bind,Sem.run_pure,Result.andThen_ok,List.map_toArray,List.map_cons,List.map_nil,hs,hx,hrun]
 exact hK _ _ (h v' w' h1 h2 h3)
set_option maxRecDepth 100000 in
theorem of_any (A:Option Addr) (c:Nat) (xs:List Nat) (w:World) (h:Hid (Arg w A xs)) (hc:xs.length≤c):
  Calls Tryz.prog 94 #[.slice A xs.length c] w (NPost (val xs) w):=by
 have HA:=hid h.out.trim
 go_enter Tryz.func94,Tryz.ntmps94
 go_wp2_with (first|(go_at_call 123;(with_reducible refine (trim_any A c xs _ h hc).mono ?_);rintro e w' ⟨rfl,rfl⟩)|(at_builtin;refine wpList_append_limbs rfl _ _ rfl rfl A (limbsOf (val xs)) _ c rfl rfl HA.out.read HA.out.len ?_;intro v' w' h1 h2 h3;have H1:=hid h1;have H2:=hid h2;have H3:=hid h3;clear h1 h2 h3))
 go_ret
 exact⟨v',rfl,⟨H1.out,H2.out⟩,H3.out⟩
theorem cmp_le {a b:Nat} (h:a<b):cmpZ a b= -1:=by unfold cmpZ;rw [if_pos h]
theorem cmp_eq {a b:Nat} (h:a=b):cmpZ a b=0:=by unfold cmpZ;rw [if_neg (by omega),if_pos h]
theorem cmp_gt {a b:Nat} (h:b<a):cmpZ a b=1:=by unfold cmpZ;rw [if_neg (by omega),if_neg (by omega)]
set_option maxHeartbeats 1600000 in
theorem ncmp_any (A B:Option Addr) (c d:Nat) (xs ys:List Nat) (w:World) (hA:Hid (Arg w A xs)) (hB:Hid (Arg w B ys)) (hc:xs.length≤c) (hd:ys.length≤d):
  Calls Tryz.prog 122 #[.slice A xs.length c,.slice B ys.length d] w fun e w'=>e= .returned (.int .i64 (cmpZ (val xs) (val ys)))∧Only [] w w':=by
 have HA:=hid hA.out.trim
 have HB:=hid hB.out.trim
 obtain⟨X,hX⟩: ∃X,limbsOf (val xs)=X:=⟨_,rfl⟩
 obtain⟨Y,hY⟩: ∃Y,limbsOf (val ys)=Y:=⟨_,rfl⟩
 have hvx:val X=val xs:=by rw [← hX,val_limbsOf]
 have hvy:val Y=val ys:=by rw [← hY,val_limbsOf]
 have HcX:Hid (X.length<Y.length→val xs<val ys):=fun h=>cmp_len (by rw [hX,hY];exact h)
 have HcY:Hid (Y.length<X.length→val ys<val xs):=fun h=>cmp_len (by rw [hX,hY];exact h)
 have HX:=hid hX
 have HY:=hid hY
 rw [hX] at HA
 rw [hY] at HB
 have HVx:=hid hvx
 have HVy:=hid hvy
 clear hX hY hvx hvy
 have hl1:=HA.out.len
 have hl2:=HB.out.len
 go_enter Tryz.func122,Tryz.ntmps122
 go_wp2_with fail
 (with_reducible refine (trim_any A c xs _ hA hc).mono ?_)
 rintro e w' ⟨rfl,rfl⟩
 rw [HX.out]
 go_wp2_with fail
 (with_reducible refine (trim_any B d ys _ hB hd).mono ?_)
 rintro e w' ⟨rfl,rfl⟩
 rw [HY.out]
 by_cases hlt:(X.length:Int)<(Y.length:Int)
 ·have HE:Hid (cmpZ (val xs) (val ys)= -1):=cmp_le (HcX.out (by omega))
  have hne:((X.length:Int) != (Y.length:Int))=true:=by simp;omega
  go_wp2_with fail
  go_ret
  exact⟨by rw [HE.out];rfl,Only.refl _ _⟩
 ·by_cases hgt:(Y.length:Int)<(X.length:Int)
  ·have HE:Hid (cmpZ (val xs) (val ys)=1):=cmp_gt (HcY.out (by omega))
   have hne:((X.length:Int) != (Y.length:Int))=true:=by simp;omega
   go_wp2_with fail
   go_ret
   exact⟨by rw [HE.out];rfl,Only.refl _ _⟩
  ·have hl:X.length=Y.length:=by omega
   have HLen:=hid hl
   have hne:((X.length:Int) != (Y.length:Int))=false:=by simp;omega
   clear hl hlt hgt
   go_wp2_with fail
   go_loopw [5] (fun i wr=> ∃n:Nat,n≤X.length∧i= .int .i64 ((n:Int)-1)∧Only [] w wr∧X.drop n=Y.drop n) (fun i _=>(intOf i+1).toNat)
   case atStart=>exact⟨X.length,Nat.le_refl _,rfl,Only.refl _ _,by rw [List.drop_length,HLen.out,List.drop_length]⟩
   case round=>
    obtain⟨n,hn,rfl,ho,hd⟩:=hrel
    have HO:=hid ho
    have HD:=hid hd
    clear ho hd
    cases n with
    |zero=>
     have HE:Hid (cmpZ (val xs) (val ys)=0):=cmp_eq (by
      have:=HD.out
      simp only [List.drop_zero] at this
      rw [← HVx.out,←HVy.out,this])
     go_wp2_with fail
     go_ret
     exact⟨by rw [HE.out];rfl,HO.out⟩
    |succ m=>
     obtain⟨b,o,rfl,hc1⟩:=HA.out.read m (by omega)
     obtain⟨b',o',rfl,hc2⟩:=HB.out.read m (by have:=HLen.out;omega)
     have c1:=HO.out.cell hc1 (by simp)
     have c2:=HO.out.cell hc2 (by simp)
     have hm1:(m:Int)<(X.length:Int):=by omega
     have hm2:(m:Int)<(Y.length:Int):=by have:=HLen.out;omega
     rw [show ((m+1:Nat):Int)-1=(m:Int) by omega]
     clear hc1 hc2
     have HLt:Hid (X[m]?.getD 0<Y[m]?.getD 0→val xs<val ys):=fun h=>by
      rw [← HVx.out,←HVy.out]
      exact cmp_at HA.out.limb HLen.out (by omega) HD.out h
     have HGt:Hid (Y[m]?.getD 0<X[m]?.getD 0→val ys<val xs):=fun h=>by
      rw [← HVx.out,←HVy.out]
      exact cmp_at HB.out.limb HLen.out.symm (by have:=HLen.out;omega) HD.out.symm h
     have HEq:Hid (X[m]?.getD 0=Y[m]?.getD 0→X.drop m=Y.drop m):=fun h=>drop_step HLen.out (by omega) HD.out h
     generalize X[m]?.getD 0=x at c1 HLt HGt HEq
     generalize Y[m]?.getD 0=y at c2 HLt HGt HEq
     clear HD
     rcases Nat.lt_trichotomy x y with hxy|hxy|hxy
     ·have HE:Hid (cmpZ (val xs) (val ys)= -1):=cmp_le (HLt.out hxy)
      have g1:(x:Int)<(y:Int):=by omega
      clear hxy
      go_wp2_with fail
      go_quiet (fail)
      go_wp2_with fail
      go_ret
      exact⟨by rw [HE.out];rfl,HO.out.drewN _⟩
     ·have HE:=hid (HEq.out hxy)
      subst hxy
      go_wp2_with fail
      go_quiet (fail)
      go_wp2_with fail
      go_quiet (fail)
      go_wp2_with fail
      go_roundw
      case rel=>exact⟨m,by omega,rfl,by first|exact HO.out.drewN _|exact (HO.out.drewN _).drewN _,HE.out⟩
      case measure=>simp [intOf]
     ·have HE:Hid (cmpZ (val xs) (val ys)=1):=cmp_gt (HGt.out hxy)
      have g1:(y:Int)<(x:Int):=by omega
      clear hxy
      go_wp2_with fail
      go_quiet (fail)
      go_wp2_with fail
      go_quiet (fail)
      go_wp2_with fail
      go_ret
      exact⟨by rw [HE.out];rfl,by first|exact HO.out.drewN _|exact (HO.out.drewN _).drewN _⟩
def aLo (x y c:Nat):Nat:=(x+y+c)%BB
def aHi (x y c:Nat):Nat:=(x+y+c)/BB
theorem add64_run (x y c:Nat) (hx:x<BB) (hy:y<BB) (hc:c≤1) (w:World):
  (callFunc 164 #[.int .u64 (x:Int),.int .u64 (y:Int),.int .u64 (c:Int)]).run Tryz.prog w= .ok (.value (.tuple #[.int .u64 ((aLo x y c:Nat):Int),.int .u64 ((aHi x y c:Nat):Int)])) w:=by
 rw [BB_val] at hx hy
 rw [run_callFunc_extern Tryz.func164 (by kernel_rfl) (by kernel_rfl) (by kernel_rfl) (e:=add64Entry) (by kernel_rfl),run_add64 x y c (by omega) (by omega) (by omega) (by omega)]
 unfold aLo aHi
 rw [BB_val]
 simp only [Result.andThen]
 congr 5<;>omega
theorem aLo_lt (x y c:Nat):aLo x y c<BB:=Nat.mod_lt _ BB_pos
theorem add64_law (x y c:Nat):aLo x y c+BB*aHi x y c=x+y+c:=Nat.mod_add_div _ _
theorem aHi_le {x y c:Nat} (hx:x<BB) (hy:y<BB) (hc:c≤1):aHi x y c≤1:=by
 unfold aHi
 apply Nat.le_of_lt_succ
 rw [Nat.div_lt_iff_lt_mul BB_pos]
 omega
def sLo (x y b:Nat):Nat:=(x+BB-y-b)%BB
def sHi (x y b:Nat):Nat:=if x<y+b then 1 else 0
theorem sub64_run (x y b:Nat) (hb:b≤1) (w:World):
  (callFunc 153 #[.int .u64 (x:Int),.int .u64 (y:Int),.int .u64 (b:Int)]).run Tryz.prog w= .ok (.value (.tuple #[.int .u64 ((sLo x y b:Nat):Int),.int .u64 ((sHi x y b:Nat):Int)])) w:=by
 rw [run_callFunc_extern Tryz.func153 (by kernel_rfl) (by kernel_rfl) (by kernel_rfl) (e:=sub64Entry) (by kernel_rfl),run_sub64 x y b hb]
 unfold sLo sHi
 rw [BB_val]
 rfl
theorem sLo_lt (x y b:Nat):sLo x y b<BB:=Nat.mod_lt _ BB_pos
theorem sHi_le (x y b:Nat):sHi x y b≤1:=by unfold sHi;split<;>omega
theorem sub64_law {x y b:Nat} (hx:x<BB) (hy:y<BB) (hb:b≤1):sLo x y b+y+b=x+BB*sHi x y b:=by
 unfold sLo sHi
 have hp:=BB_pos
 split
 ·rename_i h
  by_cases e:y+b=BB+x
  ·rw [show x+BB-y-b=0 by omega,Nat.zero_mod]
   omega
  ·rw [Nat.mod_eq_of_lt (by omega)]
   omega
 ·rename_i h
  rw [show x+BB-y-b=(x-y-b)+BB by omega,Nat.add_mod_right,Nat.mod_eq_of_lt (by omega)]
  omega
structure ACar (w wr:World) (g:Nat) (zs zs':List Nat) (i cy T:Nat):Prop where
 blk:Blk wr g 133 (limbV zs')
 limb:Limb zs'
 len:zs'.length=zs.length
 cyle:cy≤1
 val_:val zs'+BB^i*cy=T
 only:Only [g] w wr
theorem ACar.step {w wr:World} {g:Nat} {zs zs':List Nat} {i cy T v:Nat} (h:ACar w wr g zs zs' i cy T) (hi:i<zs.length) (hv:v<BB) {T':Nat} (hT:T'=T+BB^i*v):
  ACar w (wr.setCell ⟨g,i,none⟩ (.int .u64 ((aLo (zs'[i]?.getD 0) v cy:Nat):Int))) g zs (zs'.set i (aLo (zs'[i]?.getD 0) v cy)) (i+1) (aHi (zs'[i]?.getD 0) v cy) T':=by
 refine⟨?_,h.limb.set _ _ (aLo_lt _ _ _),by rw [List.length_set,h.len],aHi_le (h.limb.get i) hv h.cyle,?_,h.only.trans ((Only.refl [g] wr).setCell (.inl (by simp)) _) (by simp)⟩
 ·rw [← limbV_set]
  exact h.blk.set_ i _
 ·rw [add_step (by rw [h.len];exact hi) (add64_law _ _ _),hT,←h.val_]
  omega
def AddPost (g:Nat) (zs:List Nat) (T:Nat) (w:World) (e:Ending) (w':World):Prop:=
 e= .returned (.tuple #[])∧ ∃zs',Blk w' g 133 (limbV zs')∧Limb zs'∧zs'.length=zs.length∧val zs'=T∧Only [g] w w'
set_option maxHeartbeats 1600000 in
theorem addAt_any (g c:Nat) (zs:List Nat) (A:Option Addr) (d:Nat) (xs:List Nat) (p:Nat) (w:World) (hz:Hid (Blk w g 133 (limbV zs))) (hzl:Hid (Limb zs)) (hA:Hid (Arg w A xs)) (hag:Hid (0<xs.length→ ∀a,A=some a→a.block≠g))
  (hlen:(zs.length:Int)≤16000000) (hfit:(p:Int)+xs.length≤zs.length) (hval:Hid (val zs+BB^p*val xs<BB^zs.length)):
  Calls Tryz.prog 155 #[.slice (some ⟨g,0,none⟩) zs.length c,.slice A xs.length d,.int .i64 (p:Int)] w (AddPost g zs (val zs+BB^p*val xs) w):=by
 have HStart:Hid (ACar w w g zs zs p 0 (val zs)):=⟨hz.out,hzl.out,rfl,by omega,by omega,Only.refl _ _⟩
 go_enter Tryz.func155,Tryz.ntmps155
 go_wp2_with fail
 go_loopw [6,7,13] (fun cv iv kv wr=> ∃(k cy:Nat) (zs':List Nat),k≤xs.length∧kv= .int .i64 (k:Int)∧iv= .int .i64 ((p:Int)+k)∧cv= .int .u64 (cy:Int)∧ACar w wr g zs zs' (p+k) cy (val zs+BB^p*val (xs.take k))) (fun _ _ kv _=>xs.length-(intOf kv).toNat)
 case atStart=>exact⟨0,0,zs,Nat.zero_le _,rfl,by simp,rfl,by simpa [val] using HStart.out⟩
 case round=>
  obtain⟨k,cy,zs',hk,rfl,rfl,rfl,hR⟩:=hrel
  have HR:=hid hR
  clear hR HStart
  by_cases hlt:k<xs.length
  ·obtain⟨b,o,rfl,hc⟩:=hA.out.read k hlt
   have hbg:b≠g:=hag.out (by omega) _ rfl
   have c1:=HR.out.only.cell hc (by simpa using hbg)
   have c2:=HR.out.blk.cell (p+k)
   rw [limbV_get _ _ (by rw [HR.out.len];omega)] at c2
   have f2:=HR.out.blk.frozen (p+k)
   have hvk:=hA.out.limb.get k
   have ha:=fun wx=>add64_run (zs'[p+k]?.getD 0) (xs[k]?.getD 0) cy (HR.out.limb.get _) hvk HR.out.cyle wx
   have HS:=hid (HR.out.step (T':=val zs+BB^p*val (xs.take (k+1))) (by omega) hvk (by rw [val_take_succ xs k hlt,Nat.mul_add,←Nat.mul_assoc,←Nat.pow_add,←Nat.add_assoc]))
   generalize zs'[p+k]?.getD 0=z at c2 ha HS
   generalize xs[k]?.getD 0=v at c1 ha HS
   have hk':(k:Int)<(xs.length:Int):=by omega
   have hi':(p:Int)+k<(zs.length:Int):=by omega
   clear hc hvk hlt
   go_wp2_with fail
   go_roundw
   case rel=>exact⟨k+1,_,_,by omega,by go_num,by congr 1<;>omega,rfl,HS.out⟩
   case measure=>simp [intOf];omega
  ·have hnl: ¬(k:Int)<(xs.length:Int):=by omega
   have e:k=xs.length:=by omega
   have HR2:Hid (ACar w wr g zs zs' (p+xs.length) cy (val zs+BB^p*val xs)):=by
    have:=HR.out
    rw [e,val_take_all] at this
    exact this
   have e2:(p:Int)+k=((p+xs.length:Nat):Int):=by omega
   rw [e2]
   clear e HR hlt e2
   go_wp2_with fail
   go_loopw [6,7] (fun cv iv wq=> ∃(i cy:Nat) (zq:List Nat),i≤zs.length∧iv= .int .i64 (i:Int)∧cv= .int .u64 (cy:Int)∧ACar w wq g zs zq i cy (val zs+BB^p*val xs)) (fun _ iv _=>zs.length-(intOf iv).toNat)
   case atStart=>exact⟨_,cy,zs',by omega,rfl,rfl,HR2.out⟩
   case round=>
    obtain⟨i,cy',zq,hi,rfl,rfl,hR⟩:=hrel
    have HR:=hid hR
    have hcy:=hR.cyle
    clear hR HR2
    by_cases h0:cy'=0
    ·have g0:((cy':Int) != 0)=false:=by simp [h0]
     have HV:Hid (val zq=val zs+BB^p*val xs):=by
      have:=HR.out.val_
      rw [h0,Nat.mul_zero] at this
      exact this
     clear h0 hcy
     go_wp2_with fail
     go_returns
     exact⟨rfl,zq,HR.out.blk,HR.out.limb,HR.out.len,HV.out,HR.out.only⟩
    ·have e1:cy'=1:=by omega
     by_cases hlt:i<zs.length
     ·have g0:((cy':Int) != 0)=true:=by simp [e1]
      have c2:=HR.out.blk.cell i
      rw [limbV_get _ _ (by rw [HR.out.len];omega)] at c2
      have f2:=HR.out.blk.frozen i
      have ha: ∀wx,(callFunc 164 #[.int .u64 ((zq[i]?.getD 0:Nat):Int),.int .u64 0,.int .u64 (cy':Int)]).run Tryz.prog wx= .ok (.value (.tuple #[.int .u64 ((aLo (zq[i]?.getD 0) 0 cy':Nat):Int),.int .u64 ((aHi (zq[i]?.getD 0) 0 cy':Nat):Int)])) wx:=
       fun wx=>add64_run (zq[i]?.getD 0) 0 cy' (HR.out.limb.get _) BB_pos hcy wx
      have HS:=hid (HR.out.step (T':=val zs+BB^p*val xs) hlt BB_pos (by omega))
      generalize zq[i]?.getD 0=z at c2 ha HS
      have hi':(i:Int)<(zs.length:Int):=by omega
      clear h0 e1 hlt hcy
      go_wp2_with fail
      go_roundw
      case rel=>exact⟨i+1,_,_,by omega,by go_num,rfl,HS.out⟩
      case measure=>simp [intOf];omega
     ·exfalso
      have h1:=HR.out.val_
      have h2:=hval.out
      have e2:i=zs.length:=by omega
      rw [e1,Nat.mul_one,e2] at h1
      omega
theorem Arg.lt {w:World} {A:Option Addr} {xs:List Nat} (h:Arg w A xs):0<xs.length→ ∀a,A=some a→a.block<w.heap.size:=fun h0 a ha=>by
 obtain⟨b,o,e,hc⟩:=h.read 0 h0
 rw [ha] at e
 injection e with e
 subst e
 exact World.block_lt_of_cell? w _ hc
theorem wpList_copy_limbs {w:World} {ops:Array Oper} {rest:List Oper} {o:Oper} {a:Act} {Q:Exit→Act→World→Prop} (hgd:o.guard=none) (s x:Operand)
  (ho:o.op= .call {callee:= .builtin .copy,args:= #[s,x],argTypes:= #[28,28]}) (g:Nat) (zs:List Nat) (n d:Nat) (hs:a.eval s= .slice (some ⟨g,0,none⟩) n d) (hn:n=zs.length) (hb:Blk w g 133 (limbV zs)) (A:Option Addr) (xs:List Nat) (m c:Nat) (hx:a.eval x= .slice A m c) (hm:m=xs.length) (hr:LRead w A xs) (hl:xs.length≤zs.length)
  (h: ∀w',Blk w' g 133 (limbV (xs++zs.drop xs.length))→Only [g] w w'→w'.heap.size=w.heap.size→wpList Tryz.prog ops Q rest (a.put o.dst (goInt xs.length)) w'):wpList Tryz.prog ops Q (o::rest) a w:=by
 subst hn hm
 refine wpList_plain hgd fun K hK=>?_
 obtain⟨w',hrun,h1,h2,h3⟩:=copy_nat w g zs A xs c d o.type hb hr hl
 unfold Oper.wp execOp
 simp only [ho,resolve,invoke,builtin,Sem.run_bind,Sem.run_pure,Result.andThen_ok,List.map_toArray,List.map_cons,List.map_nil,hs,hx,hrun]
 exact hK _ _ (h w' h1 h2 h3)
theorem res_of_blk {w0 w:World} {g:Nat} {zs:List Nat} (hb:Blk w g 133 (limbV zs)) (hz:Limb zs) (hg:w0.heap.size≤g) (hl:(zs.length:Int)≤16000000):Res w0 w (.slice (some ⟨g,0,none⟩) (limbsOf (val zs)).length zs.length) (val zs):=by
 have e:=limbsOf_take hz
 refine⟨?_,fun q hq=>?_⟩
 ·have:=LimbsAt.of_blk hb rfl (by simp only [maxLen];omega) _ e.2
  rwa [e.1] at this
 ·have:g=q:=by simpa [Value.ownBlock] using hq
  omega
set_option maxHeartbeats 1600000 in
theorem add_le (A B:Option Addr) (c d:Nat) (xs ys:List Nat) (w:World) (hA:Hid (Arg w A xs)) (hB:Hid (Arg w B ys)) (hl:(ys.length:Int)≤xs.length) (hlm:(xs.length:Int)≤3999999):
  Calls Tryz.prog 134 #[.slice A xs.length c,.slice B ys.length d] w (NPost (val xs+val ys) w):=by
 obtain⟨w1,hmk,hb1,ho1,hs1⟩:=make_nat w (xs.length+1) (by omega)
 have hcast:((xs.length+1:Nat):Int)=(xs.length:Int)+1:=by omega
 rw [hcast] at hmk
 have HB1:=hid hb1
 have HO1:=hid ho1
 have HAlt:=hid hA.out.lt
 have HBlt:=hid hB.out.lt
 clear hb1 ho1 hs1 hcast
 have hnl: ¬(xs.length:Int)<(ys.length:Int):=by omega
 generalize hg:w.heap.size=g at HB1 hmk HAlt HBlt
 have HG:Hid (w.heap.size≤g):=by show _≤_;omega
 clear hg
 go_enter Tryz.func134,Tryz.ntmps134
 go_wp2_with (with_reducible refine wpList_copy_limbs rfl _ _ rfl g (List.replicate (xs.length+1) 0) _ _ rfl (by simp) HB1.out A xs _ _ rfl rfl (hA.out.read.only HO1.out) (by simp) ?_;intro w2 hb2 ho2 hs2)
 have e0:xs++(List.replicate (xs.length+1) 0).drop xs.length=xs++[0]:=by simp
 rw [e0] at hb2
 have HB2:=hid hb2
 have HO2:Hid (Only [] w w2):=HO1.out.trans ho2 (fun k hk=> .inr (by simp at hk;rw [hk];exact HG.out))
 have HL2:Hid (Limb (xs++[0])):=hA.out.limb.append (limb_one BB_pos)
 have hv2:val (xs++[0])=val xs:=by rw [val_append];simp [val]
 have HV2:=hid hv2
 have HFit:Hid (val (xs++[0])+BB^0*val ys<BB^(xs++[0]).length):=by
  show _<_
  rw [hv2,List.length_append,List.length_singleton,Nat.pow_succ,Nat.pow_zero,Nat.one_mul]
  have h1:=val_lt hA.out.limb
  have h2:=val_lt hB.out.limb
  have h3:BB^ys.length≤BB^xs.length:=pow_le (by omega)
  have h4:BB^xs.length*2≤BB^xs.length*BB:=Nat.mul_le_mul_left _ BB_two
  omega
 clear hb2 ho2 hs2 e0 hv2 hmk
 have HAdd:=hid (addAt_any g (xs.length+1) (xs++[0]) B d ys 0 w2 HB2 HL2 (hB.out.only HO2.out) (fun h0 a ha=>by have:=HBlt.out h0 a ha;omega) (by simp;omega) (by simp;omega) HFit)
 rw [List.length_append,List.length_singleton] at HAdd
 refine HAdd.out.mono ?_
 rintro e w3 ⟨rfl,zs',hb3,hl3,hlen3,hv3,ho3⟩
 rw [List.length_append,List.length_singleton] at hlen3
 rw [HV2.out,Nat.pow_zero,Nat.one_mul] at hv3
 have HB3:=hid hb3
 have HL3:=hid hl3
 have HLen3:=hid hlen3
 have HV3:=hid hv3
 have HO3:Hid (Only [] w w3):=HO2.out.trans ho3 (fun k hk=> .inr (by simp at hk;rw [hk];exact HG.out))
 clear hb3 hl3 hlen3 hv3 ho3 HAdd
 go_wp2_with fail
 (with_reducible refine (trim_row g _ _ zs' w3 HB3.out HL3.out HLen3.out.symm (Nat.le_refl _) (by omega)).mono ?_)
 rintro e w4 ⟨rfl,rfl⟩
 go_wp2_with fail
 go_ret
 have hr:=res_of_blk (w0:=w) HB3.out HL3.out HG.out (by have:=HLen3.out;omega)
 rw [HLen3.out] at hr
 exact⟨_,rfl,HV3.out▸hr,HO3.out⟩
set_option maxHeartbeats 1600000 in
theorem add_gt (A B:Option Addr) (c d:Nat) (xs ys:List Nat) (w:World) (hA:Hid (Arg w A xs)) (hB:Hid (Arg w B ys)) (hl:(ys.length:Int)<xs.length) (hlm:(xs.length:Int)≤3999999):
  Calls Tryz.prog 134 #[.slice B ys.length d,.slice A xs.length c] w (NPost (val xs+val ys) w):=by
 obtain⟨w1,hmk,hb1,ho1,hs1⟩:=make_nat w (xs.length+1) (by omega)
 have hcast:((xs.length+1:Nat):Int)=(xs.length:Int)+1:=by omega
 rw [hcast] at hmk
 have HB1:=hid hb1
 have HO1:=hid ho1
 have HAlt:=hid hA.out.lt
 have HBlt:=hid hB.out.lt
 clear hb1 ho1 hs1 hcast
 generalize hg:w.heap.size=g at HB1 hmk HAlt HBlt
 have HG:Hid (w.heap.size≤g):=by show _≤_;omega
 clear hg
 go_enter Tryz.func134,Tryz.ntmps134
 go_wp2_with (with_reducible refine wpList_copy_limbs rfl _ _ rfl g (List.replicate (xs.length+1) 0) _ _ rfl (by simp) HB1.out A xs _ _ rfl rfl (hA.out.read.only HO1.out) (by simp) ?_;intro w2 hb2 ho2 hs2)
 have e0:xs++(List.replicate (xs.length+1) 0).drop xs.length=xs++[0]:=by simp
 rw [e0] at hb2
 have HB2:=hid hb2
 have HO2:Hid (Only [] w w2):=HO1.out.trans ho2 (fun k hk=> .inr (by simp at hk;rw [hk];exact HG.out))
 have HL2:Hid (Limb (xs++[0])):=hA.out.limb.append (limb_one BB_pos)
 have hv2:val (xs++[0])=val xs:=by rw [val_append];simp [val]
 have HV2:=hid hv2
 have HFit:Hid (val (xs++[0])+BB^0*val ys<BB^(xs++[0]).length):=by
  show _<_
  rw [hv2,List.length_append,List.length_singleton,Nat.pow_succ,Nat.pow_zero,Nat.one_mul]
  have h1:=val_lt hA.out.limb
  have h2:=val_lt hB.out.limb
  have h3:BB^ys.length≤BB^xs.length:=pow_le (by omega)
  have h4:BB^xs.length*2≤BB^xs.length*BB:=Nat.mul_le_mul_left _ BB_two
  omega
 clear hb2 ho2 hs2 e0 hv2 hmk
 have HAdd:=hid (addAt_any g (xs.length+1) (xs++[0]) B d ys 0 w2 HB2 HL2 (hB.out.only HO2.out) (fun h0 a ha=>by have:=HBlt.out h0 a ha;omega) (by simp;omega) (by simp;omega) HFit)
 rw [List.length_append,List.length_singleton] at HAdd
 refine HAdd.out.mono ?_
 rintro e w3 ⟨rfl,zs',hb3,hl3,hlen3,hv3,ho3⟩
 rw [List.length_append,List.length_singleton] at hlen3
 rw [HV2.out,Nat.pow_zero,Nat.one_mul] at hv3
 have HB3:=hid hb3
 have HL3:=hid hl3
 have HLen3:=hid hlen3
 have HV3:=hid hv3
 have HO3:Hid (Only [] w w3):=HO2.out.trans ho3 (fun k hk=> .inr (by simp at hk;rw [hk];exact HG.out))
 clear hb3 hl3 hlen3 hv3 ho3 HAdd
 go_wp2_with fail
 (with_reducible refine (trim_row g _ _ zs' w3 HB3.out HL3.out HLen3.out.symm (Nat.le_refl _) (by omega)).mono ?_)
 rintro e w4 ⟨rfl,rfl⟩
 go_wp2_with fail
 go_ret
 have hr:=res_of_blk (w0:=w) HB3.out HL3.out HG.out (by have:=HLen3.out;omega)
 rw [HLen3.out] at hr
 exact⟨_,rfl,HV3.out▸hr,HO3.out⟩
theorem nadd_any (A B:Option Addr) (c d:Nat) (xs ys:List Nat) (w:World) (hA:Hid (Arg w A xs)) (hB:Hid (Arg w B ys)) (h1:(xs.length:Int)≤3999999) (h2:(ys.length:Int)≤3999999):
  Calls Tryz.prog 134 #[.slice A xs.length c,.slice B ys.length d] w (NPost (val xs+val ys) w):=by
 by_cases hl:(ys.length:Int)≤xs.length
 ·exact add_le A B c d xs ys w hA hB hl h1
 ·rw [Nat.add_comm]
  exact add_gt B A d c ys xs w hB hA (by omega) h2
structure BCar (w wr:World) (g:Nat) (zs zs':List Nat) (i bo T U:Nat):Prop where
 blk:Blk wr g 133 (limbV zs')
 limb:Limb zs'
 len:zs'.length=zs.length
 bole:bo≤1
 val_:val zs'+U=T+BB^i*bo
 only:Only [g] w wr
theorem BCar.step {w wr:World} {g:Nat} {zs zs':List Nat} {i bo T U v:Nat} (h:BCar w wr g zs zs' i bo T U) (hi:i<zs.length) (hv:v<BB) {U':Nat} (hU:U'=U+BB^i*v):
  BCar w (wr.setCell ⟨g,i,none⟩ (.int .u64 ((sLo (zs'[i]?.getD 0) v bo:Nat):Int))) g zs (zs'.set i (sLo (zs'[i]?.getD 0) v bo)) (i+1) (sHi (zs'[i]?.getD 0) v bo) T U':=by
 refine⟨?_,h.limb.set _ _ (sLo_lt _ _ _),by rw [List.length_set,h.len],sHi_le _ _ _,?_,h.only.trans ((Only.refl [g] wr).setCell (.inl (by simp)) _) (by simp)⟩
 ·rw [← limbV_set]
  exact h.blk.set_ i _
 ·have h1:=sub_step (by rw [h.len];exact hi) (sub64_law (h.limb.get i) hv h.bole)
  have h2:=h.val_
  rw [hU]
  omega
set_option maxHeartbeats 1600000 in
theorem nsub_any (A B:Option Addr) (c d:Nat) (xs ys:List Nat) (w:World) (hA:Hid (Arg w A xs)) (hB:Hid (Arg w B ys)) (hl:(ys.length:Int)≤xs.length) (hlm:(xs.length:Int)≤4000000) (hle:Hid (val ys≤val xs)):
  Calls Tryz.prog 131 #[.slice A xs.length c,.slice B ys.length d] w (NPost (val xs-val ys) w):=by
 obtain⟨w1,hmk,hb1,ho1,hs1⟩:=make_nat w xs.length (by omega)
 have HB1:=hid hb1
 have HO1:=hid ho1
 have HAlt:=hid hA.out.lt
 have HBlt:=hid hB.out.lt
 clear hb1 ho1 hs1
 generalize hg:w.heap.size=g at HB1 hmk HAlt HBlt
 have HG:Hid (w.heap.size≤g):=by show _≤_;omega
 clear hg
 go_enter Tryz.func131,Tryz.ntmps131
 go_wp2_with (with_reducible refine wpList_copy_limbs rfl _ _ rfl g (List.replicate xs.length 0) _ _ rfl (by simp) HB1.out A xs _ _ rfl rfl (hA.out.read.only HO1.out) (by simp) ?_;intro w2 hb2 ho2 hs2;have HB2:=hid hb2;have HO2:=hid ho2;clear hb2 ho2 hs2)
 have HO:Hid (Only [] w w2):=HO1.out.trans HO2.out (fun k hk=> .inr (by simp at hk;rw [hk];exact HG.out))
 have HStart:Hid (BCar w2 w2 g xs xs 0 0 (val xs) 0):=⟨by simpa using HB2.out,hA.out.limb,rfl,by omega,by omega,Only.refl _ _⟩
 clear HB2 hmk HO2
 go_loopw [6,18] (fun cv kv wr=> ∃(k bo:Nat) (zs':List Nat),k≤ys.length∧kv= .int .i64 (k:Int)∧cv= .int .u64 (bo:Int)∧BCar w2 wr g xs zs' k bo (val xs) (val (ys.take k))) (fun _ kv _=>ys.length-(intOf kv).toNat)
 case atStart=>exact⟨0,0,xs,Nat.zero_le _,rfl,rfl,by simpa [val] using HStart.out⟩
 case round=>
  obtain⟨k,bo,zs',hk,rfl,rfl,hR⟩:=hrel
  have HR:=hid hR
  clear hR HStart
  by_cases hlt:k<ys.length
  ·obtain⟨b,o,rfl,hc⟩:=(hB.out.read.only HO.out) k hlt
   have hbg:b≠g:=by have:=HBlt.out (by omega) _ rfl;simp only at this;omega
   have c1:=HR.out.only.cell hc (by simpa using hbg)
   have c2:=HR.out.blk.cell k
   rw [limbV_get _ _ (by rw [HR.out.len];omega)] at c2
   have f2:=HR.out.blk.frozen k
   have hvk:=hB.out.limb.get k
   have ha:=fun wx=>sub64_run (zs'[k]?.getD 0) (ys[k]?.getD 0) bo HR.out.bole wx
   have HS:=hid (HR.out.step (U':=val (ys.take (k+1))) (by omega) hvk (val_take_succ ys k hlt))
   generalize zs'[k]?.getD 0=z at c2 ha HS
   generalize ys[k]?.getD 0=v at c1 ha HS
   have hk':(k:Int)<(ys.length:Int):=by omega
   have hi':(k:Int)<(xs.length:Int):=by omega
   clear hc hvk hlt
   go_wp2_with fail
   go_roundw
   case rel=>exact⟨k+1,_,_,by omega,by go_num,rfl,HS.out⟩
   case measure=>simp [intOf];omega
  ·have hnl: ¬(k:Int)<(ys.length:Int):=by omega
   have e:k=ys.length:=by omega
   have HR2:Hid (BCar w2 wr g xs zs' ys.length bo (val xs) (val ys)):=by
    have:=HR.out
    rw [e,val_take_all] at this
    exact this
   clear e HR hlt
   go_wp2_with fail
   go_loopw [6,9] (fun cv iv wq=> ∃(i bo:Nat) (zq:List Nat),i≤xs.length∧iv= .int .i64 (i:Int)∧cv= .int .u64 (bo:Int)∧BCar w2 wq g xs zq i bo (val xs) (val ys)) (fun _ iv _=>xs.length-(intOf iv).toNat)
   case atStart=>exact⟨_,bo,zs',by omega,rfl,rfl,HR2.out⟩
   case round=>
    obtain⟨i,bo',zq,hi,rfl,rfl,hR⟩:=hrel
    have HR:=hid hR
    have hcy:=hR.bole
    clear hR HR2
    by_cases h0:bo'=0
    ·have g0:((bo':Int) != 0)=false:=by simp [h0]
     have HV:Hid (val zq=val xs-val ys):=by
      have:=HR.out.val_
      rw [h0,Nat.mul_zero] at this
      show _=_
      omega
     have HLen:=hid HR.out.len
     clear h0 hcy
     go_wp2_with fail
     (with_reducible refine (trim_row g _ _ zq wr HR.out.blk HR.out.limb HLen.out.symm (Nat.le_refl _) (by omega)).mono ?_)
     rintro e w4 ⟨rfl,rfl⟩
     go_wp2_with fail
     go_ret
     have hr:=res_of_blk (w0:=w) HR.out.blk HR.out.limb HG.out (by have:=HLen.out;omega)
     rw [HLen.out] at hr
     exact⟨_,rfl,HV.out▸hr,HO.out.trans HR.out.only (fun k hk=> .inr (by simp at hk;rw [hk];exact HG.out))⟩
    ·have e1:bo'=1:=by omega
     by_cases hlt:i<xs.length
     ·have g0:((bo':Int) != 0)=true:=by simp [e1]
      have c2:=HR.out.blk.cell i
      rw [limbV_get _ _ (by rw [HR.out.len];omega)] at c2
      have f2:=HR.out.blk.frozen i
      have ha: ∀wx,(callFunc 153 #[.int .u64 ((zq[i]?.getD 0:Nat):Int),.int .u64 0,.int .u64 (bo':Int)]).run Tryz.prog wx= .ok (.value (.tuple #[.int .u64 ((sLo (zq[i]?.getD 0) 0 bo':Nat):Int),.int .u64 ((sHi (zq[i]?.getD 0) 0 bo':Nat):Int)])) wx:=
       fun wx=>sub64_run (zq[i]?.getD 0) 0 bo' hcy wx
      have HS:=hid (HR.out.step (U':=val ys) hlt BB_pos (by omega))
      generalize zq[i]?.getD 0=z at c2 ha HS
      have hi':(i:Int)<(xs.length:Int):=by omega
      clear h0 e1 hlt hcy
      go_wp2_with fail
      go_roundw
      case rel=>exact⟨i+1,_,_,by omega,by go_num,rfl,HS.out⟩
      case measure=>simp [intOf];omega
     ·exfalso
      have h1:=HR.out.val_
      have h2:=hle.out
      have h3:=val_lt HR.out.limb
      have e2:i=xs.length:=by omega
      rw [e1,Nat.mul_one,e2] at h1
      rw [HR.out.len] at h3
      omega
def SubPost (a b:Nat) (w:World) (e:Ending) (w':World):Prop:=
 ∃u,e= .returned (.tuple #[u,.bool (decide (b≤a))])∧Res w w' u (a-b)∧Only [] w w'
theorem res_nil (w w':World):Res w w' (.slice none 0 0) 0:=⟨by rw [limbsOf_zero];exact limbsAt_nil w',by simp [Value.ownBlock]⟩
theorem cmp_self (n:Nat) (m:Nat):cmpZ (val (limbsOf n)) (val (limbsOf m))=cmpZ n m:=by rw [val_limbsOf,val_limbsOf]
set_option maxHeartbeats 800000 in
theorem sub_any (A B:Option Addr) (c d:Nat) (xs ys:List Nat) (w:World) (hA:Hid (Arg w A xs)) (hB:Hid (Arg w B ys)) (hc:xs.length≤c) (hd:ys.length≤d):
  Calls Tryz.prog 157 #[.slice A xs.length c,.slice B ys.length d] w (SubPost (val xs) (val ys) w):=by
 have HA:=hid hA.out.trim
 have HB:=hid hB.out.trim
 have HLx:Hid ((limbsOf (val xs)).length≤c):=Nat.le_trans (limbsOf_len hA.out.limb) hc
 have HLy:Hid ((limbsOf (val ys)).length≤d):=Nat.le_trans (limbsOf_len hB.out.limb) hd
 by_cases hlt:val xs<val ys
 ·have HCmp:Hid (cmpZ (val xs) (val ys)= -1):=cmp_le hlt
  have HE:Hid (decide (val ys≤val xs)=false∧val xs-val ys=0):=⟨by simp;omega,by omega⟩
  clear hlt
  go_enter Tryz.func157,Tryz.ntmps157
  go_wp2_with fail
  (with_reducible refine (trim_any A c xs _ hA hc).mono ?_)
  rintro e w' ⟨rfl,rfl⟩
  go_wp2_with fail
  (with_reducible refine (trim_any B d ys _ hB hd).mono ?_)
  rintro e w' ⟨rfl,rfl⟩
  go_wp2_with fail
  (with_reducible refine (ncmp_any A B c d (limbsOf (val xs)) (limbsOf (val ys)) _ HA HB HLx.out HLy.out).mono ?_)
  rintro e w1 ⟨rfl,ho1⟩
  rw [cmp_self,HCmp.out]
  have HO1:=hid ho1
  clear ho1
  go_wp2_with fail
  go_ret2
  exact⟨_,by rw [HE.out.1];rfl,by rw [HE.out.2];exact res_nil _ _,HO1.out⟩
 ·have hcmp:cmpZ (val xs) (val ys)=0∨cmpZ (val xs) (val ys)=1:=by
   by_cases e:val xs=val ys
   ·exact .inl (cmp_eq e)
   ·exact .inr (cmp_gt (by omega))
  have HE:Hid (decide (val ys≤val xs)=true):=by show _=_;simp;omega
  have HSub:=fun wx (h1:Hid (Arg wx A (limbsOf (val xs)))) (h2:Hid (Arg wx B (limbsOf (val ys))))=>nsub_any A B c d (limbsOf (val xs)) (limbsOf (val ys)) wx h1 h2 (by have:=limbsOf_len_mono (m:=val ys) (n:=val xs) (by omega);omega) HA.out.len (by show _≤_;rw [val_limbsOf,val_limbsOf];omega)
  rw [val_limbsOf,val_limbsOf] at HSub
  have HS:=hid HSub
  clear hlt HSub
  rcases hcmp with hcmp|hcmp
  all_goals
   have HCmp:=hid hcmp
   clear hcmp
   go_enter Tryz.func157,Tryz.ntmps157
   go_wp2_with fail
   (with_reducible refine (trim_any A c xs _ hA hc).mono ?_)
   rintro e w' ⟨rfl,rfl⟩
   go_wp2_with fail
   (with_reducible refine (trim_any B d ys _ hB hd).mono ?_)
   rintro e w' ⟨rfl,rfl⟩
   go_wp2_with fail
   (with_reducible refine (ncmp_any A B c d (limbsOf (val xs)) (limbsOf (val ys)) _ HA HB HLx.out HLy.out).mono ?_)
   rintro e w1 ⟨rfl,ho1⟩
   rw [cmp_self,HCmp.out]
   have HO1:=hid ho1
   clear ho1
   go_wp2_with fail
   refine (HS.out w1 (HA.out.only HO1.out) (HB.out.only HO1.out)).mono ?_
   rintro e w2 ⟨u,rfl,hr,ho2⟩
   have HR:=hid hr
   have HO2:=hid ho2
   clear hr ho2
   go_wp2_with fail
   go_ret2
   exact⟨u,by rw [HE.out];rfl,HR.out.pre HO1.out.size,HO1.out.nil_trans HO2.out⟩
def GapPost (a b:Nat) (w:World) (e:Ending) (w':World):Prop:=
 ∃u,e= .returned (.tuple #[u,.bool (decide (a<b))])∧Res w w' u (if a<b then b-a else a-b)∧Only [] w w'
set_option maxHeartbeats 800000 in
theorem gap_any (A B:Option Addr) (c d:Nat) (xs ys:List Nat) (w:World) (hA:Hid (Arg w A xs)) (hB:Hid (Arg w B ys)) (hc:xs.length≤c) (hd:ys.length≤d):
  Calls Tryz.prog 156 #[.slice A xs.length c,.slice B ys.length d] w (GapPost (val xs) (val ys) w):=by
 have HA:=hid hA.out.trim
 have HB:=hid hB.out.trim
 have HLx:Hid ((limbsOf (val xs)).length≤c):=Nat.le_trans (limbsOf_len hA.out.limb) hc
 have HLy:Hid ((limbsOf (val ys)).length≤d):=Nat.le_trans (limbsOf_len hB.out.limb) hd
 by_cases hlt:val xs<val ys
 ·have HCmp:Hid (cmpZ (val xs) (val ys)= -1):=cmp_le hlt
  have HE:Hid (decide (val xs<val ys)=true∧(if val xs<val ys then val ys-val xs else val xs-val ys)=val ys-val xs):=⟨by simp;omega,by rw [if_pos hlt]⟩
  have HSub:=fun wx (h1:Hid (Arg wx B (limbsOf (val ys)))) (h2:Hid (Arg wx A (limbsOf (val xs))))=>nsub_any B A d c (limbsOf (val ys)) (limbsOf (val xs)) wx h1 h2 (by have:=limbsOf_len_mono (m:=val xs) (n:=val ys) (by omega);omega) HB.out.len (by show _≤_;rw [val_limbsOf,val_limbsOf];omega)
  rw [val_limbsOf,val_limbsOf] at HSub
  have HS:=hid HSub
  clear hlt HSub
  go_enter Tryz.func156,Tryz.ntmps156
  go_wp2_with fail
  (with_reducible refine (trim_any A c xs _ hA hc).mono ?_)
  rintro e w' ⟨rfl,rfl⟩
  go_wp2_with fail
  (with_reducible refine (trim_any B d ys _ hB hd).mono ?_)
  rintro e w' ⟨rfl,rfl⟩
  go_wp2_with fail
  (with_reducible refine (ncmp_any A B c d (limbsOf (val xs)) (limbsOf (val ys)) _ HA HB HLx.out HLy.out).mono ?_)
  rintro e w1 ⟨rfl,ho1⟩
  rw [cmp_self,HCmp.out]
  have HO1:=hid ho1
  clear ho1
  go_wp2_with fail
  refine (HS.out w1 (HB.out.only HO1.out) (HA.out.only HO1.out)).mono ?_
  rintro e w2 ⟨u,rfl,hr,ho2⟩
  have HR:=hid hr
  have HO2:=hid ho2
  clear hr ho2
  go_wp2_with fail
  go_ret2
  exact⟨u,by rw [HE.out.1];rfl,by rw [HE.out.2];exact HR.out.pre HO1.out.size,HO1.out.nil_trans HO2.out⟩
 ·have hcmp:cmpZ (val xs) (val ys)=0∨cmpZ (val xs) (val ys)=1:=by
   by_cases e:val xs=val ys
   ·exact .inl (cmp_eq e)
   ·exact .inr (cmp_gt (by omega))
  have HE:Hid (decide (val xs<val ys)=false∧(if val xs<val ys then val ys-val xs else val xs-val ys)=val xs-val ys):=⟨by simp;omega,by rw [if_neg hlt]⟩
  have HSub:=fun wx (h1:Hid (Arg wx A (limbsOf (val xs)))) (h2:Hid (Arg wx B (limbsOf (val ys))))=>nsub_any A B c d (limbsOf (val xs)) (limbsOf (val ys)) wx h1 h2 (by have:=limbsOf_len_mono (m:=val ys) (n:=val xs) (by omega);omega) HA.out.len (by show _≤_;rw [val_limbsOf,val_limbsOf];omega)
  rw [val_limbsOf,val_limbsOf] at HSub
  have HS:=hid HSub
  clear hlt HSub
  rcases hcmp with hcmp|hcmp
  all_goals
   have HCmp:=hid hcmp
   clear hcmp
   go_enter Tryz.func156,Tryz.ntmps156
   go_wp2_with fail
   (with_reducible refine (trim_any A c xs _ hA hc).mono ?_)
   rintro e w' ⟨rfl,rfl⟩
   go_wp2_with fail
   (with_reducible refine (trim_any B d ys _ hB hd).mono ?_)
   rintro e w' ⟨rfl,rfl⟩
   go_wp2_with fail
   (with_reducible refine (ncmp_any A B c d (limbsOf (val xs)) (limbsOf (val ys)) _ HA HB HLx.out HLy.out).mono ?_)
   rintro e w1 ⟨rfl,ho1⟩
   rw [cmp_self,HCmp.out]
   have HO1:=hid ho1
   clear ho1
   go_wp2_with fail
   refine (HS.out w1 (HA.out.only HO1.out) (HB.out.only HO1.out)).mono ?_
   rintro e w2 ⟨u,rfl,hr,ho2⟩
   have HR:=hid hr
   have HO2:=hid ho2
   clear hr ho2
   go_wp2_with fail
   go_ret2
   exact⟨u,by rw [HE.out.1];rfl,by rw [HE.out.2];exact HR.out.pre HO1.out.size,HO1.out.nil_trans HO2.out⟩
structure Item where
 a:Option Addr
 c:Nat
 xs:List Nat
def sumL (L:List Item):Nat:=(L.map fun i=>val i.xs).sum
theorem sumL_append (L M:List Item):sumL (L++M)=sumL L+sumL M:=by
 unfold sumL
 rw [List.map_append,List.sum_append]
theorem sumL_take (L:List Item) (k:Nat) (hk:k<L.length):sumL (L.take (k+1))=sumL (L.take k)+val L[k].xs:=by
 rw [List.take_succ_eq_append_getElem hk,sumL_append]
 simp [sumL]
theorem sumL_le (L:List Item) (k:Nat):sumL (L.take k)≤sumL L:=by
 have h:=sumL_append (L.take k) (L.drop k)
 rw [List.take_append_drop] at h
 omega
def NsRead (w:World) (A:Option Addr) (L:List Item):Prop:=
 ∀(k:Nat) (hk:k<L.length),∃b o,A=some ⟨b,o,none⟩∧w.cell? ⟨b,o+k,none⟩=some (.slice L[k].a L[k].xs.length L[k].c)∧Arg w L[k].a L[k].xs∧L[k].xs.length≤L[k].c∧(L[k].xs.length:Int)≤3999999
theorem NsRead.only {w w':World} {A:Option Addr} {L:List Item} (h:NsRead w A L) (ho:Only [] w w'):NsRead w' A L:=fun k hk=>by
 obtain⟨b,o,h1,h2,h3,h4⟩:=h k hk
 exact⟨b,o,h1,ho.cell h2 (by simp),h3.only ho,h4⟩
set_option maxHeartbeats 800000 in
theorem add_any (A:Option Addr) (c:Nat) (L:List Item) (w:World) (hA:Hid (NsRead w A L)) (hl:(L.length:Int)≤1000) (hs:Hid (sumL L<BB^3999999)):
  Calls Tryz.prog 106 #[.slice A L.length c] w (NPost (sumL L) w):=by
 go_enter Tryz.func106,Tryz.ntmps106
 go_wp2_with fail
 go_loopw [3,8] (fun u kv wr=> ∃k:Nat,k≤L.length∧kv= .int .i64 (k:Int)∧Res w wr u (sumL (L.take k))∧Only [] w wr) (fun _ kv _=>L.length-(intOf kv).toNat)
 case atStart=>exact⟨0,Nat.zero_le _,rfl,res_nil _ _,Only.refl _ _⟩
 case round=>
  obtain⟨k,hk,rfl,hr,ho⟩:=hrel
  have hbd:sumL (L.take k)<BB^3999999:=Nat.lt_of_le_of_lt (sumL_le L k) hs.out
  have hlb:((limbsOf (sumL (L.take k))).length:Int)≤3999999:=by have:=limbsOf_len_le hbd;omega
  obtain⟨Au,cu,rfl,harg,hab⟩:=hr.shape (by omega)
  have HArg:=hid harg
  have HRs:=hid hr
  have HO:=hid ho
  have hcu:(limbsOf (sumL (L.take k))).length≤cu:=by
   obtain⟨A',c',e,_,h1,_⟩:=hr.at_.shape
   injection e with _ _ e
   omega
  clear hr ho harg hab hbd
  by_cases hlt:k<L.length
  ·obtain⟨b,o,rfl,hc0,hit,hic,hil⟩:=(hA.out.only HO.out) k hlt
   have HIt:=hid hit
   have HSum:=hid (sumL_take L k hlt)
   generalize L[k]=it at hc0 HIt hic hil HSum
   obtain⟨ia,ic,ixs⟩:=it
   simp only at hc0 HIt hic hil HSum
   have hk':(k:Int)<(L.length:Int):=by omega
   have HItT:=hid HIt.out.trim
   have hil2:((limbsOf (val ixs)).length:Int)≤3999999:=by have:=limbsOf_len HIt.out.limb;omega
   clear hlt hit
   go_wp2_with fail
   (with_reducible refine (trim_any ia ic ixs _ HIt hic).mono ?_)
   rintro e w' ⟨rfl,rfl⟩
   go_wp2_with fail
   (with_reducible refine (nadd_any Au ia cu ic (limbsOf (sumL (L.take k))) (limbsOf (val ixs)) _ HArg HItT hlb hil2).mono ?_)
   rintro e w2 ⟨u,rfl,hr2,ho2⟩
   rw [val_limbsOf,val_limbsOf,←HSum.out] at hr2
   have HR2:=hid (hr2.pre HO.out.size)
   have HO2:Hid (Only [] w w2):=HO.out.nil_trans ho2
   clear hr2 ho2
   go_wp2_with fail
   go_roundw
   case rel=>exact⟨k+1,by omega,by go_num,HR2.out,HO2.out⟩
   case measure=>simp [intOf];omega
  ·have hnl: ¬(k:Int)<(L.length:Int):=by omega
   have e:k=L.length:=by omega
   have HE:Hid (sumL (L.take k)=sumL L):=by show _=_;rw [e,List.take_length]
   rw [HE.out] at HArg HRs hcu
   rw [HE.out]
   clear e hlt
   go_wp2_with fail
   (with_reducible refine (trim_any Au cu (limbsOf (sumL L)) _ HArg hcu).mono ?_)
   rintro e w' ⟨rfl,rfl⟩
   rw [val_limbsOf]
   go_wp2_with fail
   go_ret
   exact⟨_,rfl,HRs.out,HO.out⟩
end Go.Proofs.YtigpnopeacicpaaGreatDoor
