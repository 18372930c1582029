/-
  Joined texts.
-/
import Derived.WalkKit
import Derived.WalkSpells
import Derived.WalkLawsBesides
import Derived.Handy
import Derived.Maps.AppendAt
import Derived.Deep.AppendLies
import Derived.Deep.Draws
import Derived.Lib.Hide
import Derived.Deep.QuietTactic
import Derived.BigQuiet
import Derived.Deep.DeepCutAuto
import Derived.Deep.RegionHeld3
import Derived.Deep.RegionLaw
import Derived.Test.YtigpnopeacicpaaGreatDoorProg
import Derived.ProofKit
import Derived.OpenShut
import Derived.ShutString
import Derived.ChangeOld
import Derived.Below
import Derived.Deep.Slices
import Derived.Deep.Fields
import Derived.ChangeSame
import Derived.Lib.ItoaNum
import Derived.Laws.Bits64b
namespace Go.Proofs.YtigpnopeacicpaaGreatDoor
open Go.RowKit
def Blk (w:World) (g:Nat) (t:TypeId) (cs:List Value):Prop:=w.heap[g]? =some (.cells cs.toArray t (0,0))
structure Only (S:List Nat) (w w':World):Prop where
 os:w'.os=w.os
 tape:w'.tape=w.tape
 output:w'.output=w.output
 size:w.heap.size≤w'.heap.size
 block: ∀k,k<w.heap.size→k∉S→w'.heap[k]? =w.heap[k]?
theorem lt_of_heap {w:World} {g:Nat} {o:Obj} (h:w.heap[g]? =some o):g<w.heap.size:=(Array.getElem?_eq_some_iff.1 h).1
section
variable {w w' w'':World} {S S':List Nat} {g:Nat} {t:TypeId} {cs:List Value} {o:Obj}
theorem Only.refl (S:List Nat) (w:World):Only S w w:=⟨rfl,rfl,rfl,Nat.le_refl _,fun _ _ _=>rfl⟩
theorem Only.mono (h:Only S w w') (hs: ∀k∈S,k∈S'∨w.heap.size≤k):Only S' w w':=
 ⟨h.os,h.tape,h.output,h.size,fun k hk hn=>h.block k hk fun hm=>by
  rcases hs k hm with h1|h1
  ·exact hn h1
  ·omega⟩
theorem Only.trans (h:Only S w w') (h':Only S' w' w'') (hs: ∀k∈S',k∈S∨w.heap.size≤k):Only S w w'':=
 ⟨h'.os.trans h.os,h'.tape.trans h.tape,h'.output.trans h.output,Nat.le_trans h.size h'.size,fun k hk hn=>
  (h'.block k (Nat.lt_of_lt_of_le hk h.size) (fun hm=>by
   rcases hs k hm with h1|h1
   ·exact hn h1
   ·omega)).trans (h.block k hk hn)⟩
theorem Only.nil_trans (h:Only S w w') (h':Only [] w' w''):Only S w w'':=h.trans h' (by simp)
theorem Only.drew (h:Only S w w'):Only S w w'.drew:=⟨h.os,h.tape,h.output,h.size,h.block⟩
theorem Only.drewN (h:Only S w w') (n:Nat):Only S w (w'.drewN n):=⟨h.os,h.tape,h.output,h.size,h.block⟩
theorem Only.alloc (h:Only S w w') (o:Obj):Only S w (w'.alloc o):=
 ⟨h.os,h.tape,h.output,Nat.le_trans h.size (by simp),fun k hk hn=>(Below.heap_alloc w' o k (Nat.lt_of_lt_of_le hk h.size)).trans (h.block k hk hn)⟩
theorem Only.setCell (h:Only S w w') {p:Addr} (hp:p.block∈S∨w.heap.size≤p.block) (u:Value):Only S w (w'.setCell p u):=
 ⟨h.os,h.tape,h.output,by simpa [World.setCell] using h.size,fun k hk hn=>(Below.heap_setCell w' p u k (fun e=>by
  subst e
  rcases hp with h1|h1
  ·exact hn h1
  ·omega)).trans (h.block k hk hn)⟩
theorem Only.below (h:Only S w w') {B:Nat} (hB:B≤w.heap.size) (hs: ∀k∈S,B≤k):Below B w w':=
 ⟨h.os,h.tape,h.output,h.size,fun k hk=>h.block k (by omega) (fun hm=>by have:=hs k hm;omega)⟩
theorem Only.nil_below (h:Only [] w w'):Below w.heap.size w w':=h.below (Nat.le_refl _) (by simp)
theorem Only.of_grown {row:Option Nat} (h:w.grownBy w' row) (hr: ∀k,row=some k→k∈S):Only S w w':=
 ⟨h.os,h.tape,h.output,h.size,fun k hk hn=>h.block k hk (fun e=>hn (hr k e.symm))⟩
theorem Only.heap (h:Only S w w') (hg:w.heap[g]? =some o) (hn:g∉S):w'.heap[g]? =some o:=(h.block g (lt_of_heap hg) hn).trans hg
theorem Only.cell (h:Only S w w') {p:Addr} {v:Value} (hc:w.cell? p=some v) (hn:p.block∉S):w'.cell? p=some v:=
 (World.cell?_of_block (h.block p.block (World.block_lt_of_cell? w p hc) hn)).trans hc
theorem Blk.lt (h:Blk w g t cs):g<w.heap.size:=lt_of_heap h
theorem Blk.cell (h:Blk w g t cs) (i:Nat):w.cell? ⟨g,i,none⟩=cs[i]? :=by
 rw [cell_of_row w g i _ t (0,0) h];simp
theorem Blk.frozen (h:Blk w g t cs) (i:Nat):w.frozen? ⟨g,i,none⟩=false:=by
 unfold Blk at h
 simp [World.frozen?,h]
theorem Blk.new (w:World) (t:TypeId) (cs:List Value):Blk (w.alloc (.cells cs.toArray t)) w.heap.size t cs:=heap_alloc_new w _
theorem Blk.drew (h:Blk w g t cs):Blk w.drew g t cs:=h
theorem Blk.drewN (h:Blk w g t cs) (n:Nat):Blk (w.drewN n) g t cs:=h
theorem Blk.alloc (h:Blk w g t cs) (o:Obj):Blk (w.alloc o) g t cs:=(Below.heap_alloc w o g h.lt).trans h
theorem Blk.set_ (h:Blk w g t cs) (i:Nat) (u:Value):Blk (w.setCell ⟨g,i,none⟩ u) g t (cs.set i u):=by
 unfold Blk at h ⊢
 simp [World.setCell,Array.getElem?_modify,h]
theorem Blk.far (h:Blk w g t cs) {p:Addr} (hp:g≠p.block) (u:Value):Blk (w.setCell p u) g t cs:=(Below.heap_setCell w p u g hp).trans h
theorem Blk.only (h:Blk w g t cs) (ho:Only S w w') (hn:g∉S):Blk w' g t cs:=ho.heap h hn
theorem Blk.same (h:Blk w g t cs) {t':TypeId} {cs':List Value} (h':Blk w g t' cs'):t=t'∧cs=cs':=by
 unfold Blk at h h'
 rw [h] at h'
 injection h' with h'
 injection h' with h1 h2
 exact⟨h2,by simpa using h1⟩
end
end Go.Proofs.YtigpnopeacicpaaGreatDoor
namespace Go.Proofs.YtigpnopeacicpaaGreatDoor
open Go.ChangeShapes Go.WideShapes Go.ChangeAt Go.RowKit Go.Deep
theorem own:ownKnob Tryz.prog.godebug=none:=by kernel_rfl
theorem laidOut:laidOutB Tryz.prog=true:=by kernel_rfl
end Go.Proofs.YtigpnopeacicpaaGreatDoor
namespace Go.Proofs.YtigpnopeacicpaaGreatDoor
def BB:Nat:=18446744073709551616
theorem BB_val:BB=18446744073709551616:=rfl
theorem BB_pos:0<BB:=by decide
theorem BB_two:2≤BB:=by decide
theorem BB_pow:BB=2^64:=by decide
attribute [irreducible] BB
theorem BB_pow_pos (n:Nat):0<BB^n:=Nat.pow_pos BB_pos
def val:List Nat→Nat
 |[]=>0
 |x::xs=>x+BB*val xs
def Limb (xs:List Nat):Prop:= ∀x∈xs,x<BB
theorem val_append: ∀xs ys:List Nat,val (xs++ys)=val xs+BB^xs.length*val ys
 |[],ys=>by simp [val]
 |x::xs,ys=>by
  simp only [List.cons_append,val,val_append xs ys,List.length_cons,Nat.pow_succ,Nat.mul_add]
  rw [Nat.mul_comm (BB^xs.length) BB,Nat.mul_assoc,Nat.add_assoc]
theorem Limb.append {xs ys:List Nat} (h:Limb xs) (h':Limb ys):Limb (xs++ys):=fun x hx=>by
 rcases List.mem_append.1 hx with h1|h1
 ·exact h x h1
 ·exact h' x h1
theorem Limb.left {xs ys:List Nat} (h:Limb (xs++ys)):Limb xs:=fun x hx=>h x (by simp [hx])
theorem Limb.right {xs ys:List Nat} (h:Limb (xs++ys)):Limb ys:=fun x hx=>h x (by simp [hx])
theorem Limb.take {xs:List Nat} (h:Limb xs) (n:Nat):Limb (xs.take n):=fun x hx=>h x (List.mem_of_mem_take hx)
theorem Limb.drop {xs:List Nat} (h:Limb xs) (n:Nat):Limb (xs.drop n):=fun x hx=>h x (List.mem_of_mem_drop hx)
theorem Limb.tail {x:Nat} {xs:List Nat} (h:Limb (x::xs)):Limb xs:=fun y hy=>h y (by simp [hy])
theorem Limb.set {xs:List Nat} (h:Limb xs) (i v:Nat) (hv:v<BB):Limb (xs.set i v):=fun x hx=>by
 rcases List.mem_or_eq_of_mem_set hx with h1|h1
 ·exact h x h1
 ·exact h1▸hv
theorem Limb.get {xs:List Nat} (h:Limb xs) (i:Nat):xs[i]?.getD 0<BB:=by
 cases hx:xs[i]? with
 |none=>exact BB_pos
 |some x=>exact h x (List.mem_of_getElem? hx)
theorem Limb.zeros (n:Nat):Limb (List.replicate n 0):=fun x hx=>by
 rw [List.eq_of_mem_replicate hx]
 exact BB_pos
theorem limb_nil:Limb []:=fun x hx=>by simp at hx
theorem limb_one {x:Nat} (h:x<BB):Limb [x]:=fun y hy=>by
 have:y=x:=by simpa using hy
 exact this▸h
theorem val_zeros: ∀n:Nat,val (List.replicate n 0)=0
 |0=>rfl
 |n+1=>by rw [List.replicate_succ,val,val_zeros n];omega
theorem val_lt: ∀{xs:List Nat},Limb xs→val xs<BB^xs.length
 |[],_=>by simp [val]
 |x::xs,h=>by
  have h1:=val_lt h.tail
  have h2:=h x (by simp)
  simp only [val,List.length_cons,Nat.pow_succ]
  have h3:val xs+1≤BB^xs.length:=h1
  have h4:BB*(val xs+1)≤BB*BB^xs.length:=Nat.mul_le_mul_left _ h3
  rw [Nat.mul_add,Nat.mul_one,Nat.mul_comm BB (BB^xs.length)] at h4
  omega
theorem val_take_drop (xs:List Nat) (n:Nat) (hn:n≤xs.length):val xs=val (xs.take n)+BB^n*val (xs.drop n):=by
 have h:=val_append (xs.take n) (xs.drop n)
 rw [List.take_append_drop,List.length_take,Nat.min_eq_left hn] at h
 exact h
theorem val_snoc (xs:List Nat) (x:Nat):val (xs++[x])=val xs+BB^xs.length*x:=by
 rw [val_append]
 simp [val]
theorem val_take_succ (xs:List Nat) (k:Nat) (hk:k<xs.length):val (xs.take (k+1))=val (xs.take k)+BB^k*(xs[k]?.getD 0):=by
 rw [List.take_succ_eq_append_getElem hk,val_snoc,List.length_take,Nat.min_eq_left (by omega),List.getElem?_eq_getElem hk]
 rfl
theorem val_set (xs:List Nat) (i v:Nat) (hi:i<xs.length):val (xs.set i v)+BB^i*(xs[i]?.getD 0)=val xs+BB^i*v:=by
 have h1:=val_take_drop xs i (by omega)
 have h2:=val_take_drop (xs.set i v) i (by simp;omega)
 have e1:(xs.set i v).take i=xs.take i:=by rw [List.take_set_of_le (by omega)]
 have e2:xs.drop i=xs[i]::xs.drop (i+1):=List.drop_eq_getElem_cons hi
 have e3:(xs.set i v).drop i=v::xs.drop (i+1):=by
  rw [List.drop_eq_getElem_cons (by simpa using hi)]
  rw [List.getElem_set_self,List.drop_set_of_lt (by omega)]
 rw [e1,e3,val] at h2
 rw [e2,val] at h1
 rw [List.getElem?_eq_getElem hi,h1,h2]
 simp only [Option.getD_some,Nat.mul_add]
 omega
def limbsOf (n:Nat):List Nat:=if _h:n=0 then [] else n%BB::limbsOf (n/BB)
termination_by n
decreasing_by exact Nat.div_lt_self (by omega) BB_two
theorem limbsOf_zero:limbsOf 0=[]:=by rw [limbsOf];rfl
theorem limbsOf_pos {n:Nat} (h:n≠0):limbsOf n=n%BB::limbsOf (n/BB):=by rw [limbsOf,dif_neg h]
theorem limbsOf_val_cons (x N:Nat) (hx:x<BB) (h:N≠0∨x≠0):limbsOf (x+BB*N)=x::limbsOf N:=by
 have hp:=BB_pos
 have hne:x+BB*N≠0:=by
  rcases h with h|h
  ·have:0<BB*N:=Nat.mul_pos hp (by omega)
   omega
  ·omega
 rw [limbsOf_pos hne,Nat.add_mul_mod_self_left,Nat.mod_eq_of_lt hx,Nat.add_mul_div_left _ _ hp,Nat.div_eq_of_lt hx,Nat.zero_add]
theorem val_limbsOf: ∀n:Nat,val (limbsOf n)=n:=fun n=>by
 induction n using Nat.strongRecOn with
 |ind n ih=>
  by_cases h:n=0
  ·rw [h,limbsOf_zero];rfl
  ·rw [limbsOf_pos h,val,ih _ (Nat.div_lt_self (by omega) BB_two),Nat.mod_add_div]
theorem limb_limbsOf: ∀n:Nat,Limb (limbsOf n):=fun n=>by
 induction n using Nat.strongRecOn with
 |ind n ih=>
  by_cases h:n=0
  ·rw [h,limbsOf_zero];exact limb_nil
  ·rw [limbsOf_pos h]
   intro x hx
   rcases List.mem_cons.1 hx with rfl|hx
   ·exact Nat.mod_lt _ BB_pos
   ·exact ih _ (Nat.div_lt_self (by omega) BB_two) x hx
def Canon (xs:List Nat):Prop:= ∀h:0<xs.length,xs[xs.length-1]≠0
theorem limbsOf_val: ∀{xs:List Nat},Limb xs→Canon xs→limbsOf (val xs)=xs
 |[],_,_=>limbsOf_zero
 |x::xs,h,hc=>by
  have hc':Canon xs:=fun h0=>by
   have:=hc (by simp)
   simpa [List.getElem_cons,show xs.length≠0 by omega] using this
  have ih:=limbsOf_val h.tail hc'
  rw [val,limbsOf_val_cons x _ (h x (by simp)) ?_,ih]
  by_cases h0:val xs=0
  ·right
   rw [h0,limbsOf_zero] at ih
   subst ih
   simpa using hc (by simp)
  ·exact .inl h0
theorem canon_limbsOf: ∀n:Nat,Canon (limbsOf n):=fun n=>by
 induction n using Nat.strongRecOn with
 |ind n ih=>
  by_cases h:n=0
  ·rw [h,limbsOf_zero];intro h0;simp at h0
  ·rw [limbsOf_pos h]
   intro _
   have ih:=ih _ (Nat.div_lt_self (by omega) BB_two)
   by_cases h1:n/BB=0
   ·simp only [h1,limbsOf_zero,List.length_cons,List.length_nil]
    have:=Nat.mod_add_div n BB
    rw [h1] at this
    simp
    omega
   ·have hl:(limbsOf (n/BB)).length≠0:=by rw [limbsOf_pos h1];simp
    have:=ih (by omega)
    simpa [List.getElem_cons,hl] using this
theorem limbsOf_take: ∀{xs:List Nat},Limb xs→xs.take (limbsOf (val xs)).length=limbsOf (val xs)∧(limbsOf (val xs)).length≤xs.length
 |[],_=>by simp [val,limbsOf_zero]
 |x::xs,h=>by
  obtain⟨ih,ih2⟩:=limbsOf_take h.tail
  by_cases h0:val xs≠0∨x≠0
  ·rw [val,limbsOf_val_cons x _ (h x (by simp)) h0]
   simp [ih,ih2]
  ·have e:val xs=0∧x=0:=by omega
   rw [val,e.1,e.2]
   simp [limbsOf_zero]
theorem limbsOf_len {xs:List Nat} (h:Limb xs):(limbsOf (val xs)).length≤xs.length:=(limbsOf_take h).2
theorem limbsOf_len_le {n k:Nat} (h:n<BB^k):(limbsOf n).length≤k:=by
 induction k generalizing n with
 |zero=>
  have:n=0:=by simpa using h
  simp [this,limbsOf_zero]
 |succ k ih=>
  by_cases h0:n=0
  ·simp [h0,limbsOf_zero]
  ·rw [limbsOf_pos h0,List.length_cons]
   have:=ih (n:=n/BB) (by
    rw [Nat.div_lt_iff_lt_mul BB_pos]
    rwa [Nat.pow_succ] at h)
   omega
theorem lt_limbsOf (n:Nat):n<BB^(limbsOf n).length:=by
 have:=val_lt (limb_limbsOf n)
 rwa [val_limbsOf] at this
theorem limbsOf_len_lt {n k:Nat} (h:k<(limbsOf n).length):BB^k≤n:=by
 apply Nat.le_of_not_lt
 intro h1
 have:=limbsOf_len_le h1
 omega
theorem limbsOf_len_mono {m n:Nat} (h:m≤n):(limbsOf m).length≤(limbsOf n).length:=limbsOf_len_le (Nat.lt_of_le_of_lt h (lt_limbsOf n))
theorem limbsOf_len0 {n:Nat}:(limbsOf n).length=0↔n=0:=by
 constructor
 ·intro h
  have:=lt_limbsOf n
  rw [h] at this
  simpa using this
 ·rintro rfl
  rw [limbsOf_zero];rfl
theorem limbsOf_inj {m n:Nat} (h:limbsOf m=limbsOf n):m=n:=by rw [← val_limbsOf m,h,val_limbsOf]
theorem trim_stop {xs:List Nat} (h:Limb xs) (n:Nat) (hn:n≤xs.length) (hz: ∀j,n≤j→j<xs.length→xs[j]?.getD 0=0) (hc:0<n→xs[n-1]?.getD 0≠0):(limbsOf (val xs)).length=n∧xs.take n=limbsOf (val xs):=by
 have e:xs.drop n=List.replicate (xs.length-n) 0:=by
  apply List.ext_getElem
  ·simp
  ·intro i h1 h2
   have:=hz (n+i) (by omega) (by simp at h1;omega)
   rw [List.getElem?_eq_getElem (by simp at h1;omega)] at this
   simpa using this
 have hv:val xs=val (xs.take n):=by
  rw [val_take_drop xs n hn,e,val_zeros]
  omega
 have hcan:Canon (xs.take n):=by
  intro h0
  have hl:(xs.take n).length=n:=by rw [List.length_take];omega
  have:=hc (by omega)
  rw [List.getElem?_eq_getElem (by omega)] at this
  simp only [Option.getD_some] at this
  rw [List.getElem_take]
  simpa [hl] using this
 have:=limbsOf_val (h.take n) hcan
 rw [hv,this]
 exact⟨by rw [List.length_take];omega,rfl⟩
def cmpZ (a b:Nat):Int:=if a<b then -1 else if a=b then 0 else 1
theorem cmp_len {a b:Nat} (h:(limbsOf a).length<(limbsOf b).length):a<b:=Nat.lt_of_lt_of_le (lt_limbsOf a) (limbsOf_len_lt h)
theorem cmp_at {xs ys:List Nat} (hx:Limb xs) (hl:xs.length=ys.length) {i:Nat} (hi:i<xs.length) (hd:xs.drop (i+1)=ys.drop (i+1)) (h:xs[i]?.getD 0<ys[i]?.getD 0):val xs<val ys:=by
 have h1:=val_take_drop xs (i+1) (by omega)
 have h2:=val_take_drop ys (i+1) (by omega)
 rw [val_take_succ xs i hi] at h1
 rw [val_take_succ ys i (by omega)] at h2
 have h3:=val_lt (hx.take i)
 rw [List.length_take,Nat.min_eq_left (by omega)] at h3
 have h4:BB^i*(xs[i]?.getD 0+1)≤BB^i*(ys[i]?.getD 0):=Nat.mul_le_mul_left _ h
 rw [Nat.mul_add,Nat.mul_one] at h4
 rw [h1,h2,hd]
 omega
theorem drop_step {xs ys:List Nat} (hl:xs.length=ys.length) {i:Nat} (hi:i<xs.length) (hd:xs.drop (i+1)=ys.drop (i+1)) (h:xs[i]?.getD 0=ys[i]?.getD 0):xs.drop i=ys.drop i:=by
 have hi':i<ys.length:=by omega
 rw [List.drop_eq_getElem_cons hi,List.drop_eq_getElem_cons hi',hd]
 rw [List.getElem?_eq_getElem hi,List.getElem?_eq_getElem (by omega)] at h
 simp only [Option.getD_some] at h
 rw [h]
end Go.Proofs.YtigpnopeacicpaaGreatDoor
namespace Go.Proofs.YtigpnopeacicpaaGreatDoor
theorem add_step {zs:List Nat} {i v c lo hi:Nat} (h0:i<zs.length) (h:lo+BB*hi=zs[i]?.getD 0+v+c):val (zs.set i lo)+BB^(i+1)*hi=val zs+BB^i*v+BB^i*c:=by
 have h1:=val_set zs i lo h0
 have h2:=congrArg (BB^i* ·) h
 simp only [Nat.mul_add] at h2
 rw [Nat.pow_succ,Nat.mul_assoc]
 omega
theorem sub_step {zs:List Nat} {i v b d b':Nat} (h0:i<zs.length) (h:d+v+b=zs[i]?.getD 0+BB*b'):val (zs.set i d)+BB^i*v+BB^i*b=val zs+BB^(i+1)*b':=by
 have h1:=val_set zs i d h0
 have h2:=congrArg (BB^i* ·) h
 simp only [Nat.mul_add] at h2
 rw [Nat.pow_succ,Nat.mul_assoc]
 omega
theorem val_zero_of: ∀{zs:List Nat},val zs=0→ ∀k:Nat,zs[k]?.getD 0=0
 |[],_,k=>by simp
 |z::zs,h,0=>by
  simp only [val] at h
  simp
  omega
 |z::zs,h,k+1=>by
  simp only [val] at h
  have hb:=BB_pos
  have h1:val zs=0:=by
   rcases Nat.eq_zero_or_pos (val zs) with h2|h2
   ·exact h2
   ·have:=Nat.mul_pos hb h2
    omega
  have:=val_zero_of h1 k
  simpa using this
theorem val_high {zs:List Nat} {m:Nat} (h:val zs<BB^m) (k:Nat) (hk:m≤k):zs[k]?.getD 0=0:=by
 by_cases hm:m≤zs.length
 ·have h1:=val_take_drop zs m hm
  have h2:val (zs.drop m)=0:=by
   rcases Nat.eq_zero_or_pos (val (zs.drop m)) with h2|h2
   ·exact h2
   ·have h3:BB^m*1≤BB^m*val (zs.drop m):=Nat.mul_le_mul_left _ h2
    omega
  have h3:=val_zero_of h2 (k-m)
  rw [List.getElem?_drop,show m+(k-m)=k by omega] at h3
  exact h3
 ·rw [List.getElem?_eq_none (by omega)]
  rfl
theorem set_get_ne {zs:List Nat} {i j v:Nat} (h:i≠j):(zs.set i v)[j]?.getD 0=zs[j]?.getD 0:=by
 rw [List.getElem?_set_ne h]
theorem set_get_eq {zs:List Nat} {i v:Nat} (h:i<zs.length):(zs.set i v)[i]?.getD 0=v:=by
 simp [h]
theorem val_take_all (xs:List Nat):val (xs.take xs.length)=val xs:=by rw [List.take_length]
theorem val_ge_get {zs:List Nat} (i:Nat):BB^i*(zs[i]?.getD 0)≤val zs:=by
 by_cases hi:i<zs.length
 ·have h1:=val_take_drop zs (i+1) (by omega)
  rw [val_take_succ zs i hi] at h1
  omega
 ·rw [List.getElem?_eq_none (by omega)]
  simp
theorem pow_le {i j:Nat} (h:i≤j):BB^i≤BB^j:=Nat.pow_le_pow_right BB_pos h
def shrAt (r:Nat) (xs:List Nat) (j:Nat):Nat:=xs[j]?.getD 0/2^r+(xs[j+1]?.getD 0%2^r)*2^(64-r)
def shrL (r:Nat) (xs:List Nat):List Nat:=(List.range xs.length).map (shrAt r xs)
theorem shrAt_cons (r x:Nat) (xs:List Nat) (j:Nat):shrAt r (x::xs) (j+1)=shrAt r xs j:=by simp [shrAt]
theorem shrL_cons (r x:Nat) (xs:List Nat):shrL r (x::xs)=(x/2^r+(xs[0]?.getD 0%2^r)*2^(64-r))::shrL r xs:=by
 unfold shrL
 rw [List.length_cons,List.range_succ_eq_map,List.map_cons,List.map_map]
 have e:List.map (shrAt r (x::xs) ∘ Nat.succ) (List.range xs.length)=List.map (shrAt r xs) (List.range xs.length):=by
  apply List.map_congr_left
  intro j _
  exact shrAt_cons r x xs j
 rw [e]
 simp [shrAt]
theorem val_mod (r:Nat) (hr:r<64): ∀(xs:List Nat),val xs%2^r=xs[0]?.getD 0%2^r
 |[]=>by simp [val]
 |x::xs=>by
  have e:BB=2^r*2^(64-r):=by rw [← Nat.pow_add,BB_pow];congr 1;omega
  rw [val,e,Nat.mul_assoc,Nat.add_mul_mod_self_left]
  simp
theorem val_shrL (r:Nat) (hr:r<64): ∀(xs:List Nat),val (shrL r xs)=val xs/2^r
 |[]=>by simp [shrL,val]
 |x::xs=>by
  have ih:=val_shrL r hr xs
  have hm:=val_mod r hr xs
  have e:BB=2^r*2^(64-r):=by rw [← Nat.pow_add,BB_pow];congr 1;omega
  rw [shrL_cons,val,val,ih,←hm]
  have hp:0<2^r:=Nat.pow_pos (by omega)
  have h1:x+BB*val xs=x+2^r*(2^(64-r)*val xs):=by rw [e,Nat.mul_assoc]
  rw [h1,Nat.add_mul_div_left _ _ hp]
  have h2:=Nat.div_add_mod (val xs) (2^r)
  have h3:2^(64-r)*val xs=2^(64-r)*(2^r*(val xs/2^r))+2^(64-r)*(val xs%2^r):=by rw [← Nat.mul_add,h2]
  have h4:2^(64-r)*(2^r*(val xs/2^r))=BB*(val xs/2^r):=by rw [← Nat.mul_assoc,e,Nat.mul_comm (2^(64-r))]
  rw [h3,h4,Nat.mul_comm (2^(64-r)) (val xs%2^r)]
  omega
theorem shrL_len (r:Nat) (xs:List Nat):(shrL r xs).length=xs.length:=by simp [shrL]
theorem eq_shrL {r:Nat} {xs zs:List Nat} (hl:zs.length=xs.length) (h: ∀j,j<xs.length→zs[j]?.getD 0=shrAt r xs j):zs=shrL r xs:=by
 apply List.ext_getElem
 ·rw [hl,shrL_len]
 ·intro j h1 h2
  have h3:=h j (by omega)
  rw [List.getElem?_eq_getElem h1] at h3
  rw [show zs[j]=shrAt r xs j from h3]
  simp [shrL]
theorem val_drop_div (xs:List Nat) (hx:Limb xs) (k:Nat) (hk:k≤xs.length):val (xs.drop k)=val xs/BB^k:=by
 have h1:=val_take_drop xs k hk
 have h2:=val_lt (hx.take k)
 rw [List.length_take,Nat.min_eq_left hk] at h2
 rw [h1,Nat.add_mul_div_left _ _ (BB_pow_pos k),Nat.div_eq_of_lt h2,Nat.zero_add]
theorem pow_split (n:Nat):2^n=BB^(n/64)*2^(n%64):=by
 rw [BB_pow,←Nat.pow_mul,←Nat.pow_add]
 congr 1
 omega
theorem shr_val (xs:List Nat) (hx:Limb xs) (n:Nat) (hk:n/64≤xs.length):val (shrL (n%64) (xs.drop (n/64)))=val xs/2^n:=by
 rw [val_shrL _ (Nat.mod_lt _ (by omega)),val_drop_div xs hx _ hk,Nat.div_div_eq_div_mul,pow_split n]
theorem shr_small (xs:List Nat) (hx:Limb xs) (n:Nat) (hk:xs.length≤n/64):val xs/2^n=0:=by
 apply Nat.div_eq_of_lt
 have h1:=val_lt hx
 have h2:=pow_le hk
 have h3:BB^(n/64)*1≤BB^(n/64)*2^(n%64):=Nat.mul_le_mul_left _ (Nat.pow_pos (by omega))
 rw [pow_split n]
 omega
structure Dig (H u y1 y0 d q r:Nat):Prop where
 eq:q*y1+r=u
 ge:(u*H+d)/(y1*H+y0)≤q
 le:q≤H+1
theorem dig_start {H u y1 y0 d:Nat} (h1:0<y1) (hu:u<y1*H+y0) (h0:y0<2*y1) (hd:d<H):Dig H u y1 y0 d (u/y1) (u-(u/y1)*y1):=by
 have e:=Nat.div_add_mod u y1
 have hm:=Nat.mod_lt u h1
 rw [Nat.mul_comm] at e
 refine⟨by omega,?_,?_⟩
 ·apply Nat.le_of_lt_succ
  rw [Nat.div_lt_iff_lt_mul (by
   have:0<y1*H:=Nat.mul_pos h1 (by omega)
   omega)]
  have h2:u+1≤(u/y1+1)*y1:=by rw [Nat.add_mul,Nat.one_mul];omega
  have h3:(u+1)*H≤(u/y1+1)*y1*H:=Nat.mul_le_mul_right _ h2
  rw [Nat.add_mul,Nat.one_mul] at h3
  have h4:(u/y1).succ*(y1*H+y0)=(u/y1+1)*y1*H+(u/y1+1)*y0:=by rw [Nat.succ_eq_add_one,Nat.mul_add,Nat.mul_assoc]
  omega
 ·apply Nat.le_of_lt_succ
  rw [Nat.div_lt_iff_lt_mul h1]
  have:(H+1).succ*y1=y1*H+2*y1:=by rw [Nat.succ_eq_add_one,Nat.add_mul,Nat.add_mul,Nat.mul_comm H];omega
  omega
theorem dig_lower {H u y1 y0 d q r:Nat} (h:Dig H u y1 y0 d q r) (hy:0<y1*H+y0) (hl:H≤q∨H*r+d<q*y0) (hu:u<y1*H+y0) (hd:d<H):0<q∧Dig H u y1 y0 d (q-1) (r+y1):=by
 have hH:0<H:=by omega
 have hq:0<q:=by
  rcases hl with hl|hl
  ·omega
  ·rcases Nat.eq_zero_or_pos q with h0|h0
   ·rw [h0] at hl;omega
   ·exact h0
 obtain⟨k,rfl⟩: ∃k,q=k+1:=⟨q-1,by omega⟩
 refine⟨hq,?_,?_,by have:=h.le;omega⟩
 ·have:=h.eq
  rw [Nat.add_mul,Nat.one_mul] at this
  simp only [Nat.add_sub_cancel]
  omega
 ·apply Nat.le_of_lt_succ
  rw [Nat.div_lt_iff_lt_mul hy]
  simp only [Nat.add_sub_cancel,Nat.succ_eq_add_one]
  rcases hl with hl|hl
  ·have h3:H*(y1*H+y0)≤(k+1)*(y1*H+y0):=Nat.mul_le_mul_right _ hl
   have h4:(u+1)*H≤(y1*H+y0)*H:=Nat.mul_le_mul_right _ hu
   rw [Nat.add_mul,Nat.one_mul,Nat.mul_comm (y1*H+y0)] at h4
   omega
  ·have h5:(k+1)*(y1*H+y0)=(k+1)*y1*H+(k+1)*y0:=by rw [Nat.mul_add,Nat.mul_assoc]
   have h6:=congrArg (· *H) h.eq
   simp only [Nat.add_mul _ _ H] at h6
   rw [Nat.mul_comm r H] at h6
   omega
theorem dig_done {H u y1 y0 d q r:Nat} (h:Dig H u y1 y0 d q r) (hy:0<y1*H+y0) (hl:q*y0≤H*r+d):q=(u*H+d)/(y1*H+y0):=by
 apply Nat.le_antisymm _ h.ge
 rw [Nat.le_div_iff_mul_le hy]
 have h5:q*(y1*H+y0)=q*y1*H+q*y0:=by rw [Nat.mul_add,Nat.mul_assoc]
 have h6:=congrArg (· *H) h.eq
 simp only [Nat.add_mul _ _ H] at h6
 rw [Nat.mul_comm r H] at h6
 omega
theorem dig_break {H y0 d q r:Nat} (hq:q≤H) (h0:y0<H) (hr:H≤r):q*y0≤H*r+d:=by
 have h1:q*y0≤H*y0:=Nat.mul_le_mul_right _ hq
 have h2:H*y0≤H*r:=Nat.mul_le_mul_left _ (by omega)
 omega
def EstOk (u2 u1 u0 v1 v0 d:Nat):Prop:=d<BB∧(d=BB-1∨(u2*BB+u1)*BB+u0<(d+1)*(v1*BB+v0))
theorem est_start {u2 u1 u0 v1 v0:Nat} (hv:0<v1) (h2:u2<v1) (h1:u1<BB) (h0:u0<BB):EstOk u2 u1 u0 v1 v0 ((u2*BB+u1)/v1):=by
 have hb:=BB_pos
 constructor
 ·rw [Nat.div_lt_iff_lt_mul hv]
  have:(u2+1)*BB≤v1*BB:=Nat.mul_le_mul_right _ h2
  rw [Nat.add_mul,Nat.one_mul,Nat.mul_comm v1] at this
  omega
 ·right
  have h3:=Nat.lt_div_mul_add (a:=u2*BB+u1) hv
  have h4:u2*BB+u1+1≤((u2*BB+u1)/v1+1)*v1:=by rw [Nat.add_mul,Nat.one_mul];omega
  have h5:(u2*BB+u1+1)*BB≤((u2*BB+u1)/v1+1)*v1*BB:=Nat.mul_le_mul_right _ h4
  rw [Nat.add_mul (u2*BB+u1),Nat.one_mul] at h5
  have h6:((u2*BB+u1)/v1+1)*(v1*BB+v0)=((u2*BB+u1)/v1+1)*v1*BB+((u2*BB+u1)/v1+1)*v0:=by rw [Nat.mul_add,Nat.mul_assoc]
  omega
theorem est_lower {u2 u1 u0 v1 v0 d r:Nat} (hd:d<BB) (he:d*v1+r=u2*BB+u1) (hl:r*BB+u0<d*v0):0<d∧EstOk u2 u1 u0 v1 v0 (d-1)∧(d-1)*v1+(r+v1)=u2*BB+u1:=by
 have hp:0<d:=by
  rcases Nat.eq_zero_or_pos d with h0|h0
  ·rw [h0] at hl;omega
  ·exact h0
 obtain⟨k,rfl⟩: ∃k,d=k+1:=⟨d-1,by omega⟩
 simp only [Nat.add_sub_cancel]
 refine⟨hp,⟨by omega,.inr ?_⟩,by rw [Nat.add_mul,Nat.one_mul] at he;omega⟩
 have h6:=congrArg (· *BB) he
 simp only [Nat.add_mul _ _ BB] at h6
 have h7:(k+1)*(v1*BB+v0)=(k+1)*v1*BB+(k+1)*v0:=by rw [Nat.mul_add,Nat.mul_assoc]
 rw [Nat.add_mul _ _ BB]
 omega
theorem val_cap {us:List Nat} {m:Nat} (hm:m≤us.length) (h:val us<BB^m):val us=val (us.take m):=by
 have h1:=val_take_drop us m hm
 have h2:val (us.drop m)=0:=by
  rcases Nat.eq_zero_or_pos (val (us.drop m)) with h2|h2
  ·exact h2
  ·have h3:BB^m*1≤BB^m*val (us.drop m):=Nat.mul_le_mul_left _ h2
   omega
 rw [h1,h2]
 omega
theorem est_ge {us vs:List Nat} {j n d:Nat} (hu:Limb us) (hvl:Limb vs) (hn:2≤n) (hv:vs.length=n) (hl:j+n<us.length) (hw:val us<BB^(j+1)*val vs)
  (h:EstOk (us[j+n]?.getD 0) (us[j+n-1]?.getD 0) (us[j+n-2]?.getD 0) (vs[n-1]?.getD 0) (vs[n-2]?.getD 0) d):val us<BB^j*((d+1)*val vs):=by
 rcases h.2 with h|h
 ·rw [h,show BB-1+1=BB by have:=BB_pos;omega,←Nat.mul_assoc,←Nat.pow_succ]
  exact hw
 ·obtain⟨m,rfl⟩: ∃m,n=m+2:=⟨n-2,by omega⟩
  rw [show j+(m+2)-1=j+m+1 by omega,show j+(m+2)-2=j+m by omega,show m+2-1=m+1 by omega,show m+2-2=m by omega,show j+(m+2)=j+m+2 by omega] at h
  rw [show j+(m+2)=j+m+2 by omega] at hl
  have hvb:=val_lt hvl
  rw [hv] at hvb
  have hcap:val us<BB^(j+m+2+1):=by
   have h4:=Nat.mul_le_mul_left (BB^(j+1)) (Nat.le_of_lt hvb)
   rw [← Nat.pow_add,show j+1+(m+2)=j+m+2+1 by omega] at h4
   omega
  have c1:=val_take_succ us (j+m) (by omega)
  have c2:val (us.take (j+m+2))=val (us.take (j+m+1))+BB^(j+m+1)*(us[j+m+1]?.getD 0):=val_take_succ us (j+m+1) (by omega)
  have c3:=val_take_succ us (j+m+2) (by omega)
  have c0:=val_lt (hu.take (j+m))
  rw [List.length_take,Nat.min_eq_left (by omega)] at c0
  have hua:=val_cap (by omega) hcap
  have cV0:=val_take_succ vs m (by omega)
  have cV1:=val_take_succ vs (m+1) (by omega)
  have hva:val (vs.take (m+1+1))=val vs:=by rw [show m+1+1=vs.length by omega,List.take_length]
  rw [hva] at cV1
  generalize us[j+m+2]?.getD 0=u2 at*
  generalize us[j+m+1]?.getD 0=u1 at*
  generalize us[j+m]?.getD 0=u0 at*
  generalize vs[m+1]?.getD 0=v1 at*
  generalize vs[m]?.getD 0=v0 at*
  have e1:BB^(j+m+1)=BB^(j+m)*BB:=Nat.pow_succ ..
  have e2:BB^(j+m+2)=BB^(j+m)*(BB*BB):=by rw [Nat.pow_succ,Nat.pow_succ,Nat.mul_assoc]
  have hU:val us<BB^(j+m)*((u2*BB+u1)*BB+u0+1):=by
   have:BB^(j+m)*((u2*BB+u1)*BB+u0+1)=BB^(j+m)*(BB*BB)*u2+BB^(j+m)*BB*u1+BB^(j+m)*u0+BB^(j+m):=by
    simp only [Nat.mul_add,Nat.add_mul,Nat.mul_one]
    simp only [Nat.mul_assoc,Nat.mul_comm u2,Nat.mul_comm u1]
   rw [this,←e1,←e2]
   omega
  have hV:BB^m*(v1*BB+v0)≤val vs:=by
   have:BB^m*(v1*BB+v0)=BB^(m+1)*v1+BB^m*v0:=by
    rw [Nat.mul_add,Nat.pow_succ,Nat.mul_assoc,Nat.mul_comm BB v1]
   omega
  have h1:BB^(j+m)*((u2*BB+u1)*BB+u0+1)≤BB^(j+m)*((d+1)*(v1*BB+v0)):=Nat.mul_le_mul_left _ h
  have h2:BB^(j+m)*((d+1)*(v1*BB+v0))=BB^j*((d+1)*(BB^m*(v1*BB+v0))):=by
   rw [Nat.pow_add,Nat.mul_assoc,Nat.mul_left_comm (d+1)]
  have h3:BB^j*((d+1)*(BB^m*(v1*BB+v0)))≤BB^j*((d+1)*val vs):=Nat.mul_le_mul_left _ (Nat.mul_le_mul_left _ hV)
  omega
theorem newton_ge {a r s:Nat} (hr:0<r) (hs:s*s≤a):2*s≤r+a/r:=by
 by_cases h:2*s≤r
 ·exact Nat.le_trans h (Nat.le_add_right _ _)
 ·have h1:2*s-r≤a/r:=by
   rw [Nat.le_div_iff_mul_le hr]
   refine Nat.le_trans ?_ hs
   have h2:0≤((s:Int)-r)*((s:Int)-r):=by
    rcases Int.le_total 0 ((s:Int)-r) with h3|h3
    ·exact Int.mul_nonneg h3 h3
    ·have:0≤(-((s:Int)-r))*(-((s:Int)-r)):=Int.mul_nonneg (by omega) (by omega)
     rwa [Int.neg_mul_neg] at this
   have h4:((s:Int)-r)*((s:Int)-r)=(s:Int)*s-2*((s:Int)*r)+(r:Int)*r:=by
    simp only [Int.sub_mul,Int.mul_sub,Int.mul_comm (r:Int) (s:Int)]
    omega
   have h5:((2*s-r)*r:Nat)+r*r=2*(s*r):=by
    rw [← Nat.add_mul,show 2*s-r+r=2*s by omega,Nat.mul_assoc]
   have h6:((s*s:Nat):Int)=(s:Int)*s:=by simp
   have h7:((s*r:Nat):Int)=(s:Int)*r:=by simp
   have h8:((r*r:Nat):Int)=(r:Int)*r:=by simp
   omega
  omega
def IsRoot (a s:Nat):Prop:=s*s≤a∧a<(s+1)*(s+1)
theorem newton_done {a r s:Nat} (hr:0<r) (hs:IsRoot a s) (hge:s≤r) (hq:r≤a/r):r=s:=by
 rw [Nat.le_div_iff_mul_le hr] at hq
 have h2: ¬s<r:=fun hlt=>by
  have:(s+1)*(s+1)≤r*r:=Nat.mul_le_mul hlt hlt
  have:=hs.2;omega
 omega
theorem newton_step {a r s:Nat} (hr:0<r) (hs:IsRoot a s) (_:s≤r) (hq:a/r<r):s≤(r+a/r)/2∧(r+a/r)/2<r:=by
 have:=newton_ge hr hs.1
 omega
def rootN (a:Nat):Nat:=if _h:a=0 then 0 else if (2*rootN (a/4)+1)*(2*rootN (a/4)+1)≤a then 2*rootN (a/4)+1 else 2*rootN (a/4)
termination_by a
decreasing_by all_goals omega
theorem rootN_is (a:Nat):IsRoot a (rootN a):=by
 induction a using Nat.strongRecOn with
 |ind a ih=>
  rw [rootN]
  by_cases h:a=0
  ·rw [dif_pos h,h]
   exact⟨by omega,by omega⟩
  ·rw [dif_neg h]
   have ih:=ih (a/4) (by omega)
   generalize rootN (a/4)=r at ih
   obtain⟨h1,h2⟩:=ih
   have e1:(2*r+1)*(2*r+1)=4*(r*r)+4*r+1:=by
    simp only [Nat.mul_add,Nat.add_mul,Nat.mul_one,Nat.one_mul]
    rw [show 2*r*(2*r)=4*(r*r) by rw [Nat.mul_mul_mul_comm]]
    omega
   have e2:(r+1)*(r+1)=r*r+2*r+1:=by
    simp only [Nat.mul_add,Nat.add_mul,Nat.mul_one,Nat.one_mul]
    omega
   rw [e2] at h2
   split
   ·rename_i h3
    refine⟨h3,?_⟩
    have e3:(2*r+1+1)*(2*r+1+1)=4*(r*r)+8*r+4:=by
     simp only [Nat.mul_add,Nat.add_mul,Nat.mul_one,Nat.one_mul]
     rw [show 2*r*(2*r)=4*(r*r) by rw [Nat.mul_mul_mul_comm]]
     omega
    omega
   ·rename_i h3
    refine⟨?_,by omega⟩
    rw [show 2*r*(2*r)=4*(r*r) by rw [Nat.mul_mul_mul_comm]]
    omega
theorem root_guess {a h s:Nat} (hs:IsRoot a s):s≤(rootN (a/2^(2*h))+1)*2^h:=by
 have h1:=(rootN_is (a/2^(2*h))).2
 generalize rootN (a/2^(2*h))=r at h1 ⊢
 have hp:0<2^(2*h):=Nat.pow_pos (by omega)
 rw [Nat.div_lt_iff_lt_mul hp] at h1
 apply Nat.le_of_not_lt
 intro hlt
 have h2:=Nat.mul_le_mul (Nat.le_of_lt hlt) (Nat.le_of_lt hlt)
 have h3:(r+1)*2^h*((r+1)*2^h)=(r+1)*(r+1)*2^(2*h):=by
  rw [Nat.mul_mul_mul_comm,←Nat.pow_add]
  congr 2
  omega
 have:=hs.1
 omega
theorem kara_plus {a0 a1 b0 b1:Nat} (h:a0<a1↔b1<b0):a0*b0+a1*b1+(if a0<a1 then a1-a0 else a0-a1)*(if b1<b0 then b0-b1 else b1-b0)=a0*b1+a1*b0:=by
 by_cases ha:a0<a1
 ·have hb:=h.1 ha
  rw [if_pos ha,if_pos hb]
  obtain⟨p,rfl⟩: ∃p,a1=a0+p:=⟨a1-a0,by omega⟩
  obtain⟨q,rfl⟩: ∃q,b0=b1+q:=⟨b0-b1,by omega⟩
  simp only [Nat.add_sub_cancel_left,Nat.mul_add,Nat.add_mul]
  omega
 ·have hb: ¬b1<b0:=fun hb=>ha (h.2 hb)
  rw [if_neg ha,if_neg hb]
  obtain⟨p,rfl⟩: ∃p,a0=a1+p:=⟨a0-a1,by omega⟩
  obtain⟨q,rfl⟩: ∃q,b1=b0+q:=⟨b1-b0,by omega⟩
  simp only [Nat.add_sub_cancel_left,Nat.mul_add,Nat.add_mul]
  omega
theorem kara_minus {a0 a1 b0 b1:Nat} (h: ¬(a0<a1↔b1<b0)):a0*b1+a1*b0+(if a0<a1 then a1-a0 else a0-a1)*(if b1<b0 then b0-b1 else b1-b0)=a0*b0+a1*b1:=by
 by_cases ha:a0<a1
 ·have hb: ¬b1<b0:=fun hb=>h ⟨fun _=>hb,fun _=>ha⟩
  rw [if_pos ha,if_neg hb]
  obtain⟨p,rfl⟩: ∃p,a1=a0+p:=⟨a1-a0,by omega⟩
  obtain⟨q,rfl⟩: ∃q,b1=b0+q:=⟨b1-b0,by omega⟩
  simp only [Nat.add_sub_cancel_left,Nat.mul_add,Nat.add_mul]
  omega
 ·have hb:b1<b0:=by
   apply Classical.byContradiction
   intro hb
   exact h ⟨fun h1=>absurd h1 ha,fun h1=>absurd h1 hb⟩
  rw [if_neg ha,if_pos hb]
  obtain⟨p,rfl⟩: ∃p,a0=a1+p:=⟨a0-a1,by omega⟩
  obtain⟨q,rfl⟩: ∃q,b0=b1+q:=⟨b0-b1,by omega⟩
  simp only [Nat.add_sub_cancel_left,Nat.mul_add,Nat.add_mul]
  omega
theorem kara_whole (a0 a1 b0 b1 P:Nat):(a0+P*a1)*(b0+P*b1)=a0*b0+P*P*(a1*b1)+P*(a0*b1+a1*b0):=by
 simp only [Nat.mul_add,Nat.add_mul]
 have e1:a0*(P*b1)=P*(a0*b1):=Nat.mul_left_comm _ _ _
 have e2:P*a1*b0=P*(a1*b0):=Nat.mul_assoc _ _ _
 have e3:P*a1*(P*b1)=P*P*(a1*b1):=Nat.mul_mul_mul_comm _ _ _ _
 omega
theorem mul_lt_pow {a b m n:Nat} (ha:a<BB^m) (hb:b<BB^n):a*b<BB^(m+n):=by
 rw [Nat.pow_add]
 exact Nat.mul_lt_mul'' ha hb
theorem div_pow_lt {x m n:Nat} (h:BB^m*x<BB^n) (hmn:m≤n):x<BB^(n-m):=by
 apply Nat.lt_of_not_le
 intro h1
 have h2:=Nat.mul_le_mul_left (BB^m) h1
 rw [← Nat.pow_add,show m+(n-m)=n by omega] at h2
 omega
end Go.Proofs.YtigpnopeacicpaaGreatDoor
namespace Go.Proofs.YtigpnopeacicpaaGreatDoor
open Go
theorem lead_norm {y:Nat} (h0:y≠0) (hy:y<BB):64-Lib.bitLen y≤63∧Lib.bitLen y≤64∧y*2^(64-Lib.bitLen y)<BB∧BB≤2*(y*2^(64-Lib.bitLen y)):=by
 rw [BB_pow] at hy ⊢
 have hb:=Lib.bitLenAux_bounds 64 y hy h0
 have hl:Lib.bitLen y≤64:=Lib.bitLen_le y 64 (by omega) hy
 have e:Lib.bitLenAux 64 y=Lib.bitLen y:=rfl
 rw [e] at hb
 obtain⟨b1,b2,b3⟩:=hb
 generalize Lib.bitLen y=L at*
 refine⟨by omega,hl,?_,?_⟩
 ·have h1:y*2^(64-L)<2^L*2^(64-L):=Nat.mul_lt_mul_of_pos_right b3 (Nat.pow_pos (by omega))
  rw [← Nat.pow_add,show L+(64-L)=64 by omega] at h1
  exact h1
 ·have h1:2^(L-1)*2^(64-L)≤y*2^(64-L):=Nat.mul_le_mul_right _ b2
  rw [← Nat.pow_add,show L-1+(64-L)=63 by omega] at h1
  have:(2:Nat)^64=2*2^63:=by rw [← Nat.pow_succ']
  omega
structure D64 (hi lo y s Y y1 y0 h1 l1 u n d1 d0:Nat):Prop where
 e1:IntKind.u64.wrap ((y:Int)*2^s)=(Y:Int)
 e2:(Y:Int)/4294967296=(y1:Int)
 e3:bits .and .u64 (Y:Int) 4294967295=(y0:Int)
 e4:IntKind.u64.wrap ((hi:Int)*2^s)=(h1:Int)
 e5:(lo:Int)/2^(64-s)=(l1:Int)
 e6:bits .or .u64 (h1:Int) (l1:Int)=(u:Int)
 e7:IntKind.u64.wrap ((lo:Int)*2^s)=(n:Int)
 e8:(n:Int)/4294967296=(d1:Int)
 e9:bits .and .u64 (n:Int) 4294967295=(d0:Int)
 fY:Y=y1*4294967296+y0
 fy:Y=y*2^s
 lY:Y<BB
 l0:y0<4294967296
 lh:4294967296≤2*y1
 ll:y1<4294967296
 ld1:d1<4294967296
 ld0:d0<4294967296
 lu:u<Y
 fn:u*BB+n=(hi*BB+lo)*2^s
 fd:n=d1*4294967296+d0
theorem and_mask (a:Nat) (ha:a<18446744073709551616):bits .and .u64 (a:Int) 4294967295=((a%4294967296:Nat):Int):=by
 have h:=bits_and_u64_nat a 4294967295 ha (by omega)
 have e:a &&& 4294967295=a%4294967296:=Nat.and_two_pow_sub_one_eq_mod a 32
 rw [e] at h
 exact h
theorem d64_facts {hi lo y s:Nat} (hh:hi<y) (hl:lo<BB) (hs:s≤63) (h1:y*2^s<BB) (h2:BB≤2*(y*2^s)):
  ∃Y y1 y0 g1 l1 u n d1 d0,D64 hi lo y s Y y1 y0 g1 l1 u n d1 d0:=by
 have hv:=BB_val
 have hp:0<2^s:=Nat.pow_pos (by omega)
 have hsp:(2:Nat)^s*2^(64-s)=BB:=by rw [← Nat.pow_add,BB_pow];congr 1;omega
 have hhs:hi*2^s+2^s≤y*2^s:=by
  have:=Nat.mul_le_mul_right (2^s) hh
  rw [Nat.succ_mul] at this
  exact this
 have hl1:lo/2^(64-s)<2^s:=by
  rw [Nat.div_lt_iff_lt_mul (Nat.pow_pos (by omega)),hsp]
  exact hl
 have hn:lo*2^s=lo/2^(64-s)*BB+(lo*2^s)%BB:=by
  have h3:=Nat.div_add_mod (lo*2^s) BB
  have h4:lo*2^s/BB=lo/2^(64-s):=by
   rw [← hsp,Nat.mul_comm (2^s),Nat.mul_div_mul_right _ _ hp]
  rw [h4,Nat.mul_comm] at h3
  omega
 have hnl:(lo*2^s)%BB<BB:=Nat.mod_lt _ BB_pos
 have hor:hi*2^s+lo/2^(64-s)=hi*2^s ||| lo/2^(64-s):=by
  rw [Nat.mul_comm hi]
  exact Nat.two_pow_add_eq_or_of_lt hl1 hi
 refine⟨y*2^s,y*2^s/4294967296,y*2^s%4294967296,hi*2^s,lo/2^(64-s),hi*2^s+lo/2^(64-s),(lo*2^s)%BB,(lo*2^s)%BB/4294967296,(lo*2^s)%BB%4294967296,?_⟩
 generalize hYe:y*2^s=Y at*
 constructor
 ·have:(y:Int)*2^s=((y*2^s:Nat):Int):=by simp
  rw [this,hYe,IntKind.wrap_u64]
  omega
 ·omega
 ·exact and_mask Y (by omega)
 ·have:(hi:Int)*2^s=((hi*2^s:Nat):Int):=by simp
  rw [this,IntKind.wrap_u64]
  omega
 ·simp
 ·rw [hor]
  exact bits_or_u64_nat _ _ (by omega) (by omega)
 ·have:(lo:Int)*2^s=((lo*2^s:Nat):Int):=by simp
  rw [this,IntKind.wrap_u64,hv]
  omega
 ·omega
 ·exact and_mask _ (by omega)
 ·omega
 ·exact hYe.symm
 ·omega
 ·omega
 ·omega
 ·omega
 ·omega
 ·omega
 ·omega
 ·rw [Nat.add_mul,Nat.add_mul]
  have:hi*BB*2^s=hi*2^s*BB:=Nat.mul_right_comm _ _ _
  omega
 ·omega
set_option maxRecDepth 100000 in
theorem d64_end {hi lo y s Y y1 y0 h1 l1 u n d1 d0:Nat} (h:D64 hi lo y s Y y1 y0 h1 l1 u n d1 d0):
  (u*4294967296+d1)/Y*4294967296+((u*4294967296+d1)%Y*4294967296+d0)/Y=(hi*BB+lo)/y∧((u*4294967296+d1)%Y*4294967296+d0)%Y/2^s=(hi*BB+lo)%y:=by
 have hp:0<2^s:=Nat.pow_pos (by omega)
 have hY:0<Y:=by have:=h.lu;omega
 have e1:=Nat.div_add_mod (u*4294967296+d1) Y
 have m1:=Nat.mod_lt (u*4294967296+d1) hY
 have e2:=Nat.div_add_mod ((u*4294967296+d1)%Y*4294967296+d0) Y
 have m2:=Nat.mod_lt ((u*4294967296+d1)%Y*4294967296+d0) hY
 have hN:(hi*BB+lo)*2^s=Y*((u*4294967296+d1)/Y*4294967296+((u*4294967296+d1)%Y*4294967296+d0)/Y)+((u*4294967296+d1)%Y*4294967296+d0)%Y:=by
  rw [← h.fn,h.fd,BB_val,Nat.mul_add,←Nat.mul_assoc]
  omega
 obtain⟨Q,hQ⟩: ∃Q,(u*4294967296+d1)/Y*4294967296+((u*4294967296+d1)%Y*4294967296+d0)/Y=Q:=⟨_,rfl⟩
 obtain⟨R,hR⟩: ∃R,((u*4294967296+d1)%Y*4294967296+d0)%Y=R:=⟨_,rfl⟩
 rw [hQ,hR] at hN
 rw [hR] at m2
 rw [hQ,hR]
 constructor
 ·have h3:(hi*BB+lo)*2^s/Y=Q:=by rw [hN,Nat.mul_add_div hY,Nat.div_eq_of_lt m2,Nat.add_zero]
  rw [h.fy,Nat.mul_div_mul_right _ _ hp] at h3
  exact h3.symm
 ·have h3:(hi*BB+lo)*2^s%Y=R:=by rw [hN,Nat.mul_add_mod,Nat.mod_eq_of_lt m2]
  rw [h.fy,Nat.mul_mod_mul_right] at h3
  rw [← h3,Nat.mul_div_cancel _ hp]
set_option maxRecDepth 100000 in
theorem wrap_digit {u d q Y:Nat} (hY:0<Y) (hYl:Y<BB) (hq:q=(u*4294967296+d)/Y): ∃m1 m2 m3:Nat,
  IntKind.u64.wrap ((u:Int)*4294967296)=(m1:Int)∧IntKind.u64.wrap ((m1:Int)+(d:Int))=(m2:Int)∧IntKind.u64.wrap ((q:Int)*(Y:Int))=(m3:Int)∧IntKind.u64.wrap ((m2:Int)-(m3:Int))=(((u*4294967296+d)%Y:Nat):Int):=by
 have e:=Nat.div_add_mod (u*4294967296+d) Y
 have hm:=Nat.mod_lt (u*4294967296+d) hY
 rw [← hq] at e
 have hc:(q:Int)*(Y:Int)=((Y*q:Nat):Int):=by rw [Nat.mul_comm];simp
 rw [BB_val] at hYl
 generalize (u*4294967296+d)%Y=R at*
 generalize hP:Y*q=P at*
 refine⟨u*4294967296%18446744073709551616,(u*4294967296%18446744073709551616+d)%18446744073709551616,P%18446744073709551616,?_,?_,?_,?_⟩
 ·rw [IntKind.wrap_u64];omega
 ·rw [IntKind.wrap_u64];omega
 ·rw [hc,IntKind.wrap_u64];omega
 ·rw [IntKind.wrap_u64];omega
end Go.Proofs.YtigpnopeacicpaaGreatDoor
namespace Go.Proofs.YtigpnopeacicpaaGreatDoor
theorem long_u2 {us vs:List Nat} {j n:Nat} (hvl:Limb vs) (hn:1≤n) (hv:vs.length=n) (hw:val us<BB^(j+1)*val vs):us[j+n]?.getD 0≤vs[n-1]?.getD 0:=by
 obtain⟨m,rfl⟩: ∃m,n=m+1:=⟨n-1,by omega⟩
 have h1:=val_ge_get (zs:=us) (j+(m+1))
 have c1:=val_take_succ vs m (by omega)
 rw [show vs.take (m+1)=vs by rw [← hv,List.take_length]] at c1
 have c0:=val_lt (hvl.take m)
 rw [List.length_take,Nat.min_eq_left (by omega)] at c0
 simp only [Nat.add_sub_cancel]
 have h2:BB^(j+1)*val vs≤BB^(j+1)*(BB^m*(vs[m]?.getD 0+1)):=Nat.mul_le_mul_left _ (by rw [Nat.mul_add];omega)
 have h3:BB^(j+1)*(BB^m*(vs[m]?.getD 0+1))=BB^(j+(m+1))*(vs[m]?.getD 0+1):=by rw [← Nat.mul_assoc,←Nat.pow_add,show j+1+m=j+(m+1) by omega]
 have h4:BB^(j+(m+1))*(us[j+(m+1)]?.getD 0)<BB^(j+(m+1))*(vs[m]?.getD 0+1):=by omega
 exact Nat.le_of_lt_succ (Nat.lt_of_mul_lt_mul_left h4)
theorem long_bound {us vs:List Nat} {j n:Nat} (hvl:Limb vs) (hv:vs.length=n) (hw:val us<BB^(j+1)*val vs):val us<BB^(j+n+1):=by
 have h1:=val_lt hvl
 rw [hv] at h1
 have h2:BB^(j+1)*val vs≤BB^(j+1)*BB^n:=Nat.mul_le_mul_left _ (Nat.le_of_lt h1)
 rw [← Nat.pow_add,show j+1+n=j+n+1 by omega] at h2
 omega
theorem high_bound {us us':List Nat} {i:Nat} (hu:Limb us) (hu':Limb us') (hl:us'.length=us.length) (hi:i≤us.length) (hh: ∀j,i≤j→us'[j]?.getD 0=us[j]?.getD 0) (h:val us<BB^i):val us'<BB^i:=by
 have e:us'.drop i=us.drop i:=by
  apply List.ext_getElem
  ·simp [hl]
  ·intro k h1 h2
   have h3:=hh (i+k) (by omega)
   simp only [List.length_drop] at h1 h2
   rw [List.getElem?_eq_getElem (by omega),List.getElem?_eq_getElem (by omega)] at h3
   simpa using h3
 have h1:=val_take_drop us' i (by omega)
 have h2:=val_drop_div us hu i hi
 rw [Nat.div_eq_of_lt h] at h2
 rw [e,h2,Nat.mul_zero,Nat.add_zero] at h1
 rw [h1]
 have:=val_lt (hu'.take i)
 rwa [List.length_take,Nat.min_eq_left (by omega)] at this
structure DI (us us':List Nat) (V j n d b:Nat):Prop where
 limb:Limb us'
 len:us'.length=us.length
 eq:val us'+BB^j*(d*V)=val us+BB^(j+n+1)*b
 lt:val us'<BB^(j+n+1)
 est:val us<BB^j*((d+1)*V)
 dl:d<BB
 bl:b≤1
theorem DI.pos {us us':List Nat} {V j n d:Nat} (h:DI us us' V j n d 1):0<d:=by
 rcases Nat.eq_zero_or_pos d with h0|h0
 ·have h1:=h.eq
  have h2:=h.lt
  rw [h0] at h1
  simp at h1
  omega
 ·exact h0
theorem DI.step {us us' us'':List Nat} {V j n d cy:Nat} (h:DI us us' V j n d 1) (hl:Limb us'') (hn:us''.length=us'.length) (hi:j+n+1≤us'.length) (hh: ∀k,j+n+1≤k→us''[k]?.getD 0=us'[k]?.getD 0) (hc:cy≤1)
  (he:val us''+BB^(j+n+1)*cy=val us'+BB^j*V):DI us us'' V j n (d-1) (1-cy):=by
 have hp:=h.pos
 obtain⟨k,rfl⟩: ∃k,d=k+1:=⟨d-1,by omega⟩
 have h1:=h.eq
 have h2:=h.lt
 have h3:=h.dl
 rw [Nat.add_sub_cancel]
 rw [Nat.add_mul,Nat.one_mul,Nat.mul_add] at h1
 have hb:=high_bound h.limb hl hn hi hh h.lt
 have h7:k<BB:=Nat.lt_of_succ_lt h3
 refine⟨hl,by rw [hn,h.len],?_,hb,?_,h7,Nat.sub_le _ _⟩
 ·clear h7 h3 hb
  generalize BB^(j+n+1)=P at*
  generalize BB^j*(k*V)=A at*
  generalize BB^j*V=C at*
  rcases (show cy=0∨cy=1 by omega) with rfl|rfl
  ·rw [Nat.mul_zero] at he
   rw [Nat.mul_one] at h1
   rw [Nat.sub_zero,Nat.mul_one]
   omega
  ·rw [Nat.mul_one] at he h1
   rw [Nat.sub_self,Nat.mul_zero]
   omega
 ·rw [Nat.add_mul,Nat.one_mul,Nat.mul_add]
  clear h7 h3 hb he
  generalize BB^(j+n+1)=P at*
  generalize BB^j*(k*V)=A at*
  generalize BB^j*V=C at*
  rw [Nat.mul_one] at h1
  omega
theorem DI.done {us us':List Nat} {V j n d:Nat} (h:DI us us' V j n d 0):val us'+BB^j*(d*V)=val us∧val us'<BB^j*V:=by
 have h1:=h.eq
 have h2:=h.est
 rw [Nat.mul_zero,Nat.add_zero] at h1
 rw [Nat.add_mul,Nat.one_mul,Nat.mul_add] at h2
 exact⟨h1,by omega⟩
structure LI (us qs:List Nat) (U0 V k:Nat):Prop where
 ul:Limb us
 ql:Limb qs
 eq:val us+V*(BB^k*val (qs.drop k))=U0
 lt:val us<BB^k*V
theorem LI.step {us us' qs:List Nat} {U0 V j n d:Nat} (h:LI us qs U0 V (j+1)) (hd:DI us us' V j n d 0) (hq:j<qs.length):LI us' (qs.set j d) U0 V j:=by
 obtain⟨h1,h2⟩:=hd.done
 refine⟨hd.limb,h.ql.set _ _ hd.dl,?_,h2⟩
 have h3:=h.eq
 rw [List.drop_eq_getElem_cons (by simpa using hq),List.getElem_set_self,List.drop_set_of_lt (by omega),val,Nat.mul_add,Nat.mul_add]
 rw [Nat.pow_succ,Nat.mul_assoc] at h3
 rw [← h3,←h1,Nat.mul_left_comm V (BB^j) d,Nat.mul_comm V d]
 omega
theorem LI.done {us qs:List Nat} {a b s:Nat} (h:LI us qs (a*2^s) (b*2^s) 0):val qs=a/b∧val us/2^s=a%b:=by
 have hp:0<2^s:=Nat.pow_pos (by omega)
 have h1:=h.eq
 have h2:=h.lt
 simp only [Nat.pow_zero,Nat.one_mul,List.drop_zero] at h1 h2
 have hV:0<b*2^s:=by omega
 have e1:(a*2^s)/(b*2^s)=val qs:=by
  rw [← h1,Nat.add_comm,Nat.mul_add_div hV,Nat.div_eq_of_lt h2,Nat.add_zero]
 have e2:(a*2^s)%(b*2^s)=val us:=by
  rw [← h1,Nat.add_comm,Nat.mul_add_mod,Nat.mod_eq_of_lt h2]
 rw [Nat.mul_div_mul_right _ _ hp] at e1
 rw [Nat.mul_mod_mul_right] at e2
 exact⟨e1.symm,by rw [← e2,Nat.mul_div_cancel _ hp]⟩
theorem long_top {ys:List Nat} {s n:Nat} (hy:Limb ys) (hn:1≤n) (hl:ys.length=n) (h0:ys[n-1]?.getD 0≠0) (hs:ys[n-1]?.getD 0*2^s<BB):(limbsOf (val ys*2^s)).length=n∧BB^(n-1)*2^s≤val ys*2^s:=by
 obtain⟨m,rfl⟩: ∃m,n=m+1:=⟨n-1,by omega⟩
 simp only [Nat.add_sub_cancel] at*
 have hp:0<2^s:=Nat.pow_pos (by omega)
 have c1:=val_take_succ ys m (by omega)
 rw [show ys.take (m+1)=ys by rw [← hl,List.take_length]] at c1
 have c0:=val_lt (hy.take m)
 rw [List.length_take,Nat.min_eq_left (by omega)] at c0
 have h1:BB^m*1≤BB^m*(ys[m]?.getD 0):=Nat.mul_le_mul_left _ (by omega)
 have h2:BB^m*2^s≤val ys*2^s:=Nat.mul_le_mul_right _ (by omega)
 refine⟨?_,h2⟩
 apply Nat.le_antisymm
 ·apply limbsOf_len_le
  have h4:val ys+1≤BB^m*(ys[m]?.getD 0+1):=by rw [Nat.mul_add];omega
  have h5:(val ys+1)*2^s≤BB^m*(ys[m]?.getD 0+1)*2^s:=Nat.mul_le_mul_right _ h4
  have h6:(ys[m]?.getD 0+1)*2^s≤BB:=by
   by_cases hs64:s≤64
   ·have hsp:2^s*2^(64-s)=BB:=by rw [← Nat.pow_add,BB_pow];congr 1;omega
    rw [← hsp,Nat.mul_comm] at hs ⊢
    exact Nat.mul_le_mul_left _ (Nat.lt_of_mul_lt_mul_left hs)
   ·have h7:2^64≤2^s:=Nat.pow_le_pow_right (by omega) (by omega)
    have h8:1*2^s≤ys[m]?.getD 0*2^s:=Nat.mul_le_mul_right _ (by omega)
    rw [BB_pow] at hs
    omega
  have h7:BB^m*(ys[m]?.getD 0+1)*2^s≤BB^m*BB:=by rw [Nat.mul_assoc];exact Nat.mul_le_mul_left _ h6
  rw [Nat.pow_succ]
  rw [Nat.add_mul] at h5
  omega
 ·apply Nat.lt_of_not_le
  intro h
  have h3:=lt_limbsOf (val ys*2^s)
  have h4:BB^(limbsOf (val ys*2^s)).length≤BB^m:=pow_le (by omega)
  have h5:BB^m*1≤BB^m*2^s:=Nat.mul_le_mul_left _ hp
  omega
theorem LI.start {xs ys us qs:List Nat} {s n m:Nat} (hx:Limb xs) (hm:xs.length=m) (hn:1≤n) (hnm:n≤m) (hV:BB^(n-1)*2^s≤val ys*2^s) (hul:Limb us) (hu:val us=val xs*2^s) (hql:Limb qs) (hq:qs.length=m-n+1):
  LI us qs (val xs*2^s) (val ys*2^s) (m-n+1):=by
 refine⟨hul,hql,by rw [← hq,List.drop_length];simp [val,hu],?_⟩
 have h1:=val_lt hx
 rw [hm] at h1
 have h2:val xs*2^s<BB^m*2^s:=Nat.mul_lt_mul_of_pos_right h1 (Nat.pow_pos (by omega))
 have h3:=Nat.mul_le_mul_left (BB^(m-n+1)) hV
 rw [← Nat.mul_assoc,←Nat.pow_add,show m-n+1+(n-1)=m by omega] at h3
 omega
end Go.Proofs.YtigpnopeacicpaaGreatDoor
