import Derived.Test.YtigpnopeacicpaaGreatDoorTcJ0
import Derived.Test.YtigpnopeacicpaaGreatDoorTcJ7
import Derived.StillTailTactics
import Derived.IntWalk
namespace Go.Proofs.YtigpnopeacicpaaGreatDoor
open Go.Lib (hid)
namespace R
def BB:Nat:=4294967296
theorem BB_val:BB=4294967296:=rfl
theorem BB_pos:0<BB:=by decide
theorem BB_two:2≤BB:=by decide
theorem BB_pow:BB=2^32:=by decide
attribute [irreducible] BB
theorem BB_pow_pos (n:Nat):0<BB^n:=Nat.pow_pos BB_pos
def val:List Nat→Nat
 |[]=>0
 |x::xs=>x+BB*val xs
def Limb (xs:List Nat):Prop:= ∀x∈xs,x<BB
theorem val_append: ∀xs ys:List Nat,val (xs++ys)=val xs+BB^xs.length*val ys
 |[],ys=>by simp [val]
 |x::xs,ys=>by
  simp only [List.cons_append,val,val_append xs ys,List.length_cons,Nat.pow_succ,Nat.mul_add]
  rw [Nat.mul_comm (BB^xs.length) BB,Nat.mul_assoc,Nat.add_assoc]
theorem Limb.append {xs ys:List Nat} (h:Limb xs) (h':Limb ys):Limb (xs++ys):=fun x hx=>by
 rcases List.mem_append.1 hx with h1|h1
 ·exact h x h1
 ·exact h' x h1
theorem Limb.left {xs ys:List Nat} (h:Limb (xs++ys)):Limb xs:=fun x hx=>h x (by simp [hx])
theorem Limb.right {xs ys:List Nat} (h:Limb (xs++ys)):Limb ys:=fun x hx=>h x (by simp [hx])
theorem Limb.take {xs:List Nat} (h:Limb xs) (n:Nat):Limb (xs.take n):=fun x hx=>h x (List.mem_of_mem_take hx)
theorem Limb.drop {xs:List Nat} (h:Limb xs) (n:Nat):Limb (xs.drop n):=fun x hx=>h x (List.mem_of_mem_drop hx)
theorem Limb.tail {x:Nat} {xs:List Nat} (h:Limb (x::xs)):Limb xs:=fun y hy=>h y (by simp [hy])
theorem Limb.set {xs:List Nat} (h:Limb xs) (i v:Nat) (hv:v<BB):Limb (xs.set i v):=fun x hx=>by
 rcases List.mem_or_eq_of_mem_set hx with h1|h1
 ·exact h x h1
 ·exact h1▸hv
theorem Limb.get {xs:List Nat} (h:Limb xs) (i:Nat):xs[i]?.getD 0<BB:=by
 cases hx:xs[i]? with
 |none=>exact BB_pos
 |some x=>exact h x (List.mem_of_getElem? hx)
theorem Limb.zeros (n:Nat):Limb (List.replicate n 0):=fun x hx=>by
 rw [List.eq_of_mem_replicate hx]
 exact BB_pos
theorem limb_nil:Limb []:=fun x hx=>by simp at hx
theorem limb_one {x:Nat} (h:x<BB):Limb [x]:=fun y hy=>by
 have:y=x:=by simpa using hy
 exact this▸h
theorem val_zeros: ∀n:Nat,val (List.replicate n 0)=0
 |0=>rfl
 |n+1=>by rw [List.replicate_succ,val,val_zeros n];omega
theorem val_lt: ∀{xs:List Nat},Limb xs→val xs<BB^xs.length
 |[],_=>by simp [val]
 |x::xs,h=>by
  have h1:=val_lt h.tail
  have h2:=h x (by simp)
  simp only [val,List.length_cons,Nat.pow_succ]
  have h3:val xs+1≤BB^xs.length:=h1
  have h4:BB*(val xs+1)≤BB*BB^xs.length:=Nat.mul_le_mul_left _ h3
  rw [Nat.mul_add,Nat.mul_one,Nat.mul_comm BB (BB^xs.length)] at h4
  omega
theorem val_take_drop (xs:List Nat) (n:Nat) (hn:n≤xs.length):val xs=val (xs.take n)+BB^n*val (xs.drop n):=by
 have h:=val_append (xs.take n) (xs.drop n)
 rw [List.take_append_drop,List.length_take,Nat.min_eq_left hn] at h
 exact h
theorem val_snoc (xs:List Nat) (x:Nat):val (xs++[x])=val xs+BB^xs.length*x:=by
 rw [val_append]
 simp [val]
theorem val_take_succ (xs:List Nat) (k:Nat) (hk:k<xs.length):val (xs.take (k+1))=val (xs.take k)+BB^k*(xs[k]?.getD 0):=by
 rw [List.take_succ_eq_append_getElem hk,val_snoc,List.length_take,Nat.min_eq_left (by omega),List.getElem?_eq_getElem hk]
 rfl
theorem val_set (xs:List Nat) (i v:Nat) (hi:i<xs.length):val (xs.set i v)+BB^i*(xs[i]?.getD 0)=val xs+BB^i*v:=by
 have h1:=val_take_drop xs i (by omega)
 have h2:=val_take_drop (xs.set i v) i (by simp;omega)
 have e1:(xs.set i v).take i=xs.take i:=by rw [List.take_set_of_le (by omega)]
 have e2:xs.drop i=xs[i]::xs.drop (i+1):=List.drop_eq_getElem_cons hi
 have e3:(xs.set i v).drop i=v::xs.drop (i+1):=by
  rw [List.drop_eq_getElem_cons (by simpa using hi)]
  rw [List.getElem_set_self,List.drop_set_of_lt (by omega)]
 rw [e1,e3,val] at h2
 rw [e2,val] at h1
 rw [List.getElem?_eq_getElem hi,h1,h2]
 simp only [Option.getD_some,Nat.mul_add]
 omega
def limbsOf (n:Nat):List Nat:=if _h:n=0 then [] else n%BB::limbsOf (n/BB)
termination_by n
decreasing_by exact Nat.div_lt_self (by omega) BB_two
theorem limbsOf_zero:limbsOf 0=[]:=by rw [limbsOf];rfl
theorem limbsOf_pos {n:Nat} (h:n≠0):limbsOf n=n%BB::limbsOf (n/BB):=by rw [limbsOf,dif_neg h]
theorem limbsOf_val_cons (x N:Nat) (hx:x<BB) (h:N≠0∨x≠0):limbsOf (x+BB*N)=x::limbsOf N:=by
 have hp:=BB_pos
 have hne:x+BB*N≠0:=by
  rcases h with h|h
  ·have:0<BB*N:=Nat.mul_pos hp (by omega)
   omega
  ·omega
 rw [limbsOf_pos hne,Nat.add_mul_mod_self_left,Nat.mod_eq_of_lt hx,Nat.add_mul_div_left _ _ hp,Nat.div_eq_of_lt hx,Nat.zero_add]
theorem val_limbsOf: ∀n:Nat,val (limbsOf n)=n:=fun n=>by
 induction n using Nat.strongRecOn with
 |ind n ih=>
  by_cases h:n=0
  ·rw [h,limbsOf_zero];rfl
  ·rw [limbsOf_pos h,val,ih _ (Nat.div_lt_self (by omega) BB_two),Nat.mod_add_div]
theorem limb_limbsOf: ∀n:Nat,Limb (limbsOf n):=fun n=>by
 induction n using Nat.strongRecOn with
 |ind n ih=>
  by_cases h:n=0
  ·rw [h,limbsOf_zero];exact limb_nil
  ·rw [limbsOf_pos h]
   intro x hx
   rcases List.mem_cons.1 hx with rfl|hx
   ·exact Nat.mod_lt _ BB_pos
   ·exact ih _ (Nat.div_lt_self (by omega) BB_two) x hx
def Canon (xs:List Nat):Prop:= ∀h:0<xs.length,xs[xs.length-1]≠0
theorem limbsOf_val: ∀{xs:List Nat},Limb xs→Canon xs→limbsOf (val xs)=xs
 |[],_,_=>limbsOf_zero
 |x::xs,h,hc=>by
  have hc':Canon xs:=fun h0=>by
   have:=hc (by simp)
   simpa [List.getElem_cons,show xs.length≠0 by omega] using this
  have ih:=limbsOf_val h.tail hc'
  rw [val,limbsOf_val_cons x _ (h x (by simp)) ?_,ih]
  by_cases h0:val xs=0
  ·right
   rw [h0,limbsOf_zero] at ih
   subst ih
   simpa using hc (by simp)
  ·exact .inl h0
theorem canon_limbsOf: ∀n:Nat,Canon (limbsOf n):=fun n=>by
 induction n using Nat.strongRecOn with
 |ind n ih=>
  by_cases h:n=0
  ·rw [h,limbsOf_zero];intro h0;simp at h0
  ·rw [limbsOf_pos h]
   intro _
   have ih:=ih _ (Nat.div_lt_self (by omega) BB_two)
   by_cases h1:n/BB=0
   ·simp only [h1,limbsOf_zero,List.length_cons,List.length_nil]
    have:=Nat.mod_add_div n BB
    rw [h1] at this
    simp
    omega
   ·have hl:(limbsOf (n/BB)).length≠0:=by rw [limbsOf_pos h1];simp
    have:=ih (by omega)
    simpa [List.getElem_cons,hl] using this
theorem limbsOf_take: ∀{xs:List Nat},Limb xs→xs.take (limbsOf (val xs)).length=limbsOf (val xs)∧(limbsOf (val xs)).length≤xs.length
 |[],_=>by simp [val,limbsOf_zero]
 |x::xs,h=>by
  obtain⟨ih,ih2⟩:=limbsOf_take h.tail
  by_cases h0:val xs≠0∨x≠0
  ·rw [val,limbsOf_val_cons x _ (h x (by simp)) h0]
   simp [ih,ih2]
  ·have e:val xs=0∧x=0:=by omega
   rw [val,e.1,e.2]
   simp [limbsOf_zero]
theorem limbsOf_len {xs:List Nat} (h:Limb xs):(limbsOf (val xs)).length≤xs.length:=(limbsOf_take h).2
theorem limbsOf_len_le {n k:Nat} (h:n<BB^k):(limbsOf n).length≤k:=by
 induction k generalizing n with
 |zero=>
  have:n=0:=by simpa using h
  simp [this,limbsOf_zero]
 |succ k ih=>
  by_cases h0:n=0
  ·simp [h0,limbsOf_zero]
  ·rw [limbsOf_pos h0,List.length_cons]
   have:=ih (n:=n/BB) (by
    rw [Nat.div_lt_iff_lt_mul BB_pos]
    rwa [Nat.pow_succ] at h)
   omega
theorem lt_limbsOf (n:Nat):n<BB^(limbsOf n).length:=by
 have:=val_lt (limb_limbsOf n)
 rwa [val_limbsOf] at this
theorem limbsOf_len_lt {n k:Nat} (h:k<(limbsOf n).length):BB^k≤n:=by
 apply Nat.le_of_not_lt
 intro h1
 have:=limbsOf_len_le h1
 omega
theorem limbsOf_len_mono {m n:Nat} (h:m≤n):(limbsOf m).length≤(limbsOf n).length:=limbsOf_len_le (Nat.lt_of_le_of_lt h (lt_limbsOf n))
theorem limbsOf_len0 {n:Nat}:(limbsOf n).length=0↔n=0:=by
 constructor
 ·intro h
  have:=lt_limbsOf n
  rw [h] at this
  simpa using this
 ·rintro rfl
  rw [limbsOf_zero];rfl
theorem limbsOf_inj {m n:Nat} (h:limbsOf m=limbsOf n):m=n:=by rw [← val_limbsOf m,h,val_limbsOf]
theorem trim_stop {xs:List Nat} (h:Limb xs) (n:Nat) (hn:n≤xs.length) (hz: ∀j,n≤j→j<xs.length→xs[j]?.getD 0=0) (hc:0<n→xs[n-1]?.getD 0≠0):(limbsOf (val xs)).length=n∧xs.take n=limbsOf (val xs):=by
 have e:xs.drop n=List.replicate (xs.length-n) 0:=by
  apply List.ext_getElem
  ·simp
  ·intro i h1 h2
   have:=hz (n+i) (by omega) (by simp at h1;omega)
   rw [List.getElem?_eq_getElem (by simp at h1;omega)] at this
   simpa using this
 have hv:val xs=val (xs.take n):=by
  rw [val_take_drop xs n hn,e,val_zeros]
  omega
 have hcan:Canon (xs.take n):=by
  intro h0
  have hl:(xs.take n).length=n:=by rw [List.length_take];omega
  have:=hc (by omega)
  rw [List.getElem?_eq_getElem (by omega)] at this
  simp only [Option.getD_some] at this
  rw [List.getElem_take]
  simpa [hl] using this
 have:=limbsOf_val (h.take n) hcan
 rw [hv,this]
 exact⟨by rw [List.length_take];omega,rfl⟩
theorem cmp_len {a b:Nat} (h:(limbsOf a).length<(limbsOf b).length):a<b:=Nat.lt_of_lt_of_le (lt_limbsOf a) (limbsOf_len_lt h)
theorem cmp_at {xs ys:List Nat} (hx:Limb xs) (hl:xs.length=ys.length) {i:Nat} (hi:i<xs.length) (hd:xs.drop (i+1)=ys.drop (i+1)) (h:xs[i]?.getD 0<ys[i]?.getD 0):val xs<val ys:=by
 have h1:=val_take_drop xs (i+1) (by omega)
 have h2:=val_take_drop ys (i+1) (by omega)
 rw [val_take_succ xs i hi] at h1
 rw [val_take_succ ys i (by omega)] at h2
 have h3:=val_lt (hx.take i)
 rw [List.length_take,Nat.min_eq_left (by omega)] at h3
 have h4:BB^i*(xs[i]?.getD 0+1)≤BB^i*(ys[i]?.getD 0):=Nat.mul_le_mul_left _ h
 rw [Nat.mul_add,Nat.mul_one] at h4
 rw [h1,h2,hd]
 omega
theorem drop_step {xs ys:List Nat} (hl:xs.length=ys.length) {i:Nat} (hi:i<xs.length) (hd:xs.drop (i+1)=ys.drop (i+1)) (h:xs[i]?.getD 0=ys[i]?.getD 0):xs.drop i=ys.drop i:=by
 have hi':i<ys.length:=by omega
 rw [List.drop_eq_getElem_cons hi,List.drop_eq_getElem_cons hi',hd]
 rw [List.getElem?_eq_getElem hi,List.getElem?_eq_getElem (by omega)] at h
 simp only [Option.getD_some] at h
 rw [h]
def split:List Nat→List Nat
 |[]=>[]
 |x::xs=>x%BB::x/BB::split xs
theorem bb_sq:Go.Proofs.YtigpnopeacicpaaGreatDoor.BB=BB*BB:=by rw [Go.Proofs.YtigpnopeacicpaaGreatDoor.BB_val,BB_val]
theorem split_snoc: ∀(xs:List Nat) (x:Nat),split (xs++[x])=split xs++[x%BB,x/BB]
 |[],x=>rfl
 |y::ys,x=>by rw [List.cons_append,split,split,split_snoc ys x];rfl
theorem split_len: ∀xs:List Nat,(split xs).length=2*xs.length
 |[]=>rfl
 |x::xs=>by rw [split,List.length_cons,List.length_cons,split_len xs,List.length_cons];omega
theorem split_limb: ∀{xs:List Nat},Go.Proofs.YtigpnopeacicpaaGreatDoor.Limb xs→Limb (split xs)
 |[],_=>limb_nil
 |x::xs,h=>fun d hd=>by
  have hx:=h x (by simp)
  rw [bb_sq] at hx
  rcases List.mem_cons.1 hd with rfl|hd
  ·exact Nat.mod_lt _ BB_pos
  ·rcases List.mem_cons.1 hd with rfl|hd
   ·rwa [Nat.div_lt_iff_lt_mul BB_pos]
   ·exact split_limb h.tail d hd
theorem split_val: ∀xs:List Nat,val (split xs)=Go.Proofs.YtigpnopeacicpaaGreatDoor.val xs
 |[]=>rfl
 |x::xs=>by
  rw [split,val,val,Go.Proofs.YtigpnopeacicpaaGreatDoor.val,split_val xs,Nat.mul_add,←Nat.mul_assoc,←bb_sq,←Nat.add_assoc,Nat.mod_add_div]
def join:List Nat→List Nat
 |[]=>[]
 |[x]=>[x]
 |x::y::zs=>(x+y*BB)::join zs
theorem join_limb: ∀{xs:List Nat},Limb xs→Go.Proofs.YtigpnopeacicpaaGreatDoor.Limb (join xs)
 |[],_=>Go.Proofs.YtigpnopeacicpaaGreatDoor.limb_nil
 |[x],h=>Go.Proofs.YtigpnopeacicpaaGreatDoor.limb_one (by have:=h x (by simp);have:=BB_pos;rw [bb_sq];exact Nat.lt_of_lt_of_le (h x (by simp)) (Nat.le_mul_of_pos_left _ BB_pos))
 |x::y::zs,h=>fun d hd=>by
  have hx:=h x (by simp)
  have hy:=h y (by simp)
  rcases List.mem_cons.1 hd with rfl|hd
  ·rw [bb_sq]
   have h1:=Nat.mul_le_mul_right BB (show y+1≤BB from hy)
   rw [Nat.add_mul,Nat.one_mul] at h1
   omega
  ·exact join_limb (Limb.tail (Limb.tail h)) d hd
theorem join_val: ∀xs:List Nat,Go.Proofs.YtigpnopeacicpaaGreatDoor.val (join xs)=val xs
 |[]=>rfl
 |[x]=>by simp [join,val,Go.Proofs.YtigpnopeacicpaaGreatDoor.val]
 |x::y::zs=>by
  rw [join,Go.Proofs.YtigpnopeacicpaaGreatDoor.val,join_val zs,val,val,bb_sq,Nat.mul_add,Nat.mul_comm BB y,Nat.mul_assoc]
  omega
theorem join_ne: ∀{xs:List Nat},xs≠[]→join xs≠[]
 |[],h=>absurd rfl h
 |[x],_=>by simp [join]
 |x::y::zs,_=>by simp [join]
theorem canon_cons {a:Nat} {l:List Nat} (hl:l≠[]) (h:Go.Proofs.YtigpnopeacicpaaGreatDoor.Canon l):Go.Proofs.YtigpnopeacicpaaGreatDoor.Canon (a::l):=fun _=>by
 have hp:0<l.length:=List.length_pos_iff.2 hl
 have:=h hp
 simpa [List.getElem_cons,show l.length≠0 by omega] using this
theorem join_canon: ∀{xs:List Nat},Canon xs→Go.Proofs.YtigpnopeacicpaaGreatDoor.Canon (join xs)
 |[],_=>fun h=>by simp [join] at h
 |[x],h=>fun _=>by have:=h (by simp);simpa [join] using this
 |[x,y],h=>fun _=>by
  have:=h (by simp)
  simp at this
  have hp:0<y*BB:=Nat.mul_pos (by omega) BB_pos
  show x+y*BB≠0
  omega
 |x::y::z::zs,h=>by
  have hc:Canon (z::zs):=fun _=>by
   have:=h (by simp)
   simpa [List.getElem_cons] using this
  show Go.Proofs.YtigpnopeacicpaaGreatDoor.Canon ((x+y*BB)::join (z::zs))
  exact canon_cons (join_ne (by simp)) (join_canon hc)
theorem join_digits (n:Nat):join (limbsOf n)=Go.Proofs.YtigpnopeacicpaaGreatDoor.limbsOf n:=by
 have h1:=join_val (limbsOf n)
 rw [val_limbsOf] at h1
 have h2:=Go.Proofs.YtigpnopeacicpaaGreatDoor.limbsOf_val (join_limb (limb_limbsOf n)) (join_canon (canon_limbsOf n))
 rw [h1] at h2
 exact h2.symm
end R
end Go.Proofs.YtigpnopeacicpaaGreatDoor
namespace Go.Proofs.YtigpnopeacicpaaGreatDoor
open Go.Lib (hid)
open Go.RowKit
def RV (w:World) (v:Value) (n:Nat):Prop:= ∃A c,v= .slice A (R.limbsOf n).length c∧LRead w A (R.limbsOf n)∧(R.limbsOf n).length≤c
theorem RV.only {w w':World} {v:Value} {n:Nat} (h:RV w v n) (ho:Only [] w w'):RV w' v n:=by
 obtain⟨A,c,h1,h2,h3⟩:=h
 exact⟨A,c,h1,h2.only ho,h3⟩
theorem RV.nil (w:World):RV w (.slice none 0 0) 0:=⟨none,0,by rw [R.limbsOf_zero];rfl,by rw [R.limbsOf_zero];exact LRead.nil,by rw [R.limbsOf_zero];simp⟩
theorem Few.digits {n:Nat} (h:Few n):((R.limbsOf n).length:Int)≤2000000:=by
 have h1:n<R.BB^(2*MX):=by
  rw [Nat.pow_mul,Nat.pow_two,←R.bb_sq]
  exact h
 have h2:=R.limbsOf_len_le h1
 rw [MX_val] at h2
 omega
def RPost (n:Nat) (w:World) (e:Ending) (w':World):Prop:= ∃A k c,e= .returned (.slice A k c)∧RV w' (.slice A k c) n∧(∀ a,A=some a→w.heap.size≤a.block)∧Only [] w w'
theorem append_limbs {w:World} {ops:Array Oper} {rest:List Oper} {o:Oper} {a:Act} {Q:Exit→Act→World→Prop} (T:TypeId) (hT:Tryz.prog.underlying T=some (.slice 133)) (hgd:o.guard=none) (s x:Operand)
  (ho:o.op= .call {callee:= .builtin .append,args:= #[s,x],argTypes:= #[T,T]}) (u:Value) (n:Nat) (xs zs:List Nat) (hs:a.eval s=u) (hu:LimbsAt w u xs) (hn:n=xs.length) (g m:Nat) (hx:a.eval x= .slice (some ⟨g,0,none⟩) m m) (hm:m=zs.length) (hm0:0<zs.length) (hb:Blk w g 133 (limbV zs))
  (hl:(n:Int)+m≤16000000)
  (h: ∀g' c w',LimbsAt w' (.slice (some ⟨g',0,none⟩) (n+m) c) (xs++zs)→(u.ownBlock=some g'∨w.heap.size≤g')→Only u.ownBlock.toList w w'→wpList Tryz.prog ops Q rest (a.put o.dst (.slice (some ⟨g',0,none⟩) (n+m) c)) w'):wpList Tryz.prog ops Q (o::rest) a w:=by
 subst hn hm
 obtain⟨i0,hi,hz0,hz1,hz2⟩:=u64_parts
 refine wpList_append_own_at _ hgd s x T ho 0 133 i0 (.int .u64 0) 1 8 hT hi hz0 hz1 hz2 rfl (by decide) u xs.length (limbV xs) hs hu ⟨g,0,none⟩ zs.length zs.length (limbV zs) hx (by simp [limbV]) (fun j v hj=>by rw [addr_plus,hb.cell,Nat.zero_add];exact hj) (by simp [limbV,Value.oneCell']) (by simp only [maxLen];omega) (by omega) (Nat.zero_le _) ?_
 intro v' w' h1 h2 _ h4
 obtain⟨g',c,rfl⟩: ∃g' c,v'=Value.slice (some ⟨g',0,none⟩) (xs.length+zs.length) c:=by
  rcases h1.2 with⟨_,h0⟩|⟨gp,cap,cur,hv,_⟩
  ·exact absurd h0 (by omega)
  ·exact⟨_,_,hv⟩
 refine h g' c w' ?_ ?_ (Only.of_grown h2 (fun k hk=>by rw [hk];simp))
 ·have e:limbV (xs++zs)=limbV xs++limbV zs:=by simp [limbV]
  show World.ownsRow _ _ _ _ _ _ _
  rw [e,List.length_append]
  exact h1
 ·rcases h4 with h5|h5
  ·left;rw [← h5];rfl
  ·right
   simp [Value.ownBlock] at h5
   omega
theorem slice_three (A:Option Addr) (n c m:Nat) (h:m≤c) (w:World):(Instr.slice 36 (.slice A n c) none (some (.int .i64 (m:Int))) (some (.int .i64 (m:Int)))).run Tryz.prog w= .ok (.slice A m m) w:=by
 have hs:(sizeOf (Tryz.prog.elem 36)).run Tryz.prog w= .ok 1 w:=by kernel_rfl
 rw [run_slice_hm (P:=Tryz.prog) (w:=w) 36 A n c (by kernel_rfl) .i64 .i64 (m:Int) (m:Int) (by omega) (by omega) (by omega),hs]
 simp only [Result.andThen,sliced,Int.toNat_natCast]
 cases A<;>simp [Addr.add]
set_option maxHeartbeats 800000 in
set_option maxRecDepth 100000 in
theorem rtrim_any (A:Option Addr) (n c:Nat) (xs:List Nat) (w:World) (h:Hid (LRead w A xs)) (hx:Hid (R.Limb xs)) (hn:Hid (n=xs.length)) (hc:n≤c) (hl:(n:Int)≤8000000):
  Calls Tryz.prog 103 #[.slice A n c] w fun e w'=>e= .returned (.slice A (R.limbsOf (R.val xs)).length (R.limbsOf (R.val xs)).length)∧w=w':=by
 go_enter Tryz.func103,Tryz.ntmps103
 go_wp2_with fail
 go_loop [3] (fun t=> ∃k:Nat,k≤n∧t= .int .i64 (k:Int)∧ ∀j,k≤j→j<xs.length→xs[j]?.getD 0=0) (fun t=>(intOf t).toNat)
 case atStart=>exact⟨n,Nat.le_refl _,rfl,fun j h1 h2=>by have:=hn.out;omega⟩
 case round=>
  obtain⟨k,hk,rfl,hz⟩:=hrel
  have HZ:=hid hz
  clear hz
  cases k with
  |zero=>
   have HE:Hid ((R.limbsOf (R.val xs)).length=0):=(R.trim_stop hx.out 0 (Nat.zero_le _) HZ.out (fun h=>by omega)).1
   have h3:(Instr.slice 36 (.slice A n c) none (some (.int .i64 0)) (some (.int .i64 0))).run Tryz.prog w= .ok (.slice A 0 0) w:=slice_three A n c 0 (Nat.zero_le _) w
   go_wp2_with fail
   go_ret
   exact⟨by rw [HE.out];rfl,rfl⟩
  |succ m=>
   obtain⟨b,o,rfl,hcell⟩:=h.out m (by have:=hn.out;omega)
   have hm1:((m+1:Nat):Int)-1=(m:Int):=by omega
   have hm2:(0:Int)<((m+1:Nat):Int):=by omega
   have hm3:(m:Int)<(n:Int):=by omega
   by_cases h0:xs[m]?.getD 0=0
   ·have HZ':Hid (∀ j,m≤j→j<xs.length→xs[j]?.getD 0=0):=fun j h1 h2=>by
     by_cases e:j=m
     ·rw [e];exact h0
     ·exact HZ.out j (by omega) h2
    rw [h0] at hcell
    clear h0
    go_wp2_with fail
    go_round
    case rel=>exact⟨m,by omega,by go_num,HZ'.out⟩
    case measure=>simp [intOf]
   ·have HE:Hid ((R.limbsOf (R.val xs)).length=m+1):=(R.trim_stop hx.out (m+1) (by have:=hn.out;omega) HZ.out (fun _=>by simpa using h0)).1
    have g0:(((xs[m]?.getD 0:Nat):Int) == 0)=false:=beq_eq_false_iff_ne.2 (by omega)
    have h3:=slice_three (some ⟨b,o,none⟩) n c (m+1) (by omega) w
    generalize xs[m]?.getD 0=x at hcell g0
    clear h0
    go_wp2_with fail
    go_ret
    exact⟨by rw [HE.out];rfl,rfl⟩
set_option maxHeartbeats 800000 in
theorem samelimbs_any (A B:Option Addr) (c d n m:Nat) (xs ys:List Nat) (w:World) (hA:Hid (LRead w A xs)) (hB:Hid (LRead w B ys)) (hn:Hid (n=xs.length)) (hm:Hid (m=ys.length)) (hl:(n:Int)≤16000000):
  Calls Tryz.prog 99 #[.slice A n c,.slice B m d] w fun e w'=>e= .returned (.bool (decide (xs=ys)))∧Only [] w w':=by
 by_cases hnm:n=m
 ·have hne:((n:Int) != (m:Int))=false:=by simp;omega
  have HNM:Hid (xs.length=ys.length):=by have:=hn.out;have:=hm.out;show _=_;omega
  subst hnm
  go_enter Tryz.func99,Tryz.ntmps99
  go_wp2_with fail
  go_loopw [5] (fun i wr=> ∃k:Nat,k≤n∧i= .int .i64 (k:Int)∧Only [] w wr∧xs.take k=ys.take k) (fun i _=>n-(intOf i).toNat)
  case atStart=>exact⟨0,Nat.zero_le _,rfl,Only.refl _ _,rfl⟩
  case round=>
   obtain⟨k,hk,rfl,ho,ht⟩:=hrel
   have HO:=hid ho
   have HT:=hid ht
   clear ho ht
   by_cases hlt:k<n
   ·obtain⟨b,o,rfl,h1⟩:=hA.out k (by have:=hn.out;omega)
    obtain⟨b',o',rfl,h2⟩:=hB.out k (by have:=hm.out;omega)
    have p0:=HO.out.cell h1 (by simp)
    have q0:=HO.out.cell h2 (by simp)
    have hk':(k:Int)<(n:Int):=by omega
    have HEq:Hid (xs[k]?.getD 0=ys[k]?.getD 0→xs.take (k+1)=ys.take (k+1)):=fun h=>by
     have g1:k<xs.length:=by have:=hn.out;omega
     have g2:k<ys.length:=by have:=hm.out;omega
     rw [List.take_succ_eq_append_getElem g1,List.take_succ_eq_append_getElem g2,HT.out]
     rw [List.getElem?_eq_getElem g1,List.getElem?_eq_getElem g2] at h
     simp only [Option.getD_some] at h
     rw [h]
    have HNe:Hid (xs[k]?.getD 0≠ys[k]?.getD 0→decide (xs=ys)=false):=fun h=>by
     rw [decide_eq_false_iff_not]
     rintro rfl
     exact h rfl
    clear h1 h2 hlt
    generalize xs[k]?.getD 0=x at p0 HEq HNe
    generalize ys[k]?.getD 0=y at q0 HEq HNe
    by_cases hxy:x=y
    ·have HE:=hid (HEq.out hxy)
     subst hxy
     go_wp2_with fail
     go_quiet (fail)
     go_wp2_with fail
     go_roundw
     case rel=>exact⟨k+1,by omega,by go_num,HO.out.drewN _,HE.out⟩
     case measure=>simp [intOf];omega
    ·have HE:=hid (HNe.out hxy)
     have hb:((x:Int) == (y:Int))=false:=by rw [beq_eq_false_iff_ne];omega
     clear hxy
     go_wp2_with fail
     go_quiet (fail)
     go_wp2_with fail
     go_ret
     exact⟨by rw [HE.out];rfl,HO.out.drewN _⟩
   ·have hnl: ¬(k:Int)<(n:Int):=by omega
    have HE:Hid (decide (xs=ys)=true):=by
     have h1:=HT.out
     rw [List.take_of_length_le (by have:=hn.out;omega),List.take_of_length_le (by have:=hm.out;omega)] at h1
     show _=_
     rw [decide_eq_true h1]
    clear hlt
    go_wp2_with fail
    go_ret
    exact⟨by rw [HE.out];rfl,HO.out⟩
 ·have hne:((n:Int) != (m:Int))=true:=by simp;omega
  have HE:Hid (decide (xs=ys)=false):=by
   show _=_
   rw [decide_eq_false_iff_not]
   rintro rfl
   exact hnm (hn.out.trans hm.out.symm)
  clear hnm
  go_enter Tryz.func99,Tryz.ntmps99
  go_wp2_with fail
  go_ret
  exact⟨by rw [HE.out];rfl,Only.refl _ _⟩
theorem frame_app {w wr wx w4:World} {u:Value} (ho:Only [] w wr) (hfr: ∀g,u.ownBlock=some g→w.heap.size≤g) (hx:Only [] wr wx) (h4:Only u.ownBlock.toList wx w4):Only [] w w4:=
 (ho.nil_trans hx).trans h4 (fun k hk=> .inr (hfr k (by simpa using hk)))
theorem fresh_app {w wr wx:World} {u:Value} {g' n c:Nat} (ho:Only [] w wr) (hfr: ∀g,u.ownBlock=some g→w.heap.size≤g) (hx:Only [] wr wx) (h:u.ownBlock=some g'∨wx.heap.size≤g'): ∀g,(Value.slice (some ⟨g',0,none⟩) n c).ownBlock=some g→w.heap.size≤g:=by
 intro g hg
 simp [Value.ownBlock] at hg
 subst hg
 rcases h with h|h
 ·exact hfr _ h
 ·have h1:=ho.size
  have h2:=hx.size
  omega
theorem join_take: ∀(xs:List Nat) (j:Nat),2*j<xs.length→R.join (xs.take (2*j+2))=R.join (xs.take (2*j))++[xs[2*j]?.getD 0+(xs[2*j+1]?.getD 0)*R.BB]
 |[],j,h=>by simp at h
 |[x],j,h=>by
  have:j=0:=by simp at h;omega
  subst this
  simp [R.join]
 |x::y::zs,0,h=>by simp [R.join]
 |x::y::zs,j+1,h=>by
  have e1:2*(j+1)+2=(2*j+2)+1+1:=by omega
  have e2:2*(j+1)=2*j+1+1:=by omega
  have ih:=join_take zs j (by simp at h;omega)
  rw [e1,e2]
  simp only [List.take_succ_cons,List.getElem?_cons_succ,R.join]
  rw [ih]
  rfl
theorem join_take_len: ∀(xs:List Nat) (j:Nat),2*j≤xs.length+1→(R.join (xs.take (2*j))).length=j
 |xs,0,_=>by simp [R.join]
 |xs,j+1,h=>by
  have ih:=join_take_len xs j (by omega)
  rw [show 2*(j+1)=2*j+2 by omega,join_take xs j (by omega),List.length_append,ih]
  rfl
set_option maxHeartbeats 1600000 in
set_option maxRecDepth 100000 in
theorem limbs_any (A:Option Addr) (n c:Nat) (xs:List Nat) (w:World) (hA:Hid (LRead w A xs)) (hx:Hid (R.Limb xs)) (hn:Hid (n=xs.length)) (hl:(n:Int)≤8000000):
  Calls Tryz.prog 100 #[.slice A n c] w fun e w'=> ∃A' k c',e= .returned (.slice A' k c')∧LimbsAt w' (.slice A' k c') (R.join xs)∧(∀ g,(Value.slice A' k c').ownBlock=some g→w.heap.size≤g)∧Only [] w w':=by
 go_enter Tryz.func100,Tryz.ntmps100
 go_wp2_with fail
 go_loopw [3,4] (fun ov i wr=> ∃(j:Nat) (A':Option Addr) (c':Nat),2*j≤n+1∧ov= .slice A' j c'∧i= .int .i64 (2*(j:Int))∧LimbsAt wr (.slice A' j c') (R.join (xs.take (2*j)))∧(∀ g,(Value.slice A' j c').ownBlock=some g→w.heap.size≤g)∧Only [] w wr) (fun _ i _=>n+2-(intOf i).toNat)
 case atStart=>exact⟨0,none,0,Nat.zero_le _,rfl,rfl,limbsAt_nil _,by simp [Value.ownBlock],Only.refl _ _⟩
 case round=>
  obtain⟨j,A',c',hj,rfl,rfl,hat,hfr,ho⟩:=hrel
  have HAt:=hid hat
  have HFr:=hid hfr
  have HO:=hid ho
  clear hat hfr ho
  by_cases hlt:2*j<n
  ·obtain⟨b,o,rfl,h1⟩:=hA.out (2*j) (by have:=hn.out;omega)
   have p0:=HO.out.cell h1 (by simp)
   have HX:=hid (hx.out.get (2*j))
   have HY:=hid (hx.out.get (2*j+1))
   have HJ:=hid (join_take xs j (by have:=hn.out;omega))
   have hlti:2*(j:Int)<(n:Int):=by omega
   have HJl:Hid ((R.join (xs.take (2*j))).length=j):=join_take_len xs j (by have:=hn.out;omega)
   obtain⟨e0,he0⟩: ∃e0,2*j=e0:=⟨_,rfl⟩
   have hei:2*(j:Int)=(e0:Int):=by omega
   rw [he0] at p0 HX HY HJ
   by_cases hlt2:e0+1<n
   ·obtain⟨_,_,e3,h2⟩:=hA.out (e0+1) (by have:=hn.out;omega)
    injection e3 with e3
    injection e3 with e3 e4 _
    subst e3 e4
    have q0:=HO.out.cell h2 (by simp)
    have hlt3:(e0:Int)+1<(n:Int):=by omega
    have hei0:(e0:Int)<(n:Int):=by omega
    generalize xs[e0]?.getD 0=x at p0 HX HJ
    generalize xs[e0+1]?.getD 0=y at q0 HY HJ
    have hxb:=HX.out
    have hyb:=HY.out
    rw [R.BB_val] at hxb hyb
    obtain⟨y1,hy1⟩: ∃y1,y*4294967296=y1:=⟨_,rfl⟩
    have hw1:IntKind.u64.wrap ((y:Int)*4294967296)=(y1:Int):=by
     rw [show (y:Int)*4294967296=(y1:Int) by omega]
     exact u64_wrap (by rw [BB_val];omega)
    obtain⟨z,hz⟩: ∃z,x+y1=z:=⟨_,rfl⟩
    have hw2:IntKind.u64.wrap ((x:Int)+(y1:Int))=(z:Int):=u64_add hz (by rw [BB_val];omega)
    have HZ:Hid (R.join (xs.take (2*j+2))=R.join (xs.take (2*j))++[z]):=by
     rw [he0]
     show _=_
     rw [HJ.out,R.BB_val,hy1,hz]
    have HE0:=hid he0
    clear hlt hlt2 hxb hyb hy1 hz he0 HJ h1 h2
    go_wp2_with (at_builtin;refine append_limbs 22 Tryz.underlying22 rfl _ _ rfl (.slice A' j c') j (R.join (xs.take (2*j))) [z] rfl (HAt.out.only ((Only.refl [] wr).alloc _) (by simp)) HJl.out.symm wr.heap.size 1 rfl rfl (by simp) (Blk.new wr 133 (limbV [z])) (by omega) ?_;intro g' c2 w4 h1 h2 h3;have HA4:=hid h1;have HF4:=hid h2;have HO4:=hid h3;clear h1 h2 h3)
    go_wp2_with fail
    go_roundw
    case rel=>
     refine⟨j+1,some ⟨g',0,none⟩,c2,by omega,rfl,by have:=HE0.out;congr 1;omega,?_,?_,?_⟩
     ·have h:=HA4.out
      rw [← HZ.out] at h
      exact h
     ·exact fresh_app HO.out HFr.out ((Only.refl [] wr).alloc _) HF4.out
     ·exact frame_app HO.out HFr.out ((Only.refl [] wr).alloc _) HO4.out
    case measure=>simp [intOf];omega
   ·have hlt3: ¬(e0:Int)+1<(n:Int):=by omega
    have hei0:(e0:Int)<(n:Int):=by omega
    generalize xs[e0]?.getD 0=z at p0 HX HJ
    have HZ:Hid (R.join (xs.take (2*j+2))=R.join (xs.take (2*j))++[z]):=by
     rw [he0]
     show _=_
     rw [HJ.out,List.getElem?_eq_none (by have:=hn.out;omega)]
     simp
    have HE0:=hid he0
    clear hlt hlt2 he0 HJ h1
    go_wp2_with (at_builtin;refine append_limbs 22 Tryz.underlying22 rfl _ _ rfl (.slice A' j c') j (R.join (xs.take (2*j))) [z] rfl (HAt.out.only ((Only.refl [] wr).alloc _) (by simp)) HJl.out.symm wr.heap.size 1 rfl rfl (by simp) (Blk.new wr 133 (limbV [z])) (by omega) ?_;intro g' c2 w4 h1 h2 h3;have HA4:=hid h1;have HF4:=hid h2;have HO4:=hid h3;clear h1 h2 h3)
    go_wp2_with fail
    go_roundw
    case rel=>
     refine⟨j+1,some ⟨g',0,none⟩,c2,by omega,rfl,by have:=HE0.out;congr 1;omega,?_,?_,?_⟩
     ·have h:=HA4.out
      rw [← HZ.out] at h
      exact h
     ·exact fresh_app HO.out HFr.out ((Only.refl [] wr).alloc _) HF4.out
     ·exact frame_app HO.out HFr.out ((Only.refl [] wr).alloc _) HO4.out
    case measure=>simp [intOf];omega
  ·have hnl: ¬2*(j:Int)<(n:Int):=by omega
   have HE:Hid (xs.take (2*j)=xs):=List.take_of_length_le (by have:=hn.out;omega)
   clear hlt
   go_wp2_with fail
   go_ret
   exact⟨A',j,c',rfl,by have h:=HAt.out;rw [HE.out] at h;exact h,HFr.out,HO.out⟩
set_option maxHeartbeats 1600000 in
set_option maxRecDepth 100000 in
theorem from_any (A:Option Addr) (n c:Nat) (xs:List Nat) (w:World) (hA:Hid (LRead w A xs)) (hx:Hid (Limb xs)) (hn:Hid (n=xs.length)) (hl:(n:Int)≤4000000):
  Calls Tryz.prog 58 #[.slice A n c] w (RPost (val xs) w):=by
 obtain⟨i0,hi,hz0,hz1,hz2⟩:=u64_parts
 go_enter Tryz.func58,Tryz.ntmps58
 go_wp2_with fail
 go_loopw [3,4] (fun ov i wr=> ∃(j:Nat) (A':Option Addr) (c':Nat),j≤n∧ov= .slice A' (2*j) c'∧i= .int .i64 (j:Int)∧LimbsAt wr (.slice A' (2*j) c') (R.split (xs.take j))∧(∀ g,(Value.slice A' (2*j) c').ownBlock=some g→w.heap.size≤g)∧Only [] w wr) (fun _ i _=>n-(intOf i).toNat)
 case atStart=>exact⟨0,none,0,Nat.zero_le _,rfl,rfl,limbsAt_nil _,by simp [Value.ownBlock],Only.refl _ _⟩
 case round=>
  obtain⟨j,A',c',hj,rfl,rfl,hat,hfr,ho⟩:=hrel
  have HAt:=hid hat
  have HFr:=hid hfr
  have HO:=hid ho
  clear hat hfr ho
  by_cases hlt:j<n
  ·obtain⟨b,o,rfl,h1⟩:=hA.out j (by have:=hn.out;omega)
   have p0:=HO.out.cell h1 (by simp)
   have HX:=hid (hx.out.get j)
   have hlti:(j:Int)<(n:Int):=by omega
   have HJl:Hid (2*j=(R.split (xs.take j)).length):=by show _=_;rw [R.split_len,List.length_take,Nat.min_eq_left (by have:=hn.out;omega)]
   have HSp:Hid (R.split (xs.take (j+1))=R.split (xs.take j)++[xs[j]?.getD 0%R.BB,xs[j]?.getD 0/R.BB]):=by
    have g1:j<xs.length:=by have:=hn.out;omega
    show _=_
    rw [List.take_succ_eq_append_getElem g1,R.split_snoc,List.getElem?_eq_getElem g1]
    rfl
   rw [R.BB_val] at HSp
   generalize xs[j]?.getD 0=x at p0 HX HSp
   have hr1:(x:Int)%4294967296=((x%4294967296:Nat):Int):=by omega
   have hr2:(x:Int)/4294967296=((x/4294967296:Nat):Int):=by omega
   have hr3:(x:Int).tmod 4294967296=((x%4294967296:Nat):Int):=by rw [Int.tmod_eq_emod_of_nonneg (by omega)];exact hr1
   have hr4:(x:Int).tdiv 4294967296=((x/4294967296:Nat):Int):=by rw [Int.tdiv_eq_ediv_of_nonneg (by omega)];exact hr2
   have hx1:x/4294967296<BB:=Nat.lt_of_le_of_lt (Nat.div_le_self _ _) HX.out
   generalize x%4294967296=x0 at*
   generalize x/4294967296=x1 at*
   have hw1:IntKind.u64.wrap (x1:Int)=(x1:Int):=u64_wrap hx1
   clear h1 hlt hx1
   have hown:wr.ownsRow 0 133 1 (.slice A' (2*j) c') (2*j) (limbV (R.split (xs.take j))):=by
    have h:=HAt.out
    unfold LimbsAt at h
    rw [← HJl.out] at h
    exact h
   have HOwn:=hid hown
   clear hown
   go_wp2_with fail
   go_region_law (first|(refine step_append_lies _ rfl (.tmp 11) (.tmp 22) 36 rfl 0 133 i0 _ 1 8 Tryz.underlying36 hi hz0 hz1 hz2 rfl (by decide) (.slice A' (2*j) c') (2*j) (limbV (R.split (xs.take j))) rfl (by exact HOwn.out.alloc _) ⟨wr.heap.size,0,none⟩ 2 2 [.int .u64 (x0:Int),.int .u64 (x1:Int)] rfl rfl (by exact World.news_of_block (w:=(wr.alloc (Obj.cells #[.int .u64 (x0:Int),.int .u64 (x1:Int)] 133)).drew) (cs:= #[.int .u64 (x0:Int),.int .u64 (x1:Int)]) (heap_alloc_new wr _)) (by simp [Value.oneCell']) (by decide) (by simp only [maxLen];omega) (by omega) (Nat.zero_le _) (wr.heap.size+1) (by simp) ?_;intro g2 cap w3 hown3 hgrow3 hat3 hlt3))
   all_goals
    have hown4:LimbsAt w3 (.slice (some ⟨g2,0,none⟩) (2*j+2) cap) (R.split (xs.take (j+1))):=by
     rw [HSp.out]
     show World.ownsRow _ _ _ _ _ _ _
     have e:limbV (R.split (xs.take j)++[x0,x1])=limbV (R.split (xs.take j))++[.int .u64 (x0:Int),.int .u64 (x1:Int)]:=by simp [limbV]
     rw [e,List.length_append,←HJl.out]
     exact hown3
    have HOwn4:=hid hown4
    have HX4:Hid (Only [] wr (wr.alloc (Obj.cells #[.int .u64 (x0:Int),.int .u64 (x1:Int)] 133)).drew):=((Only.refl [] wr).alloc _).drew
    have HO4:Hid (Only (Value.slice A' (2*j) c').ownBlock.toList (wr.alloc (Obj.cells #[.int .u64 (x0:Int),.int .u64 (x1:Int)] 133)).drew w3):=Only.of_grown hgrow3 (fun k hk=>by rw [hk];simp)
    have HF4:Hid ((Value.slice A' (2*j) c').ownBlock=some g2∨(wr.alloc (Obj.cells #[.int .u64 (x0:Int),.int .u64 (x1:Int)] 133)).drew.heap.size≤g2):=by
     rcases hat3 with h|h
     ·exact .inl h
     ·exact .inr (by simp;omega)
    clear hown3 hgrow3 hat3 hlt3 hown4
    go_wp2_with fail
    go_roundw
    case rel=>exact⟨j+1,some ⟨g2,0,none⟩,cap,by omega,by rw [show 2*(j+1)=2*j+2 by omega],by go_num,by rw [show 2*(j+1)=2*j+2 by omega];exact HOwn4.out,fresh_app HO.out HFr.out HX4.out HF4.out,frame_app HO.out HFr.out HX4.out HO4.out⟩
    case measure=>simp [intOf];omega
  ·have hnl: ¬(j:Int)<(n:Int):=by omega
   have HE:Hid (xs.take j=xs):=List.take_of_length_le (by have:=hn.out;omega)
   have hj2:j=n:=by omega
   have hj8:2*(j:Int)≤8000000:=by omega
   have HAt2:=hid HAt.out
   have htr:=rtrim_any A' (2*j) c' (R.split (xs.take j)) wr (hid (LimbsAt.read HAt.out).2) (hid (R.split_limb (by rw [HE.out];exact hx.out))) (hid (LimbsAt.read HAt.out).1) (by
    rcases HAt.out.2 with⟨hv,h0⟩|⟨gp,cap,cur,hv,_,_,h5,_⟩
    ·injection hv with _ h6 h7
     omega
    ·injection hv with _ h6 h7
     rw [R.split_len] at h5
     have:=(LimbsAt.read HAt.out).1
     rw [R.split_len] at this
     omega) (by omega)
   rw [R.split_val,HE.out] at htr
   have HTr:=hid htr
   have HRd:Hid (LRead wr A' (R.limbsOf (val xs))):=by
    have h1:=(LimbsAt.read HAt.out).2
    rw [HE.out] at h1
    have h2:=(R.limbsOf_take (R.split_limb hx.out)).1
    rw [R.split_val] at h2
    show LRead _ _ _
    rw [← h2]
    exact h1.take _
   clear htr hlt hj2
   go_wp2_with fail
   refine HTr.out.mono ?_
   rintro e w' ⟨rfl,rfl⟩
   go_wp2_with fail
   go_ret
   exact⟨A',_,_,rfl,⟨A',_,rfl,HRd.out,Nat.le_refl _⟩,fun a ha=>HFr.out a.block (by rw [ha];rfl),HO.out⟩
theorem from_v {w:World} {a:Value} {n:Nat} (ha:Hid (NV w a n)):Calls Tryz.prog 58 #[a] w (RPost n w):=by
 obtain⟨A,c,xs,rfl,h2,h3,h4,rfl⟩:=ha.out
 exact from_any A _ c xs w (hid h2.read) (hid h2.limb) (hid rfl) (by omega)
theorem R.val_take_next (xs:List Nat) (k:Nat):R.val (xs.take (k+1))=R.val (xs.take k)+R.BB^k*(xs[k]?.getD 0):=by
 by_cases h:k<xs.length
 ·exact R.val_take_succ xs k h
 ·rw [List.take_of_length_le (by omega),List.take_of_length_le (by omega),List.getElem?_eq_none (by omega)]
  simp
structure SumCar (w wr:World) (A':Option Addr) (c':Nat) (xs ys os:List Nat) (k cy:Nat):Prop where
 at_:LimbsAt wr (.slice A' k c') os
 len:os.length=k
 limb:R.Limb os
 cyl:cy≤1
 val_:R.val os+R.BB^k*cy=R.val (xs.take k)+R.val (ys.take k)
 fresh: ∀g,(Value.slice A' k c').ownBlock=some g→w.heap.size≤g
 only:Only [] w wr
theorem SumCar.step {w wr:World} {A':Option Addr} {c':Nat} {xs ys os:List Nat} {k cy s:Nat} (h:SumCar w wr A' c' xs ys os k cy) (hx:R.Limb xs) (hy:R.Limb ys) (hs:s=cy+xs[k]?.getD 0+ys[k]?.getD 0) (w4:World) (g' c2:Nat)
  (h1:LimbsAt w4 (.slice (some ⟨g',0,none⟩) (k+1) c2) (os++[s%R.BB])) (h2:(Value.slice A' k c').ownBlock=some g'∨(wr.alloc (Obj.cells (limbV [s%R.BB]).toArray 133)).heap.size≤g') (h3:Only (Value.slice A' k c').ownBlock.toList (wr.alloc (Obj.cells (limbV [s%R.BB]).toArray 133)) w4):
  SumCar w w4 (some ⟨g',0,none⟩) c2 xs ys (os++[s%R.BB]) (k+1) (s/R.BB):=by
 have hl:=h.len
 have a:=hx.get k
 have b:=hy.get k
 refine⟨h1,by rw [List.length_append,hl];rfl,h.limb.append (R.limb_one (Nat.mod_lt _ R.BB_pos)),?_,?_,fresh_app h.only h.fresh ((Only.refl [] wr).alloc _) h2,frame_app h.only h.fresh ((Only.refl [] wr).alloc _) h3⟩
 ·apply Nat.le_of_lt_succ
  rw [Nat.div_lt_iff_lt_mul R.BB_pos]
  have:=h.cyl
  omega
 ·rw [R.val_snoc,hl,R.val_take_next,R.val_take_next ys,Nat.pow_succ,Nat.mul_assoc,Nat.add_assoc,←Nat.mul_add,Nat.mod_add_div,hs,Nat.mul_add,Nat.mul_add]
  have:=h.val_
  omega
set_option maxHeartbeats 3200000 in
set_option maxRecDepth 100000 in
theorem radd_any (A B:Option Addr) (n m c d:Nat) (xs ys:List Nat) (w:World) (hA:Hid (LRead w A xs)) (hB:Hid (LRead w B ys)) (hx:Hid (R.Limb xs)) (hy:Hid (R.Limb ys)) (hn:Hid (n=xs.length)) (hm:Hid (m=ys.length)) (hl1:(n:Int)≤7000000) (hl2:(m:Int)≤7000000):
  Calls Tryz.prog 108 #[.slice A n c,.slice B m d] w (RPost (R.val xs+R.val ys) w):=by
 have HStart:Hid (SumCar w w none 0 xs ys [] 0 0):=⟨limbsAt_nil _,rfl,R.limb_nil,by omega,by simp [R.val],by simp [Value.ownBlock],Only.refl _ _⟩
 go_enter Tryz.func108,Tryz.ntmps108
 go_wp2_with fail
 go_loopw [5,6,7] (fun ov cv i wr=> ∃(k cy:Nat) (os:List Nat) (A':Option Addr) (c':Nat),(k:Int)≤7000001∧(cy=0∨k≤n∨k≤m)∧ov= .slice A' k c'∧cv= .int .u64 (cy:Int)∧i= .int .i64 (k:Int)∧SumCar w wr A' c' xs ys os k cy) (fun _ _ i _=>7000001-(intOf i).toNat)
 case atStart=>exact⟨0,0,[],none,0,by omega,.inl rfl,rfl,rfl,rfl,HStart.out⟩
 case round=>
  obtain⟨k,cy,os,A',c',hk,hinv,rfl,rfl,rfl,hR⟩:=hrel
  have HInv:Hid (cy=0∨k≤n∨k≤m):=hinv
  clear hinv
  have HR:=hid hR
  have HCy:=hid hR.cyl
  have HX:=hid (hx.out.get k)
  have HY:=hid (hy.out.get k)
  clear hR HStart
  by_cases h1:k<n
  ·obtain⟨b,o,rfl,e1⟩:=hA.out k (by have:=hn.out;omega)
   have p0:=HR.out.only.cell e1 (by simp)
   have h1i:(k:Int)<(n:Int):=by omega
   by_cases h2:k<m
   ·obtain⟨b',o',rfl,e2⟩:=hB.out k (by have:=hm.out;omega)
    have q0:=HR.out.only.cell e2 (by simp)
    have h2i:(k:Int)<(m:Int):=by omega
    obtain⟨s1,hs1⟩: ∃s1,cy+xs[k]?.getD 0=s1:=⟨_,rfl⟩
    obtain⟨s,hs⟩: ∃s,s1+ys[k]?.getD 0=s:=⟨_,rfl⟩
    have HS:Hid (s<2+2*R.BB∧s=cy+xs[k]?.getD 0+ys[k]?.getD 0):=⟨by have:=HCy.out;have:=HX.out;have:=HY.out;omega,by rw [hs1,hs]⟩
    have hw1:IntKind.u64.wrap ((cy:Int)+((xs[k]?.getD 0:Nat):Int))=(s1:Int):=u64_add hs1 (by have:=HS.out.1;rw [R.BB_val] at this;rw [BB_val];omega)
    have hw2:IntKind.u64.wrap ((s1:Int)+((ys[k]?.getD 0:Nat):Int))=(s:Int):=u64_add hs (by have:=HS.out.1;rw [R.BB_val] at this;rw [BB_val];omega)
    generalize hgx:xs[k]?.getD 0=x at p0 hw1
    generalize hgy:ys[k]?.getD 0=y at q0 hw2
    clear e1 e2 h1 h2 hs1 hs hgx hgy
    have hsl:s<2^34:=by have:=HS.out.1;rw [R.BB_val] at this;omega
    have hr1:(s:Int)%4294967296=((s%R.BB:Nat):Int):=by rw [R.BB_val];omega
    have hr2:(s:Int)/4294967296=((s/R.BB:Nat):Int):=by rw [R.BB_val];omega
    have hr3:(s:Int).tmod 4294967296=((s%R.BB:Nat):Int):=by rw [Int.tmod_eq_emod_of_nonneg (by omega)];exact hr1
    have hr4:(s:Int).tdiv 4294967296=((s/R.BB:Nat):Int):=by rw [Int.tdiv_eq_ediv_of_nonneg (by omega)];exact hr2
    have HStep:=hid (@SumCar.step w wr A' c' xs ys os k cy s HR.out hx.out hy.out HS.out.2)
    have hw5:IntKind.u64.wrap ((s/R.BB:Nat):Int)=((s/R.BB:Nat):Int):=u64_wrap (by rw [R.BB_val,BB_val];omega)
    have hw6:IntKind.u64.wrap ((s%R.BB:Nat):Int)=((s%R.BB:Nat):Int):=u64_wrap (by rw [R.BB_val,BB_val];omega)
    have HCz:Hid (s/R.BB=0∨(k:Int)<n∨(k:Int)<m):=by first|exact .inr (.inl h1i)|exact .inr (.inr h2i)|exact .inl (Nat.div_eq_of_lt (by rw [R.BB_val];have:=HCy.out;omega))
    have HLn:=hid HR.out.len
    have HAt:=hid HR.out.at_
    generalize s%R.BB=d at*
    generalize s/R.BB=cz at*
    clear hsl
    go_wp2_with (at_builtin;refine append_limbs 36 Tryz.underlying36 rfl _ _ rfl (.slice A' k c') k os [d] rfl (HAt.out.only ((Only.refl [] wr).alloc _) (by simp)) HLn.out.symm wr.heap.size 1 rfl rfl (by simp) (Blk.new wr 133 (limbV [d])) (by omega) ?_;intro g' c2 w4 h1 h2 h3;have HS4:=hid (HStep.out _ _ _ h1 h2 h3);clear h1 h2 h3)
    go_wp2_with fail
    go_roundw
    case rel=>exact⟨k+1,_,_,_,_,by have:=HInv.out;omega,by have:=HCz.out;omega,rfl,rfl,by go_num,HS4.out⟩
    case measure=>have:=HInv.out;simp [intOf];omega
   ·have h2i: ¬(k:Int)<(m:Int):=by omega
    have hy0:ys[k]?.getD 0=0:=by rw [List.getElem?_eq_none (by have:=hm.out;omega)];rfl
    obtain⟨s,hs⟩: ∃s,cy+xs[k]?.getD 0=s:=⟨_,rfl⟩
    have HS:Hid (s<2+2*R.BB∧s=cy+xs[k]?.getD 0+ys[k]?.getD 0):=⟨by have:=HCy.out;have:=HX.out;omega,by rw [hs,hy0,Nat.add_zero]⟩
    have hw1:IntKind.u64.wrap ((cy:Int)+((xs[k]?.getD 0:Nat):Int))=(s:Int):=u64_add hs (by have:=HS.out.1;rw [R.BB_val] at this;rw [BB_val];omega)
    generalize hgx:xs[k]?.getD 0=x at p0 hw1
    clear e1 h1 h2 hs hy0 hgx
    have hsl:s<2^34:=by have:=HS.out.1;rw [R.BB_val] at this;omega
    have hr1:(s:Int)%4294967296=((s%R.BB:Nat):Int):=by rw [R.BB_val];omega
    have hr2:(s:Int)/4294967296=((s/R.BB:Nat):Int):=by rw [R.BB_val];omega
    have hr3:(s:Int).tmod 4294967296=((s%R.BB:Nat):Int):=by rw [Int.tmod_eq_emod_of_nonneg (by omega)];exact hr1
    have hr4:(s:Int).tdiv 4294967296=((s/R.BB:Nat):Int):=by rw [Int.tdiv_eq_ediv_of_nonneg (by omega)];exact hr2
    have HStep:=hid (@SumCar.step w wr A' c' xs ys os k cy s HR.out hx.out hy.out HS.out.2)
    have hw5:IntKind.u64.wrap ((s/R.BB:Nat):Int)=((s/R.BB:Nat):Int):=u64_wrap (by rw [R.BB_val,BB_val];omega)
    have hw6:IntKind.u64.wrap ((s%R.BB:Nat):Int)=((s%R.BB:Nat):Int):=u64_wrap (by rw [R.BB_val,BB_val];omega)
    have HCz:Hid (s/R.BB=0∨(k:Int)<n∨(k:Int)<m):=by first|exact .inr (.inl h1i)|exact .inr (.inr h2i)|exact .inl (Nat.div_eq_of_lt (by rw [R.BB_val];have:=HCy.out;omega))
    have HLn:=hid HR.out.len
    have HAt:=hid HR.out.at_
    generalize s%R.BB=d at*
    generalize s/R.BB=cz at*
    clear hsl
    go_wp2_with (at_builtin;refine append_limbs 36 Tryz.underlying36 rfl _ _ rfl (.slice A' k c') k os [d] rfl (HAt.out.only ((Only.refl [] wr).alloc _) (by simp)) HLn.out.symm wr.heap.size 1 rfl rfl (by simp) (Blk.new wr 133 (limbV [d])) (by omega) ?_;intro g' c2 w4 h1 h2 h3;have HS4:=hid (HStep.out _ _ _ h1 h2 h3);clear h1 h2 h3)
    go_wp2_with fail
    go_roundw
    case rel=>exact⟨k+1,_,_,_,_,by have:=HInv.out;omega,by have:=HCz.out;omega,rfl,rfl,by go_num,HS4.out⟩
    case measure=>have:=HInv.out;simp [intOf];omega
  ·have h1i: ¬(k:Int)<(n:Int):=by omega
   have hx0:xs[k]?.getD 0=0:=by rw [List.getElem?_eq_none (by have:=hn.out;omega)];rfl
   by_cases h2:k<m
   ·obtain⟨b',o',rfl,e2⟩:=hB.out k (by have:=hm.out;omega)
    have q0:=HR.out.only.cell e2 (by simp)
    have h2i:(k:Int)<(m:Int):=by omega
    obtain⟨s,hs⟩: ∃s,cy+ys[k]?.getD 0=s:=⟨_,rfl⟩
    have HS:Hid (s<2+2*R.BB∧s=cy+xs[k]?.getD 0+ys[k]?.getD 0):=⟨by have:=HCy.out;have:=HY.out;omega,by rw [hx0,Nat.add_zero,hs]⟩
    have hw2:IntKind.u64.wrap ((cy:Int)+((ys[k]?.getD 0:Nat):Int))=(s:Int):=u64_add hs (by have:=HS.out.1;rw [R.BB_val] at this;rw [BB_val];omega)
    generalize hgy:ys[k]?.getD 0=y at q0 hw2
    clear e2 h1 h2 hs hx0 hgy
    have hsl:s<2^34:=by have:=HS.out.1;rw [R.BB_val] at this;omega
    have hr1:(s:Int)%4294967296=((s%R.BB:Nat):Int):=by rw [R.BB_val];omega
    have hr2:(s:Int)/4294967296=((s/R.BB:Nat):Int):=by rw [R.BB_val];omega
    have hr3:(s:Int).tmod 4294967296=((s%R.BB:Nat):Int):=by rw [Int.tmod_eq_emod_of_nonneg (by omega)];exact hr1
    have hr4:(s:Int).tdiv 4294967296=((s/R.BB:Nat):Int):=by rw [Int.tdiv_eq_ediv_of_nonneg (by omega)];exact hr2
    have HStep:=hid (@SumCar.step w wr A' c' xs ys os k cy s HR.out hx.out hy.out HS.out.2)
    have hw5:IntKind.u64.wrap ((s/R.BB:Nat):Int)=((s/R.BB:Nat):Int):=u64_wrap (by rw [R.BB_val,BB_val];omega)
    have hw6:IntKind.u64.wrap ((s%R.BB:Nat):Int)=((s%R.BB:Nat):Int):=u64_wrap (by rw [R.BB_val,BB_val];omega)
    have HCz:Hid (s/R.BB=0∨(k:Int)<n∨(k:Int)<m):=by first|exact .inr (.inl h1i)|exact .inr (.inr h2i)|exact .inl (Nat.div_eq_of_lt (by rw [R.BB_val];have:=HCy.out;omega))
    have HLn:=hid HR.out.len
    have HAt:=hid HR.out.at_
    generalize s%R.BB=d at*
    generalize s/R.BB=cz at*
    clear hsl
    go_wp2_with (at_builtin;refine append_limbs 36 Tryz.underlying36 rfl _ _ rfl (.slice A' k c') k os [d] rfl (HAt.out.only ((Only.refl [] wr).alloc _) (by simp)) HLn.out.symm wr.heap.size 1 rfl rfl (by simp) (Blk.new wr 133 (limbV [d])) (by omega) ?_;intro g' c2 w4 h1 h2 h3;have HS4:=hid (HStep.out _ _ _ h1 h2 h3);clear h1 h2 h3)
    go_wp2_with fail
    go_roundw
    case rel=>exact⟨k+1,_,_,_,_,by have:=HInv.out;omega,by have:=HCz.out;omega,rfl,rfl,by go_num,HS4.out⟩
    case measure=>have:=HInv.out;simp [intOf];omega
   ·have h2i: ¬(k:Int)<(m:Int):=by omega
    have hy0:ys[k]?.getD 0=0:=by rw [List.getElem?_eq_none (by have:=hm.out;omega)];rfl
    have HTx:Hid (xs.take k=xs):=List.take_of_length_le (by have:=hn.out;omega)
    have HTy:Hid (ys.take k=ys):=List.take_of_length_le (by have:=hm.out;omega)
    by_cases h3:cy=0
    ·subst h3
     have HV:Hid (R.val os=R.val xs+R.val ys):=by
      have h:=HR.out.val_
      rw [HTx.out,HTy.out,Nat.mul_zero,Nat.add_zero] at h
      exact h
     have htr:=rtrim_any A' k c' os wr (hid (LimbsAt.read HR.out.at_).2) (hid HR.out.limb) (hid HR.out.len.symm) (by
      rcases HR.out.at_.2 with⟨hv,h0⟩|⟨gp,cap,cur,hv,_,_,h5,_⟩
      ·injection hv with _ h6 h7
       omega
      ·injection hv with _ h6 h7
       have:=HR.out.len
       omega) (by omega)
     rw [HV.out] at htr
     have HTr:=hid htr
     have HRd:Hid (LRead wr A' (R.limbsOf (R.val xs+R.val ys))):=by
      have h2:=(R.limbsOf_take HR.out.limb).1
      rw [HV.out] at h2
      show LRead _ _ _
      rw [← h2]
      exact (LimbsAt.read HR.out.at_).2.take _
     clear htr h1 h2 hx0 hy0
     go_wp2_with fail
     refine HTr.out.mono ?_
     rintro e w' ⟨rfl,rfl⟩
     go_wp2_with fail
     go_ret
     exact⟨A',_,_,rfl,⟨A',_,rfl,HRd.out,Nat.le_refl _⟩,fun a ha=>HR.out.fresh a.block (by rw [ha];rfl),HR.out.only⟩
    ·have h3i:(0:Int)<(cy:Int):=by omega
     have HS:Hid (cy<2+2*R.BB∧cy=cy+xs[k]?.getD 0+ys[k]?.getD 0):=⟨by have:=HCy.out;omega,by rw [hx0,hy0];rfl⟩
     clear h1 h2 h3 hx0 hy0
     have hsl:cy<2^34:=by have:=HS.out.1;rw [R.BB_val] at this;omega
     have hr1:(cy:Int)%4294967296=((cy%R.BB:Nat):Int):=by rw [R.BB_val];omega
     have hr2:(cy:Int)/4294967296=((cy/R.BB:Nat):Int):=by rw [R.BB_val];omega
     have hr3:(cy:Int).tmod 4294967296=((cy%R.BB:Nat):Int):=by rw [Int.tmod_eq_emod_of_nonneg (by omega)];exact hr1
     have hr4:(cy:Int).tdiv 4294967296=((cy/R.BB:Nat):Int):=by rw [Int.tdiv_eq_ediv_of_nonneg (by omega)];exact hr2
     have HStep:=hid (@SumCar.step w wr A' c' xs ys os k cy cy HR.out hx.out hy.out HS.out.2)
     have hw5:IntKind.u64.wrap ((cy/R.BB:Nat):Int)=((cy/R.BB:Nat):Int):=u64_wrap (by rw [R.BB_val,BB_val];omega)
     have hw6:IntKind.u64.wrap ((cy%R.BB:Nat):Int)=((cy%R.BB:Nat):Int):=u64_wrap (by rw [R.BB_val,BB_val];omega)
     have HCz:Hid (cy/R.BB=0∨(k:Int)<n∨(k:Int)<m):=by first|exact .inr (.inl h1i)|exact .inr (.inr h2i)|exact .inl (Nat.div_eq_of_lt (by rw [R.BB_val];have:=HCy.out;omega))
     have HLn:=hid HR.out.len
     have HAt:=hid HR.out.at_
     generalize cy%R.BB=d at*
     generalize cy/R.BB=cz at*
     clear hsl
     go_wp2_with (at_builtin;refine append_limbs 36 Tryz.underlying36 rfl _ _ rfl (.slice A' k c') k os [d] rfl (HAt.out.only ((Only.refl [] wr).alloc _) (by simp)) HLn.out.symm wr.heap.size 1 rfl rfl (by simp) (Blk.new wr 133 (limbV [d])) (by omega) ?_;intro g' c2 w4 h1 h2 h3;have HS4:=hid (HStep.out _ _ _ h1 h2 h3);clear h1 h2 h3)
     go_wp2_with fail
     go_roundw
     case rel=>exact⟨k+1,_,_,_,_,by have:=HInv.out;omega,by have:=HCz.out;omega,rfl,rfl,by go_num,HS4.out⟩
     case measure=>have:=HInv.out;simp [intOf];omega
theorem radd_v {w:World} {a b:Value} {m n:Nat} (ha:Hid (RV w a m)) (hb:Hid (RV w b n)) (hfa:Hid (Few m)) (hfb:Hid (Few n)):Calls Tryz.prog 108 #[a,b] w (RPost (m+n) w):=by
 obtain⟨A,c,rfl,h1,h2⟩:=ha.out
 obtain⟨B,d,rfl,k1,k2⟩:=hb.out
 have:=hfa.out.digits
 have:=hfb.out.digits
 have h:=radd_any A B _ _ c d (R.limbsOf m) (R.limbsOf n) w (hid h1) (hid k1) (hid (R.limb_limbsOf m)) (hid (R.limb_limbsOf n)) (hid rfl) (hid rfl) (by omega) (by omega)
 rw [R.val_limbsOf,R.val_limbsOf] at h
 exact h
set_option maxRecDepth 100000 in
theorem make_limbs (T:TypeId) (hT:Tryz.prog.underlying T=some (.slice 133)) (w:World) (n:Nat) (hn:(n:Int)≤16000000): ∃w',(Instr.makeSlice T (.int .i64 (n:Int)) (.int .i64 (n:Int))).run Tryz.prog w= .ok (.slice (some ⟨w.heap.size,0,none⟩) n n) w'∧
  Blk w' w.heap.size 133 (limbV (List.replicate n 0))∧Only [] w w'∧w.heap.size<w'.heap.size:=by
 obtain⟨i0,hi,hz0,hz1,hz2⟩:=u64_parts
 obtain⟨w',hr,ho,hg⟩:=run_make_full (P:=Tryz.prog) w 0 T 133 i0 _ 1 hT hi hz0 hz1 .i64 .i64 n (by rw [hz2];omega) (by simp only [maxLen];omega) (Nat.zero_le _)
 refine⟨w',hr,?_,Only.of_grown hg (by simp),(World.ownsRow.lt ho _ rfl).2⟩
 rcases ho.2 with⟨h0,_⟩|⟨g,cap,cur,e,_,hb,_,_,hs,ht⟩
 ·cases h0
 ·injection e with e1 e2 e3
  injection e1 with e1
  injection e1 with e1 _ _
  subst e1 e3
  unfold Blk
  rw [hb,limbV_zeros]
  congr 2
  apply Array.ext'
  rw [← List.take_of_length_le (l:=cur.toList) (i:=n*1) (by simp [hs]),ht]
  have e:(Value.int IntKind.u64 0).cells= #[.int .u64 0]:=rfl
  simp only [madeCells,e]
  simp [Nat.mod_one]
  apply List.ext_getElem<;>simp
theorem RV.of_row {w:World} {A:Option Addr} {os:List Nat} (h:LRead w A os) (hl:R.Limb os):LRead w A (R.limbsOf (R.val os)):=by
 have h2:=(R.limbsOf_take hl).1
 rw [← h2]
 exact h.take _
set_option maxRecDepth 100000 in
theorem rsmall_any (v:Nat) (w:World) (hv:Hid (v<BB)):Calls Tryz.prog 112 #[.int .u64 (v:Int)] w (RPost v w):=by
 have hr1:(v:Int)%4294967296=((v%R.BB:Nat):Int):=by rw [R.BB_val];omega
 have hr2:(v:Int)/4294967296=((v/R.BB:Nat):Int):=by rw [R.BB_val];omega
 have hr3:(v:Int).tmod 4294967296=((v%R.BB:Nat):Int):=by rw [Int.tmod_eq_emod_of_nonneg (by omega)];exact hr1
 have hr4:(v:Int).tdiv 4294967296=((v/R.BB:Nat):Int):=by rw [Int.tdiv_eq_ediv_of_nonneg (by omega)];exact hr2
 have hw5:IntKind.u64.wrap ((v/R.BB:Nat):Int)=((v/R.BB:Nat):Int):=u64_wrap (Nat.lt_of_le_of_lt (Nat.div_le_self _ _) hv.out)
 have hw6:IntKind.u64.wrap ((v%R.BB:Nat):Int)=((v%R.BB:Nat):Int):=u64_wrap (Nat.lt_of_le_of_lt (Nat.mod_le _ _) hv.out)
 have HV:Hid (R.val [v%R.BB,v/R.BB]=v):=by
  show _=_
  simp only [R.val,Nat.mul_zero,Nat.add_zero]
  exact Nat.mod_add_div _ _
 have HL:Hid (R.Limb [v%R.BB,v/R.BB]):=fun d hd=>by
  have h:=hv.out
  rw [R.bb_sq] at h
  rcases List.mem_cons.1 hd with rfl|hd
  ·exact Nat.mod_lt _ R.BB_pos
  ·rw [List.mem_singleton.1 hd]
   rwa [Nat.div_lt_iff_lt_mul R.BB_pos]
 generalize v%R.BB=d0 at*
 generalize v/R.BB=d1 at*
 have hb:Blk (w.alloc (Obj.cells #[.int .u64 (d0:Int),.int .u64 (d1:Int)] 133)) w.heap.size 133 (limbV [d0,d1]):=Blk.new w 133 (limbV [d0,d1])
 have HRd:Hid (LRead (w.alloc (Obj.cells #[.int .u64 (d0:Int),.int .u64 (d1:Int)] 133)) (some ⟨w.heap.size,0,none⟩) [d0,d1]):= .of_blk hb
 have htr:=rtrim_any (some ⟨w.heap.size,0,none⟩) 2 2 [d0,d1] _ HRd HL (hid rfl) (Nat.le_refl _) (by omega)
 rw [HV.out] at htr
 have HTr:=hid htr
 clear htr hb
 go_enter Tryz.func112,Tryz.ntmps112
 go_wp2_with fail
 refine HTr.out.mono ?_
 rintro e w' ⟨rfl,rfl⟩
 go_wp2_with fail
 go_ret
 have h2:=RV.of_row HRd.out HL.out
 rw [HV.out] at h2
 exact⟨_,_,_,rfl,⟨_,_,rfl,h2,Nat.le_refl _⟩,fun a ha=>by injection ha with ha;subst ha;exact Nat.le_refl _,(Only.refl [] w).alloc _⟩
theorem R.step_law {zs:List Nat} {i lo hi p cy:Nat} (h:i<zs.length) (law:lo+R.BB*hi=zs[i]?.getD 0+p+cy):R.val (zs.set i lo)+R.BB^(i+1)*hi=R.val zs+R.BB^i*cy+R.BB^i*p:=by
 have h1:=R.val_set zs i lo h
 have h2:=congrArg (fun t=>R.BB^i*t) law
 simp only [Nat.mul_add] at h2
 rw [Nat.pow_succ,Nat.mul_assoc]
 omega
structure QCar (w wr:World) (g:Nat) (L:Nat) (zs:List Nat) (i cy T m:Nat):Prop where
 blk:Blk wr g 133 (limbV zs)
 limb:R.Limb zs
 len:zs.length=L
 cylt:cy<R.BB
 val_:R.val zs+R.BB^i*cy=T
 high: ∀k,m≤k→zs[k]?.getD 0=0
 only:Only [g] w wr
theorem QCar.step {w wr wd:World} {g L:Nat} {zs:List Nat} {i cy T m p s:Nat} (h:QCar w wr g L zs i cy T m) (hi:i<L) (him:i<m) (hs:s=zs[i]?.getD 0+p+cy) (hb:s<R.BB*R.BB) (hd:Only [] wr wd) {T':Nat} (hT:T'=T+R.BB^i*p):
  QCar w (wd.setCell ⟨g,i,none⟩ (.int .u64 ((s%R.BB:Nat):Int))) g L (zs.set i (s%R.BB)) (i+1) (s/R.BB) T' m:=by
 refine⟨?_,h.limb.set _ _ (Nat.mod_lt _ R.BB_pos),by rw [List.length_set,h.len],by rwa [Nat.div_lt_iff_lt_mul R.BB_pos],?_,fun k hk=>?_,(h.only.trans hd (by simp)).trans ((Only.refl [g] wd).setCell (.inl (by simp)) _) (by simp)⟩
 ·rw [← limbV_set]
  exact (h.blk.only hd (by simp)).set_ i _
 ·rw [R.step_law (p:=p) (cy:=cy) (by rw [h.len];exact hi) (by rw [Nat.mod_add_div];exact hs),hT,←h.val_]
 ·rw [set_get_ne (by omega)]
  exact h.high k hk
theorem QCar.close {w wr:World} {g L:Nat} {zs:List Nat} {i cy T:Nat} (h:QCar w wr g L zs i cy T i) (hi:i<L):
  QCar w (wr.setCell ⟨g,i,none⟩ (.int .u64 (cy:Int))) g L (zs.set i cy) 0 0 T (i+1):=by
 refine⟨?_,h.limb.set _ _ h.cylt,by rw [List.length_set,h.len],R.BB_pos,?_,fun k hk=>?_,h.only.trans ((Only.refl [g] wr).setCell (.inl (by simp)) _) (by simp)⟩
 ·rw [← limbV_set]
  exact h.blk.set_ i _
 ·have h1:=R.val_set zs i cy (by rw [h.len];exact hi)
  rw [h.high i (Nat.le_refl _)] at h1
  have:=h.val_
  omega
 ·rw [set_get_ne (by omega)]
  exact h.high k (by omega)
theorem rprod_lt {x y z cy:Nat} (hx:x<R.BB) (hy:y<R.BB) (hz:z<R.BB) (hc:cy<R.BB):z+x*y+cy<R.BB*R.BB:=by
 obtain⟨k,hk⟩: ∃k,R.BB=k+1:=⟨R.BB-1,by have:=R.BB_pos;omega⟩
 have h8:x*y≤k*k:=Nat.mul_le_mul (by omega) (by omega)
 have h9:R.BB*R.BB=k*k+2*k+1:=by rw [hk,Nat.add_mul,Nat.mul_add];omega
 omega
theorem R.val_take_all (xs:List Nat):xs.take xs.length=xs:=List.take_of_length_le (Nat.le_refl _)
set_option maxHeartbeats 6400000 in
set_option maxRecDepth 100000 in
theorem rmul_any (A B:Option Addr) (n m c d:Nat) (xs ys:List Nat) (w:World) (hA:Hid (LRead w A xs)) (hB:Hid (LRead w B ys)) (hx:Hid (R.Limb xs)) (hy:Hid (R.Limb ys)) (hn:Hid (xs.length=n)) (hm:Hid (ys.length=m)) (hl:(n:Int)+m≤7000000)
  (hAl:Hid (∀ a,A=some a→0<n→a.block<w.heap.size)) (hBl:Hid (∀ a,B=some a→0<m→a.block<w.heap.size)):
  Calls Tryz.prog 98 #[.slice A n c,.slice B m d] w (RPost (R.val xs*R.val ys) w):=by
 obtain⟨w1,hmk,hb1,ho1,hs1⟩:=make_limbs 36 Tryz.underlying36 w (n+m) (by omega)
 rw [show ((n+m:Nat):Int)=(n:Int)+(m:Int) by omega] at hmk
 have HB1:=hid hb1
 have HO1:=hid ho1
 clear hb1 ho1 hs1
 generalize hg:w.heap.size=g at HB1 hmk hAl hBl
 have HG:Hid (w.heap.size≤g):=by show _≤_;omega
 clear hg
 have HStart:Hid (QCar w1 w1 g (n+m) (List.replicate (n+m) 0) 0 0 (R.val (xs.take 0)*R.val ys) m):=
  ⟨HB1.out,.zeros _,by simp,R.BB_pos,by rw [R.val_zeros];simp [R.val],fun k _=>val_zero_of (val_zeros _) k,Only.refl _ _⟩
 go_enter Tryz.func98,Tryz.ntmps98
 go_wp2_with fail
 clear hmk HB1
 go_loopw [6] (fun iv wr=> ∃(i:Nat) (zs:List Nat),i≤n∧iv= .int .i64 (i:Int)∧QCar w1 wr g (n+m) zs 0 0 (R.val (xs.take i)*R.val ys) (i+m)) (fun iv _=>n-(intOf iv).toNat)
 case atStart=>exact⟨0,_,Nat.zero_le _,rfl,by rw [Nat.zero_add];exact HStart.out⟩
 case round=>
  obtain⟨i,zs,hi,rfl,hR⟩:=hrel
  have HR:=hid hR
  clear hR HStart
  by_cases hlt:i<n
  ·obtain⟨b,o,rfl,hc⟩:=(hA.out.only HO1.out) i (by have:=hn.out;omega)
   have HBg:Hid (b≠g):=by have:=hAl.out _ rfl (by omega);simp only at this;show _≠_;omega
   have HC:=hid hc
   have hi':(i:Int)<(n:Int):=by omega
   have HV:=hid (hx.out.get i)
   have HT:=hid (R.val_take_succ xs i (by have:=hn.out;omega))
   obtain⟨x,hgx⟩: ∃x,xs[i]?.getD 0=x:=⟨_,rfl⟩
   rw [hgx] at HC HV HT
   clear hc hgx
   go_wp2_with fail
   have HStart2:Hid (QCar w1 wr g (n+m) zs (i+0) 0 (R.val (xs.take i)*R.val ys+R.BB^i*(x*R.val (ys.take 0))) (i+m)):=by
    have h:=HR.out
    exact⟨h.blk,h.limb,h.len,R.BB_pos,by have:=h.val_;simp [R.val] at this ⊢;exact this,h.high,h.only⟩
   clear HR
   go_loopw [7,8] (fun cv jv wq=> ∃(j cy:Nat) (zq:List Nat),j≤m∧jv= .int .i64 (j:Int)∧cv= .int .u64 (cy:Int)∧QCar w1 wq g (n+m) zq (i+j) cy (R.val (xs.take i)*R.val ys+R.BB^i*(x*R.val (ys.take j))) (i+m)) (fun _ jv _=>m-(intOf jv).toNat)
   case atStart=>exact⟨0,0,zs,Nat.zero_le _,rfl,rfl,HStart2.out⟩
   case round=>
    obtain⟨j,cy,zq,hj,rfl,rfl,hR⟩:=hrel
    have HR:=hid hR
    clear hR HStart2
    by_cases hjt:j<m
    ·obtain⟨b',o',rfl,hc2⟩:=(hB.out.only HO1.out) j (by have:=hm.out;omega)
     have hbg':b'≠g:=by have:=hBl.out _ rfl (by omega);simp only at this;omega
     have c1:=HR.out.only.cell HC.out (by have:=HBg.out;simpa using this)
     have c2:=HR.out.only.cell hc2 (by simpa using hbg')
     have hj':(j:Int)<(m:Int):=by omega
     obtain⟨p,hp⟩: ∃p,i+j=p:=⟨_,rfl⟩
     have hpi:(i:Int)+(j:Int)=(p:Int):=by omega
     have hpw:IntKind.i64.wrap ((i:Int)+(j:Int))=(p:Int):=by rw [IntKind.wrap_i64];omega
     have hpl:(p:Int)<(n:Int)+(m:Int):=by omega
     have c3:=HR.out.blk.cell p
     rw [limbV_get _ _ (by rw [HR.out.len];omega)] at c3
     have f3:=HR.out.blk.frozen p
     have HY:=hid (hy.out.get j)
     have HZ:=hid (HR.out.limb.get p)
     have HPl:=hid (rprod_lt HV.out HY.out HZ.out HR.out.cylt)
     have HStep:Hid (∀ wd s,Only [] wr wd→s=zq[p]?.getD 0+x*(ys[j]?.getD 0)+cy→s<R.BB*R.BB→QCar w1 (wd.setCell ⟨g,p,none⟩ (.int .u64 ((s%R.BB:Nat):Int))) g (n+m) (zq.set p (s%R.BB)) (p+1) (s/R.BB) (R.val (xs.take i)*R.val ys+R.BB^i*(x*R.val (ys.take (j+1)))) (i+m)):=fun wd s h1 h2 h3=>by
      have h:=HR.out
      rw [hp] at h
      exact h.step (by omega) (by omega) h2 h3 h1 (by
       rw [R.val_take_succ ys j (by have:=hm.out;omega),←hp,Nat.mul_add,Nat.mul_add,Nat.pow_add]
       rw [show R.BB^i*(x*(R.BB^j*(ys[j]?.getD 0)))=R.BB^i*R.BB^j*(x*(ys[j]?.getD 0)) by rw [Nat.mul_left_comm x,Nat.mul_assoc]]
       omega)
     have HP:=hid hp
     have HCy:=hid HR.out.cylt
     generalize zq[p]?.getD 0=z at c3 HStep HPl
     generalize ys[j]?.getD 0=y at c2 HStep HPl
     obtain⟨s0,hs0⟩: ∃s0,x*y=s0:=⟨_,rfl⟩
     rw [hs0] at HStep HPl
     obtain⟨s1,hs1⟩: ∃s1,z+s0=s1:=⟨_,rfl⟩
     obtain⟨s,hs⟩: ∃s,s1+cy=s:=⟨_,rfl⟩
     have hsb:s<BB:=by have:=HPl.out;rw [hs1,hs,←R.bb_sq] at this;exact this
     have hw0:IntKind.u64.wrap ((x:Int)*(y:Int))=(s0:Int):=by rw [← Int.natCast_mul,hs0];exact u64_wrap (by omega)
     have hw1:IntKind.u64.wrap ((z:Int)+(s0:Int))=(s1:Int):=u64_add hs1 (by omega)
     have hw2:IntKind.u64.wrap ((s1:Int)+(cy:Int))=(s:Int):=u64_add hs hsb
     have HSE:Hid (s=z+s0+cy∧s<R.BB*R.BB):=⟨by omega,by rw [← R.bb_sq];exact hsb⟩
     have hr1:(s:Int)%4294967296=((s%R.BB:Nat):Int):=by rw [R.BB_val];omega
     have hr2:(s:Int)/4294967296=((s/R.BB:Nat):Int):=by rw [R.BB_val];omega
     have hr3:(s:Int).tmod 4294967296=((s%R.BB:Nat):Int):=by rw [Int.tmod_eq_emod_of_nonneg (by omega)];exact hr1
     have hr4:(s:Int).tdiv 4294967296=((s/R.BB:Nat):Int):=by rw [Int.tdiv_eq_ediv_of_nonneg (by omega)];exact hr2
     have hw5:IntKind.u64.wrap ((s/R.BB:Nat):Int)=((s/R.BB:Nat):Int):=u64_wrap (Nat.lt_of_le_of_lt (Nat.div_le_self _ _) hsb)
     have hw6:IntKind.u64.wrap ((s%R.BB:Nat):Int)=((s%R.BB:Nat):Int):=u64_wrap (Nat.lt_of_le_of_lt (Nat.mod_le _ _) hsb)
     have HS2:Hid (∀ wd,Only [] wr wd→_):=fun wd hd=>HStep.out wd s hd HSE.out.1 HSE.out.2
     have HBlk:=hid HR.out.blk
     generalize s%R.BB=s2 at*
     generalize s/R.BB=s3 at*
     clear hc2 hs0 hs1 hs hsb hp HStep
     go_wp2_with fail
     go_quiet (fail)
     have HQ:Hid (Only [] wr (wr.drewN nq)):=(Only.refl [] wr).drewN nq
     have HS3:=hid (HS2.out _ HQ.out)
     clear hpw hw0 hw1 hw2
     go_wp2_with fail
     go_roundw
     case rel=>exact⟨j+1,_,_,by omega,by go_num,rfl,by rw [show i+(j+1)=p+1 by have:=HP.out;omega];exact HS3.out⟩
     case measure=>simp [intOf];omega
    ·have hnl: ¬(j:Int)<(m:Int):=by omega
     obtain rfl:j=m:=by omega
     have HR2:Hid (QCar w1 wr g (n+j) zq (i+j) cy (R.val (xs.take (i+1))*R.val ys) (i+j)):=by
      have h:=HR.out
      rw [show ys.take j=ys by rw [← hm.out];exact R.val_take_all ys] at h
      rw [HT.out,Nat.add_mul,Nat.mul_assoc]
      exact h
     have HS:=hid (HR2.out.close (by omega))
     obtain⟨p,hp⟩: ∃p,i+j=p:=⟨_,rfl⟩
     have hpi:(i:Int)+(j:Int)=(p:Int):=by omega
     have hpl:(p:Int)<(n:Int)+(j:Int):=by omega
     rw [hp] at HS HR2
     have f3:=HR2.out.blk.frozen p
     have c3:=HR2.out.blk.cell p
     rw [limbV_get _ _ (by rw [HR2.out.len];omega)] at c3
     generalize zq[p]?.getD 0=zl at c3
     have HP:=hid hp
     clear HR HR2 hjt hp
     go_wp2_with fail
     go_roundw
     case rel=>exact⟨i+1,_,by omega,by go_num,by rw [show i+1+j=p+1 by have:=HP.out;omega];exact HS.out⟩
     case measure=>simp [intOf];omega
  ·have hnl: ¬(i:Int)<(n:Int):=by omega
   have e:i=n:=by omega
   have HV:Hid (R.val zs=R.val xs*R.val ys):=by
    have h:=HR.out.val_
    rw [e,show xs.take n=xs by rw [← hn.out];exact R.val_take_all xs,Nat.mul_zero] at h
    exact h
   have HLen:=hid HR.out.len
   have HRd:Hid (LRead wr (some ⟨g,0,none⟩) zs):= .of_blk HR.out.blk
   have htr:=rtrim_any (some ⟨g,0,none⟩) (n+m) (n+m) zs wr HRd (hid HR.out.limb) (hid HLen.out.symm) (Nat.le_refl _) (by omega)
   rw [HV.out] at htr
   have HTr:=hid htr
   clear e hlt htr
   go_wp2_with fail
   refine HTr.out.mono ?_
   rintro e w' ⟨rfl,rfl⟩
   go_wp2_with fail
   go_ret
   have h2:=RV.of_row HRd.out HR.out.limb
   rw [HV.out] at h2
   exact⟨_,_,_,rfl,⟨_,_,rfl,h2,Nat.le_refl _⟩,fun a ha=>by injection ha with ha;subst ha;exact HG.out,HO1.out.trans HR.out.only (fun k hk=> .inr (by simp at hk;rw [hk];exact HG.out))⟩
end Go.Proofs.YtigpnopeacicpaaGreatDoor
