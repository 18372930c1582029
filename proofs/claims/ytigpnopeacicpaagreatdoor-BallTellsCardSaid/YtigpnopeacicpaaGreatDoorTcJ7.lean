/-
  Joined texts.
-/
import Derived.Test.YtigpnopeacicpaaGreatDoorTcJ5
import Derived.Test.YtigpnopeacicpaaGreatDoorTcGNatD
import Derived.Lib.TrailingZeros
import Derived.Laws.Bits64b
import Derived.ProofKit
import Derived.OpenShut
import Derived.ShutString
import Derived.ChangeOld
import Derived.Below
import Derived.Deep.Slices
import Derived.Deep.Fields
import Derived.ChangeSame
import Derived.Lib.SmallJoins
import Derived.ChangeArms
namespace Go.Proofs.YtigpnopeacicpaaGreatDoor
open Go.Lib (hid)
open Go.RowKit
def NV (w:World) (v:Value) (n:Nat):Prop:= ∃A c xs,v= .slice A xs.length c∧Arg w A xs∧xs.length≤c∧(xs.length:Int)≤1000000∧val xs=n
def MX:Nat:=1000000
theorem MX_val:MX=1000000:=rfl
attribute [irreducible] MX
def Few (n:Nat):Prop:=n<BB^MX
section
variable {w w' w0:World} {v u:Value} {n m:Nat} {S:List Nat}
theorem NV.only (h:NV w v n) (ho:Only [] w w'):NV w' v n:=by
 obtain⟨A,c,xs,h1,h2,h3⟩:=h
 exact⟨A,c,xs,h1,h2.only ho,h3⟩
theorem NV.mk {A:Option Addr} {c:Nat} {xs:List Nat} (h:Arg w A xs) (hc:xs.length≤c) (hl:(xs.length:Int)≤1000000):NV w (.slice A xs.length c) (val xs):=⟨A,c,xs,rfl,h,hc,hl,rfl⟩
theorem NV.nil (w:World):NV w (.slice none 0 0) 0:=⟨none,0,[],rfl,⟨LRead.nil,limb_nil,by simp⟩,by simp,by simp,rfl⟩
theorem Few.len (h:Few n):((limbsOf n).length:Int)≤1000000:=by have:=limbsOf_len_le h;rw [MX_val] at this;omega
theorem NV.few (h:NV w v n):Few n:=by
 obtain⟨A,c,xs,_,h2,_,h4,rfl⟩:=h
 exact Nat.lt_of_lt_of_le (val_lt h2.limb) (Nat.pow_le_pow_right BB_pos (by rw [MX_val];omega))
theorem Few.le (h:Few n) (hm:m≤n):Few m:=Nat.lt_of_le_of_lt hm h
theorem Few.of_pow {k:Nat} (h:n<BB^k) (hk:(k:Int)≤1000000):Few n:=Nat.lt_of_lt_of_le h (Nat.pow_le_pow_right BB_pos (by rw [MX_val];omega))
theorem NV.of_res (h:Res w0 w u n) (hf:Few n):NV w u n:=by
 obtain⟨A,c,rfl,h1,h2,h3⟩:=h.at_.shape
 exact⟨A,c,_,rfl,⟨h1,limb_limbsOf n,by have:=hf.len;omega⟩,h2,hf.len,val_limbsOf n⟩
theorem Res.form (h:Res w0 w u n): ∃A c,u= .slice A (limbsOf n).length c:=by
 obtain⟨A,c,rfl,_⟩:=h.at_.shape
 exact⟨A,c,rfl⟩
end
def NPostV (n:Nat) (w0 w:World) (e:Ending) (w':World):Prop:= ∃A k c,e= .returned (.slice A k c)∧Res w0 w' (.slice A k c) n∧NV w' (.slice A k c) n∧Only [] w w'
theorem Res.len {w0 w:World} {A:Option Addr} {k c n:Nat} (h:Res w0 w (.slice A k c) n):k=(limbsOf n).length:=by
 obtain⟨A',c',e⟩:=h.form
 injection e
theorem NPostV.of {n:Nat} {w:World} {e:Ending} {w':World} (h:NPost n w e w') (hf:Few n):NPostV n w w e w':=by
 obtain⟨u,h1,h2,h3⟩:=h
 obtain⟨A,c,rfl⟩:=h2.form
 exact⟨A,_,c,h1,h2,NV.of_res h2 hf,h3⟩
theorem of_v {w:World} {v:Value} {n:Nat} (h:Hid (NV w v n)):Calls Tryz.prog 94 #[v] w (NPostV n w w):=by
 have hf:=h.out.few
 obtain⟨A,c,xs,rfl,h2,h3,h4,rfl⟩:=h.out
 exact (of_any A c xs w h2 h3).mono fun e w' hp=>NPostV.of hp hf
theorem of_lit (r:Nat) (z:Int) (w:World) (hr:Hid (r<BB)) (hz:Hid ((r:Int)=z)):Calls Tryz.prog 94 #[.slice (some ⟨w.heap.size,0,none⟩) 1 1] (w.alloc (Obj.cells #[.int .u64 z] 133)) (NPostV r w w):=by
 have h:=of_one r w hr
 rw [hz.out] at h
 refine h.mono fun e w' ⟨u,h1,h2,_,h3⟩=>?_
 exact NPostV.of ⟨u,h1,h2,h3⟩ (Few.of_pow (k:=1) (by rw [Nat.pow_one];exact hr.out) (by omega))
theorem cmp_v {w:World} {a b:Value} {m n:Nat} (ha:Hid (NV w a m)) (hb:Hid (NV w b n)):Calls Tryz.prog 122 #[a,b] w fun e w'=>e= .returned (.int .i64 (cmpZ m n))∧Only [] w w':=by
 obtain⟨A,c,xs,rfl,h2,h3,h4,rfl⟩:=ha.out
 obtain⟨B,d,ys,rfl,k2,k3,k4,rfl⟩:=hb.out
 exact ncmp_any A B c d xs ys w h2 k2 h3 k3
theorem mul_v {w:World} {a b:Value} {m n:Nat} (cut:Int) (ha:Hid (NV w a m)) (hb:Hid (NV w b n)) (hf:Hid (Few (m*n))):Calls Tryz.prog 121 #[.int .i64 cut,a,b] w (NPostV (m*n) w w):=by
 obtain⟨A,c,xs,rfl,h2,h3,h4,rfl⟩:=ha.out
 obtain⟨B,d,ys,rfl,k2,k3,k4,rfl⟩:=hb.out
 exact (mul_any cut A B c d xs ys w h2 k2 h3 k3 (by omega)).mono fun e w' hp=>NPostV.of hp hf.out
theorem bits_v {w:World} {a:Value} {m:Nat} (ha:Hid (NV w a m)):Calls Tryz.prog 83 #[a] w fun e w'=>e= .returned (.int .i64 (bitsN m:Int))∧w=w':=by
 obtain⟨A,c,xs,rfl,h2,h3,h4,rfl⟩:=ha.out
 exact nbits_any A c xs w h2 h3
def DMPostV (a b:Nat) (w:World) (e:Ending) (w':World):Prop:=
 ∃A k c A' k' c' u v,u= .slice A k c∧v= .slice A' k' c'∧e= .returned (.tuple #[.slice A k c,.slice A' k' c',.bool (decide (b≠0))])∧Res w w' u (a/b)∧Res w w' v (if b=0 then 0 else a%b)∧NV w' u (a/b)∧NV w' v (if b=0 then 0 else a%b)∧(∀ g g',u.ownBlock=some g→v.ownBlock=some g'→g≠g')∧Only [] w w'
theorem divMod_v {w:World} {a b:Value} {m n:Nat} (ha:Hid (NV w a m)) (hb:Hid (NV w b n)):Calls Tryz.prog 87 #[a,b] w (DMPostV m n w):=by
 have hf:=ha.out.few
 obtain⟨A,c,xs,rfl,h2,h3,h4,rfl⟩:=ha.out
 obtain⟨B,d,ys,rfl,k2,k3,k4,rfl⟩:=hb.out
 refine (divMod_any A B c d xs ys w h2 k2 h3 k3 (by omega)).mono fun e w' ⟨u,v,h1,hu,hv,h5,h6⟩=>?_
 obtain⟨A1,c1,rfl⟩:=hu.form
 obtain⟨A2,c2,rfl⟩:=hv.form
 refine⟨A1,_,c1,A2,_,c2,_,_,rfl,rfl,h1,hu,hv,NV.of_res hu (hf.le (Nat.div_le_self _ _)),NV.of_res hv (hf.le ?_),h5,h6⟩
 by_cases h0:val ys=0
 ·rw [if_pos h0];omega
 ·rw [if_neg h0];exact Nat.mod_le _ _
def SqrtPostV (a:Nat) (w:World) (e:Ending) (w':World):Prop:=
 ∃A k c A' k' c' u v,u= .slice A k c∧v= .slice A' k' c'∧e= .returned (.tuple #[.slice A k c,.slice A' k' c'])∧Res w w' u (rootN a)∧Res w w' v (a-rootN a*rootN a)∧NV w' u (rootN a)∧NV w' v (a-rootN a*rootN a)∧(∀ g g',u.ownBlock=some g→v.ownBlock=some g'→g≠g')∧Only [] w w'
theorem sqrt_v {w:World} {a:Value} {m:Nat} (ha:Hid (NV w a m)):Calls Tryz.prog 95 #[a] w (SqrtPostV m w):=by
 have hf:=ha.out.few
 obtain⟨A,c,xs,rfl,h2,h3,h4,rfl⟩:=ha.out
 have hr:rootN (val xs)≤val xs:=Nat.le_trans (Nat.le_mul_self _) (rootN_is (val xs)).1
 exact (sqrt_any A c xs w h2 h3 h4).mono fun e w' ⟨u,v,h1,hu,hv,h5,h6⟩=>by
  obtain⟨A1,c1,rfl⟩:=hu.form
  obtain⟨A2,c2,rfl⟩:=hv.form
  exact⟨A1,_,c1,A2,_,c2,_,_,rfl,rfl,h1,hu,hv,NV.of_res hu (hf.le hr),NV.of_res hv (hf.le (Nat.sub_le _ _)),h5,h6⟩
def SubPostV (a b:Nat) (w:World) (e:Ending) (w':World):Prop:= ∃A k c u,u= .slice A k c∧e= .returned (.tuple #[.slice A k c,.bool (decide (b≤a))])∧Res w w' u (a-b)∧NV w' u (a-b)∧Only [] w w'
def NVs (w:World):List Value→List Nat→Prop
 |[],[]=>True
 |v::vs,n::ns=>NV w v n∧NVs w vs ns
 |_,_=>False
theorem NVs.only {w w':World} (ho:Only [] w w'): ∀{vs:List Value} {ns:List Nat},NVs w vs ns→NVs w' vs ns
 |[],[],h=>h
 |[],_::_,h=>h.elim
 |_::_,[],h=>h.elim
 |_::_,_::_,h=>⟨h.1.only ho,NVs.only ho h.2⟩
theorem NVs.items {w:World}: ∀{vs:List Value} {ns:List Nat},NVs w vs ns→ ∃L:List Item,L.length=vs.length∧sumL L=ns.sum∧ ∀(k:Nat) (hk:k<L.length),vs[k]? =some (.slice L[k].a L[k].xs.length L[k].c)∧Arg w L[k].a L[k].xs∧L[k].xs.length≤L[k].c∧(L[k].xs.length:Int)≤3999999
 |[],[],_=>⟨[],rfl,rfl,fun k hk=>by simp at hk⟩
 |[],_::_,h=>h.elim
 |_::_,[],h=>h.elim
 |v::vs,n::ns,h=>by
  obtain⟨L,h1,h2,h3⟩:=NVs.items h.2
  obtain⟨A,c,xs,rfl,k2,k3,k4,rfl⟩:=h.1
  refine⟨⟨A,c,xs⟩::L,by simp [h1],by rw [List.sum_cons,←h2];rfl,?_⟩
  intro k hk
  cases k with
  |zero=>exact⟨rfl,k2,k3,by simp;omega⟩
  |succ k=>simpa using h3 k (by simpa using hk)
theorem few_pow {n:Nat} (h:Few n) (k:Nat) (hk:MX≤k):n<BB^k:=Nat.lt_of_lt_of_le h (Nat.pow_le_pow_right BB_pos hk)
theorem lt_big {n:Nat} (h:Few n):n<BB^3999999:=few_pow h 3999999 (by rw [MX_val];decide)
theorem addL_v {w:World} (vs:List Value) (ns:List Nat) (k:Nat) (hk:Hid (vs.length=k)) (hl:(k:Int)≤1000) (h:Hid (NVs w vs ns)) (hf:Hid (Few ns.sum)):
  Calls Tryz.prog 106 #[.slice (some ⟨w.heap.size,0,none⟩) k k] (w.alloc (Obj.cells vs.toArray 28)) (NPostV ns.sum w w):=by
 have ho:Only [] w (w.alloc (Obj.cells vs.toArray 28)):=(Only.refl [] w).alloc _
 have hb:Blk (w.alloc (Obj.cells vs.toArray 28)) w.heap.size 28 vs:=Blk.new w 28 vs
 obtain⟨L,h1,h2,h3⟩:=NVs.items (h.out.only ho)
 have hr:Hid (NsRead (w.alloc (Obj.cells vs.toArray 28)) (some ⟨w.heap.size,0,none⟩) L):=fun j hj=>by
  obtain⟨h4,h5⟩:=h3 j hj
  exact⟨_,0,rfl,by rw [hb.cell,Nat.zero_add];exact h4,h5⟩
 have hc:=add_any (some ⟨w.heap.size,0,none⟩) k L _ hr (by have:=hk.out;omega) (lt_big (by rw [h2];exact hf.out))
 rw [h1,hk.out,h2] at hc
 exact hc.mono fun e w' ⟨u,g1,g2,g3⟩=>NPostV.of ⟨u,g1,g2.pre ho.size,ho.nil_trans g3⟩ hf.out
theorem add2_v {w:World} {a b:Value} {m n:Nat} (ha:Hid (NV w a m)) (hb:Hid (NV w b n)) (hf:Hid (Few (m+n))):
  Calls Tryz.prog 106 #[.slice (some ⟨w.heap.size,0,none⟩) 2 2] (w.alloc (Obj.cells #[a,b] 28)) (NPostV (m+n) w w):=by
 have h:=addL_v (w:=w) [a,b] [m,n] 2 rfl (by omega) ⟨ha.out,hb.out,trivial⟩ (by show Few _;simp;exact hf.out)
 simp only [List.sum_cons,List.sum_nil,Nat.add_zero] at h
 exact h
theorem few_add {a b:Nat} {i:Nat} (ha:a<BB^i) (hb:b<BB^i):a+b<BB^(i+1):=by
 rw [Nat.pow_succ]
 have h1:=Nat.mul_le_mul_left (BB^i) BB_two
 omega
end Go.Proofs.YtigpnopeacicpaaGreatDoor
namespace Go.Proofs.YtigpnopeacicpaaGreatDoor
open Go.Lib (hid)
open Go.RowKit
theorem root_is {a r:Nat} (h1:r*r≤a) (h2:a<(r+1)*(r+1)):rootN a=r:=by
 have h:=rootN_is a
 apply Nat.le_antisymm
 ·apply Nat.le_of_not_lt
  intro hc
  have:=Nat.mul_le_mul hc hc
  simp only [Nat.succ_eq_add_one] at this
  have:=h.1
  omega
 ·apply Nat.le_of_not_lt
  intro hc
  have:=Nat.mul_le_mul hc hc
  simp only [Nat.succ_eq_add_one] at this
  have:=h.2
  omega
theorem few_small {n:Nat} (h:n<BB):Few n:=Few.of_pow (k:=1) (by rw [Nat.pow_one];exact h) (by omega)
structure Sl where
 a:Option Addr
 n:Nat
 c:Nat
def SlRead (w:World) (A:Option Addr) (L:List Sl):Prop:=
 ∀(k:Nat) (hk:k<L.length),∃b o,A=some ⟨b,o,none⟩∧w.cell? ⟨b,o+k,none⟩=some (.slice L[k].a L[k].n L[k].c)
def lightB (L:List Sl):Bool:=L.all fun x=>decide (x.n≤40)
set_option maxHeartbeats 800000 in
theorem light_any (A:Option Addr) (c:Nat) (L:List Sl) (w:World) (h:Hid (SlRead w A L)) (hl:(L.length:Int)≤9223372036854775800):
  Calls Tryz.prog 48 #[.slice A L.length c] w fun e w'=>e= .returned (.bool (lightB L))∧Only [] w w':=by
 go_enter Tryz.func48,Tryz.ntmps48
 go_wp2_with fail
 go_loopw [3] (fun i wr=> ∃k:Nat,k≤L.length∧i= .int .i64 (k:Int)∧lightB (L.take k)=true∧Only [] w wr) (fun i _=>L.length-(intOf i).toNat)
 case atStart=>exact⟨0,Nat.zero_le _,rfl,rfl,Only.refl _ _⟩
 case round=>
  obtain⟨k,hk,rfl,hl,ho⟩:=hrel
  have HL:=hid hl
  have HO:=hid ho
  clear hl ho
  by_cases hlt:k<L.length
  ·obtain⟨b,o,rfl,h1⟩:=h.out k hlt
   have h2:=HO.out.cell h1 (by simp)
   have HK:Hid (lightB (L.take (k+1))=(lightB (L.take k) && decide (L[k].n≤40))):=by
    show _=_
    unfold lightB
    rw [List.take_succ_eq_append_getElem hlt,List.all_append]
    simp only [List.all_cons,List.all_nil,Bool.and_true]
   have HM:Hid (40<L[k].n→lightB L=false):=fun hn=>by
    unfold lightB
    rw [List.all_eq_false]
    exact⟨L[k],List.getElem_mem hlt,by simp;exact hn⟩
   have hk':(k:Int)<(L.length:Int):=by omega
   generalize L[k]=x at h2 HK HM
   obtain⟨xa,xn,xc⟩:=x
   simp only at h2 HK HM
   clear h1 hlt
   by_cases hx:40<xn
   ·have hxi:(40:Int)<(xn:Int):=by omega
    have HF:=hid (HM.out hx)
    clear hx
    go_wp2_with fail
    go_ret
    exact⟨by rw [HF.out];rfl,HO.out⟩
   ·have hxi: ¬(40:Int)<(xn:Int):=by omega
    have HT:Hid (lightB (L.take (k+1))=true):=by
     show _=_
     rw [HK.out,HL.out,decide_eq_true (by omega)]
     rfl
    clear hx
    go_wp2_with fail
    go_roundw
    case rel=>exact⟨k+1,by omega,by go_num,HT.out,HO.out⟩
    case measure=>simp [intOf];omega
  ·have hnl: ¬(k:Int)<(L.length:Int):=by omega
   have HF:Hid (lightB L=true):=by
    have h1:=HL.out
    rw [List.take_of_length_le (by omega)] at h1
    exact h1
   clear hlt
   go_wp2_with fail
   go_ret
   exact⟨by rw [HF.out];rfl,HO.out⟩
theorem light_v {w:World} (L:List Sl) (k:Nat) (hk:Hid (L.length=k)) (hl:(k:Int)≤1000):
  Calls Tryz.prog 48 #[.slice (some ⟨w.heap.size,0,none⟩) k k] (w.alloc (Obj.cells (L.map fun x=>Value.slice x.a x.n x.c).toArray 22)) fun e w'=>e= .returned (.bool (lightB L))∧Only [] w w':=by
 have hb:Blk (w.alloc (Obj.cells (L.map fun x=>Value.slice x.a x.n x.c).toArray 22)) w.heap.size 22 (L.map fun x=>Value.slice x.a x.n x.c):=Blk.new w _ _
 have h:=light_any (some ⟨w.heap.size,0,none⟩) k L _ (hid (fun j hj=>⟨_,0,rfl,by rw [hb.cell,Nat.zero_add];simp [hj]⟩)) (by have:=hk.out;omega)
 rw [hk.out] at h
 exact h.mono fun e w' ⟨h1,h2⟩=>⟨h1,((Only.refl [] w).alloc _).nil_trans h2⟩
theorem sub_v {w:World} {a b:Value} {m n:Nat} (ha:Hid (NV w a m)) (hb:Hid (NV w b n)):Calls Tryz.prog 157 #[a,b] w (SubPostV m n w):=by
 have hf:=ha.out.few
 obtain⟨A,c,xs,rfl,h2,h3,h4,rfl⟩:=ha.out
 obtain⟨B,d,ys,rfl,k2,k3,k4,rfl⟩:=hb.out
 refine (sub_any A B c d xs ys w h2 k2 h3 k3).mono fun e w' ⟨u,h1,hu,h6⟩=>?_
 obtain⟨A1,c1,rfl⟩:=hu.form
 exact⟨A1,_,c1,_,rfl,h1,hu,NV.of_res hu (hf.le (Nat.sub_le _ _)),h6⟩
def shlN (n:Nat) (z:Int):Nat:=if z>16777216∨z< -16777216 then 0 else if z<0 then n/2^(-z).toNat else n*2^z.toNat
theorem shlN_up (n k:Nat) (hk:(k:Int)≤16777216):shlN n (k:Int)=n*2^k:=by
 unfold shlN
 rw [if_neg (by omega),if_neg (by omega),Int.toNat_natCast]
theorem shlN_down (n k:Nat) (hk:(k:Int)≤16777216):shlN n (-(k:Int))=n/2^k:=by
 by_cases h0:k=0
 ·subst h0
  unfold shlN
  simp
 ·unfold shlN
  rw [if_neg (by omega),if_pos (by omega),Int.neg_neg,Int.toNat_natCast]
theorem shlN_far (n:Nat) (z:Int) (h:z>16777216∨z< -16777216):shlN n z=0:=by unfold shlN;rw [if_pos h]
set_option maxHeartbeats 800000 in
theorem shl_up {w:World} {a:Value} {n:Nat} (k:Nat) (hk0:0≤(k:Int)) (hk:(k:Int)≤16777216) (ha:Hid (NV w a n)) (hf:Hid (Few (n*2^k))):
  Calls Tryz.prog 125 #[a,.int .i64 ((k:Int))] w (NPostV (n*2^k) w w):=by
 obtain⟨A,c,xs,rfl,h2,h3,h4,rfl⟩:=ha.out
 have H2:=hid h2
 have HT:=hid h2.trim
 have hl:=left_any A c k (k/64) (k%64) (limbsOf (val xs)) w HT (by show _=_;omega) (by show _<_;omega) (by have:=limbsOf_len h2.limb;omega)
 rw [val_limbsOf] at hl
 have HL:=hid hl
 have hk2: ¬(k:Int)< -16777216:=by omega
 clear hl ha h2 HT
 go_enter Tryz.func125,Tryz.ntmps125
 go_wp2_with fail
 (with_reducible refine (trim_any A c xs _ H2 h3).mono ?_)
 rintro e w' ⟨rfl,rfl⟩
 go_wp2_with fail
 refine HL.out.mono ?_
 rintro e w1 hp
 obtain⟨A1,k1,c1,rfl,hr,hv,ho⟩:=NPostV.of hp hf.out
 have HR:=hid hr
 have HV:=hid hv
 have HO:=hid ho
 clear hr hv ho hp HL
 go_wp2_with fail
 go_ret
 exact⟨_,_,_,rfl,HR.out,HV.out,HO.out⟩
set_option maxHeartbeats 800000 in
theorem shl_down {w:World} {a:Value} {n:Nat} (k:Nat) (hk0:0<(k:Int)) (hk:(k:Int)≤16777216) (ha:Hid (NV w a n)) (hf:Hid (Few (n/2^k))):
  Calls Tryz.prog 125 #[a,.int .i64 (-(k:Int))] w (NPostV (n/2^k) w w):=by
 obtain⟨A,c,xs,rfl,h2,h3,h4,rfl⟩:=ha.out
 have H2:=hid h2
 have HT:=hid h2.trim
 have hl:=right_any A c k (k/64) (k%64) (limbsOf (val xs)) w HT (by show _=_;omega) (by show _<_;omega) (by have:=limbsOf_len h2.limb;omega)
 rw [val_limbsOf] at hl
 have HL:=hid hl
 have hk2: -(k:Int)<0:=by omega
 clear hl ha h2 HT
 go_enter Tryz.func125,Tryz.ntmps125
 go_wp2_with fail
 (with_reducible refine (trim_any A c xs _ H2 h3).mono ?_)
 rintro e w' ⟨rfl,rfl⟩
 go_wp2_with fail
 refine HL.out.mono ?_
 rintro e w1 hp
 obtain⟨A1,k1,c1,rfl,hr,hv,ho⟩:=NPostV.of hp hf.out
 have HR:=hid hr
 have HV:=hid hv
 have HO:=hid ho
 clear hr hv ho hp HL
 go_wp2_with fail
 go_ret
 exact⟨_,_,_,rfl,HR.out,HV.out,HO.out⟩
set_option maxHeartbeats 800000 in
theorem shr_up {w:World} {a:Value} {n:Nat} (k:Nat) (hk0:0≤(k:Int)) (hk:(k:Int)≤16777216) (ha:Hid (NV w a n)) (hf:Hid (Few (n/2^k))):
  Calls Tryz.prog 127 #[a,.int .i64 ((k:Int))] w (NPostV (n/2^k) w w):=by
 obtain⟨A,c,xs,rfl,h2,h3,h4,rfl⟩:=ha.out
 have H2:=hid h2
 have HT:=hid h2.trim
 have hl:=right_any A c k (k/64) (k%64) (limbsOf (val xs)) w HT (by show _=_;omega) (by show _<_;omega) (by have:=limbsOf_len h2.limb;omega)
 rw [val_limbsOf] at hl
 have HL:=hid hl
 have hk2: ¬(k:Int)< -16777216:=by omega
 clear hl ha h2 HT
 go_enter Tryz.func127,Tryz.ntmps127
 go_wp2_with fail
 (with_reducible refine (trim_any A c xs _ H2 h3).mono ?_)
 rintro e w' ⟨rfl,rfl⟩
 go_wp2_with fail
 refine HL.out.mono ?_
 rintro e w1 hp
 obtain⟨A1,k1,c1,rfl,hr,hv,ho⟩:=NPostV.of hp hf.out
 have HR:=hid hr
 have HV:=hid hv
 have HO:=hid ho
 clear hr hv ho hp HL
 go_wp2_with fail
 go_ret
 exact⟨_,_,_,rfl,HR.out,HV.out,HO.out⟩
set_option maxHeartbeats 800000 in
theorem shr_down {w:World} {a:Value} {n:Nat} (k:Nat) (hk0:0<(k:Int)) (hk:(k:Int)≤16777216) (ha:Hid (NV w a n)) (hf:Hid (Few (n*2^k))):
  Calls Tryz.prog 127 #[a,.int .i64 (-(k:Int))] w (NPostV (n*2^k) w w):=by
 obtain⟨A,c,xs,rfl,h2,h3,h4,rfl⟩:=ha.out
 have H2:=hid h2
 have HT:=hid h2.trim
 have hl:=left_any A c k (k/64) (k%64) (limbsOf (val xs)) w HT (by show _=_;omega) (by show _<_;omega) (by have:=limbsOf_len h2.limb;omega)
 rw [val_limbsOf] at hl
 have HL:=hid hl
 have hk2: -(k:Int)<0:=by omega
 clear hl ha h2 HT
 go_enter Tryz.func127,Tryz.ntmps127
 go_wp2_with fail
 (with_reducible refine (trim_any A c xs _ H2 h3).mono ?_)
 rintro e w' ⟨rfl,rfl⟩
 go_wp2_with fail
 refine HL.out.mono ?_
 rintro e w1 hp
 obtain⟨A1,k1,c1,rfl,hr,hv,ho⟩:=NPostV.of hp hf.out
 have HR:=hid hr
 have HV:=hid hv
 have HO:=hid ho
 clear hr hv ho hp HL
 go_wp2_with fail
 go_ret
 exact⟨_,_,_,rfl,HR.out,HV.out,HO.out⟩
theorem nv_zero (w:World) (w0:World):NPostV 0 w0 w (.returned (.slice none 0 0)) w:=⟨none,0,0,rfl,res_nil _ _,NV.nil _,Only.refl _ _⟩
set_option maxHeartbeats 800000 in
theorem shl_far {w:World} {a:Value} (z:Int) (hz:z>16777216∨z< -16777216):Calls Tryz.prog 125 #[a,.int .i64 z] w (NPostV 0 w w):=by
 rcases hz with hz|hz
 ·go_enter Tryz.func125,Tryz.ntmps125
  go_wp2_with fail
  go_ret
  exact nv_zero w w
 ·have hz2: ¬16777216<z:=by omega
  go_enter Tryz.func125,Tryz.ntmps125
  go_wp2_with fail
  go_ret
  exact nv_zero w w
set_option maxHeartbeats 800000 in
theorem shr_far {w:World} {a:Value} (z:Int) (hz:z>16777216∨z< -16777216):Calls Tryz.prog 127 #[a,.int .i64 z] w (NPostV 0 w w):=by
 rcases hz with hz|hz
 ·go_enter Tryz.func127,Tryz.ntmps127
  go_wp2_with fail
  go_ret
  exact nv_zero w w
 ·have hz2: ¬16777216<z:=by omega
  go_enter Tryz.func127,Tryz.ntmps127
  go_wp2_with fail
  go_ret
  exact nv_zero w w
theorem shl_v {w:World} {a:Value} {n:Nat} (z:Int) (ha:Hid (NV w a n)) (hf:Hid (Few (shlN n z))):Calls Tryz.prog 125 #[a,.int .i64 z] w (NPostV (shlN n z) w w):=by
 by_cases h:z>16777216∨z< -16777216
 ·rw [shlN_far n z h]
  exact shl_far z h
 ·by_cases h0:0≤z
  ·obtain⟨k,rfl⟩: ∃k:Nat,z=(k:Int):=⟨z.toNat,by omega⟩
   rw [shlN_up n k (by omega)] at hf ⊢
   exact shl_up k (by omega) (by omega) ha hf
  ·obtain⟨k,rfl⟩: ∃k:Nat,z= -(k:Int):=⟨(-z).toNat,by omega⟩
   rw [shlN_down n k (by omega)] at hf ⊢
   exact shl_down k (by omega) (by omega) ha hf
theorem shr_v {w:World} {a:Value} {n:Nat} (z:Int) (ha:Hid (NV w a n)) (hf:Hid (Few (shlN n (-z)))):Calls Tryz.prog 127 #[a,.int .i64 z] w (NPostV (shlN n (-z)) w w):=by
 by_cases h:z>16777216∨z< -16777216
 ·rw [shlN_far n (-z) (by omega)]
  exact shr_far z h
 ·by_cases h0:0≤z
  ·obtain⟨k,rfl⟩: ∃k:Nat,z=(k:Int):=⟨z.toNat,by omega⟩
   rw [shlN_down n k (by omega)] at hf ⊢
   exact shr_up k (by omega) (by omega) ha hf
  ·obtain⟨k,rfl⟩: ∃k:Nat,z= -(k:Int):=⟨(-z).toNat,by omega⟩
   rw [Int.neg_neg,shlN_up n k (by omega)] at hf ⊢
   exact shr_down k (by omega) (by omega) ha hf
def lowN (n:Nat):Nat:=if _h:n=0 then 0 else if n%2=1 then 0 else 1+lowN (n/2)
termination_by n
decreasing_by omega
theorem lowN_zero:lowN 0=0:=by rw [lowN];rfl
theorem lowN_odd {n:Nat} (h:n%2=1):lowN n=0:=by rw [lowN,dif_neg (by omega),if_pos h]
theorem lowN_even {n:Nat} (h0:n≠0) (h:n%2=0):lowN n=1+lowN (n/2):=by rw [lowN,dif_neg h0,if_neg (by omega)]
theorem lowN_is: ∀(k m:Nat),lowN (2^k*(2*m+1))=k
 |0,m=>by rw [Nat.pow_zero,Nat.one_mul];exact lowN_odd (by omega)
 |k+1,m=>by
  have hp:0<2^k:=Nat.pow_pos (by omega)
  have h1:0<2^k*(2*m+1):=Nat.mul_pos hp (by omega)
  have e:2^(k+1)*(2*m+1)=2*(2^k*(2*m+1)):=by rw [Nat.pow_succ,Nat.mul_comm (2^k) 2,Nat.mul_assoc]
  rw [e,lowN_even (by omega) (by omega),Nat.mul_div_cancel_left _ (by omega),lowN_is k m]
  omega
theorem lowN_spec {n:Nat} (h:n≠0): ∃m,n=2^lowN n*(2*m+1):=by
 induction n using Nat.strongRecOn with
 |ind n ih=>
  by_cases h1:n%2=1
  ·exact⟨n/2,by rw [lowN_odd h1];omega⟩
  ·obtain⟨m,hm⟩:=ih (n/2) (by omega) (by omega)
   refine⟨m,?_⟩
   rw [lowN_even h (by omega),Nat.pow_add,Nat.pow_one,Nat.mul_assoc,←hm]
   omega
theorem lowN_limbs {xs:List Nat} {k:Nat} (hk:k<xs.length) (hz: ∀j,j<k→xs[j]?.getD 0=0) (hx:Limb xs) (h0:xs[k]?.getD 0≠0):lowN (val xs)=64*k+Lib.ctz 64 (xs[k]?.getD 0):=by
 have hb:=hx.get k
 rw [BB_pow] at hb
 obtain⟨m,hm,hlt⟩:=Lib.ctzFrom_spec 64 (xs[k]?.getD 0) (by omega) hb
 have hc:Lib.ctz 64 (xs[k]?.getD 0)=Lib.ctzFrom 64 (xs[k]?.getD 0):=by unfold Lib.ctz;rw [if_neg h0]
 rw [hc]
 generalize Lib.ctzFrom 64 (xs[k]?.getD 0)=c at*
 have e1:val (xs.take k)=0:=by
  have:xs.take k=List.replicate k 0:=by
   apply List.ext_getElem
   ·simp;omega
   ·intro i h1 h2
    have:=hz i (by simp at h1;omega)
    rw [List.getElem?_eq_getElem (by simp at h1;omega)] at this
    simpa using this
  rw [this,val_zeros]
 have e2:=val_take_drop xs (k+1) (by omega)
 rw [val_take_succ xs k hk,e1,hm,Nat.zero_add,Nat.pow_succ,Nat.mul_assoc,←Nat.mul_add] at e2
 obtain⟨d,hd⟩: ∃d,64=c+(d+1):=⟨64-c-1,by omega⟩
 have e3:BB=2^c*(2*2^d):=by
  rw [BB_pow,hd,Nat.pow_add,Nat.pow_succ 2 d,Nat.mul_comm (2^d)]
 have e4:BB^k=2^(64*k):=by rw [BB_pow,←Nat.pow_mul]
 rw [e4] at e2
 have e5:val xs=2^(64*k+c)*(2*(m+2^d*val (xs.drop (k+1)))+1):=by
  rw [e2,Nat.pow_add,Nat.mul_assoc]
  congr 1
  conv=>lhs;rw [e3]
  rw [Nat.mul_assoc,←Nat.mul_add]
  congr 1
  rw [Nat.mul_add,Nat.mul_assoc]
  omega
 rw [e5,lowN_is]
set_option maxHeartbeats 1000000 in
theorem tz64_core (x k idx:Nat) (w:World) (hx0:((x:Int) == 0)=false)
  (key:IntKind.u64.wrap (bits BinOp.and IntKind.u64 (x:Int) (IntKind.u64.wrap (-(x:Int)))*285870213051353865)/288230376151711744=(idx:Int))
  (hi:idx<64) (hk:k<64) (hcell:w.cell? ⟨0,idx,none⟩=some (.int .u8 k)):
  Calls Tryz.prog 126 #[.int .u64 x] w fun e w'=>e= .returned (.int .i64 k)∧w=w':=by
 go_enter Tryz.func126,Tryz.ntmps126
 go_wp2_with (simp only [key])
 go_ret
 exact⟨rfl,rfl⟩
theorem tz64_key (x a:Nat) (hx:x<18446744073709551616) (hx0:x≠0) (hlow:x &&& (18446744073709551616-x)=a):
  IntKind.u64.wrap (bits BinOp.and IntKind.u64 (x:Int) (IntKind.u64.wrap (-(x:Int)))*285870213051353865)/288230376151711744=((a*285870213051353865%18446744073709551616/288230376151711744:Nat):Int):=by
 have e1:IntKind.u64.wrap (-(x:Int))=((18446744073709551616-x:Nat):Int):=by rw [IntKind.wrap_u64];omega
 rw [e1,bits_and_u64_nat x _ hx (by omega),hlow,IntKind.wrap_u64]
 omega
theorem tab64_len:tab64=Lib.deBruijn64tab.map (fun (n:Nat)=>(n:Int)):=rfl
theorem getD_cast (l:List Nat) (i:Nat):(l.map (fun (n:Nat)=>(n:Int))).getD i 0=((l.getD i 0:Nat):Int):=by
 simp only [List.getD,List.getElem?_map]
 cases l[i]? <;>rfl
theorem tz64_any (x:Nat) (hx:x<BB) (hx0:x≠0) (w:World) (hT:Hid (Tab6 w)):Calls Tryz.prog 126 #[.int .u64 x] w fun e w'=>e= .returned (.int .i64 (Lib.ctz 64 x:Int))∧w=w':=by
 rw [BB_val] at hx
 obtain⟨hlow,hk⟩:=Lib.lowest_bit 64 x hx0 hx
 obtain⟨hi,htab⟩:=Lib.deBruijn64_at _ hk
 have hl:tab64.length=64:=rfl
 have hcell:=hT.out.cell (g:=0) (by kernel_rfl) _ (by rw [hl];exact hi)
 rw [tab64_len,getD_cast,htab] at hcell
 exact tz64_core x _ _ w (by simp;omega) (tz64_key x _ hx hx0 hlow) hi hk hcell
set_option maxHeartbeats 800000 in
theorem low_v {w:World} {a:Value} {n:Nat} (ha:Hid (NV w a n)) (hT:Hid (Tab6 w)):Calls Tryz.prog 85 #[a] w fun e w'=>e= .returned (.int .i64 (lowN n:Int))∧w=w':=by
 obtain⟨A,c,xs,rfl,h2,h3,h4,h5⟩:=ha.out
 have HA:=hid h2
 have HV:=hid h5
 clear ha h2 h5
 go_enter Tryz.func85,Tryz.ntmps85
 go_wp2_with fail
 go_loop [7] (fun t=> ∃k:Nat,k≤xs.length∧t= .int .i64 (k:Int)∧ ∀j,j<k→xs[j]?.getD 0=0) (fun t=>xs.length-(intOf t).toNat)
 case atStart=>exact⟨0,Nat.zero_le _,rfl,fun j h=>by omega⟩
 case round=>
  obtain⟨k,hk,rfl,hz⟩:=hrel
  have HZ:=hid hz
  clear hz
  by_cases hlt:k<xs.length
  ·obtain⟨b,o,rfl,hcell⟩:=HA.out.read k hlt
   have hk':(k:Int)<(xs.length:Int):=by omega
   by_cases h0:xs[k]?.getD 0=0
   ·have HZ':Hid (∀ j,j<k+1→xs[j]?.getD 0=0):=fun j h=>by
     by_cases e:j=k
     ·rw [e];exact h0
     ·exact HZ.out j (by omega)
    rw [h0] at hcell
    clear h0 hlt
    go_wp2_with fail
    go_round
    case rel=>exact⟨k+1,by omega,by go_num,HZ'.out⟩
    case measure=>simp [intOf];omega
   ·have HL:=hid (lowN_limbs hlt HZ.out HA.out.limb h0)
    have HB:=hid (HA.out.limb.get k)
    have HT:=hid (tz64_any _ HB.out h0 w hT)
    have g0:(((xs[k]?.getD 0:Nat):Int) != 0)=true:=by simpa using h0
    have HC:Hid (Lib.ctz 64 (xs[k]?.getD 0)<64):=by
     have hb:=HB.out
     rw [BB_pow] at hb
     have:=(Lib.ctzFrom_spec 64 (xs[k]?.getD 0) (by omega) hb).choose_spec.2
     show Lib.ctz 64 _<64
     unfold Lib.ctz
     rw [if_neg h0]
     exact this
    generalize xs[k]?.getD 0=x at*
    clear h0 hlt
    go_wp2_with fail
    refine HT.out.mono ?_
    rintro e w' ⟨rfl,rfl⟩
    have hcz:(Lib.ctz 64 x:Int)<64:=by have:=HC.out;omega
    go_wp2_with fail
    go_ret
    refine⟨?_,rfl⟩
    rw [← HV.out,HL.out,show ((64*k+Lib.ctz 64 x:Nat):Int)=64*(k:Int)+(Lib.ctz 64 x:Int) by push_cast;rfl]
    rfl
  ·have hnl: ¬(k:Int)<(xs.length:Int):=by omega
   have HV0:Hid (val xs=0):=by
    have e:xs=List.replicate xs.length 0:=by
     apply List.ext_getElem
     ·simp
     ·intro i h1 h2
      have:=HZ.out i (by omega)
      rw [List.getElem?_eq_getElem h1] at this
      simpa using this
    show _=_
    rw [e,val_zeros]
   clear hlt
   go_wp2_with fail
   go_ret
   exact⟨by rw [← HV.out,HV0.out,lowN_zero];rfl,rfl⟩
structure Env (w0 w:World) (vs:List Value) (ns:List Nat):Prop where
 only:Only [] w0 w
 all:NVs w vs ns
theorem Env.step {w0 w w':World} {vs:List Value} {ns:List Nat} (h:Env w0 w vs ns) (ho:Only [] w w'):Env w0 w' vs ns:=⟨h.only.nil_trans ho,NVs.only ho h.all⟩
theorem Env.push {w0 w:World} {vs:List Value} {ns:List Nat} (h:Env w0 w vs ns) {v:Value} {n:Nat} (hv:NV w v n):Env w0 w (v::vs) (n::ns):=⟨h.only,hv,h.all⟩
theorem NVs.get {w:World}: ∀{vs:List Value} {ns:List Nat} (i:Nat) {v:Value} {n:Nat},NVs w vs ns→vs[i]? =some v→ns[i]? =some n→NV w v n
 |[],[],i,v,n,_,h1,_=>by simp at h1
 |[],_::_,_,_,_,h,_,_=>h.elim
 |_::_,[],_,_,_,h,_,_=>h.elim
 |v::vs,n::ns,0,_,_,h,h1,h2=>by
  simp only [List.getElem?_cons_zero,Option.some.injEq] at h1 h2
  subst h1 h2
  exact h.1
 |v::vs,n::ns,i+1,_,_,h,h1,h2=>NVs.get i h.2 (by simpa using h1) (by simpa using h2)
theorem Env.at {w0 w:World} {vs:List Value} {ns:List Nat} (h:Hid (Env w0 w vs ns)) (i:Nat) {v:Value} {n:Nat} (h1:vs[i]? =some v) (h2:ns[i]? =some n):Hid (NV w v n):=NVs.get i h.out.all h1 h2
def Lim (n k:Nat):Prop:=n<BB^k
theorem Lim.le {a b i:Nat} (hb:Lim b i) (h:a≤b):Lim a i:=Nat.lt_of_le_of_lt h hb
theorem Lim.mono {a i j:Nat} (ha:Lim a i) (h:i≤j):Lim a j:=Nat.lt_of_lt_of_le ha (Nat.pow_le_pow_right BB_pos h)
theorem Lim.add {a b i j:Nat} (ha:Lim a i) (hb:Lim b j):Lim (a+b) (i+j+1):=few_add (ha.mono (by omega)) (hb.mono (by omega))
theorem Lim.val {xs:List Nat} (h:Limb xs) {k:Nat} (hk:xs.length≤k):Lim (val xs) k:=Nat.lt_of_lt_of_le (val_lt h) (Nat.pow_le_pow_right BB_pos hk)
end Go.Proofs.YtigpnopeacicpaaGreatDoor
namespace Go.Proofs.YtigpnopeacicpaaGreatDoor
open Go.ChangeShapes Go.WideShapes Go.ChangeAt Go.RowKit Go.Deep
def LimbsIn (w:World) (A:Option Addr) (L:List Nat):Prop:=LRead w A L∧Limb L
theorem LimbsIn.only {w w':World} {A:Option Addr} {L:List Nat} (h:LimbsIn w A L) (ho:Only [] w w'):LimbsIn w' A L:=⟨h.1.only ho,h.2⟩
theorem limbs_in {H:Type} {enc:TypeId×Value→H} {w:World} {base:Nat} {spare:Nat→Bool} {held:Bool} {fuel:Nat} {cs:List Value} {x:DataW H×List MemPlace} {t:TypeId} (ht:Tryz.prog.underlying t=some (.slice 133))
  (h:DataW.trod enc Tryz.prog w base spare held fuel t cs=some x):
  ∃A c L,cs=[.slice A (List.length L) c]∧List.length L≤c∧c≤maxLen∧LimbsIn w A L:=by
 rcases open_slice ht h with⟨rfl,_⟩|⟨a,len,cap,m,n,D,Pl,rfl,_,hl,hcm,hm,_,hi⟩
 ·exact⟨none,0,[],rfl,Nat.le_refl _,Nat.zero_le _,LRead.nil,limb_nil⟩
 ·have hC:Tryz.prog.cellsOf 133=1:=by kernel_rfl
  have hlm:len≤m:=by rw [hm];split<;>omega
  have key: ∀i,i<len→ ∃z:Nat,w.cell? (a.add i)=some (.int .u64 (z:Int))∧z<BB:=by
   intro i hil
   obtain⟨cs',hc,ht⟩:=hi i (by omega)
   rw [hC] at hc
   obtain⟨_,_,hat⟩:=World.cells?_some hc
   obtain⟨z,rfl,_,hwf⟩:=DataW.trod_int Tryz.underlying133 ht
   have hwf':0≤z∧z<18446744073709551616:=by
    have e1:IntKind.u64.min=0:=by kernel_rfl
    have e2:IntKind.u64.max=18446744073709551615:=by kernel_rfl
    simp only [Lit.wf,e1,e2,Bool.and_eq_true,decide_eq_true_eq] at hwf
    omega
   have h0:=hat 0 (by omega)
   refine⟨z.toNat,?_,by rw [BB_val];omega⟩
   rw [Int.toNat_of_nonneg hwf'.1]
   simpa [Addr.add] using h0
  have choose: ∀len:Nat,(∀ i,i<len→ ∃z:Nat,w.cell? (a.add i)=some (.int .u64 (z:Int))∧z<BB)→ ∃L:List Nat,L.length=len∧ ∀i,i<len→w.cell? (a.add i)=some (.int .u64 ((L[i]?.getD 0:Nat):Int))∧L[i]?.getD 0<BB:=by
   intro len
   induction len with
   |zero=>exact fun _=>⟨[],rfl,fun i hi=>by omega⟩
   |succ len ih=>
    intro key
    obtain⟨L,hL,hall⟩:=ih (fun i hi=>key i (by omega))
    obtain⟨z,hz⟩:=key len (by omega)
    refine⟨L++[z],by simp [hL],fun i hi=>?_⟩
    by_cases e:i=len
    ·subst e
     rw [List.getElem?_append_right (by omega),hL]
     simpa using hz
    ·rw [List.getElem?_append_left (by omega)]
     exact hall i (by omega)
  obtain⟨L,hL,hall⟩:=choose len key
  refine⟨some a,cap,L,by rw [hL],by omega,hcm,fun k hk=>?_,fun x hx=>?_⟩
  ·have h0:=(hall k (by omega)).1
   obtain⟨b,o,sp⟩:=a
   obtain rfl:sp=none:=by
    have h1:=(hall 0 (by omega)).1
    simpa [Addr.add] using World.cell?_spot h1
   refine⟨b,o,rfl,?_⟩
   rwa [addr_plus] at h0
  ·obtain⟨i,hi,rfl⟩:=List.getElem_of_mem hx
   have:=(hall i (by omega)).2
   rwa [List.getElem?_eq_getElem hi] at this
end Go.Proofs.YtigpnopeacicpaaGreatDoor
namespace Go.Proofs.YtigpnopeacicpaaGreatDoor
open Go.ChangeShapes Go.WideShapes Go.ChangeAt Go.RowKit Go.Deep Go.Joins
theorem Tryz.cells24:Tryz.prog.cellsOf 24=3:=by kernel_rfl
set_option maxRecDepth 100000 in
theorem num_in {H:Type} {enc:TypeId×Value→H} {w:World} {base:Nat} {spare:Nat→Bool} {held:Bool} {r:Reach} {b0:Nat} {v:Value} {d:DataW H} {p:List MemPlace} (hv:Value.okWide Tryz.prog w r b0 24 v) (h:DataW.Trod enc Tryz.prog w base spare held 24 v d p):
  ∃n a L c e,v= .agg #[.bool n,.slice a (List.length L) c,.int .i64 e]∧LimbsIn w a L∧List.length L≤c∧c≤maxLen∧(-9223372036854775808≤e∧e≤9223372036854775807):=by
 obtain⟨c0,c1,c2,y0,y1,y2,m,rfl,-,-,hy0,hy1,hy2⟩:=open_agg3 Tryz.underlying24 (by kernel_rfl) Tryz.cells24 hv h
 obtain⟨n,e0,-⟩:=DataW.trod_bool Tryz.underlying4 hy0
 obtain⟨a,c,L,e1,g1,g2,hin⟩:=limbs_in Tryz.underlying22 hy1
 obtain⟨z,e2,-,hwf⟩:=DataW.trod_int Tryz.underlying3 hy2
 simp only [List.cons.injEq,and_true] at e0 e1 e2
 subst e0 e1 e2
 have k1:IntKind.i64.min= -9223372036854775808:=by kernel_rfl
 have k2:IntKind.i64.max=9223372036854775807:=by kernel_rfl
 simp only [Lit.wf,k1,k2,Bool.and_eq_true,decide_eq_true_eq] at hwf
 exact⟨n,a,L,c,z,rfl,hin,g1,g2,hwf⟩
theorem trod_array4c3 {H:Type} {enc:TypeId×Value→H} {P:Program} {w:World} {base:Nat} {spare:Nat→Bool} {held:Bool} {t e:TypeId} {fuel:Nat} {a0 a1 a2 b0 b1 b2 c0 c1 c2 d0 d1 d2:Value} {x:DataW H×List MemPlace} (ht:P.underlying t=some (.array 4 e)) (hce:P.cellsOf e=3)
  (h:DataW.trod enc P w base spare held fuel t [a0,a1,a2,b0,b1,b2,c0,c1,c2,d0,d1,d2]=some x):
  ∃y0 y1 y2 y3 n,x=(.agg [y0.1,y1.1,y2.1,y3.1],y0.2++(y1.2++(y2.2++y3.2)))∧DataW.trod enc P w base spare held n e [a0,a1,a2]=some y0∧DataW.trod enc P w base spare held n e [b0,b1,b2]=some y1∧DataW.trod enc P w base spare held n e [c0,c1,c2]=some y2∧DataW.trod enc P w base spare held n e [d0,d1,d2]=some y3:=by
 cases fuel with
 |zero=>simp [DataW.trod] at h
 |succ n=>
  unfold DataW.trod at h
  rw [ht] at h
  have r4:List.range 4=[0,1,2,3]:=rfl
  simp [r4,hce] at h
  obtain⟨_,h⟩:=h
  cases h0:DataW.trod enc P w base spare held n e [a0,a1,a2] with
  |none=>simp [h0] at h
  |some y0=>
   cases h1:DataW.trod enc P w base spare held n e [b0,b1,b2] with
   |none=>simp [h0,h1] at h
   |some y1=>
    cases h2:DataW.trod enc P w base spare held n e [c0,c1,c2] with
    |none=>simp [h0,h1,h2] at h
    |some y2=>
     cases h3:DataW.trod enc P w base spare held n e [d0,d1,d2] with
     |none=>simp [h0,h1,h2,h3] at h
     |some y3=>
      simp [h0,h1,h2,h3] at h
      exact⟨y0,y1,y2,y3,n,h.symm,h0,h1,h2,h3⟩
def NumIn4 (w:World) (a:Option Addr) (L:List Nat) (c:Nat) (e:Int):Prop:=LimbsIn w a L∧L.length≤c∧c≤maxLen∧ -9223372036854775808≤e∧e≤9223372036854775807
theorem trod_struct3_one {H:Type} {enc:TypeId×Value→H} {P:Program} {w:World} {base:Nat} {spare:Nat→Bool} {held:Bool} {t:TypeId} {f0 f1 f2:Field} {fuel:Nat} {c0 c1 c2:Value} {x:DataW H×List MemPlace} (hs:P.underlying t=some (.struct #[f0,f1,f2])) (hone:oneCellFields P #[f0,f1,f2]=true)
  (hf:DataW.trod enc P w base spare held fuel t [c0,c1,c2]=some x):
  ∃y0 y1 y2 n,DataW.trod enc P w base spare held n f0.type [c0]=some y0∧DataW.trod enc P w base spare held n f1.type [c1]=some y1∧DataW.trod enc P w base spare held n f2.type [c2]=some y2:=by
 obtain⟨y0,y1,y2,n,-,-,h0,h1,h2⟩:=trod_struct3 hs hf
 obtain⟨o0,k0⟩:=hone_of hone 0 f0 rfl
 obtain⟨o1,k1⟩:=hone_of hone 1 f1 rfl
 obtain⟨o2,k2⟩:=hone_of hone 2 f2 rfl
 exact⟨y0,y1,y2,n,by simpa [o0,k0] using h0,by simpa [o1,k1] using h1,by simpa [o2,k2] using h2⟩
set_option maxRecDepth 100000 in
theorem num_trod {H:Type} {enc:TypeId×Value→H} {w:World} {base:Nat} {spare:Nat→Bool} {held:Bool} {fuel:Nat} {c0 c1 c2:Value} {y:DataW H×List MemPlace} (h:DataW.trod enc Tryz.prog w base spare held fuel 24 [c0,c1,c2]=some y):
  ∃n a L c e,c0= .bool n∧c1= .slice a (List.length L) c∧c2= .int .i64 e∧NumIn4 w a L c e:=by
 obtain⟨y0,y1,y2,m,hy0,hy1,hy2⟩:=trod_struct3_one Tryz.underlying24 (by kernel_rfl) h
 obtain⟨n,e0,-⟩:=DataW.trod_bool Tryz.underlying4 hy0
 obtain⟨a,c,L,e1,g1,g2,hin⟩:=limbs_in Tryz.underlying22 hy1
 obtain⟨z,e2,-,hwf⟩:=DataW.trod_int Tryz.underlying3 hy2
 simp only [List.cons.injEq,and_true] at e0 e1 e2
 have k1:IntKind.i64.min= -9223372036854775808:=by kernel_rfl
 have k2:IntKind.i64.max=9223372036854775807:=by kernel_rfl
 simp only [Lit.wf,k1,k2,Bool.and_eq_true,decide_eq_true_eq] at hwf
 exact⟨n,a,L,c,z,e0,e1,e2,hin,g1,g2,hwf.1,hwf.2⟩
theorem array_twelve {α:Type} {cs:Array α} (h:cs.size=12): ∃a b c d e f g i j k l m,cs= #[a,b,c,d,e,f,g,i,j,k,l,m]:=by
 obtain⟨l⟩:=cs
 rcases l with _|⟨a,_|⟨b,_|⟨c,_|⟨d,_|⟨e,_|⟨f,_|⟨g,_|⟨i,_|⟨j,_|⟨k,_|⟨l,_|⟨m,_|⟨n,t⟩⟩⟩⟩⟩⟩⟩⟩⟩⟩⟩⟩⟩<;>simp at h
 exact⟨_,_,_,_,_,_,_,_,_,_,_,_,rfl⟩
set_option maxRecDepth 100000 in
theorem nums4_in {H:Type} {enc:TypeId×Value→H} {w:World} {base:Nat} {spare:Nat→Bool} {held:Bool} {r:Reach} {b0:Nat} {v:Value} {d:DataW H} {p:List MemPlace} (hv:Value.okWide Tryz.prog w r b0 25 v) (h:DataW.Trod enc Tryz.prog w base spare held 25 v d p):
  ∃n0 a0 L0 c0 e0 n1 a1 L1 c1 e1 n2 a2 L2 c2 e2 n3 a3 L3 c3 e3,v= .agg #[.bool n0,.slice a0 (List.length L0) c0,.int .i64 e0,.bool n1,.slice a1 (List.length L1) c1,.int .i64 e1,.bool n2,.slice a2 (List.length L2) c2,.int .i64 e2,.bool n3,.slice a3 (List.length L3) c3,.int .i64 e3]∧
   NumIn4 w a0 L0 c0 e0∧NumIn4 w a1 L1 c1 e1∧NumIn4 w a2 L2 c2 e2∧NumIn4 w a3 L3 c3 e3:=by
 obtain⟨cs,rfl,hsz,_⟩: ∃cs,v= .agg cs∧cs.size=Tryz.prog.cellsOf 25∧Row.okWide Tryz.prog w r b0 25 cs:=by simpa [Value.okWide,Tryz.underlying25] using hv
 rw [show Tryz.prog.cellsOf 25=12 by kernel_rfl] at hsz
 obtain⟨x0,x1,x2,x3,x4,x5,x6,x7,x8,x9,x10,x11,rfl⟩:=array_twelve hsz
 obtain⟨fuel,hf⟩:=h
 obtain⟨y0,y1,y2,y3,m,-,hy0,hy1,hy2,hy3⟩:=trod_array4c3 Tryz.underlying25 (by kernel_rfl) hf
 obtain⟨n0,a0,L0,c0,e0,q0,q1,q2,g0⟩:=num_trod hy0
 subst q0 q1 q2
 obtain⟨n1,a1,L1,c1,e1,q0,q1,q2,g1⟩:=num_trod hy1
 subst q0 q1 q2
 obtain⟨n2,a2,L2,c2,e2,q0,q1,q2,g2⟩:=num_trod hy2
 subst q0 q1 q2
 obtain⟨n3,a3,L3,c3,e3,q0,q1,q2,g3⟩:=num_trod hy3
 subst q0 q1 q2
 exact⟨n0,a0,L0,c0,e0,n1,a1,L1,c1,e1,n2,a2,L2,c2,e2,n3,a3,L3,c3,e3,rfl,g0,g1,g2,g3⟩
end Go.Proofs.YtigpnopeacicpaaGreatDoor
