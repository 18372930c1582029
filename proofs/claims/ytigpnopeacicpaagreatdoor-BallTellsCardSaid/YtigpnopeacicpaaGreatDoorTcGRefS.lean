import Derived.Test.YtigpnopeacicpaaGreatDoorTcGRef
import Derived.Test.YtigpnopeacicpaaGreatDoorTcGPars
import Derived.Laws.MakeOwn
import Derived.Test.YtigpnopeacicpaaGreatDoorTcJ7
namespace Go.Proofs.YtigpnopeacicpaaGreatDoor
open Go.Lib (hid)
open Go.RowKit
theorem LRead.lt {w:World} {A:Option Addr} {xs:List Nat} (h:LRead w A xs) (h0:0<xs.length): ∀a,A=some a→a.block<w.heap.size:=by
 obtain⟨b,o,rfl,hc⟩:=h 0 h0
 rintro a ha
 injection ha with ha
 subst ha
 exact World.block_lt_of_cell? w _ hc
theorem rmul_v {w:World} {a b:Value} {m n:Nat} (ha:Hid (RV w a m)) (hb:Hid (RV w b n)) (hfa:Hid (Few m)) (hfb:Hid (Few n)):Calls Tryz.prog 98 #[a,b] w (RPost (m*n) w):=by
 obtain⟨A,c,rfl,h1,h2⟩:=ha.out
 obtain⟨B,d,rfl,k1,k2⟩:=hb.out
 have:=hfa.out.digits
 have:=hfb.out.digits
 have h:=rmul_any A B _ _ c d (R.limbsOf m) (R.limbsOf n) w (hid h1) (hid k1) (hid (R.limb_limbsOf m)) (hid (R.limb_limbsOf n)) (hid rfl) (hid rfl) (by omega) (hid (fun a h h0=>h1.lt h0 a h)) (hid (fun a h h0=>k1.lt h0 a h))
 rw [R.val_limbsOf,R.val_limbsOf] at h
 exact h
theorem rsmall_lit (v:Nat) (z:Int) (w:World) (hv:Hid (v<BB)) (hz:Hid ((v:Int)=z)):Calls Tryz.prog 112 #[.int .u64 z] w (RPost v w):=by
 have h:=rsmall_any v w hv
 rw [hz.out] at h
 exact h
theorem make_cap (T:TypeId) (hT:Tryz.prog.underlying T=some (.slice 133)) (w:World) (l c:Nat) (hl:l≤c) (hn:(c:Int)≤16000000): ∃w',(Instr.makeSlice T (.int .i64 (l:Int)) (.int .i64 (c:Int))).run Tryz.prog w= .ok (.slice (some ⟨w.heap.size,0,none⟩) l c) w'∧
  LimbsAt w' (.slice (some ⟨w.heap.size,0,none⟩) l c) (List.replicate l 0)∧Only [] w w':=by
 obtain⟨i0,hi,hz0,hz1,hz2⟩:=u64_parts
 have hrun:=run_make (P:=Tryz.prog) w T 133 i0 _ hT hi hz0 .i64 .i64 (l:Int) (c:Int) (by omega) (by omega) (by rw [hz2];omega) (by omega)
 rw [Int.toNat_natCast,Int.toNat_natCast] at hrun
 refine⟨_,hrun,?_,(Only.refl [] w).alloc _⟩
 have hcells:madeCells (Value.int IntKind.u64 0).cells (c*i0.size)=(limbV (List.replicate l 0)++limbV (List.replicate (c-l) 0)).toArray:=by
  have e:(Value.int IntKind.u64 0).cells= #[.int .u64 0]:=rfl
  rw [limbV_zeros,limbV_zeros,List.replicate_append_replicate,show l+(c-l)=c by omega]
  apply Array.ext'
  simp only [madeCells,e,hz1]
  simp [Nat.mod_one]
  apply List.ext_getElem<;>simp
 have hb:=heap_alloc_new w (.cells (madeCells (Value.int IntKind.u64 0).cells (c*i0.size)) 133)
 rw [hcells] at hb
 have:=LimbsAt.of_row (w:=w.alloc (.cells (limbV (List.replicate l 0)++limbV (List.replicate (c-l) 0)).toArray 133)) (g:=w.heap.size) (c:=c) (xs:=List.replicate l 0) (tl:=limbV (List.replicate (c-l) 0)) hb (by rw [List.length_replicate,limbV_len,List.length_replicate];omega) (by simp only [maxLen];omega)
 rw [List.length_replicate] at this
 rw [hcells]
 exact this
structure UCar (w wr:World) (A':Option Addr) (c' s r:Nat) (xs os:List Nat) (k cy:Nat):Prop where
 at_:LimbsAt wr (.slice A' (s+k) c') os
 len:os.length=s+k
 limb:R.Limb os
 cyl:cy<R.BB
 val_:R.val os+R.BB^(s+k)*cy=R.BB^s*(R.val (xs.take k)*2^r)
 fresh: ∀g,(Value.slice A' (s+k) c').ownBlock=some g→w.heap.size≤g
 only:Only [] w wr
theorem UCar.step {w wr:World} {A':Option Addr} {c' s r:Nat} {xs os:List Nat} {k cy t:Nat} (h:UCar w wr A' c' s r xs os k cy) (hk:k<xs.length) (ht:t=xs[k]?.getD 0*2^r+cy) (hb:t<R.BB*R.BB) (w4:World) (g' c2:Nat)
  (h1:LimbsAt w4 (.slice (some ⟨g',0,none⟩) (s+k+1) c2) (os++[t%R.BB])) (h2:(Value.slice A' (s+k) c').ownBlock=some g'∨(wr.alloc (Obj.cells (limbV [t%R.BB]).toArray 133)).heap.size≤g') (h3:Only (Value.slice A' (s+k) c').ownBlock.toList (wr.alloc (Obj.cells (limbV [t%R.BB]).toArray 133)) w4):
  UCar w w4 (some ⟨g',0,none⟩) c2 s r xs (os++[t%R.BB]) (k+1) (t/R.BB):=by
 have hl:=h.len
 refine⟨h1,by rw [List.length_append,hl];rfl,h.limb.append (R.limb_one (Nat.mod_lt _ R.BB_pos)),by rwa [Nat.div_lt_iff_lt_mul R.BB_pos],?_,fresh_app h.only h.fresh ((Only.refl [] wr).alloc _) h2,frame_app h.only h.fresh ((Only.refl [] wr).alloc _) h3⟩
 rw [R.val_snoc,hl,R.val_take_succ xs k hk,←Nat.add_assoc s k 1,Nat.pow_succ,Nat.mul_assoc,Nat.add_assoc,←Nat.mul_add,Nat.mod_add_div,ht,Nat.add_mul,Nat.mul_add,Nat.mul_add]
 have:=h.val_
 rw [Nat.pow_add,Nat.mul_assoc (R.BB^s),Nat.mul_assoc (R.BB^s)] at*
 rw [Nat.mul_assoc (R.BB^k)]
 omega
def RPostC (n:Nat) (w:World) (e:Ending) (w':World):Prop:= ∃A k,e= .returned (.slice A k k)∧RV w' (.slice A k k) n∧(∀ a,A=some a→w.heap.size≤a.block)∧Only [] w w'
theorem RPostC.loose {n:Nat} {w:World} {e:Ending} {w':World} (h:RPostC n w e w'):RPost n w e w':=by
 obtain⟨A,k,h1,h2⟩:=h
 exact⟨A,k,k,h1,h2⟩
set_option maxHeartbeats 1600000 in
set_option maxRecDepth 100000 in
theorem rshl_any (A:Option Addr) (m c n s r:Nat) (xs:List Nat) (w:World) (hA:Hid (LRead w A xs)) (hx:Hid (R.Limb xs)) (hm:Hid (m=xs.length)) (hn:Hid (n=s*32+r)) (hr:Hid (r<32)) (hml:(m:Int)≤3000000) (hsl:(s:Int)≤3000000):
  Calls Tryz.prog 91 #[.slice A m c,.int .i64 (n:Int)] w (RPostC (R.val xs*2^n) w):=by
 have hq2:(n:Int)/32=(s:Int):=by have:=hn.out;have:=hr.out;omega
 have hq4:(n:Int)%32=(r:Int):=by have:=hn.out;have:=hr.out;omega
 have hq1:(n:Int).tdiv 32=(s:Int):=by rw [Int.tdiv_eq_ediv_of_nonneg (by omega)];exact hq2
 have hq3:(n:Int).tmod 32=(r:Int):=by rw [Int.tmod_eq_emod_of_nonneg (by omega)];exact hq4
 by_cases h0:m=0
 ·subst h0
  have hv:Hid (R.val xs=0):=by
   have:xs=[]:=List.eq_nil_of_length_eq_zero hm.out.symm
   show _=_
   rw [this]
   rfl
  go_enter Tryz.func91,Tryz.ntmps91
  go_wp2_with fail
  go_ret
  exact⟨none,0,rfl,by rw [hv.out,Nat.zero_mul];exact RV.nil w,(fun a ha=>by cases ha),Only.refl _ _⟩
 ·have h0i:((m:Int) == 0)=false:=by rw [beq_eq_false_iff_ne];omega
  obtain⟨w2,hmk,hat,ho2⟩:=make_cap 36 Tryz.underlying36 w s (s+m+1) (by omega) (by omega)
  rw [show ((s+m+1:Nat):Int)=(s:Int)+(m:Int)+1 by omega] at hmk
  obtain⟨g,hg⟩: ∃g,w.heap.size=g:=⟨_,rfl⟩
  rw [hg] at hmk hat
  have HStart:Hid (UCar w w2 (some ⟨g,0,none⟩) (s+m+1) s r xs (List.replicate s 0) 0 0):=⟨hat,by simp,R.Limb.zeros _,R.BB_pos,by rw [R.val_zeros];simp [R.val],fun g' h=>by simp [Value.ownBlock] at h;omega,ho2⟩
  clear h0 hat ho2 hg
  go_enter Tryz.func91,Tryz.ntmps91
  go_wp2_with fail
  go_loopw [5,6,7] (fun ov cv i wr=> ∃(k cy k1:Nat) (os:List Nat) (A':Option Addr) (c':Nat),k≤m∧k1=s+k∧ov= .slice A' k1 c'∧cv= .int .u64 (cy:Int)∧i= .int .i64 (k:Int)∧UCar w wr A' c' s r xs os k cy) (fun _ _ i _=>m-(intOf i).toNat)
  case atStart=>exact⟨0,0,s,_,_,_,Nat.zero_le _,rfl,rfl,rfl,rfl,HStart.out⟩
  case round=>
   obtain⟨k,cy,k1,os,A',c',hk,hk1,rfl,rfl,rfl,hR⟩:=hrel
   have HR:=hid hR
   have HK1:=hid hk1
   have hk1i:(k1:Int)≤6000000:=by omega
   have HAt:Hid (LimbsAt wr (.slice A' k1 c') os):=by show LimbsAt _ _ _;rw [HK1.out];exact HR.out.at_
   have HLn:Hid (k1=os.length):=by show _=_;rw [HK1.out];exact HR.out.len.symm
   clear hR HStart hk1
   by_cases hlt:k<m
   ·obtain⟨b,o,rfl,e1⟩:=hA.out k (by have:=hm.out;omega)
    have p0:=HR.out.only.cell e1 (by simp)
    have hki:(k:Int)<(m:Int):=by omega
    have HX:=hid (hx.out.get k)
    have HPow:Hid (2^r≤2147483648):=by
     have:2^r≤2^31:=Nat.pow_le_pow_right (by omega) (by have:=hr.out;omega)
     exact this
    have HStep:Hid (∀ t,t=xs[k]?.getD 0*2^r+cy→t<R.BB*R.BB→_):=fun t h1 h2=>HR.out.step (by have:=hm.out;omega) h1 h2
    have HCy:=hid HR.out.cyl
    generalize xs[k]?.getD 0=x at p0 HX HStep
    have hx2:x*2^r≤4294967295*2147483648:=Nat.mul_le_mul (by have:=HX.out;rw [R.BB_val] at this;omega) HPow.out
    obtain⟨a,ha⟩: ∃a,x*2^r=a:=⟨_,rfl⟩
    rw [ha] at hx2 HStep
    have hw1:IntKind.u64.wrap ((x:Int)*2^r)=(a:Int):=by
     rw [show (x:Int)*2^r=((x*2^r:Nat):Int) by simp,ha]
     exact u64_wrap (by rw [BB_val];omega)
    obtain⟨t,ht⟩: ∃t,a+cy=t:=⟨_,rfl⟩
    have htb:t<BB:=by have:=HCy.out;rw [R.BB_val] at this;rw [BB_val];omega
    have hw2:IntKind.u64.wrap ((a:Int)+(cy:Int))=(t:Int):=u64_add ht htb
    have hr1:(t:Int)%4294967296=((t%R.BB:Nat):Int):=by rw [R.BB_val];omega
    have hr2:(t:Int)/4294967296=((t/R.BB:Nat):Int):=by rw [R.BB_val];omega
    have hr3:(t:Int).tmod 4294967296=((t%R.BB:Nat):Int):=by rw [Int.tmod_eq_emod_of_nonneg (by omega)];exact hr1
    have hr4:(t:Int).tdiv 4294967296=((t/R.BB:Nat):Int):=by rw [Int.tdiv_eq_ediv_of_nonneg (by omega)];exact hr2
    have hw5:IntKind.u64.wrap ((t/R.BB:Nat):Int)=((t/R.BB:Nat):Int):=u64_wrap (Nat.lt_of_le_of_lt (Nat.div_le_self _ _) htb)
    have hw6:IntKind.u64.wrap ((t%R.BB:Nat):Int)=((t%R.BB:Nat):Int):=u64_wrap (Nat.lt_of_le_of_lt (Nat.mod_le _ _) htb)
    have HS2:=hid (HStep.out t ht.symm (by rw [← R.bb_sq];exact htb))
    generalize t%R.BB=d at*
    generalize t/R.BB=cz at*
    clear hlt e1 hx2 ha ht htb HStep
    go_wp2_with (at_builtin;refine append_limbs 36 Tryz.underlying36 rfl _ _ rfl (.slice A' k1 c') k1 os [d] rfl (HAt.out.only ((Only.refl [] wr).alloc _) (by simp)) HLn.out wr.heap.size 1 rfl rfl (by simp) (Blk.new wr 133 (limbV [d])) (by omega) ?_;intro g' c2 w4 h1 h2 h3;rw [HK1.out] at h1 h2 h3;have HS4:=hid (HS2.out _ _ _ h1 h2 h3);clear h1 h2 h3)
    go_wp2_with fail
    go_roundw
    case rel=>exact⟨k+1,cz,k1+1,_,_,_,by omega,by rw [HK1.out];rfl,rfl,rfl,by go_num,HS4.out⟩
    case measure=>simp [intOf];omega
   ·obtain rfl:k=m:=by omega
    have hnl: ¬(k:Int)<(k:Int):=by omega
    clear hlt
    go_wp2_with (at_builtin;refine append_limbs 36 Tryz.underlying36 rfl _ _ rfl (.slice A' k1 c') k1 os [cy] rfl (HAt.out.only ((Only.refl [] wr).alloc _) (by simp)) HLn.out wr.heap.size 1 rfl rfl (by simp) (Blk.new wr 133 (limbV [cy])) (by omega) ?_;intro g' c2 w4 h1 h2 h3;have HA4:=hid h1;have HF4:=hid h2;have HO4:=hid h3;clear h1 h2 h3)
    have HV:Hid (R.val (os++[cy])=R.val xs*2^n):=by
     have h:=HR.out.val_
     rw [show xs.take k=xs by rw [hm.out];exact R.val_take_all xs] at h
     show _=_
     rw [R.val_snoc,HR.out.len,h,hn.out,Nat.pow_add,Nat.mul_comm s,Nat.pow_mul,←R.BB_pow,Nat.mul_left_comm]
    have HL2:Hid (k1+1=(os++[cy]).length):=by show _=_;rw [List.length_append,←HLn.out];rfl
    have HLb:Hid (R.Limb (os++[cy])):=HR.out.limb.append (R.limb_one HR.out.cyl)
    have HRd:Hid (LRead w4 (some ⟨g',0,none⟩) (os++[cy])):=(LimbsAt.read HA4.out).2
    have htr:=rtrim_any (some ⟨g',0,none⟩) (k1+1) c2 (os++[cy]) w4 HRd HLb HL2 (by obtain⟨_,_,h3,_,h4⟩:=HA4.out.row;have:=HL2.out;omega) (by omega)
    rw [HV.out] at htr
    have HTr:=hid htr
    clear htr
    go_wp2_with fail
    refine HTr.out.mono ?_
    rintro e w' ⟨rfl,rfl⟩
    go_wp2_with fail
    go_ret
    have h2:=RV.of_row HRd.out HLb.out
    rw [HV.out] at h2
    have h3:=HO4.out
    have h4:=HF4.out
    rw [HK1.out] at h3 h4
    exact⟨_,_,rfl,⟨_,_,rfl,h2,Nat.le_refl _⟩,fun a ha=>by injection ha with ha;subst ha;exact fresh_app (n:=0) (c:=0) HR.out.only HR.out.fresh ((Only.refl [] wr).alloc _) h4 _ rfl,frame_app HR.out.only HR.out.fresh ((Only.refl [] wr).alloc _) h3⟩
def rshrD (r:Nat) (xs:List Nat) (j:Nat):Nat:=xs[j]?.getD 0/2^r+(xs[j+1]?.getD 0*2^(32-r))%R.BB
def rshrL (r:Nat):List Nat→List Nat
 |[]=>[]
 |x::xs=>(x/2^r+(xs[0]?.getD 0*2^(32-r))%R.BB)::rshrL r xs
theorem rshrL_len (r:Nat): ∀xs:List Nat,(rshrL r xs).length=xs.length
 |[]=>rfl
 |x::xs=>by rw [rshrL,List.length_cons,rshrL_len r xs,List.length_cons]
theorem rshrL_get (r:Nat): ∀(xs:List Nat) (j:Nat),j<xs.length→(rshrL r xs)[j]?.getD 0=rshrD r xs j
 |[],j,h=>by simp at h
 |x::xs,0,_=>by simp [rshrL,rshrD]
 |x::xs,j+1,h=>by
  rw [rshrL,List.getElem?_cons_succ,rshrL_get r xs j (by simpa using h)]
  simp [rshrD]
theorem R.val_head (xs:List Nat) (hx:R.Limb xs):R.val xs%R.BB=xs[0]?.getD 0:=by
 cases xs with
 |nil=>simp [R.val]
 |cons x xs=>
  rw [R.val,Nat.add_mul_mod_self_left,Nat.mod_eq_of_lt (hx x (by simp))]
  rfl
theorem two_split {r:Nat} (hr:r<32):(2:Nat)^r*2^(32-r)=R.BB:=by rw [← Nat.pow_add,R.BB_pow];congr 1;omega
theorem rshrD_lt {r x y:Nat} (hr:r<32) (hx:x<R.BB):x/2^r+(y*2^(32-r))%R.BB<R.BB:=by
 have hp:0<2^r:=Nat.pow_pos (by omega)
 have hsp:=two_split hr
 have hx2:x/2^r<2^(32-r):=by
  rw [Nat.div_lt_iff_lt_mul hp,Nat.mul_comm,hsp]
  exact hx
 have hm:=Nat.mod_lt y hp
 have hm2:(y%2^r+1)*2^(32-r)≤2^r*2^(32-r):=Nat.mul_le_mul_right _ hm
 rw [hsp,Nat.add_mul,Nat.one_mul] at hm2
 have hy2:y*2^(32-r)%R.BB=y%2^r*2^(32-r):=by rw [← hsp,Nat.mul_mod_mul_right]
 omega
theorem rshrL_limb {r:Nat} (hr:r<32): ∀{xs:List Nat},R.Limb xs→R.Limb (rshrL r xs)
 |[],_=>R.limb_nil
 |x::xs,h=>fun d hd=>by
  rcases List.mem_cons.1 hd with rfl|hd
  ·exact rshrD_lt hr (h x (by simp))
  ·exact rshrL_limb hr h.tail d hd
theorem rshrL_val {r:Nat} (hr:r<32): ∀{xs:List Nat},R.Limb xs→R.val (rshrL r xs)=R.val xs/2^r
  | [],_=>by simp [rshrL,R.val]
  | x::xs,h=>by
    have hp:0<2^r:=Nat.pow_pos (by omega)
    have hsp:=two_split hr
    rw [rshrL,R.val,rshrL_val hr h.tail,R.val,←R.val_head xs h.tail]
    have e1:(x+R.BB*R.val xs)/2^r=x/2^r+2^(32-r)*R.val xs:=by
      rw [← hsp,Nat.mul_assoc,Nat.add_mul_div_left _ _ hp]
    have e2:R.val xs%R.BB*2^(32-r)%R.BB=R.val xs%2^r*2^(32-r):=by
      rw [Nat.mod_mul_mod,←hsp,Nat.mul_mod_mul_right]
    rw [e1,e2,←hsp,Nat.add_assoc]
    congr 1
    have h3:=Nat.mod_add_div (R.val xs) (2^r)
    calc R.val xs%2^r*2^(32-r)+2^r*2^(32-r)*(R.val xs/2^r)=2^(32-r)*(R.val xs%2^r+2^r*(R.val xs/2^r)):=by
          rw [Nat.mul_add,Nat.mul_comm (R.val xs%2^r),Nat.mul_comm (2^r) (2^(32-r)),Nat.mul_assoc]
      _=2^(32-r)*R.val xs:=by rw [h3]
theorem shr_drop {xs:List Nat} (hx:R.Limb xs) (s r:Nat):R.val (xs.drop s)/2^r=R.val xs/2^(s*32+r):=by
 have e:R.val xs/R.BB^s=R.val (xs.drop s):=by
  by_cases h:s≤xs.length
  ·have h1:=R.val_take_drop xs s h
   have h2:=R.val_lt (hx.take s)
   rw [List.length_take,Nat.min_eq_left h] at h2
   rw [h1,Nat.add_mul_div_left _ _ (R.BB_pow_pos s),Nat.div_eq_of_lt h2,Nat.zero_add]
  ·rw [List.drop_eq_nil_of_le (by omega),Nat.div_eq_of_lt (Nat.lt_of_lt_of_le (R.val_lt hx) (Nat.pow_le_pow_right R.BB_pos (by omega)))]
   rfl
 rw [Nat.pow_add,Nat.mul_comm s,Nat.pow_mul,←R.BB_pow,←Nat.div_div_eq_div_mul,e]
structure DCar (w wr:World) (A':Option Addr) (c' s r:Nat) (xs os:List Nat) (k:Nat):Prop where
 at_:LimbsAt wr (.slice A' k c') os
 eq:os=(rshrL r (xs.drop s)).take k
 fresh: ∀g,(Value.slice A' k c').ownBlock=some g→w.heap.size≤g
 only:Only [] w wr
set_option maxHeartbeats 1600000 in
set_option maxRecDepth 100000 in
theorem rshr_any (A:Option Addr) (m c n s r:Nat) (xs:List Nat) (w:World) (hA:Hid (LRead w A xs)) (hx:Hid (R.Limb xs)) (hm:Hid (m=xs.length)) (hn:Hid (n=s*32+r)) (hr:Hid (r<32)) (hml:(m:Int)≤3000000) (hsl:(s:Int)≤3000000):
  Calls Tryz.prog 102 #[.slice A m c,.int .i64 (n:Int)] w (RPost (R.val xs/2^n) w):=by
 have hq2:(n:Int)/32=(s:Int):=by have:=hn.out;have:=hr.out;omega
 have hq4:(n:Int)%32=(r:Int):=by have:=hn.out;have:=hr.out;omega
 have hq1:(n:Int).tdiv 32=(s:Int):=by rw [Int.tdiv_eq_ediv_of_nonneg (by omega)];exact hq2
 have hq3:(n:Int).tmod 32=(r:Int):=by rw [Int.tmod_eq_emod_of_nonneg (by omega)];exact hq4
 obtain⟨q,hq⟩: ∃q,32-r=q:=⟨_,rfl⟩
 have hqi:(32:Int)-(r:Int)=(q:Int):=by have:=hr.out;omega
 have HQ:=hid hq
 have hql:(q:Int)≤32:=by omega
 clear hq
 have HStart:Hid (DCar w w none 0 s r xs [] 0):=⟨limbsAt_nil _,by simp,by simp [Value.ownBlock],Only.refl _ _⟩
 go_enter Tryz.func102,Tryz.ntmps102
 go_wp2_with fail
 go_loopw [5,6] (fun ov i wr=> ∃(k p:Nat) (os:List Nat) (A':Option Addr) (c':Nat),p=s+k∧(p≤m∨k=0)∧ov= .slice A' k c'∧i= .int .i64 (p:Int)∧DCar w wr A' c' s r xs os k) (fun _ i _=>m-(intOf i).toNat)
 case atStart=>exact⟨0,s,[],none,0,rfl,.inr rfl,rfl,rfl,HStart.out⟩
 case round=>
  obtain⟨k,p,os,A',c',hp,hpm,rfl,rfl,hR⟩:=hrel
  have HR:=hid hR
  have HP:Hid (p=s+k∧(p≤m∨k=0)):=⟨hp,hpm⟩
  clear hR HStart hp hpm
  by_cases hlt:p<m
  ·obtain⟨b,o,rfl,e1⟩:=hA.out p (by have:=hm.out;omega)
   have p0:=HR.out.only.cell e1 (by simp)
   have hpi:(p:Int)<(m:Int):=by omega
   have HX:=hid (hx.out.get p)
   have HD:Hid (rshrD r (xs.drop s) k=xs[p]?.getD 0/2^r+(xs[p+1]?.getD 0*2^q)%R.BB):=by
    show _=_
    unfold rshrD
    rw [List.getElem?_drop,List.getElem?_drop,HP.out.1,HQ.out]
    rfl
   have hd1:((xs[p]?.getD 0:Nat):Int)/2^r=((xs[p]?.getD 0/2^r:Nat):Int):=by simp
   have hd2:IntKind.u64.wrap ((xs[p]?.getD 0/2^r:Nat):Int)=((xs[p]?.getD 0/2^r:Nat):Int):=u64_wrap (Nat.lt_of_le_of_lt (Nat.div_le_self _ _) (by have:=HX.out;rw [R.BB_val] at this;rw [BB_val];omega))
   have HDl:Hid (xs[p]?.getD 0/2^r+(xs[p+1]?.getD 0*2^q)%R.BB<R.BB):=by
    have:=rshrD_lt (y:=xs[p+1]?.getD 0) hr.out HX.out
    rw [HQ.out] at this
    exact this
   by_cases hl2:p+1<m
   ·obtain⟨_,_,e3,h2⟩:=hA.out (p+1) (by have:=hm.out;omega)
    injection e3 with e3
    injection e3 with e3 e4 _
    subst e3 e4
    have q0:=HR.out.only.cell h2 (by simp)
    have hpi2:(p:Int)+1<(m:Int):=by omega
    have HY:=hid (hx.out.get (p+1))
    have HPow:Hid (2^q≤4294967296):=by
     have:2^q≤2^32:=Nat.pow_le_pow_right (by omega) (by omega)
     exact this
    generalize xs[p]?.getD 0=x at p0 hd1 hd2 HX HD HDl
    generalize xs[p+1]?.getD 0=y at q0 HY HD HDl
    have hy2:y*2^q≤4294967295*4294967296:=Nat.mul_le_mul (by have:=HY.out;rw [R.BB_val] at this;omega) HPow.out
    obtain⟨y1,hy1⟩: ∃y1,y*2^q=y1:=⟨_,rfl⟩
    rw [hy1] at hy2 HD HDl
    have hw1:IntKind.u64.wrap ((y:Int)*2^q)=(y1:Int):=by
     rw [show (y:Int)*2^q=((y*2^q:Nat):Int) by simp,hy1]
     exact u64_wrap (by rw [BB_val];omega)
    have hr1:(y1:Int)%4294967296=((y1%R.BB:Nat):Int):=by rw [R.BB_val];omega
    have hr3:(y1:Int).tmod 4294967296=((y1%R.BB:Nat):Int):=by rw [Int.tmod_eq_emod_of_nonneg (by omega)];exact hr1
    generalize x/2^r=x1 at*
    generalize y1%R.BB=y2 at*
    obtain⟨v,hv⟩: ∃v,x1+y2=v:=⟨_,rfl⟩
    have hvl:=HDl.out
    rw [hv,R.BB_val] at hvl
    have hw2:IntKind.u64.wrap ((x1:Int)+(y2:Int))=(v:Int):=u64_add hv (by rw [BB_val];omega)
    have hr5:(v:Int)%4294967296=(v:Int):=by omega
    have hr6:(v:Int).tmod 4294967296=(v:Int):=by rw [Int.tmod_eq_emod_of_nonneg (by omega)];exact hr5
    have HV:Hid (rshrD r (xs.drop s) k=v):=HD.out.trans hv
    have hpk:=HP.out.1
    have HPk:=hid hpk
    clear e1 h2 hy2 hy1 hv hvl hlt hl2 hpk
    have HLen:Hid (k=os.length):=by
     show _=_
     rw [HR.out.eq,List.length_take,rshrL_len,List.length_drop]
     have:=hm.out
     have:=HP.out.1
     omega
    have hki6:(k:Int)≤3000000:=by have:=HP.out.1;omega
    have HNext:Hid (os++[v]=(rshrL r (xs.drop s)).take (k+1)):=by
     have hl:k<(rshrL r (xs.drop s)).length:=by
      rw [rshrL_len,List.length_drop]
      have:=hm.out
      have:=HP.out.1
      omega
     show _=_
     rw [List.take_succ_eq_append_getElem hl,←HR.out.eq]
     have:=HV.out
     rw [← rshrL_get r _ k (by rw [rshrL_len] at hl;exact hl),List.getElem?_eq_getElem hl] at this
     rw [← this]
     rfl
    have HAt:=hid HR.out.at_
    clear HV
    go_wp2_with (at_builtin;refine append_limbs 36 Tryz.underlying36 rfl _ _ rfl (.slice A' k c') k os [v] rfl (HAt.out.only ((Only.refl [] wr).alloc _) (by simp)) HLen.out wr.heap.size 1 rfl rfl (by simp) (Blk.new wr 133 (limbV [v])) (by omega) ?_;intro g' c2 w4 h1 h2 h3;have HA4:=hid h1;have HF4:=hid h2;have HO4:=hid h3;clear h1 h2 h3)
    go_wp2_with fail
    go_roundw
    case rel=>exact⟨k+1,p+1,_,some ⟨g',0,none⟩,c2,by have:=HP.out.1;omega,by omega,rfl,by go_num,⟨HA4.out,HNext.out,fresh_app HR.out.only HR.out.fresh ((Only.refl [] wr).alloc _) HF4.out,frame_app HR.out.only HR.out.fresh ((Only.refl [] wr).alloc _) HO4.out⟩⟩
    case measure=>simp [intOf];omega
   ·have hpi2: ¬(p:Int)+1<(m:Int):=by omega
    have hz:xs[p+1]?.getD 0=0:=by rw [List.getElem?_eq_none (by have:=hm.out;omega)];rfl
    rw [hz,Nat.zero_mul,Nat.zero_mod,Nat.add_zero] at HD HDl
    generalize hgx:xs[p]?.getD 0=x at p0 hd1 hd2 HX HD HDl
    generalize x/2^r=v at*
    have hvl:=HDl.out
    rw [R.BB_val] at hvl
    have hr5:(v:Int)%4294967296=(v:Int):=by omega
    have hr6:(v:Int).tmod 4294967296=(v:Int):=by rw [Int.tmod_eq_emod_of_nonneg (by omega)];exact hr5
    have HV:Hid (rshrD r (xs.drop s) k=v):=HD.out
    have hpk:=HP.out.1
    clear e1 hz hvl hgx hlt hl2 hpk
    have HLen:Hid (k=os.length):=by
     show _=_
     rw [HR.out.eq,List.length_take,rshrL_len,List.length_drop]
     have:=hm.out
     have:=HP.out.1
     omega
    have hki6:(k:Int)≤3000000:=by have:=HP.out.1;omega
    have HNext:Hid (os++[v]=(rshrL r (xs.drop s)).take (k+1)):=by
     have hl:k<(rshrL r (xs.drop s)).length:=by
      rw [rshrL_len,List.length_drop]
      have:=hm.out
      have:=HP.out.1
      omega
     show _=_
     rw [List.take_succ_eq_append_getElem hl,←HR.out.eq]
     have:=HV.out
     rw [← rshrL_get r _ k (by rw [rshrL_len] at hl;exact hl),List.getElem?_eq_getElem hl] at this
     rw [← this]
     rfl
    have HAt:=hid HR.out.at_
    clear HV
    go_wp2_with (at_builtin;refine append_limbs 36 Tryz.underlying36 rfl _ _ rfl (.slice A' k c') k os [v] rfl (HAt.out.only ((Only.refl [] wr).alloc _) (by simp)) HLen.out wr.heap.size 1 rfl rfl (by simp) (Blk.new wr 133 (limbV [v])) (by omega) ?_;intro g' c2 w4 h1 h2 h3;have HA4:=hid h1;have HF4:=hid h2;have HO4:=hid h3;clear h1 h2 h3)
    go_wp2_with fail
    go_roundw
    case rel=>exact⟨k+1,p+1,_,some ⟨g',0,none⟩,c2,by have:=HP.out.1;omega,by omega,rfl,by go_num,⟨HA4.out,HNext.out,fresh_app HR.out.only HR.out.fresh ((Only.refl [] wr).alloc _) HF4.out,frame_app HR.out.only HR.out.fresh ((Only.refl [] wr).alloc _) HO4.out⟩⟩
    case measure=>simp [intOf];omega
  ·have hnl: ¬(p:Int)<(m:Int):=by omega
   have HAll:Hid (os=rshrL r (xs.drop s)):=by
    have h:=HR.out.eq
    rw [List.take_of_length_le (by rw [rshrL_len,List.length_drop];have:=hm.out;have:=HP.out;omega)] at h
    exact h
   have HV:Hid (R.val os=R.val xs/2^n):=by
    show _=_
    rw [HAll.out,rshrL_val hr.out (hx.out.drop s),shr_drop hx.out,hn.out]
   have HLb:Hid (R.Limb os):=by show R.Limb _;rw [HAll.out];exact rshrL_limb hr.out (hx.out.drop s)
   have HLen:Hid (k=os.length):=by
    show _=_
    rw [HR.out.eq,List.length_take,rshrL_len,List.length_drop]
    have:=hm.out
    have:=HP.out
    omega
   have HRd:Hid (LRead wr A' os):=(LimbsAt.read HR.out.at_).2
   have htr:=rtrim_any A' k c' os wr HRd HLb HLen (by
      rcases HR.out.at_.2 with⟨hv,h0⟩|⟨gp,cap,cur,hv,_,_,h5,_⟩
      ·injection hv with _ h6 h7
       omega
      ·injection hv with _ h6 h7
       omega) (by have:=HP.out;omega)
   rw [HV.out] at htr
   have HTr:=hid htr
   clear htr hlt
   go_wp2_with fail
   refine HTr.out.mono ?_
   rintro e w' ⟨rfl,rfl⟩
   go_wp2_with fail
   go_ret
   have h2:=RV.of_row HRd.out HLb.out
   rw [HV.out] at h2
   exact⟨_,_,_,rfl,⟨_,_,rfl,h2,Nat.le_refl _⟩,fun a ha=>HR.out.fresh a.block (by rw [ha];rfl),HR.out.only⟩
theorem rshl_c {w:World} {a:Value} {m:Nat} (n:Nat) (hn:(n:Int)≤90000000) (ha:Hid (RV w a m)) (hf:Hid (Few m)):Calls Tryz.prog 91 #[a,.int .i64 (n:Int)] w (RPostC (m*2^n) w):=by
 obtain⟨A,c,rfl,h1,h2⟩:=ha.out
 have:=hf.out.digits
 have h:=rshl_any A _ c n (n/32) (n%32) (R.limbsOf m) w (hid h1) (hid (R.limb_limbsOf m)) (hid rfl) (by show _=_;omega) (by show _<_;omega) (by omega) (by omega)
 rw [R.val_limbsOf] at h
 exact h
theorem rshl_v {w:World} {a:Value} {m:Nat} (n:Nat) (hn:(n:Int)≤90000000) (ha:Hid (RV w a m)) (hf:Hid (Few m)):Calls Tryz.prog 91 #[a,.int .i64 (n:Int)] w (RPost (m*2^n) w):=(rshl_c n hn ha hf).mono fun _ _ h=>h.loose
theorem rshr_v {w:World} {a:Value} {m:Nat} (n:Nat) (hn:(n:Int)≤90000000) (ha:Hid (RV w a m)) (hf:Hid (Few m)):Calls Tryz.prog 102 #[a,.int .i64 (n:Int)] w (RPost (m/2^n) w):=by
 obtain⟨A,c,rfl,h1,h2⟩:=ha.out
 have:=hf.out.digits
 have h:=rshr_any A _ c n (n/32) (n%32) (R.limbsOf m) w (hid h1) (hid (R.limb_limbsOf m)) (hid rfl) (by show _=_;omega) (by show _<_;omega) (by omega) (by omega)
 rw [R.val_limbsOf] at h
 exact h
set_option maxHeartbeats 1600000 in
theorem rcmp_any (A B:Option Addr) (n m c d:Nat) (xs ys:List Nat) (w:World) (hA:Hid (LRead w A xs)) (hB:Hid (LRead w B ys)) (hx:Hid (R.Limb xs)) (hy:Hid (R.Limb ys)) (hcx:Hid (R.Canon xs)) (hcy:Hid (R.Canon ys)) (hn:Hid (n=xs.length)) (hm:Hid (m=ys.length)) (hl1:(n:Int)≤8000000) (hl2:(m:Int)≤8000000):
  Calls Tryz.prog 97 #[.slice A n c,.slice B m d] w fun e w'=>e= .returned (.int .i64 (cmpZ (R.val xs) (R.val ys)))∧Only [] w w':=by
 have hlx:=R.limbsOf_val hx.out hcx.out
 have hly:=R.limbsOf_val hy.out hcy.out
 by_cases hlt:(n:Int)<(m:Int)
 ·have HE:Hid (cmpZ (R.val xs) (R.val ys)= -1):=cmp_le (R.cmp_len (by rw [hlx,hly];have:=hn.out;have:=hm.out;omega))
  have hne:((n:Int) != (m:Int))=true:=by simp;omega
  clear hlx hly
  go_enter Tryz.func97,Tryz.ntmps97
  go_wp2_with fail
  go_ret
  exact⟨by rw [HE.out];rfl,Only.refl _ _⟩
 ·by_cases hgt:(m:Int)<(n:Int)
  ·have HE:Hid (cmpZ (R.val xs) (R.val ys)=1):=cmp_gt (R.cmp_len (by rw [hlx,hly];have:=hn.out;have:=hm.out;omega))
   have hne:((n:Int) != (m:Int))=true:=by simp;omega
   clear hlx hly
   go_enter Tryz.func97,Tryz.ntmps97
   go_wp2_with fail
   go_ret
   exact⟨by rw [HE.out];rfl,Only.refl _ _⟩
  ·obtain rfl:n=m:=by omega
   have HLen:Hid (xs.length=ys.length):=by have:=hn.out;have:=hm.out;show _=_;omega
   have hne:((n:Int) != (n:Int))=false:=by simp
   clear hlx hly hlt hgt
   go_enter Tryz.func97,Tryz.ntmps97
   go_wp2_with fail
   go_loopw [5] (fun i wr=> ∃k:Nat,k≤n∧i= .int .i64 ((k:Int)-1)∧Only [] w wr∧xs.drop k=ys.drop k) (fun i _=>(intOf i+1).toNat)
   case atStart=>exact⟨n,Nat.le_refl _,rfl,Only.refl _ _,by rw [hn.out,List.drop_length,HLen.out,List.drop_length]⟩
   case round=>
    obtain⟨k,hk,rfl,ho,hd⟩:=hrel
    have HO:=hid ho
    have HD:=hid hd
    clear ho hd
    cases k with
    |zero=>
     have HE:Hid (cmpZ (R.val xs) (R.val ys)=0):=cmp_eq (by
      have:=HD.out
      simp only [List.drop_zero] at this
      rw [this])
     go_wp2_with fail
     go_ret
     exact⟨by rw [HE.out];rfl,HO.out⟩
    |succ m=>
     obtain⟨b,o,rfl,hc1⟩:=hA.out m (by have:=hn.out;omega)
     obtain⟨b',o',rfl,hc2⟩:=hB.out m (by have:=hn.out;have:=HLen.out;omega)
     have c1:=HO.out.cell hc1 (by simp)
     have c2:=HO.out.cell hc2 (by simp)
     have hm1:(m:Int)<(n:Int):=by omega
     rw [show ((m+1:Nat):Int)-1=(m:Int) by omega]
     clear hc1 hc2
     have HLt:Hid (xs[m]?.getD 0<ys[m]?.getD 0→R.val xs<R.val ys):=fun h=>R.cmp_at hx.out HLen.out (by have:=hn.out;omega) HD.out h
     have HGt:Hid (ys[m]?.getD 0<xs[m]?.getD 0→R.val ys<R.val xs):=fun h=>R.cmp_at hy.out HLen.out.symm (by have:=hn.out;have:=HLen.out;omega) HD.out.symm h
     have HEq:Hid (xs[m]?.getD 0=ys[m]?.getD 0→xs.drop m=ys.drop m):=fun h=>R.drop_step HLen.out (by have:=hn.out;omega) HD.out h
     generalize xs[m]?.getD 0=x at c1 HLt HGt HEq
     generalize ys[m]?.getD 0=y at c2 HLt HGt HEq
     clear HD
     rcases Nat.lt_trichotomy x y with hxy|hxy|hxy
     ·have HE:Hid (cmpZ (R.val xs) (R.val ys)= -1):=cmp_le (HLt.out hxy)
      have g1:(x:Int)<(y:Int):=by omega
      clear hxy
      go_wp2_with fail
      go_quiet (fail)
      go_wp2_with fail
      go_ret
      exact⟨by rw [HE.out];rfl,HO.out.drewN _⟩
     ·have HE:=hid (HEq.out hxy)
      subst hxy
      go_wp2_with fail
      go_quiet (fail)
      go_wp2_with fail
      go_quiet (fail)
      go_wp2_with fail
      go_roundw
      case rel=>exact⟨m,by omega,rfl,by first|exact HO.out.drewN _|exact (HO.out.drewN _).drewN _,HE.out⟩
      case measure=>simp [intOf]
     ·have HE:Hid (cmpZ (R.val xs) (R.val ys)=1):=cmp_gt (HGt.out hxy)
      have g1:(y:Int)<(x:Int):=by omega
      clear hxy
      go_wp2_with fail
      go_quiet (fail)
      go_wp2_with fail
      go_quiet (fail)
      go_wp2_with fail
      go_ret
      exact⟨by rw [HE.out];rfl,by first|exact HO.out.drewN _|exact (HO.out.drewN _).drewN _⟩
theorem rcmp_v {w:World} {a b:Value} {m n:Nat} (ha:Hid (RV w a m)) (hb:Hid (RV w b n)) (hfa:Hid (Few m)) (hfb:Hid (Few n)):Calls Tryz.prog 97 #[a,b] w fun e w'=>e= .returned (.int .i64 (cmpZ m n))∧Only [] w w':=by
 obtain⟨A,c,rfl,h1,h2⟩:=ha.out
 obtain⟨B,d,rfl,k1,k2⟩:=hb.out
 have:=hfa.out.digits
 have:=hfb.out.digits
 have h:=rcmp_any A B _ _ c d (R.limbsOf m) (R.limbsOf n) w (hid h1) (hid k1) (hid (R.limb_limbsOf m)) (hid (R.limb_limbsOf n)) (hid (R.canon_limbsOf m)) (hid (R.canon_limbsOf n)) (hid rfl) (hid rfl) (by omega) (by omega)
 rw [R.val_limbsOf,R.val_limbsOf] at h
 exact h
theorem rbits_top {xs:List Nat} {k:Nat} (hx:R.Limb xs) (hl:xs.length=k+1) (ht:xs[k]?.getD 0≠0):bitsN (R.val xs)=32*k+bitsN (xs[k]?.getD 0):=by
 have c1:=R.val_take_succ xs k (by omega)
 rw [show xs.take (k+1)=xs by rw [← hl,List.take_length]] at c1
 have c0:=R.val_lt (hx.take k)
 rw [List.length_take,Nat.min_eq_left (by omega)] at c0
 have hp:R.BB^k=2^(32*k):=by rw [R.BB_pow,←Nat.pow_mul]
 generalize xs[k]?.getD 0=t at*
 have hL:=(Nat.log2_eq_iff (k:=Nat.log2 t) ht).1 rfl
 have e:bitsN t=Nat.log2 t+1:=by unfold bitsN;rw [if_neg ht]
 have h1:2^(32*k+Nat.log2 t)≤R.val xs:=by
  rw [Nat.pow_add,←hp]
  have:=Nat.mul_le_mul_left (R.BB^k) hL.1
  omega
 have h2:R.val xs<2^(32*k+Nat.log2 t+1):=by
  rw [Nat.add_assoc,Nat.pow_add,←hp]
  have h3:R.BB^k*(t+1)≤R.BB^k*2^(Nat.log2 t+1):=Nat.mul_le_mul_left _ hL.2
  rw [Nat.mul_add] at h3
  omega
 have h0:R.val xs≠0:=by
  have:0<2^(32*k+Nat.log2 t):=Nat.pow_pos (by omega)
  omega
 rw [e]
 unfold bitsN
 rw [if_neg h0,(Nat.log2_eq_iff h0).2 ⟨h1,h2⟩]
 omega
theorem bits_half {v:Nat} (h:0<v):bitsN v=bitsN (v/2)+1:=by
 unfold bitsN
 rw [if_neg (by omega)]
 by_cases h2:v/2=0
 ·rw [if_pos h2]
  have:v=1:=by omega
  rw [this]
  rfl
 ·rw [if_neg h2]
  have h1:=(Nat.log2_eq_iff (k:=Nat.log2 (v/2)) h2).1 rfl
  have e:Nat.log2 v=Nat.log2 (v/2)+1:=by
   refine (Nat.log2_eq_iff (by omega)).2 ⟨?_,?_⟩
   ·rw [Nat.pow_succ];omega
   ·rw [Nat.pow_succ];omega
  rw [e]
set_option maxHeartbeats 800000 in
set_option maxRecDepth 100000 in
theorem rbits_any (A:Option Addr) (n c:Nat) (xs:List Nat) (w:World) (hA:Hid (LRead w A xs)) (hx:Hid (R.Limb xs)) (hcx:Hid (R.Canon xs)) (hn:Hid (n=xs.length)) (hl:(n:Int)≤8000000):
  Calls Tryz.prog 68 #[.slice A n c] w fun e w'=>e= .returned (.int .i64 (bitsN (R.val xs):Int))∧w=w':=by
 by_cases h0:n=0
 ·subst h0
  have hv:Hid (bitsN (R.val xs)=0):=by
   have:xs=[]:=List.eq_nil_of_length_eq_zero hn.out.symm
   show _=_
   rw [this]
   rfl
  go_enter Tryz.func68,Tryz.ntmps68
  go_wp2_with fail
  go_ret
  exact⟨by rw [hv.out];rfl,rfl⟩
 ·obtain⟨k,hk⟩: ∃k,n=k+1:=⟨n-1,by omega⟩
  have h0i:((n:Int) == 0)=false:=by rw [beq_eq_false_iff_ne];omega
  obtain⟨b,o,rfl,p0⟩:=hA.out k (by have:=hn.out;omega)
  have ht:xs[k]?.getD 0≠0:=by
   have h:=hcx.out (by have:=hn.out;omega)
   have e:xs.length-1=k:=by have:=hn.out;omega
   rw [List.getElem?_eq_getElem (by have:=hn.out;omega)]
   simpa [e] using h
  have HB:=hid (rbits_top hx.out (hn.out.symm.trans hk) ht)
  have HX:=hid (hx.out.get k)
  have hk1:(n:Int)-1=(k:Int):=by omega
  have hk2:(k:Int)<(n:Int):=by omega
  have hk3:(k:Int)≤8000000:=by omega
  clear hk
  generalize xs[k]?.getD 0=t at p0 HB HX
  have HTl:Hid (bitsN t≤32):=by
   have h:=HX.out
   rw [R.BB_pow] at h
   show _≤_
   unfold bitsN
   split
   ·omega
   ·rename_i h1
    have:=(Nat.log2_lt h1).2 h
    omega
  clear h0 ht
  go_enter Tryz.func68,Tryz.ntmps68
  go_wp2_with fail
  go_loop [3,4] (fun nv vv=> ∃v j:Nat,nv= .int .i64 (j:Int)∧vv= .int .u64 (v:Int)∧j+bitsN v=32*k+bitsN t∧v≤t) (fun _ vv=>(intOf vv).toNat)
  case atStart=>exact⟨t,32*k,by simp,rfl,rfl,Nat.le_refl _⟩
  case round=>
   obtain⟨v,j,rfl,rfl,hj,hvt⟩:=hrel
   have HJ:=hid hj
   have HVt:=hid hvt
   clear hj hvt
   have hjl:(j:Int)≤300000000:=by have:=HJ.out;have:=HTl.out;omega
   by_cases hv:v=0
   ·subst hv
    have HJ0:Hid (j=bitsN (R.val xs)):=by
     have:=HJ.out
     rw [show bitsN 0=0 from rfl] at this
     rw [HB.out]
     show _=_
     omega
    go_wp2_with fail
    go_ret
    exact⟨by rw [← HJ0.out];rfl,rfl⟩
   ·have HH:=hid (bits_half (Nat.pos_of_ne_zero hv))
    have hvi:(0:Int)<(v:Int):=by omega
    obtain⟨v2,hv2⟩: ∃v2,v/2=v2:=⟨_,rfl⟩
    have hvd:(v:Int)/2=(v2:Int):=by omega
    have hvd2:(v:Int).tdiv 2=(v2:Int):=by rw [Int.tdiv_eq_ediv_of_nonneg (by omega)];exact hvd
    have hlt2:Hid (v2<v):=by show _<_;omega
    have hvw:IntKind.u64.wrap (v2:Int)=(v2:Int):=u64_wrap (by have:=HVt.out;have:=HX.out;rw [R.BB_val] at this;rw [BB_val];omega)
    rw [hv2] at HH
    clear hv hv2
    go_wp2_with fail
    go_round
    case rel=>exact⟨v2,j+1,by go_num,rfl,by have:=HJ.out;have:=HH.out;omega,by have:=HVt.out;have:=hlt2.out;omega⟩
    case measure=>have:=hlt2.out;simp [intOf];omega
theorem rbits_v {w:World} {a:Value} {m:Nat} (ha:Hid (RV w a m)) (hfa:Hid (Few m)):Calls Tryz.prog 68 #[a] w fun e w'=>e= .returned (.int .i64 (bitsN m:Int))∧w=w':=by
 obtain⟨A,c,rfl,h1,h2⟩:=ha.out
 have:=hfa.out.digits
 have h:=rbits_any A _ c (R.limbsOf m) w (hid h1) (hid (R.limb_limbsOf m)) (hid (R.canon_limbsOf m)) (hid rfl) (by omega)
 rw [R.val_limbsOf] at h
 exact h
set_option maxRecDepth 100000 in
theorem run_append_copy (T:TypeId) (hT:Tryz.prog.underlying T=some (.slice 133)) (w:World) (ty:TypeId) (A:Option Addr) (xs:List Nat) (c:Nat) (hr:LRead w A xs) (hl:(xs.length:Int)≤16000000):
  ∃v' w',(Builtin.append_ #[T,T] ty #[.slice none 0 0,.slice A xs.length c]).run Tryz.prog w= .ok v' w'∧LimbsAt w' v' xs∧(∀ g,v'.ownBlock=some g→w.heap.size≤g)∧Only [] w w':=by
 obtain⟨i0,hi,hz0,hz1,hz2⟩:=u64_parts
 cases xs with
 |nil=>
  cases A with
  |none=>
   refine⟨.slice none 0 0,w,?_,limbsAt_nil w,by simp [Value.ownBlock],Only.refl _ _⟩
   simp [Builtin.append_,run_underlying hT,sizeOf,typeInfo,hi,Builtin.lenOf,Builtin.firstCells]
  |some ad=>
   obtain⟨v',w',hrun,h1,h2,h3,_⟩:=run_append_own_at (P:=Tryz.prog) w 0 T ty 133 i0 _ 1 8 hT hi hz0 hz1 hz2 rfl (by decide) (.slice none 0 0) 0 [] (World.ownsRow_nil _ _ _ _) ad 0 c [] rfl (by simp) (by simp) (by simp [maxLen]) (by omega) (Nat.zero_le _)
   obtain rfl:=h3.2 ⟨rfl,rfl⟩
   exact⟨_,w',hrun,limbsAt_nil w',by simp [Value.ownBlock],Only.of_grown h2 (by simp [Value.ownBlock])⟩
 |cons x xs=>
  obtain⟨b,o,rfl,_⟩:=hr 0 (by simp)
  obtain⟨v',w',hrun,h1,h2,h3,h4⟩:=run_append_own_at (P:=Tryz.prog) w 0 T ty 133 i0 _ 1 8 hT hi hz0 hz1 hz2 rfl (by decide) (.slice none 0 0) 0 [] (World.ownsRow_nil _ _ _ _) ⟨b,o,none⟩ (x::xs).length c (limbV (x::xs)) (by simp [limbV]) (fun j u hu=>by
    have hjl:j<(x::xs).length:=by
     have:=(List.getElem?_eq_some_iff.1 hu).1
     rwa [limbV_len] at this
    rw [limbV_get _ _ hjl] at hu
    obtain⟨b',o',e,hc⟩:=hr j hjl
    injection e with e
    injection e with e1 e2 _
    subst e1 e2
    rw [addr_plus,hc,hu]) (by simp [limbV,Value.oneCell']) (by simp only [maxLen];omega) (by omega) (Nat.zero_le _)
  refine⟨v',w',hrun,by simpa [LimbsAt] using h1,?_,Only.of_grown h2 (by simp [Value.ownBlock])⟩
  intro g hg
  rcases h4 with e|e
  ·rw [e] at hg;simp [Value.ownBlock] at hg
  ·rw [e] at hg
   have:w.heap.size=g:=by simpa using hg
   omega
theorem wpList_append_copy {w:World} {ops:Array Oper} {rest:List Oper} {o:Oper} {a:Act} {Q:Exit→Act→World→Prop} (T:TypeId) (hT:Tryz.prog.underlying T=some (.slice 133)) (hgd:o.guard=none) (s x:Operand)
  (ho:o.op= .call {callee:= .builtin .append,args:= #[s,x],argTypes:= #[T,T]}) (hs:a.eval s= .slice none 0 0) (A:Option Addr) (xs:List Nat) (n c:Nat) (hx:a.eval x= .slice A n c) (hn:n=xs.length) (hr:LRead w A xs) (hl:(n:Int)≤16000000)
  (h: ∀A' c' w',LimbsAt w' (.slice A' n c') xs→(∀ g,(Value.slice A' n c').ownBlock=some g→w.heap.size≤g)→Only [] w w'→wpList Tryz.prog ops Q rest (a.put o.dst (.slice A' n c')) w'):wpList Tryz.prog ops Q (o::rest) a w:=by
 subst hn
 refine wpList_plain hgd fun K hK=>?_
 obtain⟨v',w',hrun,h1,h2,h3⟩:=run_append_copy T hT w o.type A xs c hr hl
 obtain⟨A',c',rfl,_⟩:=h1.shape
 unfold Oper.wp execOp
 simp only [ho,resolve,invoke,builtin,Sem.run_bind,Sem.run_pure,Result.andThen_ok,List.map_toArray,List.map_cons,List.map_nil,hs,hx,hrun]
 exact hK _ _ (h A' c' w' h1 h2 h3)
structure WCar (w wr:World) (g:Nat) (tl:List Value) (xs ys zs:List Nat) (k cy:Nat):Prop where
 blk:Blk wr g 133 (limbV zs++tl)
 limb:R.Limb zs
 len:zs.length=xs.length
 high: ∀j,k≤j→zs[j]?.getD 0=xs[j]?.getD 0
 cyl:cy≤1
 val_:R.val (zs.take k)+R.val (ys.take k)=R.val (xs.take k)+R.BB^k*cy
 only:Only [g] w wr
theorem WCar.step {w wr wq:World} {g:Nat} {tl:List Value} {xs ys zs:List Nat} {k cy d cy':Nat} (h:WCar w wr g tl xs ys zs k cy) (hk:k<xs.length) (hd:d<R.BB) (hc:cy'≤1) (law:d+(cy+ys[k]?.getD 0)=xs[k]?.getD 0+R.BB*cy')
  (hb:Blk wq g 133 ((limbV zs++tl).set k (.int .u64 (d:Int)))) (ho:Only [g] wr wq):WCar w wq g tl xs ys (zs.set k d) (k+1) cy':=by
 have hl:=h.len
 have h3:=h.val_
 refine⟨?_,h.limb.set _ _ hd,by rw [List.length_set,hl],fun j hj=>by rw [set_get_ne (by omega)];exact h.high j (by omega),hc,?_,h.only.trans ho (by simp)⟩
 ·rw [← limbV_set,←List.set_append_left _ _ (by rw [limbV_len];omega)]
  exact hb
 ·have h1:=congrArg (fun t=>R.BB^k*t) law
  simp only [Nat.mul_add] at h1
  rw [R.val_take_succ _ k (by rw [List.length_set];omega),set_get_eq (by omega),List.take_set_of_le (Nat.le_refl k),R.val_take_next ys,R.val_take_succ xs k hk,Nat.pow_succ,Nat.mul_assoc]
  omega
set_option maxHeartbeats 3200000 in
set_option maxRecDepth 100000 in
theorem rsub_any (A B:Option Addr) (n m c d:Nat) (xs ys:List Nat) (w:World) (hA:Hid (LRead w A xs)) (hB:Hid (LRead w B ys)) (hx:Hid (R.Limb xs)) (hy:Hid (R.Limb ys)) (hn:Hid (n=xs.length)) (hm:Hid (m=ys.length)) (hl1:(n:Int)≤7000000) (hl2:(m:Int)≤n) (hle:Hid (R.val ys≤R.val xs)):
  Calls Tryz.prog 109 #[.slice A n c,.slice B m d] w (RPost (R.val xs-R.val ys) w):=by
 by_cases h0:n=0
 ·subst h0
  have hv:Hid (R.val xs-R.val ys=0):=by
   have:xs=[]:=List.eq_nil_of_length_eq_zero hn.out.symm
   show _=_
   rw [this]
   simp [R.val]
  have HXn:Hid (xs=[]):=List.eq_nil_of_length_eq_zero hn.out.symm
  go_enter Tryz.func109,Tryz.ntmps109
  go_wp2_with (at_builtin;refine wpList_append_copy 36 Tryz.underlying36 rfl _ _ rfl rfl A xs 0 c rfl hn.out hA.out (by omega) ?_;intro A' c' w2 h1 h2 h3;have HA2:=hid h1;have HF2:=hid h2;have HO2:=hid h3;clear h1 h2 h3)
  go_wp2_with fail
  go_loopw [6,7] (fun cv i wr=>cv= .int .u64 0∧i= .int .i64 0∧wr=w2) (fun _ _ _=>0)
  case atStart=>exact⟨rfl,rfl,rfl⟩
  obtain⟨rfl,rfl,rfl⟩:=hrel
  go_wp2_with fail
  have htr:=rtrim_any A' 0 c' [] wr LRead.nil R.limb_nil (hid rfl) (Nat.zero_le _) (by omega)
  rw [show R.val []=0 from rfl,R.limbsOf_zero] at htr
  have HTr:=hid htr
  clear htr
  refine HTr.out.mono ?_
  rintro e w' ⟨rfl,rfl⟩
  go_wp2_with fail
  go_ret
  exact⟨A',0,0,rfl,by rw [hv.out];exact⟨A',0,by rw [R.limbsOf_zero];rfl,by rw [R.limbsOf_zero];exact LRead.nil,by rw [R.limbsOf_zero];simp⟩,fun a ha=>HF2.out a.block (by rw [ha];rfl),HO2.out⟩
 ·go_enter Tryz.func109,Tryz.ntmps109
  go_wp2_with (at_builtin;refine wpList_append_copy 36 Tryz.underlying36 rfl _ _ rfl rfl A xs n c rfl hn.out hA.out (by omega) ?_;intro A' c' w2 h1 h2 h3;have HA2:=hid h1;have HF2:=hid h2;have HO2:=hid h3;clear h1 h2 h3)
  obtain⟨g,rfl⟩: ∃g,A'=some ⟨g,0,none⟩:=by
   rcases HA2.out.2 with⟨hv,hz⟩|⟨gp,cap,cur,hv,_⟩
   ·have:=hn.out
    omega
   ·injection hv with h1 _ _
    exact⟨gp,h1⟩
  obtain⟨tl,hbk,htc,hcm,-⟩:=HA2.out.row
  have HTc:=hid htc
  have HCm:=hid hcm
  have HG:Hid (w.heap.size≤g):=HF2.out g rfl
  have HStart:Hid (WCar w2 w2 g tl xs ys xs 0 0):=⟨hbk,hx.out,rfl,fun _ _=>rfl,by omega,by simp [R.val],Only.refl _ _⟩
  clear hbk htc hcm HF2 HA2 h0
  go_wp2_with fail
  go_loopw [6,7] (fun cv i wr=> ∃(k cy:Nat) (zs:List Nat),k≤n∧cv= .int .u64 (cy:Int)∧i= .int .i64 (k:Int)∧WCar w2 wr g tl xs ys zs k cy) (fun _ i _=>n-(intOf i).toNat)
  case atStart=>exact⟨0,0,xs,Nat.zero_le _,rfl,rfl,HStart.out⟩
  case round=>
   obtain⟨k,cy,zs,hk,rfl,rfl,hR⟩:=hrel
   have HR:=hid hR
   have HCy:=hid hR.cyl
   clear hR HStart
   by_cases hlt:k<n
   ·have hki:(k:Int)<(n:Int):=by omega
    have c1:=HR.out.blk.cell k
    rw [List.getElem?_append_left (by rw [limbV_len,HR.out.len];have:=hn.out;omega),limbV_get _ _ (by rw [HR.out.len];have:=hn.out;omega),HR.out.high k (Nat.le_refl _)] at c1
    have f1:=HR.out.blk.frozen k
    have HX:=hid (hx.out.get k)
    have HY:=hid (hy.out.get k)
    by_cases h2:k<m
    ·obtain⟨b',o',rfl,e2⟩:=hB.out k (by have:=hm.out;omega)
     have hbg:b'≠g:=by
      have:=World.block_lt_of_cell? w _ e2
      have:=HG.out
      simp only at*
      omega
     have q0:=HR.out.only.cell (HO2.out.cell e2 (by simp)) (by simpa using hbg)
     have h2i:(k:Int)<(m:Int):=by omega
     obtain⟨x,hgx⟩: ∃x,xs[k]?.getD 0=x:=⟨_,rfl⟩
     obtain⟨y,hgy⟩: ∃y,ys[k]?.getD 0=y:=⟨_,rfl⟩
     obtain⟨v,hv⟩: ∃v,cy+y=v:=⟨_,rfl⟩
     have HVl:Hid (v≤R.BB):=by have:=HCy.out;have:=HY.out;rw [hgy] at this;show _≤_;omega
     have HLaw:Hid (cy+ys[k]?.getD 0=v∧xs[k]?.getD 0=x):=⟨by rw [hgy];exact hv,hgx⟩
     rw [hgx] at c1 HX
     rw [hgy] at q0
     have hw1:IntKind.u64.wrap ((cy:Int)+(y:Int))=(v:Int):=u64_add hv (by have:=HVl.out;rw [R.BB_val] at this;rw [BB_val];omega)
     clear hlt h2 hgx hgy hv e2 hbg
     by_cases hb:x<v
     ·have hbi:(x:Int)<(v:Int):=by omega
      obtain⟨x1,hx1⟩: ∃x1,x+4294967296=x1:=⟨_,rfl⟩
      obtain⟨dd,hdd⟩: ∃dd,x1-v=dd:=⟨_,rfl⟩
      have hvl:=HVl.out
      rw [R.BB_val] at hvl
      have hw2:IntKind.u64.wrap ((x:Int)+4294967296)=(x1:Int):=by
       rw [show (x:Int)+4294967296=(x1:Int) by omega]
       exact u64_wrap (by have:=HX.out;rw [R.BB_val] at this;rw [BB_val];omega)
      have hw3:IntKind.u64.wrap ((x1:Int)-(v:Int))=(dd:Int):=by
       rw [show (x1:Int)-(v:Int)=(dd:Int) by omega]
       exact u64_wrap (by have:=HX.out;rw [R.BB_val] at this;rw [BB_val];omega)
      have hB1:=HR.out.blk.set_ k (.int .u64 (x1:Int))
      have c3:=hB1.cell k
      rw [List.getElem?_set_self (by rw [List.length_append,limbV_len,HR.out.len];have:=hn.out;omega)] at c3
      have f3:=hB1.frozen k
      have hB2:=hB1.set_ k (.int .u64 (dd:Int))
      rw [List.set_set] at hB2
      have HS:=hid (HR.out.step (d:=dd) (cy':=1) (by have:=hn.out;omega) (by have:=HX.out;rw [R.BB_val] at this ⊢;omega) (by omega) (by rw [HLaw.out.1,HLaw.out.2,R.BB_val];omega) hB2 (((Only.refl [g] wr).setCell (.inl (by simp)) _).setCell (.inl (by simp)) _))
      clear hB1 hB2 hb hx1 hdd hvl
      go_wp2_with fail
      go_roundw
      case rel=>exact⟨k+1,1,_,by omega,rfl,by go_num,HS.out⟩
      case measure=>simp [intOf];omega
     ·have hbi: ¬(x:Int)<(v:Int):=by omega
      obtain⟨dd,hdd⟩: ∃dd,x-v=dd:=⟨_,rfl⟩
      have hw3:IntKind.u64.wrap ((x:Int)-(v:Int))=(dd:Int):=by
       rw [show (x:Int)-(v:Int)=(dd:Int) by omega]
       exact u64_wrap (by have:=HX.out;rw [R.BB_val] at this;rw [BB_val];omega)
      have hB2:=HR.out.blk.set_ k (.int .u64 (dd:Int))
      have HS:=hid (HR.out.step (d:=dd) (cy':=0) (by have:=hn.out;omega) (by have:=HX.out;omega) (by omega) (by rw [HLaw.out.1,HLaw.out.2];omega) hB2 ((Only.refl [g] wr).setCell (.inl (by simp)) _))
      clear hB2 hb hdd
      go_wp2_with fail
      go_roundw
      case rel=>exact⟨k+1,0,_,by omega,rfl,by go_num,HS.out⟩
      case measure=>simp [intOf];omega
    ·have h2i: ¬(k:Int)<(m:Int):=by omega
     have hy0:ys[k]?.getD 0=0:=by rw [List.getElem?_eq_none (by have:=hm.out;omega)];rfl
     obtain⟨x,hgx⟩: ∃x,xs[k]?.getD 0=x:=⟨_,rfl⟩
     have HVl:Hid (cy≤R.BB):=by have:=HCy.out;have:=R.BB_pos;show _≤_;omega
     have HLaw:Hid (cy+ys[k]?.getD 0=cy∧xs[k]?.getD 0=x):=⟨by rw [hy0];rfl,hgx⟩
     rw [hgx] at c1 HX
     clear hlt h2 hgx hy0
     by_cases hb:x<cy
     ·have hbi:(x:Int)<(cy:Int):=by omega
      obtain⟨x1,hx1⟩: ∃x1,x+4294967296=x1:=⟨_,rfl⟩
      obtain⟨dd,hdd⟩: ∃dd,x1-cy=dd:=⟨_,rfl⟩
      have hvl:=HVl.out
      rw [R.BB_val] at hvl
      have hw2:IntKind.u64.wrap ((x:Int)+4294967296)=(x1:Int):=by
       rw [show (x:Int)+4294967296=(x1:Int) by omega]
       exact u64_wrap (by have:=HX.out;rw [R.BB_val] at this;rw [BB_val];omega)
      have hw3:IntKind.u64.wrap ((x1:Int)-(cy:Int))=(dd:Int):=by
       rw [show (x1:Int)-(cy:Int)=(dd:Int) by omega]
       exact u64_wrap (by have:=HX.out;rw [R.BB_val] at this;rw [BB_val];omega)
      have hB1:=HR.out.blk.set_ k (.int .u64 (x1:Int))
      have c3:=hB1.cell k
      rw [List.getElem?_set_self (by rw [List.length_append,limbV_len,HR.out.len];have:=hn.out;omega)] at c3
      have f3:=hB1.frozen k
      have hB2:=hB1.set_ k (.int .u64 (dd:Int))
      rw [List.set_set] at hB2
      have HS:=hid (HR.out.step (d:=dd) (cy':=1) (by have:=hn.out;omega) (by have:=HX.out;rw [R.BB_val] at this ⊢;omega) (by omega) (by rw [HLaw.out.1,HLaw.out.2,R.BB_val];omega) hB2 (((Only.refl [g] wr).setCell (.inl (by simp)) _).setCell (.inl (by simp)) _))
      clear hB1 hB2 hb hx1 hdd hvl
      go_wp2_with fail
      go_roundw
      case rel=>exact⟨k+1,1,_,by omega,rfl,by go_num,HS.out⟩
      case measure=>simp [intOf];omega
     ·have hbi: ¬(x:Int)<(cy:Int):=by omega
      obtain⟨dd,hdd⟩: ∃dd,x-cy=dd:=⟨_,rfl⟩
      have hw3:IntKind.u64.wrap ((x:Int)-(cy:Int))=(dd:Int):=by
       rw [show (x:Int)-(cy:Int)=(dd:Int) by omega]
       exact u64_wrap (by have:=HX.out;rw [R.BB_val] at this;rw [BB_val];omega)
      have hB2:=HR.out.blk.set_ k (.int .u64 (dd:Int))
      have HS:=hid (HR.out.step (d:=dd) (cy':=0) (by have:=hn.out;omega) (by have:=HX.out;omega) (by omega) (by rw [HLaw.out.1,HLaw.out.2];omega) hB2 ((Only.refl [g] wr).setCell (.inl (by simp)) _))
      clear hB2 hb hdd
      go_wp2_with fail
      go_roundw
      case rel=>exact⟨k+1,0,_,by omega,rfl,by go_num,HS.out⟩
      case measure=>simp [intOf];omega
   ·obtain rfl:k=n:=by omega
    have hnl: ¬(k:Int)<(k:Int):=by omega
    have HLen:Hid (k=zs.length):=by rw [HR.out.len];exact hn.out
    have HV:Hid (R.val zs=R.val xs-R.val ys):=by
     have h1:=HR.out.val_
     rw [List.take_of_length_le (Nat.le_of_eq HLen.out.symm),List.take_of_length_le (by have:=hm.out;omega),List.take_of_length_le (Nat.le_of_eq hn.out.symm)] at h1
     have h2:=R.val_lt HR.out.limb
     rw [← HLen.out] at h2
     have h3:=hle.out
     have h4:=HCy.out
     show _=_
     rcases Nat.lt_or_ge 0 cy with h5|h5
     ·obtain rfl:cy=1:=by omega
      omega
     ·obtain rfl:cy=0:=by omega
      omega
    have HRd:Hid (LRead wr (some ⟨g,0,none⟩) zs):=LRead.of_tl HR.out.blk
    have htr:=rtrim_any (some ⟨g,0,none⟩) k c' zs wr HRd (hid HR.out.limb) HLen (by have:=HTc.out;have:=hn.out;omega) (by omega)
    rw [HV.out] at htr
    have HTr:=hid htr
    clear hlt htr
    go_wp2_with fail
    refine HTr.out.mono ?_
    rintro e w' ⟨rfl,rfl⟩
    go_wp2_with fail
    go_ret
    have h2:=RV.of_row HRd.out HR.out.limb
    rw [HV.out] at h2
    exact⟨_,_,_,rfl,⟨_,_,rfl,h2,Nat.le_refl _⟩,fun a ha=>by injection ha with ha;subst ha;exact HG.out,HO2.out.trans HR.out.only (fun x hx=> .inr (by simp at hx;rw [hx];exact HG.out))⟩
theorem rsub_v {w:World} {a b:Value} {m n:Nat} (ha:Hid (RV w a m)) (hb:Hid (RV w b n)) (hfa:Hid (Few m)) (hle:Hid (n≤m)):Calls Tryz.prog 109 #[a,b] w (RPost (m-n) w):=by
 obtain⟨A,c,rfl,h1,h2⟩:=ha.out
 obtain⟨B,d,rfl,k1,k2⟩:=hb.out
 have:=hfa.out.digits
 have:=R.limbsOf_len_mono hle.out
 have h:=rsub_any A B _ _ c d (R.limbsOf m) (R.limbsOf n) w (hid h1) (hid k1) (hid (R.limb_limbsOf m)) (hid (R.limb_limbsOf n)) (hid rfl) (hid rfl) (by omega) (by omega) (by show _≤_;rw [R.val_limbsOf,R.val_limbsOf];exact hle.out)
 rw [R.val_limbsOf,R.val_limbsOf] at h
 exact h
end Go.Proofs.YtigpnopeacicpaaGreatDoor
