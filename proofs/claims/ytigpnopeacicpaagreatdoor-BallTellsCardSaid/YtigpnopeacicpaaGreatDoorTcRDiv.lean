import Derived.Test.YtigpnopeacicpaaGreatDoorTcGRefS
namespace Go.Proofs.YtigpnopeacicpaaGreatDoor
namespace R
theorem add_step {zs:List Nat} {i v c lo hi:Nat} (h0:i<zs.length) (h:lo+BB*hi=zs[i]?.getD 0+v+c):val (zs.set i lo)+BB^(i+1)*hi=val zs+BB^i*v+BB^i*c:=by
 have h1:=val_set zs i lo h0
 have h2:=congrArg (BB^i* ·) h
 simp only [Nat.mul_add] at h2
 rw [Nat.pow_succ,Nat.mul_assoc]
 omega
theorem sub_step {zs:List Nat} {i v b d b':Nat} (h0:i<zs.length) (h:d+v+b=zs[i]?.getD 0+BB*b'):val (zs.set i d)+BB^i*v+BB^i*b=val zs+BB^(i+1)*b':=by
 have h1:=val_set zs i d h0
 have h2:=congrArg (BB^i* ·) h
 simp only [Nat.mul_add] at h2
 rw [Nat.pow_succ,Nat.mul_assoc]
 omega
theorem val_zero_of: ∀{zs:List Nat},val zs=0→ ∀k:Nat,zs[k]?.getD 0=0
 |[],_,k=>by simp
 |z::zs,h,0=>by
  simp only [val] at h
  simp
  omega
 |z::zs,h,k+1=>by
  simp only [val] at h
  have hb:=BB_pos
  have h1:val zs=0:=by
   rcases Nat.eq_zero_or_pos (val zs) with h2|h2
   ·exact h2
   ·have:=Nat.mul_pos hb h2
    omega
  have:=val_zero_of h1 k
  simpa using this
theorem val_high {zs:List Nat} {m:Nat} (h:val zs<BB^m) (k:Nat) (hk:m≤k):zs[k]?.getD 0=0:=by
 by_cases hm:m≤zs.length
 ·have h1:=val_take_drop zs m hm
  have h2:val (zs.drop m)=0:=by
   rcases Nat.eq_zero_or_pos (val (zs.drop m)) with h2|h2
   ·exact h2
   ·have h3:BB^m*1≤BB^m*val (zs.drop m):=Nat.mul_le_mul_left _ h2
    omega
  have h3:=val_zero_of h2 (k-m)
  rw [List.getElem?_drop,show m+(k-m)=k by omega] at h3
  exact h3
 ·rw [List.getElem?_eq_none (by omega)]
  rfl
theorem val_ge_get {zs:List Nat} (i:Nat):BB^i*(zs[i]?.getD 0)≤val zs:=by
 by_cases hi:i<zs.length
 ·have h1:=val_take_drop zs (i+1) (by omega)
  rw [val_take_succ zs i hi] at h1
  omega
 ·rw [List.getElem?_eq_none (by omega)]
  simp
theorem pow_le {i j:Nat} (h:i≤j):BB^i≤BB^j:=Nat.pow_le_pow_right BB_pos h
theorem val_drop_div (xs:List Nat) (hx:Limb xs) (k:Nat) (hk:k≤xs.length):val (xs.drop k)=val xs/BB^k:=by
 have h1:=val_take_drop xs k hk
 have h2:=val_lt (hx.take k)
 rw [List.length_take,Nat.min_eq_left hk] at h2
 rw [h1,Nat.add_mul_div_left _ _ (BB_pow_pos k),Nat.div_eq_of_lt h2,Nat.zero_add]
def EstOk (u2 u1 u0 v1 v0 d:Nat):Prop:=d<BB∧(d=BB-1∨(u2*BB+u1)*BB+u0<(d+1)*(v1*BB+v0))
theorem est_start {u2 u1 u0 v1 v0:Nat} (hv:0<v1) (h2:u2<v1) (h1:u1<BB) (h0:u0<BB):EstOk u2 u1 u0 v1 v0 ((u2*BB+u1)/v1):=by
 have hb:=BB_pos
 constructor
 ·rw [Nat.div_lt_iff_lt_mul hv]
  have:(u2+1)*BB≤v1*BB:=Nat.mul_le_mul_right _ h2
  rw [Nat.add_mul,Nat.one_mul,Nat.mul_comm v1] at this
  omega
 ·right
  have h3:=Nat.lt_div_mul_add (a:=u2*BB+u1) hv
  have h4:u2*BB+u1+1≤((u2*BB+u1)/v1+1)*v1:=by rw [Nat.add_mul,Nat.one_mul];omega
  have h5:(u2*BB+u1+1)*BB≤((u2*BB+u1)/v1+1)*v1*BB:=Nat.mul_le_mul_right _ h4
  rw [Nat.add_mul (u2*BB+u1),Nat.one_mul] at h5
  have h6:((u2*BB+u1)/v1+1)*(v1*BB+v0)=((u2*BB+u1)/v1+1)*v1*BB+((u2*BB+u1)/v1+1)*v0:=by rw [Nat.mul_add,Nat.mul_assoc]
  omega
theorem est_lower {u2 u1 u0 v1 v0 d r:Nat} (hd:d<BB) (he:d*v1+r=u2*BB+u1) (hl:r*BB+u0<d*v0):0<d∧EstOk u2 u1 u0 v1 v0 (d-1)∧(d-1)*v1+(r+v1)=u2*BB+u1:=by
 have hp:0<d:=by
  rcases Nat.eq_zero_or_pos d with h0|h0
  ·rw [h0] at hl;omega
  ·exact h0
 obtain⟨k,rfl⟩: ∃k,d=k+1:=⟨d-1,by omega⟩
 simp only [Nat.add_sub_cancel]
 refine⟨hp,⟨by omega,.inr ?_⟩,by rw [Nat.add_mul,Nat.one_mul] at he;omega⟩
 have h6:=congrArg (· *BB) he
 simp only [Nat.add_mul _ _ BB] at h6
 have h7:(k+1)*(v1*BB+v0)=(k+1)*v1*BB+(k+1)*v0:=by rw [Nat.mul_add,Nat.mul_assoc]
 rw [Nat.add_mul _ _ BB]
 omega
theorem val_cap {us:List Nat} {m:Nat} (hm:m≤us.length) (h:val us<BB^m):val us=val (us.take m):=by
 have h1:=val_take_drop us m hm
 have h2:val (us.drop m)=0:=by
  rcases Nat.eq_zero_or_pos (val (us.drop m)) with h2|h2
  ·exact h2
  ·have h3:BB^m*1≤BB^m*val (us.drop m):=Nat.mul_le_mul_left _ h2
   omega
 rw [h1,h2]
 omega
theorem est_ge {us vs:List Nat} {j n d:Nat} (hu:Limb us) (hvl:Limb vs) (hn:2≤n) (hv:vs.length=n) (hl:j+n<us.length) (hw:val us<BB^(j+1)*val vs)
  (h:EstOk (us[j+n]?.getD 0) (us[j+n-1]?.getD 0) (us[j+n-2]?.getD 0) (vs[n-1]?.getD 0) (vs[n-2]?.getD 0) d):val us<BB^j*((d+1)*val vs):=by
 rcases h.2 with h|h
 ·rw [h,show BB-1+1=BB by have:=BB_pos;omega,←Nat.mul_assoc,←Nat.pow_succ]
  exact hw
 ·obtain⟨m,rfl⟩: ∃m,n=m+2:=⟨n-2,by omega⟩
  rw [show j+(m+2)-1=j+m+1 by omega,show j+(m+2)-2=j+m by omega,show m+2-1=m+1 by omega,show m+2-2=m by omega,show j+(m+2)=j+m+2 by omega] at h
  rw [show j+(m+2)=j+m+2 by omega] at hl
  have hvb:=val_lt hvl
  rw [hv] at hvb
  have hcap:val us<BB^(j+m+2+1):=by
   have h4:=Nat.mul_le_mul_left (BB^(j+1)) (Nat.le_of_lt hvb)
   rw [← Nat.pow_add,show j+1+(m+2)=j+m+2+1 by omega] at h4
   omega
  have c1:=val_take_succ us (j+m) (by omega)
  have c2:val (us.take (j+m+2))=val (us.take (j+m+1))+BB^(j+m+1)*(us[j+m+1]?.getD 0):=val_take_succ us (j+m+1) (by omega)
  have c3:=val_take_succ us (j+m+2) (by omega)
  have c0:=val_lt (hu.take (j+m))
  rw [List.length_take,Nat.min_eq_left (by omega)] at c0
  have hua:=val_cap (by omega) hcap
  have cV0:=val_take_succ vs m (by omega)
  have cV1:=val_take_succ vs (m+1) (by omega)
  have hva:val (vs.take (m+1+1))=val vs:=by rw [show m+1+1=vs.length by omega,List.take_length]
  rw [hva] at cV1
  generalize us[j+m+2]?.getD 0=u2 at*
  generalize us[j+m+1]?.getD 0=u1 at*
  generalize us[j+m]?.getD 0=u0 at*
  generalize vs[m+1]?.getD 0=v1 at*
  generalize vs[m]?.getD 0=v0 at*
  have e1:BB^(j+m+1)=BB^(j+m)*BB:=Nat.pow_succ ..
  have e2:BB^(j+m+2)=BB^(j+m)*(BB*BB):=by rw [Nat.pow_succ,Nat.pow_succ,Nat.mul_assoc]
  have hU:val us<BB^(j+m)*((u2*BB+u1)*BB+u0+1):=by
   have:BB^(j+m)*((u2*BB+u1)*BB+u0+1)=BB^(j+m)*(BB*BB)*u2+BB^(j+m)*BB*u1+BB^(j+m)*u0+BB^(j+m):=by
    simp only [Nat.mul_add,Nat.add_mul,Nat.mul_one]
    simp only [Nat.mul_assoc,Nat.mul_comm u2,Nat.mul_comm u1]
   rw [this,←e1,←e2]
   omega
  have hV:BB^m*(v1*BB+v0)≤val vs:=by
   have:BB^m*(v1*BB+v0)=BB^(m+1)*v1+BB^m*v0:=by
    rw [Nat.mul_add,Nat.pow_succ,Nat.mul_assoc,Nat.mul_comm BB v1]
   omega
  have h1:BB^(j+m)*((u2*BB+u1)*BB+u0+1)≤BB^(j+m)*((d+1)*(v1*BB+v0)):=Nat.mul_le_mul_left _ h
  have h2:BB^(j+m)*((d+1)*(v1*BB+v0))=BB^j*((d+1)*(BB^m*(v1*BB+v0))):=by
   rw [Nat.pow_add,Nat.mul_assoc,Nat.mul_left_comm (d+1)]
  have h3:BB^j*((d+1)*(BB^m*(v1*BB+v0)))≤BB^j*((d+1)*val vs):=Nat.mul_le_mul_left _ (Nat.mul_le_mul_left _ hV)
  omega
theorem long_u2 {us vs:List Nat} {j n:Nat} (hvl:Limb vs) (hn:1≤n) (hv:vs.length=n) (hw:val us<BB^(j+1)*val vs):us[j+n]?.getD 0≤vs[n-1]?.getD 0:=by
 obtain⟨m,rfl⟩: ∃m,n=m+1:=⟨n-1,by omega⟩
 have h1:=val_ge_get (zs:=us) (j+(m+1))
 have c1:=val_take_succ vs m (by omega)
 rw [show vs.take (m+1)=vs by rw [← hv,List.take_length]] at c1
 have c0:=val_lt (hvl.take m)
 rw [List.length_take,Nat.min_eq_left (by omega)] at c0
 simp only [Nat.add_sub_cancel]
 have h2:BB^(j+1)*val vs≤BB^(j+1)*(BB^m*(vs[m]?.getD 0+1)):=Nat.mul_le_mul_left _ (by rw [Nat.mul_add];omega)
 have h3:BB^(j+1)*(BB^m*(vs[m]?.getD 0+1))=BB^(j+(m+1))*(vs[m]?.getD 0+1):=by rw [← Nat.mul_assoc,←Nat.pow_add,show j+1+m=j+(m+1) by omega]
 have h4:BB^(j+(m+1))*(us[j+(m+1)]?.getD 0)<BB^(j+(m+1))*(vs[m]?.getD 0+1):=by omega
 exact Nat.le_of_lt_succ (Nat.lt_of_mul_lt_mul_left h4)
theorem long_bound {us vs:List Nat} {j n:Nat} (hvl:Limb vs) (hv:vs.length=n) (hw:val us<BB^(j+1)*val vs):val us<BB^(j+n+1):=by
 have h1:=val_lt hvl
 rw [hv] at h1
 have h2:BB^(j+1)*val vs≤BB^(j+1)*BB^n:=Nat.mul_le_mul_left _ (Nat.le_of_lt h1)
 rw [← Nat.pow_add,show j+1+n=j+n+1 by omega] at h2
 omega
theorem high_bound {us us':List Nat} {i:Nat} (hu:Limb us) (hu':Limb us') (hl:us'.length=us.length) (hi:i≤us.length) (hh: ∀j,i≤j→us'[j]?.getD 0=us[j]?.getD 0) (h:val us<BB^i):val us'<BB^i:=by
 have e:us'.drop i=us.drop i:=by
  apply List.ext_getElem
  ·simp [hl]
  ·intro k h1 h2
   have h3:=hh (i+k) (by omega)
   simp only [List.length_drop] at h1 h2
   rw [List.getElem?_eq_getElem (by omega),List.getElem?_eq_getElem (by omega)] at h3
   simpa using h3
 have h1:=val_take_drop us' i (by omega)
 have h2:=val_drop_div us hu i hi
 rw [Nat.div_eq_of_lt h] at h2
 rw [e,h2,Nat.mul_zero,Nat.add_zero] at h1
 rw [h1]
 have:=val_lt (hu'.take i)
 rwa [List.length_take,Nat.min_eq_left (by omega)] at this
structure DI (us us':List Nat) (V j n d b:Nat):Prop where
 limb:Limb us'
 len:us'.length=us.length
 eq:val us'+BB^j*(d*V)=val us+BB^(j+n+1)*b
 lt:val us'<BB^(j+n+1)
 est:val us<BB^j*((d+1)*V)
 dl:d<BB
 bl:b≤1
theorem DI.pos {us us':List Nat} {V j n d:Nat} (h:DI us us' V j n d 1):0<d:=by
 rcases Nat.eq_zero_or_pos d with h0|h0
 ·have h1:=h.eq
  have h2:=h.lt
  rw [h0] at h1
  simp at h1
  omega
 ·exact h0
theorem DI.step {us us' us'':List Nat} {V j n d cy:Nat} (h:DI us us' V j n d 1) (hl:Limb us'') (hn:us''.length=us'.length) (hi:j+n+1≤us'.length) (hh: ∀k,j+n+1≤k→us''[k]?.getD 0=us'[k]?.getD 0) (hc:cy≤1)
  (he:val us''+BB^(j+n+1)*cy=val us'+BB^j*V):DI us us'' V j n (d-1) (1-cy):=by
 have hp:=h.pos
 obtain⟨k,rfl⟩: ∃k,d=k+1:=⟨d-1,by omega⟩
 have h1:=h.eq
 have h2:=h.lt
 have h3:=h.dl
 rw [Nat.add_sub_cancel]
 rw [Nat.add_mul,Nat.one_mul,Nat.mul_add] at h1
 have hb:=high_bound h.limb hl hn hi hh h.lt
 have h7:k<BB:=Nat.lt_of_succ_lt h3
 refine⟨hl,by rw [hn,h.len],?_,hb,?_,h7,Nat.sub_le _ _⟩
 ·clear h7 h3 hb
  generalize BB^(j+n+1)=P at*
  generalize BB^j*(k*V)=A at*
  generalize BB^j*V=C at*
  rcases (show cy=0∨cy=1 by omega) with rfl|rfl
  ·rw [Nat.mul_zero] at he
   rw [Nat.mul_one] at h1
   rw [Nat.sub_zero,Nat.mul_one]
   omega
  ·rw [Nat.mul_one] at he h1
   rw [Nat.sub_self,Nat.mul_zero]
   omega
 ·rw [Nat.add_mul,Nat.one_mul,Nat.mul_add]
  clear h7 h3 hb he
  generalize BB^(j+n+1)=P at*
  generalize BB^j*(k*V)=A at*
  generalize BB^j*V=C at*
  rw [Nat.mul_one] at h1
  omega
theorem DI.done {us us':List Nat} {V j n d:Nat} (h:DI us us' V j n d 0):val us'+BB^j*(d*V)=val us∧val us'<BB^j*V:=by
 have h1:=h.eq
 have h2:=h.est
 rw [Nat.mul_zero,Nat.add_zero] at h1
 rw [Nat.add_mul,Nat.one_mul,Nat.mul_add] at h2
 exact⟨h1,by omega⟩
structure LI (us qs:List Nat) (U0 V k:Nat):Prop where
 ul:Limb us
 ql:Limb qs
 eq:val us+V*(BB^k*val (qs.drop k))=U0
 lt:val us<BB^k*V
theorem LI.step {us us' qs:List Nat} {U0 V j n d:Nat} (h:LI us qs U0 V (j+1)) (hd:DI us us' V j n d 0) (hq:j<qs.length):LI us' (qs.set j d) U0 V j:=by
 obtain⟨h1,h2⟩:=hd.done
 refine⟨hd.limb,h.ql.set _ _ hd.dl,?_,h2⟩
 have h3:=h.eq
 rw [List.drop_eq_getElem_cons (by simpa using hq),List.getElem_set_self,List.drop_set_of_lt (by omega),val,Nat.mul_add,Nat.mul_add]
 rw [Nat.pow_succ,Nat.mul_assoc] at h3
 rw [← h3,←h1,Nat.mul_left_comm V (BB^j) d,Nat.mul_comm V d]
 omega
theorem LI.done {us qs:List Nat} {a b s:Nat} (h:LI us qs (a*2^s) (b*2^s) 0):val qs=a/b∧val us/2^s=a%b:=by
 have hp:0<2^s:=Nat.pow_pos (by omega)
 have h1:=h.eq
 have h2:=h.lt
 simp only [Nat.pow_zero,Nat.one_mul,List.drop_zero] at h1 h2
 have hV:0<b*2^s:=by omega
 have e1:(a*2^s)/(b*2^s)=val qs:=by
  rw [← h1,Nat.add_comm,Nat.mul_add_div hV,Nat.div_eq_of_lt h2,Nat.add_zero]
 have e2:(a*2^s)%(b*2^s)=val us:=by
  rw [← h1,Nat.add_comm,Nat.mul_add_mod,Nat.mod_eq_of_lt h2]
 rw [Nat.mul_div_mul_right _ _ hp] at e1
 rw [Nat.mul_mod_mul_right] at e2
 exact⟨e1.symm,by rw [← e2,Nat.mul_div_cancel _ hp]⟩
theorem long_top {ys:List Nat} {s n:Nat} (hy:Limb ys) (hn:1≤n) (hl:ys.length=n) (h0:ys[n-1]?.getD 0≠0) (hs:ys[n-1]?.getD 0*2^s<BB):(limbsOf (val ys*2^s)).length=n∧BB^(n-1)*2^s≤val ys*2^s:=by
 obtain⟨m,rfl⟩: ∃m,n=m+1:=⟨n-1,by omega⟩
 simp only [Nat.add_sub_cancel] at*
 have hp:0<2^s:=Nat.pow_pos (by omega)
 have c1:=val_take_succ ys m (by omega)
 rw [show ys.take (m+1)=ys by rw [← hl,List.take_length]] at c1
 have c0:=val_lt (hy.take m)
 rw [List.length_take,Nat.min_eq_left (by omega)] at c0
 have h1:BB^m*1≤BB^m*(ys[m]?.getD 0):=Nat.mul_le_mul_left _ (by omega)
 have h2:BB^m*2^s≤val ys*2^s:=Nat.mul_le_mul_right _ (by omega)
 refine⟨?_,h2⟩
 apply Nat.le_antisymm
 ·apply limbsOf_len_le
  have h4:val ys+1≤BB^m*(ys[m]?.getD 0+1):=by rw [Nat.mul_add];omega
  have h5:(val ys+1)*2^s≤BB^m*(ys[m]?.getD 0+1)*2^s:=Nat.mul_le_mul_right _ h4
  have h6:(ys[m]?.getD 0+1)*2^s≤BB:=by
   by_cases hs32:s≤32
   ·have hsp:2^s*2^(32-s)=BB:=by rw [← Nat.pow_add,BB_pow];congr 1;omega
    rw [← hsp,Nat.mul_comm] at hs ⊢
    exact Nat.mul_le_mul_left _ (Nat.lt_of_mul_lt_mul_left hs)
   ·have h7:2^32≤2^s:=Nat.pow_le_pow_right (by omega) (by omega)
    have h8:1*2^s≤ys[m]?.getD 0*2^s:=Nat.mul_le_mul_right _ (by omega)
    rw [BB_pow] at hs
    omega
  have h7:BB^m*(ys[m]?.getD 0+1)*2^s≤BB^m*BB:=by rw [Nat.mul_assoc];exact Nat.mul_le_mul_left _ h6
  rw [Nat.pow_succ]
  rw [Nat.add_mul] at h5
  omega
 ·apply Nat.lt_of_not_le
  intro h
  have h3:=lt_limbsOf (val ys*2^s)
  have h4:BB^(limbsOf (val ys*2^s)).length≤BB^m:=pow_le (by omega)
  have h5:BB^m*1≤BB^m*2^s:=Nat.mul_le_mul_left _ hp
  omega
theorem LI.start {xs ys us qs:List Nat} {s n m:Nat} (hx:Limb xs) (hm:xs.length=m) (hn:1≤n) (hnm:n≤m) (hV:BB^(n-1)*2^s≤val ys*2^s) (hul:Limb us) (hu:val us=val xs*2^s) (hql:Limb qs) (hq:qs.length=m-n+1):
  LI us qs (val xs*2^s) (val ys*2^s) (m-n+1):=by
 refine⟨hul,hql,by rw [← hq,List.drop_length];simp [val,hu],?_⟩
 have h1:=val_lt hx
 rw [hm] at h1
 have h2:val xs*2^s<BB^m*2^s:=Nat.mul_lt_mul_of_pos_right h1 (Nat.pow_pos (by omega))
 have h3:=Nat.mul_le_mul_left (BB^(m-n+1)) hV
 rw [← Nat.mul_assoc,←Nat.pow_add,show m-n+1+(n-1)=m by omega] at h3
 omega
open Go.RowKit
theorem val_drop_cons (xs:List Nat) (j:Nat) (h:j<xs.length):val (xs.drop j)=xs[j]?.getD 0+BB*val (xs.drop (j+1)):=by
 rw [List.drop_eq_getElem_cons h]
 simp [val,h]
end R
end Go.Proofs.YtigpnopeacicpaaGreatDoor
