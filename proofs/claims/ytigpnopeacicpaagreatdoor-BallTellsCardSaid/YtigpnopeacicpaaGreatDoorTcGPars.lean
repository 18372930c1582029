import Derived.Test.YtigpnopeacicpaaGreatDoorTcJ7
import Derived.Laws.MakeOwn
namespace Go.Proofs.YtigpnopeacicpaaGreatDoor
open Go.RowKit
theorem LimbsAt.row {w:World} {g n c:Nat} {xs:List Nat} (h:LimbsAt w (.slice (some ⟨g,0,none⟩) n c) xs): ∃tl,Blk w g 133 (limbV xs++tl)∧xs.length+tl.length=c∧c≤maxLen∧n=xs.length:=by
 rcases h.2 with⟨h0,_⟩|⟨g',cap,cur,e,_,hg,hn,hm,hs,ht⟩
 ·cases h0
 ·injection e with e1 e2 e3
  injection e1 with e1
  injection e1 with e1 _ _
  subst e1 e3
  refine⟨cur.toList.drop xs.length,?_,?_,hm,e2⟩
  ·unfold Blk
   rw [hg]
   congr 2
   apply Array.ext'
   rw [Nat.mul_one] at ht
   rw [← ht]
   simp
  ·rw [List.length_drop]
   simp at hs ⊢
   omega
theorem LimbsAt.of_row {w:World} {g c:Nat} {xs:List Nat} {tl:List Value} (h:Blk w g 133 (limbV xs++tl)) (hc:xs.length+tl.length=c) (hm:c≤maxLen):LimbsAt w (.slice (some ⟨g,0,none⟩) xs.length c) xs:=by
 refine⟨by simp [limbV],.inr ⟨g,c,(limbV xs++tl).toArray,rfl,Nat.zero_le _,h,by omega,hm,by simp [limbV];omega,?_⟩⟩
 rw [Nat.mul_one]
 have:(limbV xs).length=xs.length:=limbV_len xs
 simp [← this]
structure PCar (w wr:World) (g u v:Nat) (tl:List Value) (xs zs:List Nat) (k cy:Nat):Prop where
 blk:Blk wr g 133 (limbV zs++tl)
 limb:Limb zs
 len:zs.length=xs.length
 high: ∀j,k≤j→zs[j]?.getD 0=xs[j]?.getD 0
 cyl:cy<BB
 val_:val (zs.take k)+BB^k*cy=val (xs.take k)*u+v
 only:Only [g] w wr
structure PStep (x u cy s c1 cy':Nat):Prop where
 a1:s=aLo (mLo x u) cy 0
 a2:c1=aHi (mLo x u) cy 0
 a3:mHi x u+c1=cy'
 law:s+BB*cy'=x*u+cy
 lt:cy'<BB
 sl:s<BB
theorem PCar.step {w wr:World} {g u v:Nat} {tl:List Value} {xs zs:List Nat} {k cy s c1 cy':Nat} (h:PCar w wr g u v tl xs zs k cy) (hk:k<xs.length) (hs:PStep (xs[k]?.getD 0) u cy s c1 cy'):
  PCar w (wr.setCell ⟨g,k,none⟩ (.int .u64 (s:Int))) g u v tl xs (zs.set k s) (k+1) cy':=by
 have hl:=h.len
 refine⟨?_,h.limb.set _ _ hs.sl,by rw [List.length_set,hl],fun j hj=>by rw [set_get_ne (by omega)];exact h.high j (by omega),hs.lt,?_,h.only.trans ((Only.refl [g] wr).setCell (.inl (by simp)) _) (by simp)⟩
 ·rw [← limbV_set,←List.set_append_left _ _ (by rw [limbV_len];omega)]
  exact h.blk.set_ k _
 ·rw [val_take_succ _ k (by rw [List.length_set];omega),set_get_eq (by omega),List.take_set_of_le (Nat.le_refl k),val_take_succ xs k hk,Nat.pow_succ,Nat.mul_assoc,Nat.add_assoc,←Nat.mul_add,hs.law,Nat.mul_add,Nat.add_mul]
  have:=h.val_
  rw [Nat.mul_assoc (BB^k)]
  omega
end Go.Proofs.YtigpnopeacicpaaGreatDoor
