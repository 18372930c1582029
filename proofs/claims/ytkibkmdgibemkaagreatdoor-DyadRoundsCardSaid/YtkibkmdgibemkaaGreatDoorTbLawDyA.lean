/-
  DyadLaws: what is not light.
-/
import Derived.Test.YtkibkmdgibemkaaGreatDoorTbDyN
import Derived.Test.YtkibkmdgibemkaaGreatDoorTbTyr
namespace Go.Proofs.YtkibkmdgibemkaaGreatDoor
set_option linter.unusedSimpArgs false
open Go.RowKit

def flatN (L : List NR) : List Value := L.flatMap fun x => [.bool x.s, .slice x.a x.n x.c, .int .i64 x.e]

theorem flatN_get : ∀ (L : List NR) (k : Nat) (h : k < L.length), (flatN L)[k * 3 + 1]? = some (.slice L[k].a L[k].n L[k].c) ∧ (flatN L)[k * 3 + 2]? = some (.int .i64 L[k].e)
  | [], k, h => by simp at h
  | x :: L, 0, h => ⟨rfl, rfl⟩
  | x :: L, k + 1, h => by
    have := flatN_get L k (by simpa using h)
    have e : flatN (x :: L) = [.bool x.s, .slice x.a x.n x.c, .int .i64 x.e] ++ flatN L := rfl
    rw [e, List.getElem?_append_right (by simp; omega), List.getElem?_append_right (by simp; omega)]
    rw [show (k + 1) * 3 + 1 - [Value.bool x.s, Value.slice x.a x.n x.c, Value.int .i64 x.e].length = k * 3 + 1 by simp; omega, show (k + 1) * 3 + 2 - [Value.bool x.s, Value.slice x.a x.n x.c, Value.int .i64 x.e].length = k * 3 + 2 by simp; omega]
    simpa using this

theorem nrm_sign (z e : Int) : (nrm z e).z.sign = z.sign := by
  rw [← q_sign, nrm_q]
  exact q_sign ⟨z, e⟩

/-- Light of numbers that have just been laid. -/
theorem light3_v {w : World} (L : List NR) (k : Nat) (hk : Hid (L.length = k)) (hl : (k : Int) ≤ 1000) :
    Calls Tryz.prog 26 #[.slice (some ⟨w.heap.size, 0, none⟩) k k] (w.alloc (Obj.cells (flatN L).toArray 54)) fun e w' => e = .returned (.bool (lightN L)) ∧ Only [] w w' := by
  have hb : Blk (w.alloc (Obj.cells (flatN L).toArray 54)) w.heap.size 54 (flatN L) := Blk.new w _ _
  have h := light3_any (some ⟨w.heap.size, 0, none⟩) k L _ (Lib.hid (fun j hj => ⟨_, 0, rfl, by rw [hb.cell, Nat.zero_add]; exact (flatN_get L j hj).1, by rw [hb.cell, Nat.zero_add]; exact (flatN_get L j hj).2⟩)) (by have := hk.out; omega)
  rw [hk.out] at h
  exact h.mono fun e w' ⟨h1, h2⟩ => ⟨h1, ((Only.refl [] w).alloc _).nil_trans h2⟩

theorem num_bnd {N : Nat} {n : Bool} {L : List Nat} {x : Dy} (hN : 3000 ≤ N) (hl : L.length ≤ 40) (hL : Limb L) (hz : sg n (val L) = x.z) (h1 : -3000 ≤ x.e) (h2 : x.e ≤ 3000) : Bnd N x :=
  ⟨by rw [← hz, sg_abs]; exact Nat.lt_of_lt_of_le (val_lt hL) (by rw [bb_two_pow]; exact two_mono (by omega)), by omega, by omega⟩

theorem numOfV_any (neg : Bool) (A : Option Addr) (L : List Nat) (c : Nat) (x : Dy) (w : World) (hz : sg neg (val L) = x.z) (h : Hid (LimbsIn w A L)) (hl : (L.length : Int) ≤ 40) :
    Calls Tryz.prog 28 #[.agg #[.bool neg, .slice A L.length c, .int .i64 x.e]] w (DVPost x w) := by
  obtain ⟨z, e⟩ := x
  simp only at hz
  subst hz
  exact numOf_any neg A L c e w h hl

end Go.Proofs.YtkibkmdgibemkaaGreatDoor
