/-
  nat.long: the long division.
-/
import Derived.Test.YtigpnopeacicpaaDoorTaGNatC
import Derived.Test.YtigpnopeacicpaaDoorTaGNatA
import Derived.Test.YtigpnopeacicpaaDoorTaGVal
import Derived.StillTailTactics
import Derived.Test.YtigpnopeacicpaaDoorTaGNatB
namespace Go.Proofs.YtigpnopeacicpaaDoor
open Go.RowKit

end Go.Proofs.YtigpnopeacicpaaDoor
/-
  nat.DivMod.
-/
namespace Go.Proofs.YtigpnopeacicpaaDoor
open Go.RowKit

/-- Of one limb. -/
theorem of_one (r : Nat) (w : World) (hr : Hid (r < BB)) : Calls Tryd.prog 50 #[.slice (some ⟨w.heap.size, 0, none⟩) 1 1] (w.alloc (Obj.cells #[.int .u64 (r : Int)] 90)) fun e w' => ∃ u, e = .returned u ∧ Res w w' u r ∧ (∀ g, u.ownBlock = some g → w.heap.size < g) ∧ Only [] w w' := by
  have hb : Blk (w.alloc (Obj.cells #[.int .u64 (r : Int)] 90)) w.heap.size 90 (limbV [r]) := Blk.new w 90 (limbV [r])
  have hA : Hid (Arg (w.alloc (Obj.cells #[.int .u64 (r : Int)] 90)) (some ⟨w.heap.size, 0, none⟩) [r]) := ⟨.of_blk hb, limb_one hr.out, by simp⟩
  have ho : Only [] w (w.alloc (Obj.cells #[.int .u64 (r : Int)] 90)) := (Only.refl [] w).alloc _
  refine (of_any (some ⟨w.heap.size, 0, none⟩) 1 [r] _ hA (Nat.le_refl _)).mono ?_
  rintro e w' ⟨u, rfl, hu, ho2⟩
  have hv : val [r] = r := by simp [val]
  rw [hv] at hu
  refine ⟨u, rfl, hu.pre ho.size, fun g hg => ?_, ho.nil_trans ho2⟩
  have h1 := hu.fresh g hg
  have h2 := hb.lt
  omega

end Go.Proofs.YtigpnopeacicpaaDoor
/-
  nat.Bits, limbRoot.
-/
namespace Go.Proofs.YtigpnopeacicpaaDoor
open Go.RowKit

/-- The bits of a number. -/
def bitsN (n : Nat) : Nat := if n = 0 then 0 else Nat.log2 n + 1

theorem bitsN_top {xs : List Nat} {k : Nat} (hx : Limb xs) (hl : xs.length = k + 1) (ht : xs[k]?.getD 0 ≠ 0) : bitsN (val xs) = 64 * k + Lib.bitLen (xs[k]?.getD 0) := by
  have c1 := val_take_succ xs k (by omega)
  rw [show xs.take (k + 1) = xs by rw [← hl, List.take_length]] at c1
  have c0 := val_lt (hx.take k)
  rw [List.length_take, Nat.min_eq_left (by omega)] at c0
  have htb := hx.get k
  rw [BB_pow] at htb
  obtain ⟨b1, b2, b3⟩ := Lib.bitLenAux_bounds 64 (xs[k]?.getD 0) htb ht
  have e : Lib.bitLenAux 64 (xs[k]?.getD 0) = Lib.bitLen (xs[k]?.getD 0) := rfl
  rw [e] at b1 b2 b3
  generalize Lib.bitLen (xs[k]?.getD 0) = L at *
  generalize xs[k]?.getD 0 = t at *
  have hp : BB ^ k = 2 ^ (64 * k) := by rw [BB_pow, ← Nat.pow_mul]
  have h1 : 2 ^ (64 * k + (L - 1)) ≤ val xs := by
    rw [Nat.pow_add, ← hp]
    have := Nat.mul_le_mul_left (BB ^ k) b2
    omega
  have h2 : val xs < 2 ^ (64 * k + L) := by
    rw [Nat.pow_add, ← hp]
    have h3 : BB ^ k * (t + 1) ≤ BB ^ k * 2 ^ L := Nat.mul_le_mul_left _ b3
    rw [Nat.mul_add] at h3
    omega
  have h0 : val xs ≠ 0 := by
    have : 0 < 2 ^ (64 * k + (L - 1)) := Nat.pow_pos (by omega)
    omega
  unfold bitsN
  rw [if_neg h0]
  have h4 : Nat.log2 (val xs) = 64 * k + (L - 1) := (Nat.log2_eq_iff h0).2 ⟨h1, by rw [show 64 * k + (L - 1) + 1 = 64 * k + L by omega]; exact h2⟩
  omega

theorem len64_any (x : Nat) (hx : x < BB) (w : World) : Calls Tryd.prog 82 #[.int .u64 (x : Int)] w fun e w' => e = .returned (.int .i64 (Lib.bitLen x : Int)) ∧ w = w' := by
  rw [BB_val] at hx
  refine (Tryd.bits_Len64 (x : Int) w (by omega) (by omega)).mono ?_
  rintro e w' ⟨he, hw⟩
  rw [Int.toNat_natCast] at he
  exact ⟨he, hw.symm⟩

set_option maxRecDepth 100000 in
theorem nbits_any (A : Option Addr) (c : Nat) (xs : List Nat) (w : World) (hA : Hid (Arg w A xs)) (hc : xs.length ≤ c) :
    Calls Tryd.prog 48 #[.slice A xs.length c] w fun e w' => e = .returned (.int .i64 (bitsN (val xs) : Int)) ∧ w = w' := by
  have HA := Lib.hid hA.out.trim
  by_cases h0 : val xs = 0
  · have hz : (limbsOf (val xs)).length = 0 := by rw [h0, limbsOf_zero]; rfl
    have HZ : Hid (bitsN (val xs) = 0) := by show _ = _; rw [h0]; rfl
    clear h0
    go_enter Tryd.func48, Tryd.ntmps48
    go_wp2_with fail
    (with_reducible refine (trim_any A c xs _ hA hc).mono ?_)
    rintro e w' ⟨rfl, rfl⟩
    go_wp2_with fail
    go_ret
    exact ⟨by rw [HZ.out]; rfl, rfl⟩
  · obtain ⟨k, hk⟩ : ∃ k, (limbsOf (val xs)).length = k + 1 := ⟨(limbsOf (val xs)).length - 1, by have : (limbsOf (val xs)).length ≠ 0 := fun h => h0 (limbsOf_len0.1 h); omega⟩
    obtain ⟨q, hq⟩ : ∃ q, (limbsOf (val xs)).length = q := ⟨_, rfl⟩
    have ht : (limbsOf (val xs))[k]?.getD 0 ≠ 0 := by
      have h := canon_limbsOf (val xs) (by omega)
      rw [List.getElem?_eq_getElem (by omega)]
      simpa [hk] using h
    have hb := bitsN_top (limb_limbsOf (val xs)) hk ht
    rw [val_limbsOf] at hb
    obtain ⟨b, o, rfl, ct⟩ := HA.out.read k (by omega)
    have HT := Lib.hid ((limb_limbsOf (val xs)).get k)
    have HBt := Lib.hid hb
    generalize (limbsOf (val xs))[k]?.getD 0 = t at *
    have hqz : ((q : Int) == 0) = false := by rw [beq_eq_false_iff_ne]; omega
    have hqk : (q : Int) - 1 = (k : Int) := by omega
    have hkq : (k : Int) < (q : Int) := by omega
    have hql : (q : Int) ≤ 4000000 := by have := HA.out.len; omega
    have HBl : Hid (Lib.bitLen t ≤ 64) := Lib.bitLen_le t 64 (by omega) (by rw [← BB_pow]; exact HT.out)
    clear h0 ht hb hk
    go_enter Tryd.func48, Tryd.ntmps48
    go_wp2_with fail
    (with_reducible refine (trim_any (some ⟨b, o, none⟩) c xs _ hA hc).mono ?_)
    rintro e w' ⟨rfl, rfl⟩
    rw [hq]
    go_wp2_with fail
    refine (len64_any t HT.out _).mono ?_
    rintro e w' ⟨rfl, rfl⟩
    have hbl : (Lib.bitLen t : Int) ≤ 64 := by have := HBl.out; omega
    go_wp2_with fail
    go_ret
    refine ⟨?_, rfl⟩
    rw [HBt.out, show ((64 * k + Lib.bitLen t : Nat) : Int) = 64 * (k : Int) + (Lib.bitLen t : Int) by push_cast; rfl]
    rfl

end Go.Proofs.YtigpnopeacicpaaDoor
/-
  nat.root.
-/
namespace Go.Proofs.YtigpnopeacicpaaDoor
open Go.RowKit

end Go.Proofs.YtigpnopeacicpaaDoor
/-
  nat.Sqrt.
-/
namespace Go.Proofs.YtigpnopeacicpaaDoor
open Go.RowKit

end Go.Proofs.YtigpnopeacicpaaDoor
