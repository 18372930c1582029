/-
  nat.short: a row divided by a limb in place.
-/
import Derived.Test.YtphjcphcgnjogaaDoorNatH
import Derived.Test.YtphjcphcgnjogaaDoorNatI
namespace Go.Proofs.YtphjcphcgnjogaaDoor
open Go.RowKit

theorem val_drop_cons (xs : List Nat) (j : Nat) (h : j < xs.length) : val (xs.drop j) = xs[j]?.getD 0 + BB * val (xs.drop (j + 1)) := by
  rw [List.drop_eq_getElem_cons h]
  simp [val, h]
/-- Where a row stands that is being divided by a limb. -/
structure SCar (w wr : World) (g y : Nat) (tl : List Value) (xs zs : List Nat) (k rest : Nat) : Prop where
  blk : Blk wr g 64 (limbV zs ++ tl)
  limb : Limb zs
  len : zs.length = xs.length
  low : ∀ j, j < k → zs[j]?.getD 0 = xs[j]?.getD 0
  val_ : val (xs.drop k) = y * val (zs.drop k) + rest
  lt : rest < y
  only : Only [g] w wr
theorem SCar.step {w wr : World} {g y : Nat} {tl : List Value} {xs zs : List Nat} {j rest : Nat} (h : SCar w wr g y tl xs zs (j + 1) rest) (hj : j < xs.length) (hx : Limb xs) {wd : World} (ho : Only [] wr wd) :
    SCar w (wd.setCell ⟨g, j, none⟩ (.int .u64 (((rest * BB + xs[j]?.getD 0) / y : Nat) : Int))) g y tl xs (zs.set j ((rest * BB + xs[j]?.getD 0) / y)) j ((rest * BB + xs[j]?.getD 0) % y) := by
  have hy : 0 < y := by have := h.lt; omega
  have hq : (rest * BB + xs[j]?.getD 0) / y < BB := by
    rw [Nat.div_lt_iff_lt_mul hy]
    have h1 := Nat.mul_le_mul_right BB (show rest + 1 ≤ y from h.lt)
    rw [Nat.succ_mul, Nat.mul_comm y] at h1
    have := hx.get j
    omega
  have hlen := h.len
  refine ⟨?_, h.limb.set _ _ hq, by rw [List.length_set, hlen], fun i hi => ?_, ?_, Nat.mod_lt _ hy, ((h.only.trans ho (by simp)).trans ((Only.refl [g] wd).setCell (.inl (by simp)) _) (by simp))⟩
  · rw [← limbV_set, ← List.set_append_left _ _ (by rw [limbV_len]; omega)]
    exact (h.blk.only ho (by simp)).set_ j _
  · rw [set_get_ne (by omega)]
    exact h.low i (by omega)
  · have h1 := Nat.div_add_mod (rest * BB + xs[j]?.getD 0) y
    rw [val_drop_cons xs j hj, val_drop_cons _ j (by rw [List.length_set]; omega), set_get_eq (by omega), List.drop_set_of_lt (by omega), h.val_]
    rw [Nat.mul_add, Nat.mul_add, Nat.mul_left_comm BB y, Nat.mul_comm BB rest]
    omega

/-- What short leaves. -/
def ShortTl (g y : Nat) (tl : List Value) (xs : List Nat) (w : World) (e : Ending) (w' : World) : Prop :=
  ∃ zs, e = .returned (.int .u64 ((val xs % y : Nat) : Int)) ∧ Blk w' g 64 (limbV zs ++ tl) ∧ Limb zs ∧ zs.length = xs.length ∧ val zs = val xs / y ∧ Only [g] w w'

set_option maxHeartbeats 1600000 in
theorem short_tl (g c n y : Nat) (tl : List Value) (xs : List Nat) (w : World) (hz : Hid (Blk w g 64 (limbV xs ++ tl))) (hzl : Hid (Limb xs)) (hn : Hid (xs.length = n)) (hlen : (n : Int) ≤ 16000000) (hy : Hid (0 < y)) (hyl : Hid (y < BB)) :
    Calls Tryd.prog 62 #[.slice (some ⟨g, 0, none⟩) n c, .int .u64 (y : Int)] w (ShortTl g y tl xs w) := by
  have HStart : Hid (SCar w w g y tl xs xs n 0) := ⟨hz.out, hzl.out, rfl, fun _ _ => rfl, by rw [← hn.out, List.drop_length]; simp [val], hy.out, Only.refl _ _⟩
  go_enter Tryd.func62, Tryd.ntmps62
  go_wp2_with fail
  go_loopw [5, 6] (fun rv iv wr => ∃ (k rest : Nat) (zs : List Nat), k ≤ n ∧ rv = .int .u64 (rest : Int) ∧ iv = .int .i64 ((k : Int) - 1) ∧ SCar w wr g y tl xs zs k rest) (fun _ iv _ => (intOf iv + 1).toNat)
  case atStart => exact ⟨n, 0, xs, Nat.le_refl _, rfl, rfl, HStart.out⟩
  case round =>
    obtain ⟨k, rest, zs, hk, rfl, rfl, hR⟩ := hrel
    have HR := Lib.hid hR
    clear hR HStart
    rcases k with _ | j
    · have HV : Hid (val xs = y * val zs + rest) := HR.out.val_
      have HLen := Lib.hid HR.out.len
      have hd1 : Hid (val xs / y = val zs) := by
        show _ = _
        rw [HV.out, Nat.mul_add_div hy.out, Nat.div_eq_of_lt HR.out.lt, Nat.add_zero]
      have hd2 : Hid (val xs % y = rest) := by
        show _ = _
        rw [HV.out, Nat.mul_add_mod, Nat.mod_eq_of_lt HR.out.lt]
      have hi : ((0 : Nat) : Int) - 1 = -1 := rfl
      rw [hi]
      clear hi
      go_wp2_with fail
      go_ret
      exact ⟨zs, by rw [hd2.out]; rfl, HR.out.blk, HR.out.limb, HLen.out, hd1.out.symm, HR.out.only⟩
    · have hi : ((j + 1 : Nat) : Int) - 1 = (j : Int) := by omega
      rw [hi]
      clear hi
      have HJ : Hid (j < xs.length) := by have := hn.out; show _ < _; omega
      have c1 := HR.out.blk.cell j
      rw [List.getElem?_append_left (by rw [limbV_len, HR.out.len]; exact HJ.out), limbV_get _ _ (by rw [HR.out.len]; exact HJ.out), HR.out.low j (by omega)] at c1
      have hji : (j : Int) < (n : Int) := by omega
      have HX := Lib.hid (hzl.out.get j)
      have HS : Hid (∀ wd, Only [] wr wd → _) := fun wd hd => HR.out.step HJ.out hzl.out (wd := wd) hd
      have HL := Lib.hid HR.out.lt
      have HB := Lib.hid HR.out.blk
      generalize xs[j]?.getD 0 = x at *
      go_wp2_with fail
      refine (div64_any rest x y HL HX hyl _).mono ?_
      rintro e wd ⟨rfl, hod⟩
      have HOd := Lib.hid hod
      clear hod
      have c2 := HOd.out.cell c1 (by simp)
      have f1 := (HB.out.only HOd.out (by simp)).frozen j
      have HS2 := Lib.hid (HS.out wd HOd.out)
      generalize (rest * BB + x) / y = q at *
      generalize (rest * BB + x) % y = r at *
      go_wp2_with fail
      go_roundw
      case rel => exact ⟨j, _, _, by omega, rfl, rfl, HS2.out⟩
      case measure => simp [intOf]
def ShortPost (g y : Nat) (xs : List Nat) (w : World) (e : Ending) (w' : World) : Prop :=
  ∃ zs, e = .returned (.int .u64 ((val xs % y : Nat) : Int)) ∧ Blk w' g 64 (limbV zs) ∧ Limb zs ∧ zs.length = xs.length ∧ val zs = val xs / y ∧ Only [g] w w'
theorem short_any (g c n y : Nat) (xs : List Nat) (w : World) (hz : Hid (Blk w g 64 (limbV xs))) (hzl : Hid (Limb xs)) (hn : Hid (xs.length = n)) (hlen : (n : Int) ≤ 16000000) (hy : Hid (0 < y)) (hyl : Hid (y < BB)) :
    Calls Tryd.prog 62 #[.slice (some ⟨g, 0, none⟩) n c, .int .u64 (y : Int)] w (ShortPost g y xs w) := by
  refine (short_tl g c n y [] xs w (by rw [List.append_nil]; exact hz) hzl hn hlen hy hyl).mono ?_
  rintro e w' ⟨zs, h1, h2, h3⟩
  rw [List.append_nil] at h2
  exact ⟨zs, h1, h2, h3⟩
end Go.Proofs.YtphjcphcgnjogaaDoor
