/-
  Joined texts.
-/
import Derived.Test.YtigpnopeacicpaaDoorTbJ2
import Derived.Test.YtigpnopeacicpaaDoorTbJ0
import Derived.StillTailTactics
import Derived.Lib.TrailingZeros
import Derived.Laws.Bits64b
import Derived.ProofKit
import Derived.OpenShut
import Derived.ShutString
import Derived.ChangeOld
import Derived.Below
import Derived.Deep.Slices
import Derived.Deep.Fields
import Derived.ChangeSame
/-
  nat.long: the long division.
-/
namespace Go.Proofs.YtigpnopeacicpaaDoor
open Go.RowKit

end Go.Proofs.YtigpnopeacicpaaDoor
/-
  nat.DivMod.
-/
namespace Go.Proofs.YtigpnopeacicpaaDoor
open Go.RowKit

/-- Of one limb. -/
theorem of_one (r : Nat) (w : World) (hr : Hid (r < BB)) : Calls Tryd.prog 50 #[.slice (some ⟨w.heap.size, 0, none⟩) 1 1] (w.alloc (Obj.cells #[.int .u64 (r : Int)] 90)) fun e w' => ∃ u, e = .returned u ∧ Res w w' u r ∧ (∀ g, u.ownBlock = some g → w.heap.size < g) ∧ Only [] w w' := by
  have hb : Blk (w.alloc (Obj.cells #[.int .u64 (r : Int)] 90)) w.heap.size 90 (limbV [r]) := Blk.new w 90 (limbV [r])
  have hA : Hid (Arg (w.alloc (Obj.cells #[.int .u64 (r : Int)] 90)) (some ⟨w.heap.size, 0, none⟩) [r]) := ⟨.of_blk hb, limb_one hr.out, by simp⟩
  have ho : Only [] w (w.alloc (Obj.cells #[.int .u64 (r : Int)] 90)) := (Only.refl [] w).alloc _
  refine (of_any (some ⟨w.heap.size, 0, none⟩) 1 [r] _ hA (Nat.le_refl _)).mono ?_
  rintro e w' ⟨u, rfl, hu, ho2⟩
  have hv : val [r] = r := by simp [val]
  rw [hv] at hu
  refine ⟨u, rfl, hu.pre ho.size, fun g hg => ?_, ho.nil_trans ho2⟩
  have h1 := hu.fresh g hg
  have h2 := hb.lt
  omega

end Go.Proofs.YtigpnopeacicpaaDoor
/-
  nat.Bits, limbRoot.
-/
namespace Go.Proofs.YtigpnopeacicpaaDoor
open Go.RowKit

/-- The bits of a number. -/
def bitsN (n : Nat) : Nat := if n = 0 then 0 else Nat.log2 n + 1

theorem bitsN_top {xs : List Nat} {k : Nat} (hx : Limb xs) (hl : xs.length = k + 1) (ht : xs[k]?.getD 0 ≠ 0) : bitsN (val xs) = 64 * k + Lib.bitLen (xs[k]?.getD 0) := by
  have c1 := val_take_succ xs k (by omega)
  rw [show xs.take (k + 1) = xs by rw [← hl, List.take_length]] at c1
  have c0 := val_lt (hx.take k)
  rw [List.length_take, Nat.min_eq_left (by omega)] at c0
  have htb := hx.get k
  rw [BB_pow] at htb
  obtain ⟨b1, b2, b3⟩ := Lib.bitLenAux_bounds 64 (xs[k]?.getD 0) htb ht
  have e : Lib.bitLenAux 64 (xs[k]?.getD 0) = Lib.bitLen (xs[k]?.getD 0) := rfl
  rw [e] at b1 b2 b3
  generalize Lib.bitLen (xs[k]?.getD 0) = L at *
  generalize xs[k]?.getD 0 = t at *
  have hp : BB ^ k = 2 ^ (64 * k) := by rw [BB_pow, ← Nat.pow_mul]
  have h1 : 2 ^ (64 * k + (L - 1)) ≤ val xs := by
    rw [Nat.pow_add, ← hp]
    have := Nat.mul_le_mul_left (BB ^ k) b2
    omega
  have h2 : val xs < 2 ^ (64 * k + L) := by
    rw [Nat.pow_add, ← hp]
    have h3 : BB ^ k * (t + 1) ≤ BB ^ k * 2 ^ L := Nat.mul_le_mul_left _ b3
    rw [Nat.mul_add] at h3
    omega
  have h0 : val xs ≠ 0 := by
    have : 0 < 2 ^ (64 * k + (L - 1)) := Nat.pow_pos (by omega)
    omega
  unfold bitsN
  rw [if_neg h0]
  have h4 : Nat.log2 (val xs) = 64 * k + (L - 1) := (Nat.log2_eq_iff h0).2 ⟨h1, by rw [show 64 * k + (L - 1) + 1 = 64 * k + L by omega]; exact h2⟩
  omega

theorem len64_any (x : Nat) (hx : x < BB) (w : World) : Calls Tryd.prog 82 #[.int .u64 (x : Int)] w fun e w' => e = .returned (.int .i64 (Lib.bitLen x : Int)) ∧ w = w' := by
  rw [BB_val] at hx
  refine (Tryd.bits_Len64 (x : Int) w (by omega) (by omega)).mono ?_
  rintro e w' ⟨he, hw⟩
  rw [Int.toNat_natCast] at he
  exact ⟨he, hw.symm⟩

set_option maxRecDepth 100000 in
theorem nbits_any (A : Option Addr) (c : Nat) (xs : List Nat) (w : World) (hA : Hid (Arg w A xs)) (hc : xs.length ≤ c) :
    Calls Tryd.prog 48 #[.slice A xs.length c] w fun e w' => e = .returned (.int .i64 (bitsN (val xs) : Int)) ∧ w = w' := by
  have HA := Lib.hid hA.out.trim
  by_cases h0 : val xs = 0
  · have hz : (limbsOf (val xs)).length = 0 := by rw [h0, limbsOf_zero]; rfl
    have HZ : Hid (bitsN (val xs) = 0) := by show _ = _; rw [h0]; rfl
    clear h0
    go_enter Tryd.func48, Tryd.ntmps48
    go_wp2_with fail
    (with_reducible refine (trim_any A c xs _ hA hc).mono ?_)
    rintro e w' ⟨rfl, rfl⟩
    go_wp2_with fail
    go_ret
    exact ⟨by rw [HZ.out]; rfl, rfl⟩
  · obtain ⟨k, hk⟩ : ∃ k, (limbsOf (val xs)).length = k + 1 := ⟨(limbsOf (val xs)).length - 1, by have : (limbsOf (val xs)).length ≠ 0 := fun h => h0 (limbsOf_len0.1 h); omega⟩
    obtain ⟨q, hq⟩ : ∃ q, (limbsOf (val xs)).length = q := ⟨_, rfl⟩
    have ht : (limbsOf (val xs))[k]?.getD 0 ≠ 0 := by
      have h := canon_limbsOf (val xs) (by omega)
      rw [List.getElem?_eq_getElem (by omega)]
      simpa [hk] using h
    have hb := bitsN_top (limb_limbsOf (val xs)) hk ht
    rw [val_limbsOf] at hb
    obtain ⟨b, o, rfl, ct⟩ := HA.out.read k (by omega)
    have HT := Lib.hid ((limb_limbsOf (val xs)).get k)
    have HBt := Lib.hid hb
    generalize (limbsOf (val xs))[k]?.getD 0 = t at *
    have hqz : ((q : Int) == 0) = false := by rw [beq_eq_false_iff_ne]; omega
    have hqk : (q : Int) - 1 = (k : Int) := by omega
    have hkq : (k : Int) < (q : Int) := by omega
    have hql : (q : Int) ≤ 4000000 := by have := HA.out.len; omega
    have HBl : Hid (Lib.bitLen t ≤ 64) := Lib.bitLen_le t 64 (by omega) (by rw [← BB_pow]; exact HT.out)
    clear h0 ht hb hk
    go_enter Tryd.func48, Tryd.ntmps48
    go_wp2_with fail
    (with_reducible refine (trim_any (some ⟨b, o, none⟩) c xs _ hA hc).mono ?_)
    rintro e w' ⟨rfl, rfl⟩
    rw [hq]
    go_wp2_with fail
    refine (len64_any t HT.out _).mono ?_
    rintro e w' ⟨rfl, rfl⟩
    have hbl : (Lib.bitLen t : Int) ≤ 64 := by have := HBl.out; omega
    go_wp2_with fail
    go_ret
    refine ⟨?_, rfl⟩
    rw [HBt.out, show ((64 * k + Lib.bitLen t : Nat) : Int) = 64 * (k : Int) + (Lib.bitLen t : Int) by push_cast; rfl]
    rfl

end Go.Proofs.YtigpnopeacicpaaDoor
/-
  nat.root.
-/
namespace Go.Proofs.YtigpnopeacicpaaDoor
open Go.RowKit

end Go.Proofs.YtigpnopeacicpaaDoor
/-
  nat.Sqrt.
-/
namespace Go.Proofs.YtigpnopeacicpaaDoor
open Go.RowKit

end Go.Proofs.YtigpnopeacicpaaDoor

/-
  Numbers as values: the contracts of package nat, for slices that read as a number.
-/
namespace Go.Proofs.YtigpnopeacicpaaDoor
open Go.RowKit

/-- A slice that reads as the number n. -/
def NV (w : World) (v : Value) (n : Nat) : Prop := ∃ A c xs, v = .slice A xs.length c ∧ Arg w A xs ∧ xs.length ≤ c ∧ (xs.length : Int) ≤ 1000000 ∧ val xs = n

/-- So many limbs at most. -/
def MX : Nat := 1000000

theorem MX_val : MX = 1000000 := rfl
attribute [irreducible] MX

/-- Not too great. -/
def Few (n : Nat) : Prop := n < BB ^ MX

section
variable {w w' w0 : World} {v u : Value} {n m : Nat} {S : List Nat}

theorem NV.only (h : NV w v n) (ho : Only [] w w') : NV w' v n := by
  obtain ⟨A, c, xs, h1, h2, h3⟩ := h
  exact ⟨A, c, xs, h1, h2.only ho, h3⟩

theorem NV.nil (w : World) : NV w (.slice none 0 0) 0 := ⟨none, 0, [], rfl, ⟨LRead.nil, limb_nil, by simp⟩, by simp, by simp, rfl⟩

theorem Few.len (h : Few n) : ((limbsOf n).length : Int) ≤ 1000000 := by have := limbsOf_len_le h; rw [MX_val] at this; omega

theorem NV.few (h : NV w v n) : Few n := by
  obtain ⟨A, c, xs, _, h2, _, h4, rfl⟩ := h
  exact Nat.lt_of_lt_of_le (val_lt h2.limb) (Nat.pow_le_pow_right BB_pos (by rw [MX_val]; omega))

theorem Few.le (h : Few n) (hm : m ≤ n) : Few m := Nat.lt_of_le_of_lt hm h

theorem Few.of_pow {k : Nat} (h : n < BB ^ k) (hk : (k : Int) ≤ 1000000) : Few n := Nat.lt_of_lt_of_le h (Nat.pow_le_pow_right BB_pos (by rw [MX_val]; omega))

theorem NV.of_res (h : Res w0 w u n) (hf : Few n) : NV w u n := by
  obtain ⟨A, c, rfl, h1, h2, h3⟩ := h.at_.shape
  exact ⟨A, c, _, rfl, ⟨h1, limb_limbsOf n, by have := hf.len; omega⟩, h2, hf.len, val_limbsOf n⟩

/-- A result's form. -/
theorem Res.form (h : Res w0 w u n) : ∃ A c, u = .slice A (limbsOf n).length c := by
  obtain ⟨A, c, rfl, _⟩ := h.at_.shape
  exact ⟨A, c, rfl⟩

end

/-- What a function leaves that tells a number. -/
def NPostV (n : Nat) (w0 w : World) (e : Ending) (w' : World) : Prop := ∃ A k c, e = .returned (.slice A k c) ∧ Res w0 w' (.slice A k c) n ∧ NV w' (.slice A k c) n ∧ Only [] w w'

theorem Res.len {w0 w : World} {A : Option Addr} {k c n : Nat} (h : Res w0 w (.slice A k c) n) : k = (limbsOf n).length := by
  obtain ⟨A', c', e⟩ := h.form
  injection e

theorem NPostV.of {n : Nat} {w : World} {e : Ending} {w' : World} (h : NPost n w e w') (hf : Few n) : NPostV n w w e w' := by
  obtain ⟨u, h1, h2, h3⟩ := h
  obtain ⟨A, c, rfl⟩ := h2.form
  exact ⟨A, _, c, h1, h2, NV.of_res h2 hf, h3⟩

theorem of_v {w : World} {v : Value} {n : Nat} (h : Hid (NV w v n)) : Calls Tryd.prog 50 #[v] w (NPostV n w w) := by
  have hf := h.out.few
  obtain ⟨A, c, xs, rfl, h2, h3, h4, rfl⟩ := h.out
  exact (of_any A c xs w h2 h3).mono fun e w' hp => NPostV.of hp hf

theorem of_lit (r : Nat) (z : Int) (w : World) (hr : Hid (r < BB)) (hz : Hid ((r : Int) = z)) : Calls Tryd.prog 50 #[.slice (some ⟨w.heap.size, 0, none⟩) 1 1] (w.alloc (Obj.cells #[.int .u64 z] 90)) (NPostV r w w) := by
  have h := of_one r w hr
  rw [hz.out] at h
  refine h.mono fun e w' ⟨u, h1, h2, _, h3⟩ => ?_
  exact NPostV.of ⟨u, h1, h2, h3⟩ (Few.of_pow (k := 1) (by rw [Nat.pow_one]; exact hr.out) (by omega))

theorem bits_v {w : World} {a : Value} {m : Nat} (ha : Hid (NV w a m)) : Calls Tryd.prog 48 #[a] w fun e w' => e = .returned (.int .i64 (bitsN m : Int)) ∧ w = w' := by
  obtain ⟨A, c, xs, rfl, h2, h3, h4, rfl⟩ := ha.out
  exact nbits_any A c xs w h2 h3

/-- A row of numbers. -/
def NVs (w : World) : List Value → List Nat → Prop
  | [], [] => True
  | v :: vs, n :: ns => NV w v n ∧ NVs w vs ns
  | _, _ => False

theorem NVs.only {w w' : World} (ho : Only [] w w') : ∀ {vs : List Value} {ns : List Nat}, NVs w vs ns → NVs w' vs ns
  | [], [], h => h
  | [], _ :: _, h => h.elim
  | _ :: _, [], h => h.elim
  | _ :: _, _ :: _, h => ⟨h.1.only ho, NVs.only ho h.2⟩

theorem few_add {a b : Nat} {i : Nat} (ha : a < BB ^ i) (hb : b < BB ^ i) : a + b < BB ^ (i + 1) := by
  rw [Nat.pow_succ]
  have h1 := Nat.mul_le_mul_left (BB ^ i) BB_two
  omega

end Go.Proofs.YtigpnopeacicpaaDoor
/-
  compasslaw1: alive, Light.
-/
namespace Go.Proofs.YtigpnopeacicpaaDoor
open Go.RowKit

theorem few_small {n : Nat} (h : n < BB) : Few n := Few.of_pow (k := 1) (by rw [Nat.pow_one]; exact h) (by omega)

end Go.Proofs.YtigpnopeacicpaaDoor
/-
  nat.Sub, Shl, Shr, Low, over numbers as values.
-/
namespace Go.Proofs.YtigpnopeacicpaaDoor
open Go.RowKit

/-- A shift: up, down, or too far. -/
def shlN (n : Nat) (z : Int) : Nat := if z > 16777216 ∨ z < -16777216 then 0 else if z < 0 then n / 2 ^ (-z).toNat else n * 2 ^ z.toNat

theorem shlN_up (n k : Nat) (hk : (k : Int) ≤ 16777216) : shlN n (k : Int) = n * 2 ^ k := by
  unfold shlN
  rw [if_neg (by omega), if_neg (by omega), Int.toNat_natCast]

theorem shlN_down (n k : Nat) (hk : (k : Int) ≤ 16777216) : shlN n (-(k : Int)) = n / 2 ^ k := by
  by_cases h0 : k = 0
  · subst h0
    unfold shlN
    simp
  · unfold shlN
    rw [if_neg (by omega), if_pos (by omega), Int.neg_neg, Int.toNat_natCast]

theorem shlN_far (n : Nat) (z : Int) (h : z > 16777216 ∨ z < -16777216) : shlN n z = 0 := by unfold shlN; rw [if_pos h]

set_option maxHeartbeats 800000 in
theorem shr_up {w : World} {a : Value} {n : Nat} (k : Nat) (hk0 : 0 ≤ (k : Int)) (hk : (k : Int) ≤ 16777216) (ha : Hid (NV w a n)) (hf : Hid (Few (n / 2 ^ k))) :
    Calls Tryd.prog 168 #[a, .int .i64 ((k : Int))] w (NPostV (n / 2 ^ k) w w) := by
  obtain ⟨A, c, xs, rfl, h2, h3, h4, rfl⟩ := ha.out
  have H2 := Lib.hid h2
  have HT := Lib.hid h2.trim
  have hl := right_any A c k (k / 64) (k % 64) (limbsOf (val xs)) w HT (by show _ = _; omega) (by show _ < _; omega) (by have := limbsOf_len h2.limb; omega)
  rw [val_limbsOf] at hl
  have HL := Lib.hid hl
  have hk2 : ¬ (k : Int) < -16777216 := by omega
  clear hl ha h2 HT
  go_enter Tryd.func168, Tryd.ntmps168
  go_wp2_with fail
  (with_reducible refine (trim_any A c xs _ H2 h3).mono ?_)
  rintro e w' ⟨rfl, rfl⟩
  go_wp2_with fail
  refine HL.out.mono ?_
  rintro e w1 hp
  obtain ⟨A1, k1, c1, rfl, hr, hv, ho⟩ := NPostV.of hp hf.out
  have HR := Lib.hid hr
  have HV := Lib.hid hv
  have HO := Lib.hid ho
  clear hr hv ho hp HL
  go_wp2_with fail
  go_ret
  exact ⟨_, _, _, rfl, HR.out, HV.out, HO.out⟩

set_option maxHeartbeats 800000 in
theorem shr_down {w : World} {a : Value} {n : Nat} (k : Nat) (hk0 : 0 < (k : Int)) (hk : (k : Int) ≤ 16777216) (ha : Hid (NV w a n)) (hf : Hid (Few (n * 2 ^ k))) :
    Calls Tryd.prog 168 #[a, .int .i64 (-(k : Int))] w (NPostV (n * 2 ^ k) w w) := by
  obtain ⟨A, c, xs, rfl, h2, h3, h4, rfl⟩ := ha.out
  have H2 := Lib.hid h2
  have HT := Lib.hid h2.trim
  have hl := left_any A c k (k / 64) (k % 64) (limbsOf (val xs)) w HT (by show _ = _; omega) (by show _ < _; omega) (by have := limbsOf_len h2.limb; omega)
  rw [val_limbsOf] at hl
  have HL := Lib.hid hl
  have hk2 : -(k : Int) < 0 := by omega
  clear hl ha h2 HT
  go_enter Tryd.func168, Tryd.ntmps168
  go_wp2_with fail
  (with_reducible refine (trim_any A c xs _ H2 h3).mono ?_)
  rintro e w' ⟨rfl, rfl⟩
  go_wp2_with fail
  refine HL.out.mono ?_
  rintro e w1 hp
  obtain ⟨A1, k1, c1, rfl, hr, hv, ho⟩ := NPostV.of hp hf.out
  have HR := Lib.hid hr
  have HV := Lib.hid hv
  have HO := Lib.hid ho
  clear hr hv ho hp HL
  go_wp2_with fail
  go_ret
  exact ⟨_, _, _, rfl, HR.out, HV.out, HO.out⟩

theorem nv_zero (w : World) (w0 : World) : NPostV 0 w0 w (.returned (.slice none 0 0)) w := ⟨none, 0, 0, rfl, res_nil _ _, NV.nil _, Only.refl _ _⟩

set_option maxHeartbeats 800000 in
theorem shr_far {w : World} {a : Value} (z : Int) (hz : z > 16777216 ∨ z < -16777216) : Calls Tryd.prog 168 #[a, .int .i64 z] w (NPostV 0 w w) := by
  rcases hz with hz | hz
  · go_enter Tryd.func168, Tryd.ntmps168
    go_wp2_with fail
    go_ret
    exact nv_zero w w
  · have hz2 : ¬ 16777216 < z := by omega
    go_enter Tryd.func168, Tryd.ntmps168
    go_wp2_with fail
    go_ret
    exact nv_zero w w

theorem shr_v {w : World} {a : Value} {n : Nat} (z : Int) (ha : Hid (NV w a n)) (hf : Hid (Few (shlN n (-z)))) : Calls Tryd.prog 168 #[a, .int .i64 z] w (NPostV (shlN n (-z)) w w) := by
  by_cases h : z > 16777216 ∨ z < -16777216
  · rw [shlN_far n (-z) (by omega)]
    exact shr_far z h
  · by_cases h0 : 0 ≤ z
    · obtain ⟨k, rfl⟩ : ∃ k : Nat, z = (k : Int) := ⟨z.toNat, by omega⟩
      rw [shlN_down n k (by omega)] at hf ⊢
      exact shr_up k (by omega) (by omega) ha hf
    · obtain ⟨k, rfl⟩ : ∃ k : Nat, z = -(k : Int) := ⟨(-z).toNat, by omega⟩
      rw [Int.neg_neg, shlN_up n k (by omega)] at hf ⊢
      exact shr_down k (by omega) (by omega) ha hf

/-- The zero bits at the end. -/
def lowN (n : Nat) : Nat := if _h : n = 0 then 0 else if n % 2 = 1 then 0 else 1 + lowN (n / 2)
termination_by n
decreasing_by omega

theorem lowN_zero : lowN 0 = 0 := by rw [lowN]; rfl

theorem lowN_odd {n : Nat} (h : n % 2 = 1) : lowN n = 0 := by rw [lowN, dif_neg (by omega), if_pos h]

theorem lowN_even {n : Nat} (h0 : n ≠ 0) (h : n % 2 = 0) : lowN n = 1 + lowN (n / 2) := by rw [lowN, dif_neg h0, if_neg (by omega)]

theorem lowN_is : ∀ (k m : Nat), lowN (2 ^ k * (2 * m + 1)) = k
  | 0, m => by rw [Nat.pow_zero, Nat.one_mul]; exact lowN_odd (by omega)
  | k + 1, m => by
    have hp : 0 < 2 ^ k := Nat.pow_pos (by omega)
    have h1 : 0 < 2 ^ k * (2 * m + 1) := Nat.mul_pos hp (by omega)
    have e : 2 ^ (k + 1) * (2 * m + 1) = 2 * (2 ^ k * (2 * m + 1)) := by rw [Nat.pow_succ, Nat.mul_comm (2 ^ k) 2, Nat.mul_assoc]
    rw [e, lowN_even (by omega) (by omega), Nat.mul_div_cancel_left _ (by omega), lowN_is k m]
    omega

theorem lowN_spec {n : Nat} (h : n ≠ 0) : ∃ m, n = 2 ^ lowN n * (2 * m + 1) := by
  induction n using Nat.strongRecOn with
  | ind n ih =>
    by_cases h1 : n % 2 = 1
    · exact ⟨n / 2, by rw [lowN_odd h1]; omega⟩
    · obtain ⟨m, hm⟩ := ih (n / 2) (by omega) (by omega)
      refine ⟨m, ?_⟩
      rw [lowN_even h (by omega), Nat.pow_add, Nat.pow_one, Nat.mul_assoc, ← hm]
      omega

theorem lowN_limbs {xs : List Nat} {k : Nat} (hk : k < xs.length) (hz : ∀ j, j < k → xs[j]?.getD 0 = 0) (hx : Limb xs) (h0 : xs[k]?.getD 0 ≠ 0) : lowN (val xs) = 64 * k + Lib.ctz 64 (xs[k]?.getD 0) := by
  have hb := hx.get k
  rw [BB_pow] at hb
  obtain ⟨m, hm, hlt⟩ := Lib.ctzFrom_spec 64 (xs[k]?.getD 0) (by omega) hb
  have hc : Lib.ctz 64 (xs[k]?.getD 0) = Lib.ctzFrom 64 (xs[k]?.getD 0) := by unfold Lib.ctz; rw [if_neg h0]
  rw [hc]
  generalize Lib.ctzFrom 64 (xs[k]?.getD 0) = c at *
  have e1 : val (xs.take k) = 0 := by
    have : xs.take k = List.replicate k 0 := by
      apply List.ext_getElem
      · simp; omega
      · intro i h1 h2
        have := hz i (by simp at h1; omega)
        rw [List.getElem?_eq_getElem (by simp at h1; omega)] at this
        simpa using this
    rw [this, val_zeros]
  have e2 := val_take_drop xs (k + 1) (by omega)
  rw [val_take_succ xs k hk, e1, hm, Nat.zero_add, Nat.pow_succ, Nat.mul_assoc, ← Nat.mul_add] at e2
  obtain ⟨d, hd⟩ : ∃ d, 64 = c + (d + 1) := ⟨64 - c - 1, by omega⟩
  have e3 : BB = 2 ^ c * (2 * 2 ^ d) := by
    rw [BB_pow, hd, Nat.pow_add, Nat.pow_succ 2 d, Nat.mul_comm (2 ^ d)]
  have e4 : BB ^ k = 2 ^ (64 * k) := by rw [BB_pow, ← Nat.pow_mul]
  rw [e4] at e2
  have e5 : val xs = 2 ^ (64 * k + c) * (2 * (m + 2 ^ d * val (xs.drop (k + 1))) + 1) := by
    rw [e2, Nat.pow_add, Nat.mul_assoc]
    congr 1
    conv => lhs; rw [e3]
    rw [Nat.mul_assoc, ← Nat.mul_add]
    congr 1
    rw [Nat.mul_add, Nat.mul_assoc]
    omega
  rw [e5, lowN_is]

set_option maxHeartbeats 1000000 in
theorem tz64_core (x k idx : Nat) (w : World) (hx0 : ((x : Int) == 0) = false)
    (key : IntKind.u64.wrap (bits BinOp.and IntKind.u64 (x : Int) (IntKind.u64.wrap (-(x : Int))) * 285870213051353865) / 288230376151711744 = (idx : Int))
    (hi : idx < 64) (hk : k < 64) (hcell : w.cell? ⟨6, idx, none⟩ = some (.int .u8 k)) :
    Calls Tryd.prog 167 #[.int .u64 x] w fun e w' => e = .returned (.int .i64 k) ∧ w = w' := by
  go_enter Tryd.func167, Tryd.ntmps167
  go_wp2_with (simp only [key])
  go_ret
  exact ⟨rfl, rfl⟩

theorem tz64_key (x a : Nat) (hx : x < 18446744073709551616) (hx0 : x ≠ 0) (hlow : x &&& (18446744073709551616 - x) = a) :
    IntKind.u64.wrap (bits BinOp.and IntKind.u64 (x : Int) (IntKind.u64.wrap (-(x : Int))) * 285870213051353865) / 288230376151711744 = ((a * 285870213051353865 % 18446744073709551616 / 288230376151711744 : Nat) : Int) := by
  have e1 : IntKind.u64.wrap (-(x : Int)) = ((18446744073709551616 - x : Nat) : Int) := by rw [IntKind.wrap_u64]; omega
  rw [e1, bits_and_u64_nat x _ hx (by omega), hlow, IntKind.wrap_u64]
  omega

theorem tab64_len : tab64 = Lib.deBruijn64tab.map (fun (n : Nat) => (n : Int)) := rfl

theorem getD_cast (l : List Nat) (i : Nat) : (l.map (fun (n : Nat) => (n : Int))).getD i 0 = ((l.getD i 0 : Nat) : Int) := by
  simp only [List.getD, List.getElem?_map]
  cases l[i]? <;> rfl

theorem tz64_any (x : Nat) (hx : x < BB) (hx0 : x ≠ 0) (w : World) (hT : Hid (Tab6 w)) : Calls Tryd.prog 167 #[.int .u64 x] w fun e w' => e = .returned (.int .i64 (Lib.ctz 64 x : Int)) ∧ w = w' := by
  rw [BB_val] at hx
  obtain ⟨hlow, hk⟩ := Lib.lowest_bit 64 x hx0 hx
  obtain ⟨hi, htab⟩ := Lib.deBruijn64_at _ hk
  have hl : tab64.length = 64 := rfl
  have hcell := hT.out.cell (g := 6) (by kernel_rfl) _ (by rw [hl]; exact hi)
  rw [tab64_len, getD_cast, htab] at hcell
  exact tz64_core x _ _ w (by simp; omega) (tz64_key x _ hx hx0 hlow) hi hk hcell

set_option maxHeartbeats 800000 in
theorem low_v {w : World} {a : Value} {n : Nat} (ha : Hid (NV w a n)) (hT : Hid (Tab6 w)) : Calls Tryd.prog 163 #[a] w fun e w' => e = .returned (.int .i64 (lowN n : Int)) ∧ w = w' := by
  obtain ⟨A, c, xs, rfl, h2, h3, h4, h5⟩ := ha.out
  have HA := Lib.hid h2
  have HV := Lib.hid h5
  clear ha h2 h5
  go_enter Tryd.func163, Tryd.ntmps163
  go_wp2_with fail
  go_loop [7] (fun t => ∃ k : Nat, k ≤ xs.length ∧ t = .int .i64 (k : Int) ∧ ∀ j, j < k → xs[j]?.getD 0 = 0) (fun t => xs.length - (intOf t).toNat)
  case atStart => exact ⟨0, Nat.zero_le _, rfl, fun j h => by omega⟩
  case round =>
    obtain ⟨k, hk, rfl, hz⟩ := hrel
    have HZ := Lib.hid hz
    clear hz
    by_cases hlt : k < xs.length
    · obtain ⟨b, o, rfl, hcell⟩ := HA.out.read k hlt
      have hk' : (k : Int) < (xs.length : Int) := by omega
      by_cases h0 : xs[k]?.getD 0 = 0
      · have HZ' : Hid (∀ j, j < k + 1 → xs[j]?.getD 0 = 0) := fun j h => by
          by_cases e : j = k
          · rw [e]; exact h0
          · exact HZ.out j (by omega)
        rw [h0] at hcell
        clear h0 hlt
        go_wp2_with fail
        go_round
        case rel => exact ⟨k + 1, by omega, by go_num, HZ'.out⟩
        case measure => simp [intOf]; omega
      · have HL := Lib.hid (lowN_limbs hlt HZ.out HA.out.limb h0)
        have HB := Lib.hid (HA.out.limb.get k)
        have HT := Lib.hid (tz64_any _ HB.out h0 w hT)
        have g0 : (((xs[k]?.getD 0 : Nat) : Int) != 0) = true := by simpa using h0
        have HC : Hid (Lib.ctz 64 (xs[k]?.getD 0) < 64) := by
          have hb := HB.out
          rw [BB_pow] at hb
          have := (Lib.ctzFrom_spec 64 (xs[k]?.getD 0) (by omega) hb).choose_spec.2
          show Lib.ctz 64 _ < 64
          unfold Lib.ctz
          rw [if_neg h0]
          exact this
        generalize xs[k]?.getD 0 = x at *
        clear h0 hlt
        go_wp2_with fail
        refine HT.out.mono ?_
        rintro e w' ⟨rfl, rfl⟩
        have hcz : (Lib.ctz 64 x : Int) < 64 := by have := HC.out; omega
        go_wp2_with fail
        go_ret
        refine ⟨?_, rfl⟩
        rw [← HV.out, HL.out, show ((64 * k + Lib.ctz 64 x : Nat) : Int) = 64 * (k : Int) + (Lib.ctz 64 x : Int) by push_cast; rfl]
        rfl
    · have hnl : ¬ (k : Int) < (xs.length : Int) := by omega
      have HV0 : Hid (val xs = 0) := by
        have e : xs = List.replicate xs.length 0 := by
          apply List.ext_getElem
          · simp
          · intro i h1 h2
            have := HZ.out i (by omega)
            rw [List.getElem?_eq_getElem h1] at this
            simpa using this
        show _ = _
        rw [e, val_zeros]
      clear hlt
      go_wp2_with fail
      go_ret
      exact ⟨by rw [← HV.out, HV0.out, lowN_zero]; rfl, rfl⟩

end Go.Proofs.YtigpnopeacicpaaDoor
/-
  A walk's numbers: the values at hand and what they read as.
-/
namespace Go.Proofs.YtigpnopeacicpaaDoor
open Go.RowKit

/-- The numbers at hand. -/
structure Env (w0 w : World) (vs : List Value) (ns : List Nat) : Prop where
  only : Only [] w0 w
  all : NVs w vs ns
theorem Env.push {w0 w : World} {vs : List Value} {ns : List Nat} (h : Env w0 w vs ns) {v : Value} {n : Nat} (hv : NV w v n) : Env w0 w (v :: vs) (n :: ns) := ⟨h.only, hv, h.all⟩
theorem NVs.get {w : World} : ∀ {vs : List Value} {ns : List Nat} (i : Nat) {v : Value} {n : Nat}, NVs w vs ns → vs[i]? = some v → ns[i]? = some n → NV w v n
  | [], [], i, v, n, _, h1, _ => by simp at h1
  | [], _ :: _, _, _, _, h, _, _ => h.elim
  | _ :: _, [], _, _, _, h, _, _ => h.elim
  | v :: vs, n :: ns, 0, _, _, h, h1, h2 => by
    simp only [List.getElem?_cons_zero, Option.some.injEq] at h1 h2
    subst h1 h2
    exact h.1
  | v :: vs, n :: ns, i + 1, _, _, h, h1, h2 => NVs.get i h.2 (by simpa using h1) (by simpa using h2)
theorem Env.at {w0 w : World} {vs : List Value} {ns : List Nat} (h : Hid (Env w0 w vs ns)) (i : Nat) {v : Value} {n : Nat} (h1 : vs[i]? = some v) (h2 : ns[i]? = some n) : Hid (NV w v n) := NVs.get i h.out.all h1 h2
/-- So many limbs at most. -/
def Lim (n k : Nat) : Prop := n < BB ^ k
theorem Lim.le {a b i : Nat} (hb : Lim b i) (h : a ≤ b) : Lim a i := Nat.lt_of_le_of_lt h hb
theorem Lim.mono {a i j : Nat} (ha : Lim a i) (h : i ≤ j) : Lim a j := Nat.lt_of_lt_of_le ha (Nat.pow_le_pow_right BB_pos h)
theorem Lim.add {a b i j : Nat} (ha : Lim a i) (hb : Lim b j) : Lim (a + b) (i + j + 1) := few_add (ha.mono (by omega)) (hb.mono (by omega))
theorem Lim.val {xs : List Nat} (h : Limb xs) {k : Nat} (hk : xs.length ≤ k) : Lim (val xs) k := Nat.lt_of_lt_of_le (val_lt h) (Nat.pow_le_pow_right BB_pos hk)
end Go.Proofs.YtigpnopeacicpaaDoor

/-
  An argument that is a slice of limbs, opened: it reads as L.
-/
namespace Go.Proofs.YtigpnopeacicpaaDoor
open Go.ChangeShapes Go.WideShapes Go.ChangeAt Go.RowKit Go.Deep

/-- A slice of limbs, opened. -/
def LimbsIn (w : World) (A : Option Addr) (L : List Nat) : Prop := LRead w A L ∧ Limb L
theorem LimbsIn.only {w w' : World} {A : Option Addr} {L : List Nat} (h : LimbsIn w A L) (ho : Only [] w w') : LimbsIn w' A L := ⟨h.1.only ho, h.2⟩

end Go.Proofs.YtigpnopeacicpaaDoor
