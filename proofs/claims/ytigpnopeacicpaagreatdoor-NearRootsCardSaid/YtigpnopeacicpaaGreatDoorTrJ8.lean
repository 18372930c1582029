/-
  Joined texts.
-/
import Derived.Test.YtigpnopeacicpaaGreatDoorTrJ6
import Derived.Test.YtigpnopeacicpaaGreatDoorTrGNatD
import Derived.Lib.TrailingZeros
import Derived.Laws.Bits64b
import Derived.ProofKit
import Derived.OpenShut
import Derived.ShutString
import Derived.ChangeOld
import Derived.Below
import Derived.Deep.Slices
import Derived.Deep.Fields
import Derived.ChangeSame
import Derived.Test.YtigpnopeacicpaaGreatDoorProg
import Derived.Test.YtigpnopeacicpaaGreatDoorTrJ0
import Derived.Maps.OwnSet
import Derived.MapKept
/-
  Numbers as values: the contracts of package nat, for slices that read as a number.
-/
namespace Go.Proofs.YtigpnopeacicpaaGreatDoor
open Go.RowKit

def NV (w : World) (v : Value) (n : Nat) : Prop := ∃ A c xs, v = .slice A xs.length c ∧ Arg w A xs ∧ xs.length ≤ c ∧ (xs.length : Int) ≤ 1000000 ∧ val xs = n

def MX : Nat := 1000000

theorem MX_val : MX = 1000000 := rfl
attribute [irreducible] MX

def Few (n : Nat) : Prop := n < BB ^ MX

section
variable {w w' w0 : World} {v u : Value} {n m : Nat} {S : List Nat}

theorem NV.only (h : NV w v n) (ho : Only [] w w') : NV w' v n := by
  obtain ⟨A, c, xs, h1, h2, h3⟩ := h
  exact ⟨A, c, xs, h1, h2.only ho, h3⟩

theorem NV.nil (w : World) : NV w (.slice none 0 0) 0 := ⟨none, 0, [], rfl, ⟨LRead.nil, limb_nil, by simp⟩, by simp, by simp, rfl⟩

theorem Few.len (h : Few n) : ((limbsOf n).length : Int) ≤ 1000000 := by have := limbsOf_len_le h; rw [MX_val] at this; omega

theorem NV.few (h : NV w v n) : Few n := by
  obtain ⟨A, c, xs, _, h2, _, h4, rfl⟩ := h
  exact Nat.lt_of_lt_of_le (val_lt h2.limb) (Nat.pow_le_pow_right BB_pos (by rw [MX_val]; omega))

theorem Few.le (h : Few n) (hm : m ≤ n) : Few m := Nat.lt_of_le_of_lt hm h

theorem Few.of_pow {k : Nat} (h : n < BB ^ k) (hk : (k : Int) ≤ 1000000) : Few n := Nat.lt_of_lt_of_le h (Nat.pow_le_pow_right BB_pos (by rw [MX_val]; omega))

theorem NV.of_res (h : Res w0 w u n) (hf : Few n) : NV w u n := by
  obtain ⟨A, c, rfl, h1, h2, h3⟩ := h.at_.shape
  exact ⟨A, c, _, rfl, ⟨h1, limb_limbsOf n, by have := hf.len; omega⟩, h2, hf.len, val_limbsOf n⟩

theorem Res.form (h : Res w0 w u n) : ∃ A c, u = .slice A (limbsOf n).length c := by
  obtain ⟨A, c, rfl, _⟩ := h.at_.shape
  exact ⟨A, c, rfl⟩

end

def NPostV (n : Nat) (w0 w : World) (e : Ending) (w' : World) : Prop := ∃ A k c, e = .returned (.slice A k c) ∧ Res w0 w' (.slice A k c) n ∧ NV w' (.slice A k c) n ∧ Only [] w w'

theorem Res.len {w0 w : World} {A : Option Addr} {k c n : Nat} (h : Res w0 w (.slice A k c) n) : k = (limbsOf n).length := by
  obtain ⟨A', c', e⟩ := h.form
  injection e

theorem NPostV.of {n : Nat} {w : World} {e : Ending} {w' : World} (h : NPost n w e w') (hf : Few n) : NPostV n w w e w' := by
  obtain ⟨u, h1, h2, h3⟩ := h
  obtain ⟨A, c, rfl⟩ := h2.form
  exact ⟨A, _, c, h1, h2, NV.of_res h2 hf, h3⟩

theorem of_v {w : World} {v : Value} {n : Nat} (h : Hid (NV w v n)) : Calls Tryz.prog 94 #[v] w (NPostV n w w) := by
  have hf := h.out.few
  obtain ⟨A, c, xs, rfl, h2, h3, h4, rfl⟩ := h.out
  exact (of_any A c xs w h2 h3).mono fun e w' hp => NPostV.of hp hf

theorem of_lit (r : Nat) (z : Int) (w : World) (hr : Hid (r < BB)) (hz : Hid ((r : Int) = z)) : Calls Tryz.prog 94 #[.slice (some ⟨w.heap.size, 0, none⟩) 1 1] (w.alloc (Obj.cells #[.int .u64 z] 133)) (NPostV r w w) := by
  have h := of_one r w hr
  rw [hz.out] at h
  refine h.mono fun e w' ⟨u, h1, h2, _, h3⟩ => ?_
  exact NPostV.of ⟨u, h1, h2, h3⟩ (Few.of_pow (k := 1) (by rw [Nat.pow_one]; exact hr.out) (by omega))

theorem cmp_v {w : World} {a b : Value} {m n : Nat} (ha : Hid (NV w a m)) (hb : Hid (NV w b n)) : Calls Tryz.prog 122 #[a, b] w fun e w' => e = .returned (.int .i64 (cmpZ m n)) ∧ Only [] w w' := by
  obtain ⟨A, c, xs, rfl, h2, h3, h4, rfl⟩ := ha.out
  obtain ⟨B, d, ys, rfl, k2, k3, k4, rfl⟩ := hb.out
  exact ncmp_any A B c d xs ys w h2 k2 h3 k3

theorem mul_v {w : World} {a b : Value} {m n : Nat} (cut : Int) (ha : Hid (NV w a m)) (hb : Hid (NV w b n)) (hf : Hid (Few (m * n))) : Calls Tryz.prog 121 #[.int .i64 cut, a, b] w (NPostV (m * n) w w) := by
  obtain ⟨A, c, xs, rfl, h2, h3, h4, rfl⟩ := ha.out
  obtain ⟨B, d, ys, rfl, k2, k3, k4, rfl⟩ := hb.out
  exact (mul_any cut A B c d xs ys w h2 k2 h3 k3 (by omega)).mono fun e w' hp => NPostV.of hp hf.out

theorem bits_v {w : World} {a : Value} {m : Nat} (ha : Hid (NV w a m)) : Calls Tryz.prog 83 #[a] w fun e w' => e = .returned (.int .i64 (bitsN m : Int)) ∧ w = w' := by
  obtain ⟨A, c, xs, rfl, h2, h3, h4, rfl⟩ := ha.out
  exact nbits_any A c xs w h2 h3

def SqrtPostV (a : Nat) (w : World) (e : Ending) (w' : World) : Prop :=
  ∃ A k c A' k' c' u v, u = .slice A k c ∧ v = .slice A' k' c' ∧ e = .returned (.tuple #[.slice A k c, .slice A' k' c']) ∧ Res w w' u (rootN a) ∧ Res w w' v (a - rootN a * rootN a) ∧ NV w' u (rootN a) ∧ NV w' v (a - rootN a * rootN a) ∧ (∀ g g', u.ownBlock = some g → v.ownBlock = some g' → g ≠ g') ∧ Only [] w w'

theorem sqrt_v {w : World} {a : Value} {m : Nat} (ha : Hid (NV w a m)) : Calls Tryz.prog 95 #[a] w (SqrtPostV m w) := by
  have hf := ha.out.few
  obtain ⟨A, c, xs, rfl, h2, h3, h4, rfl⟩ := ha.out
  have hr : rootN (val xs) ≤ val xs := Nat.le_trans (Nat.le_mul_self _) (rootN_is (val xs)).1
  exact (sqrt_any A c xs w h2 h3 h4).mono fun e w' ⟨u, v, h1, hu, hv, h5, h6⟩ => by
    obtain ⟨A1, c1, rfl⟩ := hu.form
    obtain ⟨A2, c2, rfl⟩ := hv.form
    exact ⟨A1, _, c1, A2, _, c2, _, _, rfl, rfl, h1, hu, hv, NV.of_res hu (hf.le hr), NV.of_res hv (hf.le (Nat.sub_le _ _)), h5, h6⟩

def NVs (w : World) : List Value → List Nat → Prop
  | [], [] => True
  | v :: vs, n :: ns => NV w v n ∧ NVs w vs ns
  | _, _ => False

theorem NVs.only {w w' : World} (ho : Only [] w w') : ∀ {vs : List Value} {ns : List Nat}, NVs w vs ns → NVs w' vs ns
  | [], [], h => h
  | [], _ :: _, h => h.elim
  | _ :: _, [], h => h.elim
  | _ :: _, _ :: _, h => ⟨h.1.only ho, NVs.only ho h.2⟩

theorem NVs.items {w : World} : ∀ {vs : List Value} {ns : List Nat}, NVs w vs ns → ∃ L : List Item, L.length = vs.length ∧ sumL L = ns.sum ∧ ∀ (k : Nat) (hk : k < L.length), vs[k]? = some (.slice L[k].a L[k].xs.length L[k].c) ∧ Arg w L[k].a L[k].xs ∧ L[k].xs.length ≤ L[k].c ∧ (L[k].xs.length : Int) ≤ 3999999
  | [], [], _ => ⟨[], rfl, rfl, fun k hk => by simp at hk⟩
  | [], _ :: _, h => h.elim
  | _ :: _, [], h => h.elim
  | v :: vs, n :: ns, h => by
    obtain ⟨L, h1, h2, h3⟩ := NVs.items h.2
    obtain ⟨A, c, xs, rfl, k2, k3, k4, rfl⟩ := h.1
    refine ⟨⟨A, c, xs⟩ :: L, by simp [h1], by rw [List.sum_cons, ← h2]; rfl, ?_⟩
    intro k hk
    cases k with
    | zero => exact ⟨rfl, k2, k3, by simp; omega⟩
    | succ k => simpa using h3 k (by simpa using hk)

theorem few_pow {n : Nat} (h : Few n) (k : Nat) (hk : MX ≤ k) : n < BB ^ k := Nat.lt_of_lt_of_le h (Nat.pow_le_pow_right BB_pos hk)

theorem lt_big {n : Nat} (h : Few n) : n < BB ^ 3999999 := few_pow h 3999999 (by rw [MX_val]; decide)

theorem addL_v {w : World} (vs : List Value) (ns : List Nat) (k : Nat) (hk : Hid (vs.length = k)) (hl : (k : Int) ≤ 1000) (h : Hid (NVs w vs ns)) (hf : Hid (Few ns.sum)) :
    Calls Tryz.prog 106 #[.slice (some ⟨w.heap.size, 0, none⟩) k k] (w.alloc (Obj.cells vs.toArray 28)) (NPostV ns.sum w w) := by
  have ho : Only [] w (w.alloc (Obj.cells vs.toArray 28)) := (Only.refl [] w).alloc _
  have hb : Blk (w.alloc (Obj.cells vs.toArray 28)) w.heap.size 28 vs := Blk.new w 28 vs
  obtain ⟨L, h1, h2, h3⟩ := NVs.items (h.out.only ho)
  have hr : Hid (NsRead (w.alloc (Obj.cells vs.toArray 28)) (some ⟨w.heap.size, 0, none⟩) L) := fun j hj => by
    obtain ⟨h4, h5⟩ := h3 j hj
    exact ⟨_, 0, rfl, by rw [hb.cell, Nat.zero_add]; exact h4, h5⟩
  have hc := add_any (some ⟨w.heap.size, 0, none⟩) k L _ hr (by have := hk.out; omega) (lt_big (by rw [h2]; exact hf.out))
  rw [h1, hk.out, h2] at hc
  exact hc.mono fun e w' ⟨u, g1, g2, g3⟩ => NPostV.of ⟨u, g1, g2.pre ho.size, ho.nil_trans g3⟩ hf.out

theorem add2_v {w : World} {a b : Value} {m n : Nat} (ha : Hid (NV w a m)) (hb : Hid (NV w b n)) (hf : Hid (Few (m + n))) :
    Calls Tryz.prog 106 #[.slice (some ⟨w.heap.size, 0, none⟩) 2 2] (w.alloc (Obj.cells #[a, b] 28)) (NPostV (m + n) w w) := by
  have h := addL_v (w := w) [a, b] [m, n] 2 rfl (by omega) ⟨ha.out, hb.out, trivial⟩ (by show Few _; simp; exact hf.out)
  simp only [List.sum_cons, List.sum_nil, Nat.add_zero] at h
  exact h

theorem few_add {a b : Nat} {i : Nat} (ha : a < BB ^ i) (hb : b < BB ^ i) : a + b < BB ^ (i + 1) := by
  rw [Nat.pow_succ]
  have h1 := Nat.mul_le_mul_left (BB ^ i) BB_two
  omega

end Go.Proofs.YtigpnopeacicpaaGreatDoor
/-
  compasslaw1: alive, Light.
-/
namespace Go.Proofs.YtigpnopeacicpaaGreatDoor
open Go.RowKit

theorem few_small {n : Nat} (h : n < BB) : Few n := Few.of_pow (k := 1) (by rw [Nat.pow_one]; exact h) (by omega)

end Go.Proofs.YtigpnopeacicpaaGreatDoor
/-
  nat.Sub, Shl, Shr, Low, over numbers as values.
-/
namespace Go.Proofs.YtigpnopeacicpaaGreatDoor
open Go.RowKit

def shlN (n : Nat) (z : Int) : Nat := if z > 16777216 ∨ z < -16777216 then 0 else if z < 0 then n / 2 ^ (-z).toNat else n * 2 ^ z.toNat
theorem shlN_up (n k : Nat) (hk : (k : Int) ≤ 16777216) : shlN n (k : Int) = n * 2 ^ k := by
  unfold shlN
  rw [if_neg (by omega), if_neg (by omega), Int.toNat_natCast]
theorem shlN_down (n k : Nat) (hk : (k : Int) ≤ 16777216) : shlN n (-(k : Int)) = n / 2 ^ k := by
  by_cases h0 : k = 0
  · subst h0
    unfold shlN
    simp
  · unfold shlN
    rw [if_neg (by omega), if_pos (by omega), Int.neg_neg, Int.toNat_natCast]
theorem shlN_far (n : Nat) (z : Int) (h : z > 16777216 ∨ z < -16777216) : shlN n z = 0 := by unfold shlN; rw [if_pos h]

set_option maxHeartbeats 800000 in
theorem shl_up {w : World} {a : Value} {n : Nat} (k : Nat) (hk0 : 0 ≤ (k : Int)) (hk : (k : Int) ≤ 16777216) (ha : Hid (NV w a n)) (hf : Hid (Few (n * 2 ^ k))) :
    Calls Tryz.prog 125 #[a, .int .i64 ((k : Int))] w (NPostV (n * 2 ^ k) w w) := by
  obtain ⟨A, c, xs, rfl, h2, h3, h4, rfl⟩ := ha.out
  have H2 := Lib.hid h2
  have HT := Lib.hid h2.trim
  have hl := left_any A c k (k / 64) (k % 64) (limbsOf (val xs)) w HT (by show _ = _; omega) (by show _ < _; omega) (by have := limbsOf_len h2.limb; omega)
  rw [val_limbsOf] at hl
  have HL := Lib.hid hl
  have hk2 : ¬ (k : Int) < -16777216 := by omega
  clear hl ha h2 HT
  go_enter Tryz.func125, Tryz.ntmps125
  go_wp2_with fail
  (with_reducible refine (trim_any A c xs _ H2 h3).mono ?_)
  rintro e w' ⟨rfl, rfl⟩
  go_wp2_with fail
  refine HL.out.mono ?_
  rintro e w1 hp
  obtain ⟨A1, k1, c1, rfl, hr, hv, ho⟩ := NPostV.of hp hf.out
  have HR := Lib.hid hr
  have HV := Lib.hid hv
  have HO := Lib.hid ho
  clear hr hv ho hp HL
  go_wp2_with fail
  go_ret
  exact ⟨_, _, _, rfl, HR.out, HV.out, HO.out⟩
set_option maxHeartbeats 800000 in
theorem shl_down {w : World} {a : Value} {n : Nat} (k : Nat) (hk0 : 0 < (k : Int)) (hk : (k : Int) ≤ 16777216) (ha : Hid (NV w a n)) (hf : Hid (Few (n / 2 ^ k))) :
    Calls Tryz.prog 125 #[a, .int .i64 (-(k : Int))] w (NPostV (n / 2 ^ k) w w) := by
  obtain ⟨A, c, xs, rfl, h2, h3, h4, rfl⟩ := ha.out
  have H2 := Lib.hid h2
  have HT := Lib.hid h2.trim
  have hl := right_any A c k (k / 64) (k % 64) (limbsOf (val xs)) w HT (by show _ = _; omega) (by show _ < _; omega) (by have := limbsOf_len h2.limb; omega)
  rw [val_limbsOf] at hl
  have HL := Lib.hid hl
  have hk2 : -(k : Int) < 0 := by omega
  clear hl ha h2 HT
  go_enter Tryz.func125, Tryz.ntmps125
  go_wp2_with fail
  (with_reducible refine (trim_any A c xs _ H2 h3).mono ?_)
  rintro e w' ⟨rfl, rfl⟩
  go_wp2_with fail
  refine HL.out.mono ?_
  rintro e w1 hp
  obtain ⟨A1, k1, c1, rfl, hr, hv, ho⟩ := NPostV.of hp hf.out
  have HR := Lib.hid hr
  have HV := Lib.hid hv
  have HO := Lib.hid ho
  clear hr hv ho hp HL
  go_wp2_with fail
  go_ret
  exact ⟨_, _, _, rfl, HR.out, HV.out, HO.out⟩
set_option maxHeartbeats 800000 in
theorem shr_up {w : World} {a : Value} {n : Nat} (k : Nat) (hk0 : 0 ≤ (k : Int)) (hk : (k : Int) ≤ 16777216) (ha : Hid (NV w a n)) (hf : Hid (Few (n / 2 ^ k))) :
    Calls Tryz.prog 127 #[a, .int .i64 ((k : Int))] w (NPostV (n / 2 ^ k) w w) := by
  obtain ⟨A, c, xs, rfl, h2, h3, h4, rfl⟩ := ha.out
  have H2 := Lib.hid h2
  have HT := Lib.hid h2.trim
  have hl := right_any A c k (k / 64) (k % 64) (limbsOf (val xs)) w HT (by show _ = _; omega) (by show _ < _; omega) (by have := limbsOf_len h2.limb; omega)
  rw [val_limbsOf] at hl
  have HL := Lib.hid hl
  have hk2 : ¬ (k : Int) < -16777216 := by omega
  clear hl ha h2 HT
  go_enter Tryz.func127, Tryz.ntmps127
  go_wp2_with fail
  (with_reducible refine (trim_any A c xs _ H2 h3).mono ?_)
  rintro e w' ⟨rfl, rfl⟩
  go_wp2_with fail
  refine HL.out.mono ?_
  rintro e w1 hp
  obtain ⟨A1, k1, c1, rfl, hr, hv, ho⟩ := NPostV.of hp hf.out
  have HR := Lib.hid hr
  have HV := Lib.hid hv
  have HO := Lib.hid ho
  clear hr hv ho hp HL
  go_wp2_with fail
  go_ret
  exact ⟨_, _, _, rfl, HR.out, HV.out, HO.out⟩
set_option maxHeartbeats 800000 in
theorem shr_down {w : World} {a : Value} {n : Nat} (k : Nat) (hk0 : 0 < (k : Int)) (hk : (k : Int) ≤ 16777216) (ha : Hid (NV w a n)) (hf : Hid (Few (n * 2 ^ k))) :
    Calls Tryz.prog 127 #[a, .int .i64 (-(k : Int))] w (NPostV (n * 2 ^ k) w w) := by
  obtain ⟨A, c, xs, rfl, h2, h3, h4, rfl⟩ := ha.out
  have H2 := Lib.hid h2
  have HT := Lib.hid h2.trim
  have hl := left_any A c k (k / 64) (k % 64) (limbsOf (val xs)) w HT (by show _ = _; omega) (by show _ < _; omega) (by have := limbsOf_len h2.limb; omega)
  rw [val_limbsOf] at hl
  have HL := Lib.hid hl
  have hk2 : -(k : Int) < 0 := by omega
  clear hl ha h2 HT
  go_enter Tryz.func127, Tryz.ntmps127
  go_wp2_with fail
  (with_reducible refine (trim_any A c xs _ H2 h3).mono ?_)
  rintro e w' ⟨rfl, rfl⟩
  go_wp2_with fail
  refine HL.out.mono ?_
  rintro e w1 hp
  obtain ⟨A1, k1, c1, rfl, hr, hv, ho⟩ := NPostV.of hp hf.out
  have HR := Lib.hid hr
  have HV := Lib.hid hv
  have HO := Lib.hid ho
  clear hr hv ho hp HL
  go_wp2_with fail
  go_ret
  exact ⟨_, _, _, rfl, HR.out, HV.out, HO.out⟩
theorem nv_zero (w : World) (w0 : World) : NPostV 0 w0 w (.returned (.slice none 0 0)) w := ⟨none, 0, 0, rfl, res_nil _ _, NV.nil _, Only.refl _ _⟩
set_option maxHeartbeats 800000 in
theorem shl_far {w : World} {a : Value} (z : Int) (hz : z > 16777216 ∨ z < -16777216) : Calls Tryz.prog 125 #[a, .int .i64 z] w (NPostV 0 w w) := by
  rcases hz with hz | hz
  · go_enter Tryz.func125, Tryz.ntmps125
    go_wp2_with fail
    go_ret
    exact nv_zero w w
  · have hz2 : ¬ 16777216 < z := by omega
    go_enter Tryz.func125, Tryz.ntmps125
    go_wp2_with fail
    go_ret
    exact nv_zero w w
set_option maxHeartbeats 800000 in
theorem shr_far {w : World} {a : Value} (z : Int) (hz : z > 16777216 ∨ z < -16777216) : Calls Tryz.prog 127 #[a, .int .i64 z] w (NPostV 0 w w) := by
  rcases hz with hz | hz
  · go_enter Tryz.func127, Tryz.ntmps127
    go_wp2_with fail
    go_ret
    exact nv_zero w w
  · have hz2 : ¬ 16777216 < z := by omega
    go_enter Tryz.func127, Tryz.ntmps127
    go_wp2_with fail
    go_ret
    exact nv_zero w w
theorem shl_v {w : World} {a : Value} {n : Nat} (z : Int) (ha : Hid (NV w a n)) (hf : Hid (Few (shlN n z))) : Calls Tryz.prog 125 #[a, .int .i64 z] w (NPostV (shlN n z) w w) := by
  by_cases h : z > 16777216 ∨ z < -16777216
  · rw [shlN_far n z h]
    exact shl_far z h
  · by_cases h0 : 0 ≤ z
    · obtain ⟨k, rfl⟩ : ∃ k : Nat, z = (k : Int) := ⟨z.toNat, by omega⟩
      rw [shlN_up n k (by omega)] at hf ⊢
      exact shl_up k (by omega) (by omega) ha hf
    · obtain ⟨k, rfl⟩ : ∃ k : Nat, z = -(k : Int) := ⟨(-z).toNat, by omega⟩
      rw [shlN_down n k (by omega)] at hf ⊢
      exact shl_down k (by omega) (by omega) ha hf
theorem shr_v {w : World} {a : Value} {n : Nat} (z : Int) (ha : Hid (NV w a n)) (hf : Hid (Few (shlN n (-z)))) : Calls Tryz.prog 127 #[a, .int .i64 z] w (NPostV (shlN n (-z)) w w) := by
  by_cases h : z > 16777216 ∨ z < -16777216
  · rw [shlN_far n (-z) (by omega)]
    exact shr_far z h
  · by_cases h0 : 0 ≤ z
    · obtain ⟨k, rfl⟩ : ∃ k : Nat, z = (k : Int) := ⟨z.toNat, by omega⟩
      rw [shlN_down n k (by omega)] at hf ⊢
      exact shr_up k (by omega) (by omega) ha hf
    · obtain ⟨k, rfl⟩ : ∃ k : Nat, z = -(k : Int) := ⟨(-z).toNat, by omega⟩
      rw [Int.neg_neg, shlN_up n k (by omega)] at hf ⊢
      exact shr_down k (by omega) (by omega) ha hf

def lowN (n : Nat) : Nat := if _h : n = 0 then 0 else if n % 2 = 1 then 0 else 1 + lowN (n / 2)
termination_by n
decreasing_by omega
theorem lowN_zero : lowN 0 = 0 := by rw [lowN]; rfl
theorem lowN_odd {n : Nat} (h : n % 2 = 1) : lowN n = 0 := by rw [lowN, dif_neg (by omega), if_pos h]
theorem lowN_even {n : Nat} (h0 : n ≠ 0) (h : n % 2 = 0) : lowN n = 1 + lowN (n / 2) := by rw [lowN, dif_neg h0, if_neg (by omega)]
theorem lowN_is : ∀ (k m : Nat), lowN (2 ^ k * (2 * m + 1)) = k
  | 0, m => by rw [Nat.pow_zero, Nat.one_mul]; exact lowN_odd (by omega)
  | k + 1, m => by
    have hp : 0 < 2 ^ k := Nat.pow_pos (by omega)
    have h1 : 0 < 2 ^ k * (2 * m + 1) := Nat.mul_pos hp (by omega)
    have e : 2 ^ (k + 1) * (2 * m + 1) = 2 * (2 ^ k * (2 * m + 1)) := by rw [Nat.pow_succ, Nat.mul_comm (2 ^ k) 2, Nat.mul_assoc]
    rw [e, lowN_even (by omega) (by omega), Nat.mul_div_cancel_left _ (by omega), lowN_is k m]
    omega
theorem lowN_spec {n : Nat} (h : n ≠ 0) : ∃ m, n = 2 ^ lowN n * (2 * m + 1) := by
  induction n using Nat.strongRecOn with
  | ind n ih =>
    by_cases h1 : n % 2 = 1
    · exact ⟨n / 2, by rw [lowN_odd h1]; omega⟩
    · obtain ⟨m, hm⟩ := ih (n / 2) (by omega) (by omega)
      refine ⟨m, ?_⟩
      rw [lowN_even h (by omega), Nat.pow_add, Nat.pow_one, Nat.mul_assoc, ← hm]
      omega
theorem lowN_limbs {xs : List Nat} {k : Nat} (hk : k < xs.length) (hz : ∀ j, j < k → xs[j]?.getD 0 = 0) (hx : Limb xs) (h0 : xs[k]?.getD 0 ≠ 0) : lowN (val xs) = 64 * k + Lib.ctz 64 (xs[k]?.getD 0) := by
  have hb := hx.get k
  rw [BB_pow] at hb
  obtain ⟨m, hm, hlt⟩ := Lib.ctzFrom_spec 64 (xs[k]?.getD 0) (by omega) hb
  have hc : Lib.ctz 64 (xs[k]?.getD 0) = Lib.ctzFrom 64 (xs[k]?.getD 0) := by unfold Lib.ctz; rw [if_neg h0]
  rw [hc]
  generalize Lib.ctzFrom 64 (xs[k]?.getD 0) = c at *
  have e1 : val (xs.take k) = 0 := by
    have : xs.take k = List.replicate k 0 := by
      apply List.ext_getElem
      · simp; omega
      · intro i h1 h2
        have := hz i (by simp at h1; omega)
        rw [List.getElem?_eq_getElem (by simp at h1; omega)] at this
        simpa using this
    rw [this, val_zeros]
  have e2 := val_take_drop xs (k + 1) (by omega)
  rw [val_take_succ xs k hk, e1, hm, Nat.zero_add, Nat.pow_succ, Nat.mul_assoc, ← Nat.mul_add] at e2
  obtain ⟨d, hd⟩ : ∃ d, 64 = c + (d + 1) := ⟨64 - c - 1, by omega⟩
  have e3 : BB = 2 ^ c * (2 * 2 ^ d) := by
    rw [BB_pow, hd, Nat.pow_add, Nat.pow_succ 2 d, Nat.mul_comm (2 ^ d)]
  have e4 : BB ^ k = 2 ^ (64 * k) := by rw [BB_pow, ← Nat.pow_mul]
  rw [e4] at e2
  have e5 : val xs = 2 ^ (64 * k + c) * (2 * (m + 2 ^ d * val (xs.drop (k + 1))) + 1) := by
    rw [e2, Nat.pow_add, Nat.mul_assoc]
    congr 1
    conv => lhs; rw [e3]
    rw [Nat.mul_assoc, ← Nat.mul_add]
    congr 1
    rw [Nat.mul_add, Nat.mul_assoc]
    omega
  rw [e5, lowN_is]
set_option maxHeartbeats 1000000 in
theorem tz64_core (x k idx : Nat) (w : World) (hx0 : ((x : Int) == 0) = false)
    (key : IntKind.u64.wrap (bits BinOp.and IntKind.u64 (x : Int) (IntKind.u64.wrap (-(x : Int))) * 285870213051353865) / 288230376151711744 = (idx : Int))
    (hi : idx < 64) (hk : k < 64) (hcell : w.cell? ⟨0, idx, none⟩ = some (.int .u8 k)) :
    Calls Tryz.prog 126 #[.int .u64 x] w fun e w' => e = .returned (.int .i64 k) ∧ w = w' := by
  go_enter Tryz.func126, Tryz.ntmps126
  go_wp2_with (simp only [key])
  go_ret
  exact ⟨rfl, rfl⟩
theorem tz64_key (x a : Nat) (hx : x < 18446744073709551616) (hx0 : x ≠ 0) (hlow : x &&& (18446744073709551616 - x) = a) :
    IntKind.u64.wrap (bits BinOp.and IntKind.u64 (x : Int) (IntKind.u64.wrap (-(x : Int))) * 285870213051353865) / 288230376151711744 = ((a * 285870213051353865 % 18446744073709551616 / 288230376151711744 : Nat) : Int) := by
  have e1 : IntKind.u64.wrap (-(x : Int)) = ((18446744073709551616 - x : Nat) : Int) := by rw [IntKind.wrap_u64]; omega
  rw [e1, bits_and_u64_nat x _ hx (by omega), hlow, IntKind.wrap_u64]
  omega
theorem tab64_len : tab64 = Lib.deBruijn64tab.map (fun (n : Nat) => (n : Int)) := rfl
theorem getD_cast (l : List Nat) (i : Nat) : (l.map (fun (n : Nat) => (n : Int))).getD i 0 = ((l.getD i 0 : Nat) : Int) := by
  simp only [List.getD, List.getElem?_map]
  cases l[i]? <;> rfl
theorem tz64_any (x : Nat) (hx : x < BB) (hx0 : x ≠ 0) (w : World) (hT : Hid (Tab6 w)) : Calls Tryz.prog 126 #[.int .u64 x] w fun e w' => e = .returned (.int .i64 (Lib.ctz 64 x : Int)) ∧ w = w' := by
  rw [BB_val] at hx
  obtain ⟨hlow, hk⟩ := Lib.lowest_bit 64 x hx0 hx
  obtain ⟨hi, htab⟩ := Lib.deBruijn64_at _ hk
  have hl : tab64.length = 64 := rfl
  have hcell := hT.out.cell (g := 0) (by kernel_rfl) _ (by rw [hl]; exact hi)
  rw [tab64_len, getD_cast, htab] at hcell
  exact tz64_core x _ _ w (by simp; omega) (tz64_key x _ hx hx0 hlow) hi hk hcell

set_option maxHeartbeats 800000 in
theorem low_v {w : World} {a : Value} {n : Nat} (ha : Hid (NV w a n)) (hT : Hid (Tab6 w)) : Calls Tryz.prog 85 #[a] w fun e w' => e = .returned (.int .i64 (lowN n : Int)) ∧ w = w' := by
  obtain ⟨A, c, xs, rfl, h2, h3, h4, h5⟩ := ha.out
  have HA := Lib.hid h2
  have HV := Lib.hid h5
  clear ha h2 h5
  go_enter Tryz.func85, Tryz.ntmps85
  go_wp2_with fail
  go_loop [7] (fun t => ∃ k : Nat, k ≤ xs.length ∧ t = .int .i64 (k : Int) ∧ ∀ j, j < k → xs[j]?.getD 0 = 0) (fun t => xs.length - (intOf t).toNat)
  case atStart => exact ⟨0, Nat.zero_le _, rfl, fun j h => by omega⟩
  case round =>
    obtain ⟨k, hk, rfl, hz⟩ := hrel
    have HZ := Lib.hid hz
    clear hz
    by_cases hlt : k < xs.length
    · obtain ⟨b, o, rfl, hcell⟩ := HA.out.read k hlt
      have hk' : (k : Int) < (xs.length : Int) := by omega
      by_cases h0 : xs[k]?.getD 0 = 0
      · have HZ' : Hid (∀ j, j < k + 1 → xs[j]?.getD 0 = 0) := fun j h => by
          by_cases e : j = k
          · rw [e]; exact h0
          · exact HZ.out j (by omega)
        rw [h0] at hcell
        clear h0 hlt
        go_wp2_with fail
        go_round
        case rel => exact ⟨k + 1, by omega, by go_num, HZ'.out⟩
        case measure => simp [intOf]; omega
      · have HL := Lib.hid (lowN_limbs hlt HZ.out HA.out.limb h0)
        have HB := Lib.hid (HA.out.limb.get k)
        have HT := Lib.hid (tz64_any _ HB.out h0 w hT)
        have g0 : (((xs[k]?.getD 0 : Nat) : Int) != 0) = true := by simpa using h0
        have HC : Hid (Lib.ctz 64 (xs[k]?.getD 0) < 64) := by
          have hb := HB.out
          rw [BB_pow] at hb
          have := (Lib.ctzFrom_spec 64 (xs[k]?.getD 0) (by omega) hb).choose_spec.2
          show Lib.ctz 64 _ < 64
          unfold Lib.ctz
          rw [if_neg h0]
          exact this
        generalize xs[k]?.getD 0 = x at *
        clear h0 hlt
        go_wp2_with fail
        refine HT.out.mono ?_
        rintro e w' ⟨rfl, rfl⟩
        have hcz : (Lib.ctz 64 x : Int) < 64 := by have := HC.out; omega
        go_wp2_with fail
        go_ret
        refine ⟨?_, rfl⟩
        rw [← HV.out, HL.out, show ((64 * k + Lib.ctz 64 x : Nat) : Int) = 64 * (k : Int) + (Lib.ctz 64 x : Int) by push_cast; rfl]
        rfl
    · have hnl : ¬ (k : Int) < (xs.length : Int) := by omega
      have HV0 : Hid (val xs = 0) := by
        have e : xs = List.replicate xs.length 0 := by
          apply List.ext_getElem
          · simp
          · intro i h1 h2
            have := HZ.out i (by omega)
            rw [List.getElem?_eq_getElem h1] at this
            simpa using this
        show _ = _
        rw [e, val_zeros]
      clear hlt
      go_wp2_with fail
      go_ret
      exact ⟨by rw [← HV.out, HV0.out, lowN_zero]; rfl, rfl⟩
end Go.Proofs.YtigpnopeacicpaaGreatDoor
/-
  A walk's numbers: the values at hand and what they read as.
-/
namespace Go.Proofs.YtigpnopeacicpaaGreatDoor
open Go.RowKit

structure Env (w0 w : World) (vs : List Value) (ns : List Nat) : Prop where
  only : Only [] w0 w
  all : NVs w vs ns
theorem Env.step {w0 w w' : World} {vs : List Value} {ns : List Nat} (h : Env w0 w vs ns) (ho : Only [] w w') : Env w0 w' vs ns := ⟨h.only.nil_trans ho, NVs.only ho h.all⟩
theorem Env.push {w0 w : World} {vs : List Value} {ns : List Nat} (h : Env w0 w vs ns) {v : Value} {n : Nat} (hv : NV w v n) : Env w0 w (v :: vs) (n :: ns) := ⟨h.only, hv, h.all⟩
theorem NVs.get {w : World} : ∀ {vs : List Value} {ns : List Nat} (i : Nat) {v : Value} {n : Nat}, NVs w vs ns → vs[i]? = some v → ns[i]? = some n → NV w v n
  | [], [], i, v, n, _, h1, _ => by simp at h1
  | [], _ :: _, _, _, _, h, _, _ => h.elim
  | _ :: _, [], _, _, _, h, _, _ => h.elim
  | v :: vs, n :: ns, 0, _, _, h, h1, h2 => by
    simp only [List.getElem?_cons_zero, Option.some.injEq] at h1 h2
    subst h1 h2
    exact h.1
  | v :: vs, n :: ns, i + 1, _, _, h, h1, h2 => NVs.get i h.2 (by simpa using h1) (by simpa using h2)
theorem Env.at {w0 w : World} {vs : List Value} {ns : List Nat} (h : Hid (Env w0 w vs ns)) (i : Nat) {v : Value} {n : Nat} (h1 : vs[i]? = some v) (h2 : ns[i]? = some n) : Hid (NV w v n) := NVs.get i h.out.all h1 h2
def Lim (n k : Nat) : Prop := n < BB ^ k
theorem Lim.le {a b i : Nat} (hb : Lim b i) (h : a ≤ b) : Lim a i := Nat.lt_of_le_of_lt h hb
theorem Lim.mono {a i j : Nat} (ha : Lim a i) (h : i ≤ j) : Lim a j := Nat.lt_of_lt_of_le ha (Nat.pow_le_pow_right BB_pos h)
theorem Lim.add {a b i j : Nat} (ha : Lim a i) (hb : Lim b j) : Lim (a + b) (i + j + 1) := few_add (ha.mono (by omega)) (hb.mono (by omega))
theorem Lim.val {xs : List Nat} (h : Limb xs) {k : Nat} (hk : xs.length ≤ k) : Lim (val xs) k := Nat.lt_of_lt_of_le (val_lt h) (Nat.pow_le_pow_right BB_pos hk)
end Go.Proofs.YtigpnopeacicpaaGreatDoor

/-
  An argument that is a slice of limbs, opened: it reads as L.
-/
namespace Go.Proofs.YtigpnopeacicpaaGreatDoor
open Go.ChangeShapes Go.WideShapes Go.ChangeAt Go.RowKit Go.Deep

def LimbsIn (w : World) (A : Option Addr) (L : List Nat) : Prop := LRead w A L ∧ Limb L
theorem LimbsIn.only {w w' : World} {A : Option Addr} {L : List Nat} (h : LimbsIn w A L) (ho : Only [] w w') : LimbsIn w' A L := ⟨h.1.only ho, h.2⟩

end Go.Proofs.YtigpnopeacicpaaGreatDoor

/-
  THE SMALL FUNCTIONS OF dag, code, flo, fail: what each computes.
-/
namespace Go.Proofs.YtigpnopeacicpaaGreatDoor
open Go.RowKit

structure Nd where
  k : Int
  f : Nat
  a : Int
  b : Int
  deriving DecidableEq
def Nd.val (n : Nd) : Value := .agg #[.int .i64 n.k, .float .f64 n.f, .int .i64 n.a, .int .i64 n.b]
def Nd.cells (n : Nd) : List Value := [.int .i64 n.k, .float .f64 n.f, .int .i64 n.a, .int .i64 n.b]
def Nd.keyVal (n : Nd) : Value := .agg #[.int .i64 n.k, .int .i64 n.a, .int .i64 n.b, .int .u64 (n.f : Int)]
def flat (ns : List Nd) : List Value := ns.flatMap Nd.cells

def finB (f : Nat) : Bool := decide (f / 4503599627370496 % 2048 ≠ 2047)
def fitsB (v : Int) : Bool := decide (0 ≤ v ∧ v ≤ 65535)
def validB (k : Int) (f : Nat) (a b : Int) : Bool :=
  decide ((k = 0 ∧ a = 0 ∧ b = 0) ∨ (1 ≤ k ∧ k ≤ 5 ∧ (k = 5 → b = 0) ∧ f = 0 ∧ 0 ≤ a ∧ a ≤ 65535 ∧ 0 ≤ b ∧ b ≤ 65535))
def hasB (n : Nat) (id : Int) : Bool := decide (0 ≤ id ∧ id < n)
def takesB (n : Nat) (k : Int) (f : Nat) (a b : Int) : Bool :=
  validB k f a b && (if k = 0 then finB f else if k = 5 then hasB n a else hasB n a && hasB n b)

theorem bits_run (b : Nat) (w : World) : (callFunc 161 #[.float .f64 b]).run Tryz.prog w = .ok (.value (.int .u64 (b : Int))) w := by
  kernel_rfl

theorem fin_arith (b : Nat) (hb : b < 18446744073709551616) : (bits BinOp.and IntKind.u64 ((b : Int) / 4503599627370496) 2047 != 2047) = finB b := by
  have h1 : ((b : Int) / 4503599627370496) = ((b / 4503599627370496 : Nat) : Int) := by omega
  rw [h1, show (2047 : Int) = ((2047 : Nat) : Int) from rfl, u64_and_nat _ _ (by omega) (by omega)]
  have h2 : (b / 4503599627370496) &&& 2047 = (b / 4503599627370496) % 2048 := Nat.and_two_pow_sub_one_eq_mod _ 11
  rw [h2]
  unfold finB
  rw [Bool.eq_iff_iff]
  simp
  omega

set_option maxHeartbeats 400000 in
theorem finite_any (b : Nat) (hb : b < 2 ^ 64) (w : World) :
    Calls Tryz.prog 160 #[.float .f64 b] w fun e w' => e = .returned (.bool (finB b)) ∧ w = w' := by
  have h := bits_run
  have hf := Lib.hid (fin_arith b hb)
  clear hb
  go_enter Tryz.func160, Tryz.ntmps160
  go_wp2
  go_ret
  exact ⟨by simp [hf.out], rfl⟩

set_option maxHeartbeats 400000 in
theorem fits_any (v : Int) (w : World) :
    Calls Tryz.prog 166 #[.int .i64 v] w fun e w' => e = .returned (.bool (fitsB v)) ∧ w = w' := by
  go_enter Tryz.func166, Tryz.ntmps166
  go_wp2
  all_goals (go_ret; refine ⟨?_, rfl⟩; simp [fitsB]; try omega)

set_option maxHeartbeats 800000 in
theorem cvalid_any (k : Int) (f : Nat) (a b : Int) (w : World) :
    Calls Tryz.prog 158 #[.agg #[.int .i64 k, .float .f64 f, .int .i64 a, .int .i64 b]] w fun e w' => e = .returned (.bool (validB k f a b)) ∧ Only [] w w' := by
  have h := bits_run
  go_enter Tryz.func158, Tryz.ntmps158
  go_wp2_with (go_at_call 166; (with_reducible refine (fits_any _ _).mono ?_); rintro e w' ⟨rfl, rfl⟩)
  all_goals go_ret
  all_goals (refine ⟨?_, ((Only.refl [] w).alloc _)⟩)
  all_goals clear h
  all_goals (simp_all [validB, fitsB]; try (first | omega | (rw [Bool.eq_iff_iff]; simp; done)))
end Go.Proofs.YtigpnopeacicpaaGreatDoor

/-
  has, keyOf, Same, the errors: what each computes.
-/
namespace Go.Proofs.YtigpnopeacicpaaGreatDoor
open Go.RowKit

set_option maxHeartbeats 400000 in
theorem has_any (b : Nat) (A : Option Addr) (n c : Nat) (id : Int) (w : World) (h0 : w.cell? ⟨b, 0, none⟩ = some (.slice A n c)) :
    Calls Tryz.prog 120 #[.pointer (some ⟨b, 0, none⟩), .int .i64 id] w fun e w' => e = .returned (.bool (hasB n id)) ∧ w = w' := by
  go_enter Tryz.func120, Tryz.ntmps120
  go_wp2
  all_goals (go_ret; refine ⟨?_, rfl⟩; simp [hasB]; try omega)

set_option maxHeartbeats 400000 in
theorem keyOf_any (k a b : Int) (f : Nat) (w : World) :
    Calls Tryz.prog 139 #[.agg #[.int .i64 k, .float .f64 f, .int .i64 a, .int .i64 b]] w fun e w' =>
      e = .returned (.agg #[.int .i64 k, .int .i64 a, .int .i64 b, .int .u64 (f : Int)]) ∧ Only [] w w' := by
  have hb := bits_run
  go_enter Tryz.func139, Tryz.ntmps139
  go_wp2
  go_region
  go_wp2
  go_returns
  exact ⟨rfl, (((Only.refl [] w).alloc _).alloc _).drew⟩

set_option maxHeartbeats 400000 in
theorem malformed_any (w : World) :
    Calls Tryz.prog 136 #[] w fun e w' => e = .returned (.iface 188 (.int .i64 1)) ∧ w = w' := by
  go_enter Tryz.func136, Tryz.ntmps136
  go_wp2
  go_ret
  exact ⟨rfl, rfl⟩

def IsAt (w w' : World) (i : Int) (err v : Value) : Prop :=
  ∃ g, w.heap.size ≤ g ∧ v = .iface 190 (.pointer (some ⟨g, 0, none⟩)) ∧ Blk w' g 192 [.int .i64 i, err]

set_option maxHeartbeats 400000 in
theorem node_any (i : Int) (t : TypeId) (x : Int) (w : World) :
    Calls Tryz.prog 138 #[.int .i64 i, .iface t (.int .i64 x)] w fun e w' => ∃ v, e = .returned v ∧ IsAt w w' i (.iface t (.int .i64 x)) v ∧ Only [] w w' := by
  go_enter Tryz.func138, Tryz.ntmps138
  go_wp2
  go_ret
  refine ⟨_, rfl, ⟨w.heap.size, Nat.le_refl _, rfl, ?_⟩, ?_⟩
  · exact Blk.new w 192 [.int .i64 i, .iface t (.int .i64 x)]
  · exact (Only.refl [] w).alloc _

end Go.Proofs.YtigpnopeacicpaaGreatDoor

/-
  THE MAP OF A DAG: the run of a look-up and of a store, over the very entries. WHAT A DAG IS in memory ('DagIs').
-/
namespace Go.Proofs.YtigpnopeacicpaaGreatDoor
open Go.RowKit

theorem key_eq (n m : Nd) (w : World) : (Op.equal 168 n.keyVal m.keyVal).run Tryz.prog w = .ok (decide (n = m)) w := by
  obtain ⟨k, f, a, b⟩ := n
  obtain ⟨k', f', a', b'⟩ := m
  have e : decide ((⟨k, f, a, b⟩ : Nd) = ⟨k', f', a', b'⟩) = (k == k' && (a == a' && (b == b' && ((f : Int) == (f' : Int))))) := by
    rw [Bool.eq_iff_iff]; simp; omega
  rw [e]
  simp only [Op.equal, Nd.keyVal]
  rw [show Op.maxDepth = 9999 + 1 from rfl, run_equalIn_struct w 9999 168 _ _ (by kernel_rfl) (by kernel_rfl)]
  have hl : (Tryz.prog.fieldsOf 168).toList.map (fun f => (f.type, f.offset, (f.name != "_"))) = [(3, 0, true), (3, 1, true), (3, 2, true), (133, 3, true)] := by kernel_rfl
  have hp0 : ∀ (x y z u : Value) (w : World), (part 3 #[x, y, z, u] 0).run Tryz.prog w = .ok x w := fun _ _ _ _ _ => by kernel_rfl
  have hp1 : ∀ (x y z u : Value) (w : World), (part 3 #[x, y, z, u] 1).run Tryz.prog w = .ok y w := fun _ _ _ _ _ => by kernel_rfl
  have hp2 : ∀ (x y z u : Value) (w : World), (part 3 #[x, y, z, u] 2).run Tryz.prog w = .ok z w := fun _ _ _ _ _ => by kernel_rfl
  have hp3 : ∀ (x y z u : Value) (w : World), (part 133 #[x, y, z, u] 3).run Tryz.prog w = .ok u w := fun _ _ _ _ _ => by kernel_rfl
  generalize (Tryz.prog.fieldsOf 168).toList = fs at hl ⊢
  obtain ⟨f0, f1, f2, f3, rfl⟩ : ∃ f0 f1 f2 f3, fs = [f0, f1, f2, f3] := by
    have hlen := congrArg List.length hl
    simp only [List.length_map, List.length_cons, List.length_nil] at hlen
    match fs, hlen with
    | [f0, f1, f2, f3], _ => exact ⟨_, _, _, _, rfl⟩
  simp only [List.map_cons, List.map_nil, List.cons.injEq, Prod.mk.injEq, and_true] at hl
  obtain ⟨⟨t0, o0, n0⟩, ⟨t1, o1, n1⟩, ⟨t2, o2, n2⟩, ⟨t3, o3, n3⟩⟩ := hl
  have n0' := (bne_iff_ne).1 n0
  have n1' := (bne_iff_ne).1 n1
  have n2' := (bne_iff_ne).1 n2
  have n3' := (bne_iff_ne).1 n3
  have q : ∀ (x y : Int) (k : IntKind) (t : TypeId) (kk : IntKind), Tryz.prog.underlying t = some (.int kk) → (Op.equalIn 9999 t (.int k x) (.int k y)).run Tryz.prog w = .ok (x == y) w := fun x y k t kk h => run_equalIn_int w 9998 t k kk x y h
  have qi := fun (x y : Int) => q x y .i64 _ _ Tryz.underlying3
  have qu := fun (x y : Int) => q x y .u64 _ _ Tryz.underlying133
  clear q e
  simp only [Op.eqFields, t0, o0, n0', t1, o1, n1', t2, o2, n2', t3, o3, n3', ne_eq, not_false_eq_true, if_true, Sem.run_bind, Sem.run_ite, Sem.run_pure, hp0, hp1, hp2, hp3, Result.andThen_ok, qi, qu]
  generalize (k == k') = c1
  generalize (a == a') = c2
  generalize (b == b') = c3
  generalize ((f : Int) == (f' : Int)) = c4
  cases c1 <;> cases c2 <;> cases c3 <;> cases c4 <;> rfl

def pairs : Nat → List Nd → List (Value × Value)
  | _, [] => []
  | i, n :: r => (n.keyVal, .int .i64 (i : Int)) :: pairs (i + 1) r
def HasKeys (es : List MapEntry) (s : Nat) (ns : List Nd) : Prop := es.map (fun e => (e.key, e.val)) = pairs s ns

theorem pairs_snoc (n : Nd) : ∀ (ns : List Nd) (s : Nat), pairs s (ns ++ [n]) = pairs s ns ++ [(n.keyVal, .int .i64 ((s + ns.length : Nat) : Int))]
  | [], s => by simp [pairs]
  | m :: r, s => by
    have h : s + 1 + r.length = s + (r.length + 1) := by omega
    simp [pairs, pairs_snoc n r (s + 1), h]

def found (i s : Nat) (ns : List Nd) (n : Nd) : Option (Nat × Value) := if n ∈ ns then some (i + ns.idxOf n, .int .i64 ((s + ns.idxOf n : Nat) : Int)) else none

theorem found_cons (i s : Nat) (m : Nd) (ns : List Nd) (n : Nd) : found i s (m :: ns) n = if n = m then some (i, .int .i64 (s : Int)) else found (i + 1) (s + 1) ns n := by
  unfold found
  by_cases h : n = m
  · subst h; simp
  · have h' : ¬ m = n := fun e => h e.symm
    simp only [List.mem_cons, h, false_or, if_false]
    by_cases hm : n ∈ ns
    · have hb : (m == n) = false := by simpa using h'
      have e1 : (m :: ns).idxOf n = ns.idxOf n + 1 := by rw [List.idxOf_cons, hb]; rfl
      rw [if_pos hm, if_pos hm, e1]
      have e2 : i + (ns.idxOf n + 1) = i + 1 + ns.idxOf n := by omega
      have e3 : s + (ns.idxOf n + 1) = s + 1 + ns.idxOf n := by omega
      rw [e2, e3]
    · rw [if_neg hm, if_neg hm]

theorem find_run (n : Nd) (w : World) : ∀ (es : List MapEntry) (i s : Nat) (ns : List Nd), HasKeys es s ns →
    (Instr.findAsking 168 n.keyVal es i).run Tryz.prog w = .ok (found i s ns n) w
  | [], i, s, ns, h => by
    cases ns with
    | nil => rfl
    | cons m r => simp [HasKeys, pairs] at h
  | e :: es, i, s, ns, h => by
    cases ns with
    | nil => simp [HasKeys, pairs] at h
    | cons m r =>
      simp only [HasKeys, pairs, List.map_cons, List.cons.injEq, Prod.mk.injEq] at h
      obtain ⟨⟨hk, hv⟩, hr⟩ := h
      simp only [Instr.findAsking, Sem.run_bind, hk, key_eq, Result.andThen_ok, found_cons]
      by_cases hnm : n = m
      · simp [hnm, hv]
      · simp only [hnm, decide_false, Bool.false_eq_true, if_false]
        exact find_run n w es (i + 1) (s + 1) r hr

theorem findKey_run (n : Nd) (w : World) (es : List MapEntry) (ns : List Nd) (h : HasKeys es 0 ns) :
    (Instr.findKey 168 n.keyVal es).run Tryz.prog w = .ok (found 0 0 ns n) w := by
  have hu : ∃ fs, Tryz.prog.underlying 168 = some (.struct fs) := ⟨_, Tryz.underlying168⟩
  obtain ⟨fs, hu⟩ := hu
  simp only [Instr.findKey, Sem.run_bind, run_underlying hu, Result.andThen_ok]
  cases es with
  | nil =>
    cases ns with
    | nil => rfl
    | cons m r => simp [HasKeys, pairs] at h
  | cons e es' =>
    have : Instr.findNow (.struct fs) n.keyVal (e :: es') 0 = none := by
      simp [Instr.findNow, Instr.sameNow]
    rw [this]
    exact find_run n w _ 0 0 ns h

theorem checkKey_run (n : Nd) (b : Bool) (w : World) : (Instr.checkKey b 10000 168 n.keyVal).run Tryz.prog w = .ok () w := by
  obtain ⟨k, f, a, c⟩ := n
  cases b <;> kernel_rfl

def lookVal (ns : List Nd) (n : Nd) : Value := .tuple #[.int .i64 (if n ∈ ns then (ns.idxOf n : Int) else 0), .bool (decide (n ∈ ns))]

theorem look_some (n : Nd) (w : World) (m : Nat) (es : Array MapEntry) (clock : Nat) (ns : List Nd) (hm : w.heap[m]? = some (.map es clock)) (h : HasKeys es.toList 0 ns) :
    (Instr.lookup 98 (.map (some m)) n.keyVal true).run Tryz.prog w = .ok (lookVal ns n) w := by
  have hz : (zeroValue 3).run Tryz.prog w = .ok (.int .i64 0) w := by kernel_rfl
  simp only [Instr.lookup, Sem.run_bind, run_underlying Tryz.underlying98, Result.andThen_ok, MapKept.run_getObj_map hm, Sem.run_pure, checkKey_run, findKey_run n w es.toList ns h]
  unfold found lookVal
  by_cases hn : n ∈ ns
  · simp [hn]
  · simp [hn, hz]

theorem look_hit (n : Nd) (w : World) (m : Nat) (es : Array MapEntry) (clock : Nat) (ns : List Nd) (hm : w.heap[m]? = some (.map es clock)) (h : HasKeys es.toList 0 ns) (hn : n ∈ ns) :
    (Instr.lookup 98 (.map (some m)) (.agg #[.int .i64 n.k, .int .i64 n.a, .int .i64 n.b, .int .u64 (n.f : Int)]) true).run Tryz.prog w = .ok (.tuple #[.int .i64 (ns.idxOf n : Int), .bool true]) w := by
  have := look_some n w m es clock ns hm h
  simpa [lookVal, hn, Nd.keyVal] using this
theorem look_miss (n : Nd) (w : World) (m : Nat) (es : Array MapEntry) (clock : Nat) (ns : List Nd) (hm : w.heap[m]? = some (.map es clock)) (h : HasKeys es.toList 0 ns) (hn : n ∉ ns) :
    (Instr.lookup 98 (.map (some m)) (.agg #[.int .i64 n.k, .int .i64 n.a, .int .i64 n.b, .int .u64 (n.f : Int)]) true).run Tryz.prog w = .ok (.tuple #[.int .i64 0, .bool false]) w := by
  have := look_some n w m es clock ns hm h
  simpa [lookVal, hn, Nd.keyVal] using this
theorem look_none (n : Nd) (w : World) : (Instr.lookup 98 (.map none) n.keyVal true).run Tryz.prog w = .ok (.tuple #[.int .i64 0, .bool false]) w := by
  have hz : (zeroValue 3).run Tryz.prog w = .ok (.int .i64 0) w := by kernel_rfl
  have hk : (Instr.findKey 168 n.keyVal (#[] : Array MapEntry).toList).run Tryz.prog w = .ok none w := findKey_run n w [] [] rfl
  simp only [Instr.lookup, Sem.run_bind, run_underlying Tryz.underlying98, Result.andThen_ok, Sem.run_pure, checkKey_run, hk]
  simp [hz]

theorem look_none' (n : Nd) (w : World) : (Instr.lookup 98 (.map none) (.agg #[.int .i64 n.k, .int .i64 n.a, .int .i64 n.b, .int .u64 (n.f : Int)]) true).run Tryz.prog w = .ok (.tuple #[.int .i64 0, .bool false]) w := look_none n w

theorem upd_run (n : Nd) (x : Int) (w : World) (m : Nat) (es : Array MapEntry) (clock : Nat) (ns : List Nd) (hm : w.heap[m]? = some (.map es clock)) (h : HasKeys es.toList 0 ns) (hn : n ∉ ns) :
    (Instr.mapUpdate 98 (.map (some m)) n.keyVal (.int .i64 x)).run Tryz.prog w = .ok () { w with heap := w.heap.setIfInBounds m (.map (es.push { key := n.keyVal, val := .int .i64 x, born := clock }) (clock + 1)) } := by
  simp only [Instr.mapUpdate, Sem.run_bind, run_underlying Tryz.underlying98, Result.andThen_ok, MapKept.run_getObj_map hm, checkKey_run, findKey_run n w es.toList ns h]
  unfold found
  rw [if_neg hn]
  exact MapKept.run_setObj_map _ hm

theorem upd_run' (n : Nd) (x : Int) (w : World) (m : Nat) (es : Array MapEntry) (clock : Nat) (ns : List Nd) (hm : w.heap[m]? = some (.map es clock)) (h : HasKeys es.toList 0 ns) (hn : n ∉ ns) :
    (Instr.mapUpdate 98 (.map (some m)) (.agg #[.int .i64 n.k, .int .i64 n.a, .int .i64 n.b, .int .u64 (n.f : Int)]) (.int .i64 x)).run Tryz.prog w =
      .ok () { w with heap := w.heap.setIfInBounds m (.map (es.push { key := n.keyVal, val := .int .i64 x, born := clock }) (clock + 1)) } := upd_run n x w m es clock ns hm h hn

theorem upd_only (w : World) (m : Nat) (o : Obj) : Only [m] w { w with heap := w.heap.setIfInBounds m o } :=
  ⟨rfl, rfl, rfl, by simp, fun k _ hn => by
    have : m ≠ k := fun e => hn (by simp [e])
    simp [this]⟩

theorem upd_keys (n : Nd) (w : World) (m : Nat) (es : Array MapEntry) (clock : Nat) (ns : List Nd) (hm : w.heap[m]? = some (.map es clock)) (h : HasKeys es.toList 0 ns) :
    ∃ es' clock', (({ w with heap := w.heap.setIfInBounds m (.map (es.push { key := n.keyVal, val := .int .i64 (ns.length : Int), born := clock }) (clock + 1)) } : World)).heap[m]? = some (.map es' clock') ∧ HasKeys es'.toList 0 (ns ++ [n]) := by
  refine ⟨es.push { key := n.keyVal, val := .int .i64 (ns.length : Int), born := clock }, clock + 1, ?_, ?_⟩
  · have := lt_of_heap hm
    simp [this]
  unfold HasKeys at *
  rw [pairs_snoc, Array.toList_push, List.map_append, h]
  simp

theorem upd_all (n : Nd) (w : World) (m : Nat) (es : Array MapEntry) (clock : Nat) (ns : List Nd) (hm : w.heap[m]? = some (.map es clock)) (h : HasKeys es.toList 0 ns) (hn : n ∉ ns) :
    ∃ w', (Instr.mapUpdate 98 (.map (some m)) (.agg #[.int .i64 n.k, .int .i64 n.a, .int .i64 n.b, .int .u64 (n.f : Int)]) (.int .i64 (ns.length : Int))).run Tryz.prog w = .ok () w' ∧ Only [m] w w' ∧
      ∃ es' clock', w'.heap[m]? = some (.map es' clock') ∧ HasKeys es'.toList 0 (ns ++ [n]) :=
  ⟨_, upd_run' n _ w m es clock ns hm h hn, upd_only w m _, upd_keys n w m es clock ns hm h⟩

structure DagIs (w : World) (b : Nat) (v : Value) (r : Option Nat) (ns : List Nd) : Prop where
  blk : Blk w b 100 [v, .map r]
  row : w.ownsRow 0 95 4 v ns.length (flat ns)
  map : ∀ m, r = some m → ∃ es clock, w.heap[m]? = some (.map es clock) ∧ HasKeys es.toList 0 ns
  nodup : r ≠ none → ns.Nodup

def foot (b : Nat) (v : Value) (r : Option Nat) : List Nat := b :: (v.ownBlock.toList ++ r.toList)

theorem ownsRow_only {w w' : World} {S : List Nat} {base : Nat} {e : TypeId} {size : Nat} {v : Value} {n : Nat} {xs : List Value} (h : w.ownsRow base e size v n xs) (ho : Only S w w') (hn : ∀ g, v.ownBlock = some g → g ∉ S) :
    w'.ownsRow base e size v n xs := by
  refine ⟨h.1, ?_⟩
  rcases h.2 with h0 | ⟨g, cap, cur, rfl, hb, hg, rest⟩
  · exact .inl h0
  · exact .inr ⟨g, cap, cur, rfl, hb, ho.heap hg (hn g rfl), rest⟩

theorem DagIs.only {w w' : World} {S : List Nat} {b : Nat} {v : Value} {r : Option Nat} {ns : List Nd} (h : DagIs w b v r ns) (ho : Only S w w') (hn : ∀ k ∈ foot b v r, k ∉ S) : DagIs w' b v r ns :=
  ⟨h.blk.only ho (hn b (by simp [foot])), ownsRow_only h.row ho (fun g hg => hn g (by simp [foot, hg])), fun m hm => by
    obtain ⟨es, clock, h1, h2⟩ := h.map m hm
    exact ⟨es, clock, ho.heap h1 (hn m (by simp [foot, hm])), h2⟩, h.nodup⟩

theorem DagIs.lt {w : World} {b : Nat} {v : Value} {r : Option Nat} {ns : List Nd} (h : DagIs w b v r ns) : ∀ k ∈ foot b v r, k < w.heap.size := by
  intro k hk
  simp only [foot, List.mem_cons, List.mem_append, Option.mem_toList] at hk
  rcases hk with rfl | hk | hk
  · exact h.blk.lt
  · exact (h.row.lt k hk).2
  · obtain ⟨es, clock, h1, _⟩ := h.map k hk
    exact lt_of_heap h1
end Go.Proofs.YtigpnopeacicpaaGreatDoor
