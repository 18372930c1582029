/-
  Numbers as values: the contracts of package nat, for slices that read as a number.
-/
import Derived.Test.YtmjnifjohfljaaaGreatDoorTaGTxt
import Derived.Test.YtmjnifjohfljaaaGreatDoorTaGNatD
import Derived.Test.YtmjnifjohfljaaaGreatDoorTaDoorN
import Derived.Lib.TrailingZeros
import Derived.Laws.Bits64b
namespace Go.Proofs.YtmjnifjohfljaaaGreatDoor
open Go.RowKit

/-- A slice that reads as the number n. -/
def NV (w : World) (v : Value) (n : Nat) : Prop := ∃ A c xs, v = .slice A xs.length c ∧ Arg w A xs ∧ xs.length ≤ c ∧ (xs.length : Int) ≤ 1000000 ∧ val xs = n
/-- So many limbs at most. -/
def MX : Nat := 1000000
theorem MX_val : MX = 1000000 := rfl
attribute [irreducible] MX
/-- Not too great. -/
def Few (n : Nat) : Prop := n < BB ^ MX
section
variable {w w' w0 : World} {v u : Value} {n m : Nat} {S : List Nat}
theorem NV.only (h : NV w v n) (ho : Only [] w w') : NV w' v n := by
  obtain ⟨A, c, xs, h1, h2, h3⟩ := h
  exact ⟨A, c, xs, h1, h2.only ho, h3⟩
theorem NV.mk {A : Option Addr} {c : Nat} {xs : List Nat} (h : Arg w A xs) (hc : xs.length ≤ c) (hl : (xs.length : Int) ≤ 1000000) : NV w (.slice A xs.length c) (val xs) := ⟨A, c, xs, rfl, h, hc, hl, rfl⟩
theorem NV.nil (w : World) : NV w (.slice none 0 0) 0 := ⟨none, 0, [], rfl, ⟨LRead.nil, limb_nil, by simp⟩, by simp, by simp, rfl⟩
theorem Few.len (h : Few n) : ((limbsOf n).length : Int) ≤ 1000000 := by have := limbsOf_len_le h; rw [MX_val] at this; omega
theorem NV.few (h : NV w v n) : Few n := by
  obtain ⟨A, c, xs, _, h2, _, h4, rfl⟩ := h
  exact Nat.lt_of_lt_of_le (val_lt h2.limb) (Nat.pow_le_pow_right BB_pos (by rw [MX_val]; omega))
theorem Few.le (h : Few n) (hm : m ≤ n) : Few m := Nat.lt_of_le_of_lt hm h
theorem Few.of_pow {k : Nat} (h : n < BB ^ k) (hk : (k : Int) ≤ 1000000) : Few n := Nat.lt_of_lt_of_le h (Nat.pow_le_pow_right BB_pos (by rw [MX_val]; omega))
theorem NV.of_res (h : Res w0 w u n) (hf : Few n) : NV w u n := by
  obtain ⟨A, c, rfl, h1, h2, h3⟩ := h.at_.shape
  exact ⟨A, c, _, rfl, ⟨h1, limb_limbsOf n, by have := hf.len; omega⟩, h2, hf.len, val_limbsOf n⟩
/-- A result's form. -/
theorem Res.form (h : Res w0 w u n) : ∃ A c, u = .slice A (limbsOf n).length c := by
  obtain ⟨A, c, rfl, _⟩ := h.at_.shape
  exact ⟨A, c, rfl⟩
end
/-- What a function leaves that tells a number. -/
def NPostV (n : Nat) (w0 w : World) (e : Ending) (w' : World) : Prop := ∃ A k c, e = .returned (.slice A k c) ∧ Res w0 w' (.slice A k c) n ∧ NV w' (.slice A k c) n ∧ Only [] w w'
theorem Res.len {w0 w : World} {A : Option Addr} {k c n : Nat} (h : Res w0 w (.slice A k c) n) : k = (limbsOf n).length := by
  obtain ⟨A', c', e⟩ := h.form
  injection e
theorem NPostV.of {n : Nat} {w : World} {e : Ending} {w' : World} (h : NPost n w e w') (hf : Few n) : NPostV n w w e w' := by
  obtain ⟨u, h1, h2, h3⟩ := h
  obtain ⟨A, c, rfl⟩ := h2.form
  exact ⟨A, _, c, h1, h2, NV.of_res h2 hf, h3⟩

theorem of_v {w : World} {v : Value} {n : Nat} (h : Hid (NV w v n)) : Calls Tryz.prog 11 #[v] w (NPostV n w w) := by
  have hf := h.out.few
  obtain ⟨A, c, xs, rfl, h2, h3, h4, rfl⟩ := h.out
  exact (of_any A c xs w h2 h3).mono fun e w' hp => NPostV.of hp hf
theorem of_lit (r : Nat) (z : Int) (w : World) (hr : Hid (r < BB)) (hz : Hid ((r : Int) = z)) : Calls Tryz.prog 11 #[.slice (some ⟨w.heap.size, 0, none⟩) 1 1] (w.alloc (Obj.cells #[.int .u64 z] 102)) (NPostV r w w) := by
  have h := of_one r w hr
  rw [hz.out] at h
  refine h.mono fun e w' ⟨u, h1, h2, _, h3⟩ => ?_
  exact NPostV.of ⟨u, h1, h2, h3⟩ (Few.of_pow (k := 1) (by rw [Nat.pow_one]; exact hr.out) (by omega))
theorem cmp_v {w : World} {a b : Value} {m n : Nat} (ha : Hid (NV w a m)) (hb : Hid (NV w b n)) : Calls Tryz.prog 17 #[a, b] w fun e w' => e = .returned (.int .i64 (cmpZ m n)) ∧ Only [] w w' := by
  obtain ⟨A, c, xs, rfl, h2, h3, h4, rfl⟩ := ha.out
  obtain ⟨B, d, ys, rfl, k2, k3, k4, rfl⟩ := hb.out
  exact ncmp_any A B c d xs ys w h2 k2 h3 k3
theorem mul_v {w : World} {a b : Value} {m n : Nat} (cut : Int) (ha : Hid (NV w a m)) (hb : Hid (NV w b n)) (hf : Hid (Few (m * n))) : Calls Tryz.prog 13 #[.int .i64 cut, a, b] w (NPostV (m * n) w w) := by
  obtain ⟨A, c, xs, rfl, h2, h3, h4, rfl⟩ := ha.out
  obtain ⟨B, d, ys, rfl, k2, k3, k4, rfl⟩ := hb.out
  exact (mul_any cut A B c d xs ys w h2 k2 h3 k3 (by omega)).mono fun e w' hp => NPostV.of hp hf.out
theorem bits_v {w : World} {a : Value} {m : Nat} (ha : Hid (NV w a m)) : Calls Tryz.prog 70 #[a] w fun e w' => e = .returned (.int .i64 (bitsN m : Int)) ∧ w = w' := by
  obtain ⟨A, c, xs, rfl, h2, h3, h4, rfl⟩ := ha.out
  exact nbits_any A c xs w h2 h3
/-- What DivMod leaves. -/
def DMPostV (a b : Nat) (w : World) (e : Ending) (w' : World) : Prop :=
  ∃ A k c A' k' c' u v, u = .slice A k c ∧ v = .slice A' k' c' ∧ e = .returned (.tuple #[.slice A k c, .slice A' k' c', .bool (decide (b ≠ 0))]) ∧ Res w w' u (a / b) ∧ Res w w' v (if b = 0 then 0 else a % b) ∧ NV w' u (a / b) ∧ NV w' v (if b = 0 then 0 else a % b) ∧ (∀ g g', u.ownBlock = some g → v.ownBlock = some g' → g ≠ g') ∧ Only [] w w'
theorem divMod_v {w : World} {a b : Value} {m n : Nat} (ha : Hid (NV w a m)) (hb : Hid (NV w b n)) : Calls Tryz.prog 14 #[a, b] w (DMPostV m n w) := by
  have hf := ha.out.few
  obtain ⟨A, c, xs, rfl, h2, h3, h4, rfl⟩ := ha.out
  obtain ⟨B, d, ys, rfl, k2, k3, k4, rfl⟩ := hb.out
  refine (divMod_any A B c d xs ys w h2 k2 h3 k3 (by omega)).mono fun e w' ⟨u, v, h1, hu, hv, h5, h6⟩ => ?_
  obtain ⟨A1, c1, rfl⟩ := hu.form
  obtain ⟨A2, c2, rfl⟩ := hv.form
  refine ⟨A1, _, c1, A2, _, c2, _, _, rfl, rfl, h1, hu, hv, NV.of_res hu (hf.le (Nat.div_le_self _ _)), NV.of_res hv (hf.le ?_), h5, h6⟩
  by_cases h0 : val ys = 0
  · rw [if_pos h0]; omega
  · rw [if_neg h0]; exact Nat.mod_le _ _
def SqrtPostV (a : Nat) (w : World) (e : Ending) (w' : World) : Prop :=
  ∃ A k c A' k' c' u v, u = .slice A k c ∧ v = .slice A' k' c' ∧ e = .returned (.tuple #[.slice A k c, .slice A' k' c']) ∧ Res w w' u (rootN a) ∧ Res w w' v (a - rootN a * rootN a) ∧ NV w' u (rootN a) ∧ NV w' v (a - rootN a * rootN a) ∧ (∀ g g', u.ownBlock = some g → v.ownBlock = some g' → g ≠ g') ∧ Only [] w w'
theorem sqrt_v {w : World} {a : Value} {m : Nat} (ha : Hid (NV w a m)) : Calls Tryz.prog 68 #[a] w (SqrtPostV m w) := by
  have hf := ha.out.few
  obtain ⟨A, c, xs, rfl, h2, h3, h4, rfl⟩ := ha.out
  have hr : rootN (val xs) ≤ val xs := Nat.le_trans (Nat.le_mul_self _) (rootN_is (val xs)).1
  exact (sqrt_any A c xs w h2 h3 h4).mono fun e w' ⟨u, v, h1, hu, hv, h5, h6⟩ => by
    obtain ⟨A1, c1, rfl⟩ := hu.form
    obtain ⟨A2, c2, rfl⟩ := hv.form
    exact ⟨A1, _, c1, A2, _, c2, _, _, rfl, rfl, h1, hu, hv, NV.of_res hu (hf.le hr), NV.of_res hv (hf.le (Nat.sub_le _ _)), h5, h6⟩
theorem text_v {w : World} {a : Value} {m : Nat} (ha : Hid (NV w a m)) (htab : Hid (Tab w)) : Calls Tryz.prog 69 #[a] w (TextPost m w) := by
  obtain ⟨A, c, xs, rfl, h2, h3, h4, rfl⟩ := ha.out
  exact text_any A c xs w h2 h3 htab
/-- Sub. -/
def SubPostV (a b : Nat) (w : World) (e : Ending) (w' : World) : Prop := ∃ A k c u, u = .slice A k c ∧ e = .returned (.tuple #[.slice A k c, .bool (decide (b ≤ a))]) ∧ Res w w' u (a - b) ∧ NV w' u (a - b) ∧ Only [] w w'

/-- A row of numbers. -/
def NVs (w : World) : List Value → List Nat → Prop
  | [], [] => True
  | v :: vs, n :: ns => NV w v n ∧ NVs w vs ns
  | _, _ => False
theorem NVs.only {w w' : World} (ho : Only [] w w') : ∀ {vs : List Value} {ns : List Nat}, NVs w vs ns → NVs w' vs ns
  | [], [], h => h
  | [], _ :: _, h => h.elim
  | _ :: _, [], h => h.elim
  | _ :: _, _ :: _, h => ⟨h.1.only ho, NVs.only ho h.2⟩
theorem NVs.items {w : World} : ∀ {vs : List Value} {ns : List Nat}, NVs w vs ns → ∃ L : List Item, L.length = vs.length ∧ sumL L = ns.sum ∧ ∀ (k : Nat) (hk : k < L.length), vs[k]? = some (.slice L[k].a L[k].xs.length L[k].c) ∧ Arg w L[k].a L[k].xs ∧ L[k].xs.length ≤ L[k].c ∧ (L[k].xs.length : Int) ≤ 3999999
  | [], [], _ => ⟨[], rfl, rfl, fun k hk => by simp at hk⟩
  | [], _ :: _, h => h.elim
  | _ :: _, [], h => h.elim
  | v :: vs, n :: ns, h => by
    obtain ⟨L, h1, h2, h3⟩ := NVs.items h.2
    obtain ⟨A, c, xs, rfl, k2, k3, k4, rfl⟩ := h.1
    refine ⟨⟨A, c, xs⟩ :: L, by simp [h1], by rw [List.sum_cons, ← h2]; rfl, ?_⟩
    intro k hk
    cases k with
    | zero => exact ⟨rfl, k2, k3, by simp; omega⟩
    | succ k => simpa using h3 k (by simpa using hk)
theorem few_pow {n : Nat} (h : Few n) (k : Nat) (hk : MX ≤ k) : n < BB ^ k := Nat.lt_of_lt_of_le h (Nat.pow_le_pow_right BB_pos hk)
theorem lt_big {n : Nat} (h : Few n) : n < BB ^ 3999999 := few_pow h 3999999 (by rw [MX_val]; decide)
theorem addL_v {w : World} (vs : List Value) (ns : List Nat) (k : Nat) (hk : Hid (vs.length = k)) (hl : (k : Int) ≤ 1000) (h : Hid (NVs w vs ns)) (hf : Hid (Few ns.sum)) :
    Calls Tryz.prog 12 #[.slice (some ⟨w.heap.size, 0, none⟩) k k] (w.alloc (Obj.cells vs.toArray 36)) (NPostV ns.sum w w) := by
  have ho : Only [] w (w.alloc (Obj.cells vs.toArray 36)) := (Only.refl [] w).alloc _
  have hb : Blk (w.alloc (Obj.cells vs.toArray 36)) w.heap.size 36 vs := Blk.new w 36 vs
  obtain ⟨L, h1, h2, h3⟩ := NVs.items (h.out.only ho)
  have hr : Hid (NsRead (w.alloc (Obj.cells vs.toArray 36)) (some ⟨w.heap.size, 0, none⟩) L) := fun j hj => by
    obtain ⟨h4, h5⟩ := h3 j hj
    exact ⟨_, 0, rfl, by rw [hb.cell, Nat.zero_add]; exact h4, h5⟩
  have hc := add_any (some ⟨w.heap.size, 0, none⟩) k L _ hr (by have := hk.out; omega) (lt_big (by rw [h2]; exact hf.out))
  rw [h1, hk.out, h2] at hc
  exact hc.mono fun e w' ⟨u, g1, g2, g3⟩ => NPostV.of ⟨u, g1, g2.pre ho.size, ho.nil_trans g3⟩ hf.out
theorem add2_v {w : World} {a b : Value} {m n : Nat} (ha : Hid (NV w a m)) (hb : Hid (NV w b n)) (hf : Hid (Few (m + n))) :
    Calls Tryz.prog 12 #[.slice (some ⟨w.heap.size, 0, none⟩) 2 2] (w.alloc (Obj.cells #[a, b] 36)) (NPostV (m + n) w w) := by
  have h := addL_v (w := w) [a, b] [m, n] 2 rfl (by omega) ⟨ha.out, hb.out, trivial⟩ (by show Few _; simp; exact hf.out)
  simp only [List.sum_cons, List.sum_nil, Nat.add_zero] at h
  exact h

/-- Sums and products of numbers that are not too great. -/
theorem few_mul {a b : Nat} {i j : Nat} (ha : a < BB ^ i) (hb : b < BB ^ j) : a * b < BB ^ (i + j) := by
  rw [Nat.pow_add]
  exact Nat.mul_lt_mul'' ha hb
theorem few_add {a b : Nat} {i : Nat} (ha : a < BB ^ i) (hb : b < BB ^ i) : a + b < BB ^ (i + 1) := by
  rw [Nat.pow_succ]
  have h1 := Nat.mul_le_mul_left (BB ^ i) BB_two
  omega
end Go.Proofs.YtmjnifjohfljaaaGreatDoor
/-
  compasslaw1: alive, Light.
-/
namespace Go.Proofs.YtmjnifjohfljaaaGreatDoor
open Go.RowKit

theorem bb_two : limbsOf BB = [0, 1] := by
  have h1 : BB / BB = 1 := Nat.div_self BB_pos
  have h2 : 1 / BB = 0 := by rw [BB_val]
  have h3 : 1 % BB = 1 := by rw [BB_val]
  rw [limbsOf_pos (by have := BB_pos; omega), Nat.mod_self, h1, limbsOf_pos (by omega), h2, h3, limbsOf_zero]
theorem bits_bb : bitsN BB = 65 := by
  unfold bitsN
  rw [if_neg (by have := BB_pos; omega), BB_pow, Nat.log2_two_pow]
theorem root_is {a r : Nat} (h1 : r * r ≤ a) (h2 : a < (r + 1) * (r + 1)) : rootN a = r := by
  have h := rootN_is a
  apply Nat.le_antisymm
  · apply Nat.le_of_not_lt
    intro hc
    have := Nat.mul_le_mul hc hc
    simp only [Nat.succ_eq_add_one] at this
    have := h.1
    omega
  · apply Nat.le_of_not_lt
    intro hc
    have := Nat.mul_le_mul hc hc
    simp only [Nat.succ_eq_add_one] at this
    have := h.2
    omega
theorem dec_120 : Lib.decDigits 120 = [49, 50, 48] := by
  rw [dec_step (by omega), dec_step (by omega), dec_small (by omega)]
  rfl
set_option maxHeartbeats 1600000 in
set_option maxRecDepth 100000 in
theorem alive1_any (w : World) (htab : Hid (Tab w)) : Calls Tryz.prog 8 #[] w fun e w' => e = .returned (.bool true) ∧ Only [] w w' := by
  go_enter Tryz.func8, Tryz.ntmps8
  go_wp2_with fail
  refine (of_lit 18446744073709551615 _ _ (by show _ < _; rw [BB_val]; omega) rfl).mono ?_
  rintro e w1 ⟨A1, k1, c1, rfl, -, hv1, ho1⟩
  have HV1 := Lib.hid hv1
  have HO1 := Lib.hid ho1
  clear hv1 ho1
  go_wp2_with fail
  refine (of_lit 1 _ _ (by show _ < _; rw [BB_val]; omega) rfl).mono ?_
  rintro e w2 ⟨A2, k2, c2, rfl, -, hv2, ho2⟩
  have HV2 := Lib.hid hv2
  have HO2 := Lib.hid (HO1.out.nil_trans ho2)
  have HV1' := Lib.hid (HV1.out.only ho2)
  clear hv2 ho2 HO1 HV1
  go_wp2_with fail
  refine (add2_v HV1' HV2 (Few.of_pow (k := 2) (by rw [Nat.pow_two, BB_val]; omega) (by omega))).mono ?_
  rintro e w3 ⟨A3, k3, c3, rfl, hr3, hv3, ho3⟩
  rw [show 18446744073709551615 + 1 = BB by rw [BB_val]] at hr3 hv3
  have HV3 := Lib.hid hv3
  have HR3 := Lib.hid hr3
  have HO3 := Lib.hid (HO2.out.nil_trans ho3)
  clear hr3 hv3 ho3 HO2 HV1' HV2
  go_wp2_with fail
  refine (of_lit 17 _ _ (by show _ < _; rw [BB_val]; omega) rfl).mono ?_
  rintro e w4 ⟨A4, k4, c4, rfl, -, hv4, ho4⟩
  have HV4 := Lib.hid hv4
  have HV3' := Lib.hid (HV3.out.only ho4)
  have HR3' := Lib.hid (HR3.out.nil ho4)
  have HO4 := Lib.hid (HO3.out.nil_trans ho4)
  clear hv4 ho4 HO3 HV3 HR3
  go_wp2_with fail
  refine (sqrt_v HV4).mono ?_
  rintro e w5 ⟨A5, k5, c5, A6, k6, c6, _, _, rfl, rfl, rfl, -, -, hv5, hv6, -, ho5⟩
  rw [root_is (a := 17) (r := 4) (by omega) (by omega)] at hv5 hv6
  have HV5 := Lib.hid hv5
  have HV6 := Lib.hid hv6
  have HV3 := Lib.hid (HV3'.out.only ho5)
  have HR3 := Lib.hid (HR3'.out.nil ho5)
  have HO5 := Lib.hid (HO4.out.nil_trans ho5)
  have hlen := HR3.out.len
  have hread := (LimbsAt.read HR3.out.at_).2
  rw [bb_two] at hlen hread
  obtain rfl : k3 = 2 := hlen
  obtain ⟨g3, o3, rfl, d0⟩ := hread 0 (by simp)
  obtain ⟨_, _, e3, d1⟩ := hread 1 (by simp)
  injection e3 with e3
  injection e3 with e3 e4 _
  subst e3 e4
  have d0 : w5.cell? ⟨g3, o3, none⟩ = some (.int .u64 0) := d0
  have d1 : w5.cell? ⟨g3, o3 + 1, none⟩ = some (.int .u64 1) := d1
  clear hv5 hv6 ho5 HO4 HV3' HR3' HV4 hread
  go_wp2_with fail
  refine (of_lit 120 _ _ (by show _ < _; rw [BB_val]; omega) rfl).mono ?_
  rintro e w6 ⟨A7, k7, c7, rfl, -, hv7, ho6⟩
  have HV7 := Lib.hid hv7
  have HO6 := Lib.hid (HO5.out.nil_trans ho6)
  have HO56 := Lib.hid ho6
  clear hv7 ho6 d0 d1
  go_wp2_with fail
  refine (text_v HV7 (Lib.hid (htab.out.only HO6.out))).mono ?_
  rintro e w7 ⟨rfl, ho7⟩
  rw [dec_120]
  have HO7 := Lib.hid (HO6.out.nil_trans ho7)
  have HO57 := Lib.hid (HO56.out.nil_trans ho7)
  clear ho7
  go_wp2_with fail
  refine (of_lit 4 _ _ (by show _ < _; rw [BB_val]; omega) rfl).mono ?_
  rintro e w8 ⟨A8, k8, c8, rfl, -, hv8, ho8⟩
  have HV8 := Lib.hid hv8
  have HO8 := Lib.hid (HO7.out.nil_trans ho8)
  have HO58 := Lib.hid (HO57.out.nil_trans ho8)
  clear hv8 ho8
  go_wp2_with fail
  refine (cmp_v (Lib.hid (HV5.out.only HO58.out)) HV8).mono ?_
  rintro e w9 ⟨rfl, ho9⟩
  rw [cmp_eq rfl]
  have HO9 := Lib.hid (HO8.out.nil_trans ho9)
  have HO59 := Lib.hid (HO58.out.nil_trans ho9)
  clear ho9
  go_wp2_with fail
  refine (of_lit 1 _ _ (by show _ < _; rw [BB_val]; omega) rfl).mono ?_
  rintro e wa ⟨Aa, ka, ca, rfl, -, hva, hoa⟩
  have HVa := Lib.hid hva
  have HOa := Lib.hid (HO9.out.nil_trans hoa)
  have HO5a := Lib.hid (HO59.out.nil_trans hoa)
  clear hva hoa
  go_wp2_with fail
  refine (cmp_v (Lib.hid (HV6.out.only HO5a.out)) HVa).mono ?_
  rintro e wb ⟨rfl, hob⟩
  rw [cmp_eq rfl]
  have HOb := Lib.hid (HOa.out.nil_trans hob)
  have HO5b := Lib.hid (HO5a.out.nil_trans hob)
  clear hob
  go_wp2_with fail
  refine (bits_v (Lib.hid (HV3.out.only HO5b.out))).mono ?_
  rintro e w' ⟨rfl, rfl⟩
  rw [bits_bb]
  go_wp2_with fail
  go_ret
  exact ⟨rfl, HOb.out⟩

/-- A slice of slices, of which the lengths are known. -/
structure Sl where
  a : Option Addr
  n : Nat
  c : Nat
def SlRead (w : World) (A : Option Addr) (L : List Sl) : Prop :=
  ∀ (k : Nat) (hk : k < L.length), ∃ b o, A = some ⟨b, o, none⟩ ∧ w.cell? ⟨b, o + k, none⟩ = some (.slice L[k].a L[k].n L[k].c)
def lightB (L : List Sl) : Bool := L.all fun x => decide (x.n ≤ 40)
set_option maxHeartbeats 800000 in
theorem light_any (A : Option Addr) (c : Nat) (L : List Sl) (w : World) (h : Hid (SlRead w A L)) (hl : (L.length : Int) ≤ 9223372036854775800) :
    Calls Tryz.prog 7 #[.slice A L.length c] w fun e w' => e = .returned (.bool (lightB L)) ∧ Only [] w w' := by
  go_enter Tryz.func7, Tryz.ntmps7
  go_wp2_with fail
  go_loopw [3] (fun i wr => ∃ k : Nat, k ≤ L.length ∧ i = .int .i64 (k : Int) ∧ lightB (L.take k) = true ∧ Only [] w wr) (fun i _ => L.length - (intOf i).toNat)
  case atStart => exact ⟨0, Nat.zero_le _, rfl, rfl, Only.refl _ _⟩
  case round =>
    obtain ⟨k, hk, rfl, hl, ho⟩ := hrel
    have HL := Lib.hid hl
    have HO := Lib.hid ho
    clear hl ho
    by_cases hlt : k < L.length
    · obtain ⟨b, o, rfl, h1⟩ := h.out k hlt
      have h2 := HO.out.cell h1 (by simp)
      have HK : Hid (lightB (L.take (k + 1)) = (lightB (L.take k) && decide (L[k].n ≤ 40))) := by
        show _ = _
        unfold lightB
        rw [List.take_succ_eq_append_getElem hlt, List.all_append]
        simp only [List.all_cons, List.all_nil, Bool.and_true]
      have HM : Hid (40 < L[k].n → lightB L = false) := fun hn => by
        unfold lightB
        rw [List.all_eq_false]
        exact ⟨L[k], List.getElem_mem hlt, by simp; exact hn⟩
      have hk' : (k : Int) < (L.length : Int) := by omega
      generalize L[k] = x at h2 HK HM
      obtain ⟨xa, xn, xc⟩ := x
      simp only at h2 HK HM
      clear h1 hlt
      by_cases hx : 40 < xn
      · have hxi : (40 : Int) < (xn : Int) := by omega
        have HF := Lib.hid (HM.out hx)
        clear hx
        go_wp2_with fail
        go_ret
        exact ⟨by rw [HF.out]; rfl, HO.out⟩
      · have hxi : ¬ (40 : Int) < (xn : Int) := by omega
        have HT : Hid (lightB (L.take (k + 1)) = true) := by
          show _ = _
          rw [HK.out, HL.out, decide_eq_true (by omega)]
          rfl
        clear hx
        go_wp2_with fail
        go_roundw
        case rel => exact ⟨k + 1, by omega, by go_num, HT.out, HO.out⟩
        case measure => simp [intOf]; omega
    · have hnl : ¬ (k : Int) < (L.length : Int) := by omega
      have HF : Hid (lightB L = true) := by
        have h1 := HL.out
        rw [List.take_of_length_le (by omega)] at h1
        exact h1
      clear hlt
      go_wp2_with fail
      go_ret
      exact ⟨by rw [HF.out]; rfl, HO.out⟩
/-- Light of slices that have just been laid. -/
theorem light_v {w : World} (L : List Sl) (k : Nat) (hk : Hid (L.length = k)) (hl : (k : Int) ≤ 1000) :
    Calls Tryz.prog 7 #[.slice (some ⟨w.heap.size, 0, none⟩) k k] (w.alloc (Obj.cells (L.map fun x => Value.slice x.a x.n x.c).toArray 22)) fun e w' => e = .returned (.bool (lightB L)) ∧ Only [] w w' := by
  have hb : Blk (w.alloc (Obj.cells (L.map fun x => Value.slice x.a x.n x.c).toArray 22)) w.heap.size 22 (L.map fun x => Value.slice x.a x.n x.c) := Blk.new w _ _
  have h := light_any (some ⟨w.heap.size, 0, none⟩) k L _ (Lib.hid (fun j hj => ⟨_, 0, rfl, by rw [hb.cell, Nat.zero_add]; simp [hj]⟩)) (by have := hk.out; omega)
  rw [hk.out] at h
  exact h.mono fun e w' ⟨h1, h2⟩ => ⟨h1, ((Only.refl [] w).alloc _).nil_trans h2⟩
end Go.Proofs.YtmjnifjohfljaaaGreatDoor
/-
  nat.Sub, Shl, Shr, Low, over numbers as values.
-/
namespace Go.Proofs.YtmjnifjohfljaaaGreatDoor
open Go.RowKit

theorem sub_v {w : World} {a b : Value} {m n : Nat} (ha : Hid (NV w a m)) (hb : Hid (NV w b n)) : Calls Tryz.prog 15 #[a, b] w (SubPostV m n w) := by
  have hf := ha.out.few
  obtain ⟨A, c, xs, rfl, h2, h3, h4, rfl⟩ := ha.out
  obtain ⟨B, d, ys, rfl, k2, k3, k4, rfl⟩ := hb.out
  refine (sub_any A B c d xs ys w h2 k2 h3 k3).mono fun e w' ⟨u, h1, hu, h6⟩ => ?_
  obtain ⟨A1, c1, rfl⟩ := hu.form
  exact ⟨A1, _, c1, _, rfl, h1, hu, NV.of_res hu (hf.le (Nat.sub_le _ _)), h6⟩

end Go.Proofs.YtmjnifjohfljaaaGreatDoor
/-
  A walk's numbers: the values at hand and what they read as.
-/
namespace Go.Proofs.YtmjnifjohfljaaaGreatDoor
open Go.RowKit

/-- The numbers at hand. -/
structure Env (w0 w : World) (vs : List Value) (ns : List Nat) : Prop where
  only : Only [] w0 w
  all : NVs w vs ns
theorem NVs.get {w : World} : ∀ {vs : List Value} {ns : List Nat} (i : Nat) {v : Value} {n : Nat}, NVs w vs ns → vs[i]? = some v → ns[i]? = some n → NV w v n
  | [], [], i, v, n, _, h1, _ => by simp at h1
  | [], _ :: _, _, _, _, h, _, _ => h.elim
  | _ :: _, [], _, _, _, h, _, _ => h.elim
  | v :: vs, n :: ns, 0, _, _, h, h1, h2 => by
    simp only [List.getElem?_cons_zero, Option.some.injEq] at h1 h2
    subst h1 h2
    exact h.1
  | v :: vs, n :: ns, i + 1, _, _, h, h1, h2 => NVs.get i h.2 (by simpa using h1) (by simpa using h2)
theorem Env.at {w0 w : World} {vs : List Value} {ns : List Nat} (h : Hid (Env w0 w vs ns)) (i : Nat) {v : Value} {n : Nat} (h1 : vs[i]? = some v) (h2 : ns[i]? = some n) : Hid (NV w v n) := NVs.get i h.out.all h1 h2
/-- So many limbs at most. -/
def Lim (n k : Nat) : Prop := n < BB ^ k
theorem Lim.mul {a b i j : Nat} (ha : Lim a i) (hb : Lim b j) : Lim (a * b) (i + j) := few_mul ha hb
theorem Lim.le {a b i : Nat} (hb : Lim b i) (h : a ≤ b) : Lim a i := Nat.lt_of_le_of_lt h hb
theorem Lim.mono {a i j : Nat} (ha : Lim a i) (h : i ≤ j) : Lim a j := Nat.lt_of_lt_of_le ha (Nat.pow_le_pow_right BB_pos h)
theorem Lim.add {a b i j : Nat} (ha : Lim a i) (hb : Lim b j) : Lim (a + b) (i + j + 1) := few_add (ha.mono (by omega)) (hb.mono (by omega))
theorem Lim.few {a i : Nat} (h : Lim a i) (hi : i ≤ 1000000) : Few a := Few.of_pow h (by omega)
theorem Lim.one {a : Nat} (h : a < BB) : Lim a 1 := by unfold Lim; rwa [Nat.pow_one]
theorem Lim.val {xs : List Nat} (h : Limb xs) {k : Nat} (hk : xs.length ≤ k) : Lim (val xs) k := Nat.lt_of_lt_of_le (val_lt h) (Nat.pow_le_pow_right BB_pos hk)
end Go.Proofs.YtmjnifjohfljaaaGreatDoor
