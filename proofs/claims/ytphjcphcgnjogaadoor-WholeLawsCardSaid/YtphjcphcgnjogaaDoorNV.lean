/-
  Numbers as values: the contracts of package nat, for slices that read as a number.
-/
import Derived.Test.YtphjcphcgnjogaaDoorTxt
import Derived.Test.YtphjcphcgnjogaaDoorNatS
namespace Go.Proofs.YtphjcphcgnjogaaDoor
open Go.RowKit

/-- A slice that reads as the number n. -/
def NV (w : World) (v : Value) (n : Nat) : Prop := ∃ A c xs, v = .slice A xs.length c ∧ Arg w A xs ∧ xs.length ≤ c ∧ (xs.length : Int) ≤ 1000000 ∧ val xs = n
/-- So many limbs at most. -/
def MX : Nat := 1000000
theorem MX_val : MX = 1000000 := rfl
attribute [irreducible] MX
/-- Not too great. -/
def Few (n : Nat) : Prop := n < BB ^ MX
section
variable {w w' w0 : World} {v u : Value} {n m : Nat} {S : List Nat}
theorem NV.only (h : NV w v n) (ho : Only [] w w') : NV w' v n := by
  obtain ⟨A, c, xs, h1, h2, h3⟩ := h
  exact ⟨A, c, xs, h1, h2.only ho, h3⟩
theorem NV.mk {A : Option Addr} {c : Nat} {xs : List Nat} (h : Arg w A xs) (hc : xs.length ≤ c) (hl : (xs.length : Int) ≤ 1000000) : NV w (.slice A xs.length c) (val xs) := ⟨A, c, xs, rfl, h, hc, hl, rfl⟩
theorem NV.nil (w : World) : NV w (.slice none 0 0) 0 := ⟨none, 0, [], rfl, ⟨LRead.nil, limb_nil, by simp⟩, by simp, by simp, rfl⟩
theorem Few.len (h : Few n) : ((limbsOf n).length : Int) ≤ 1000000 := by have := limbsOf_len_le h; rw [MX_val] at this; omega
theorem NV.few (h : NV w v n) : Few n := by
  obtain ⟨A, c, xs, _, h2, _, h4, rfl⟩ := h
  exact Nat.lt_of_lt_of_le (val_lt h2.limb) (Nat.pow_le_pow_right BB_pos (by rw [MX_val]; omega))
theorem Few.le (h : Few n) (hm : m ≤ n) : Few m := Nat.lt_of_le_of_lt hm h
theorem Few.of_pow {k : Nat} (h : n < BB ^ k) (hk : (k : Int) ≤ 1000000) : Few n := Nat.lt_of_lt_of_le h (Nat.pow_le_pow_right BB_pos (by rw [MX_val]; omega))
theorem NV.of_res (h : Res w0 w u n) (hf : Few n) : NV w u n := by
  obtain ⟨A, c, rfl, h1, h2, h3⟩ := h.at_.shape
  exact ⟨A, c, _, rfl, ⟨h1, limb_limbsOf n, by have := hf.len; omega⟩, h2, hf.len, val_limbsOf n⟩
/-- A result's form. -/
theorem Res.form (h : Res w0 w u n) : ∃ A c, u = .slice A (limbsOf n).length c := by
  obtain ⟨A, c, rfl, _⟩ := h.at_.shape
  exact ⟨A, c, rfl⟩
end
/-- What a function leaves that tells a number. -/
def NPostV (n : Nat) (w0 w : World) (e : Ending) (w' : World) : Prop := ∃ A k c, e = .returned (.slice A k c) ∧ Res w0 w' (.slice A k c) n ∧ NV w' (.slice A k c) n ∧ Only [] w w'
theorem Res.len {w0 w : World} {A : Option Addr} {k c n : Nat} (h : Res w0 w (.slice A k c) n) : k = (limbsOf n).length := by
  obtain ⟨A', c', e⟩ := h.form
  injection e
theorem NPostV.of {n : Nat} {w : World} {e : Ending} {w' : World} (h : NPost n w e w') (hf : Few n) : NPostV n w w e w' := by
  obtain ⟨u, h1, h2, h3⟩ := h
  obtain ⟨A, c, rfl⟩ := h2.form
  exact ⟨A, _, c, h1, h2, NV.of_res h2 hf, h3⟩

theorem of_v {w : World} {v : Value} {n : Nat} (h : Hid (NV w v n)) : Calls Tryd.prog 36 #[v] w (NPostV n w w) := by
  have hf := h.out.few
  obtain ⟨A, c, xs, rfl, h2, h3, h4, rfl⟩ := h.out
  exact (of_any A c xs w h2 h3).mono fun e w' hp => NPostV.of hp hf
theorem of_lit (r : Nat) (z : Int) (w : World) (hr : Hid (r < BB)) (hz : Hid ((r : Int) = z)) : Calls Tryd.prog 36 #[.slice (some ⟨w.heap.size, 0, none⟩) 1 1] (w.alloc (Obj.cells #[.int .u64 z] 64)) (NPostV r w w) := by
  have h := of_one r w hr
  rw [hz.out] at h
  refine h.mono fun e w' ⟨u, h1, h2, _, h3⟩ => ?_
  exact NPostV.of ⟨u, h1, h2, h3⟩ (Few.of_pow (k := 1) (by rw [Nat.pow_one]; exact hr.out) (by omega))
theorem cmp_v {w : World} {a b : Value} {m n : Nat} (ha : Hid (NV w a m)) (hb : Hid (NV w b n)) : Calls Tryd.prog 39 #[a, b] w fun e w' => e = .returned (.int .i64 (cmpZ m n)) ∧ Only [] w w' := by
  obtain ⟨A, c, xs, rfl, h2, h3, h4, rfl⟩ := ha.out
  obtain ⟨B, d, ys, rfl, k2, k3, k4, rfl⟩ := hb.out
  exact ncmp_any A B c d xs ys w h2 k2 h3 k3
theorem mul_v {w : World} {a b : Value} {m n : Nat} (cut : Int) (ha : Hid (NV w a m)) (hb : Hid (NV w b n)) (hf : Hid (Few (m * n))) : Calls Tryd.prog 38 #[.int .i64 cut, a, b] w (NPostV (m * n) w w) := by
  obtain ⟨A, c, xs, rfl, h2, h3, h4, rfl⟩ := ha.out
  obtain ⟨B, d, ys, rfl, k2, k3, k4, rfl⟩ := hb.out
  exact (mul_any cut A B c d xs ys w h2 k2 h3 k3 (by omega)).mono fun e w' hp => NPostV.of hp hf.out
theorem bits_v {w : World} {a : Value} {m : Nat} (ha : Hid (NV w a m)) : Calls Tryd.prog 40 #[a] w fun e w' => e = .returned (.int .i64 (bitsN m : Int)) ∧ w = w' := by
  obtain ⟨A, c, xs, rfl, h2, h3, h4, rfl⟩ := ha.out
  exact nbits_any A c xs w h2 h3
/-- What DivMod leaves. -/
def DMPostV (a b : Nat) (w : World) (e : Ending) (w' : World) : Prop :=
  ∃ A k c A' k' c' u v, u = .slice A k c ∧ v = .slice A' k' c' ∧ e = .returned (.tuple #[.slice A k c, .slice A' k' c', .bool (decide (b ≠ 0))]) ∧ Res w w' u (a / b) ∧ Res w w' v (if b = 0 then 0 else a % b) ∧ NV w' u (a / b) ∧ NV w' v (if b = 0 then 0 else a % b) ∧ (∀ g g', u.ownBlock = some g → v.ownBlock = some g' → g ≠ g') ∧ Only [] w w'
theorem divMod_v {w : World} {a b : Value} {m n : Nat} (ha : Hid (NV w a m)) (hb : Hid (NV w b n)) : Calls Tryd.prog 41 #[a, b] w (DMPostV m n w) := by
  have hf := ha.out.few
  obtain ⟨A, c, xs, rfl, h2, h3, h4, rfl⟩ := ha.out
  obtain ⟨B, d, ys, rfl, k2, k3, k4, rfl⟩ := hb.out
  refine (divMod_any A B c d xs ys w h2 k2 h3 k3 (by omega)).mono fun e w' ⟨u, v, h1, hu, hv, h5, h6⟩ => ?_
  obtain ⟨A1, c1, rfl⟩ := hu.form
  obtain ⟨A2, c2, rfl⟩ := hv.form
  refine ⟨A1, _, c1, A2, _, c2, _, _, rfl, rfl, h1, hu, hv, NV.of_res hu (hf.le (Nat.div_le_self _ _)), NV.of_res hv (hf.le ?_), h5, h6⟩
  by_cases h0 : val ys = 0
  · rw [if_pos h0]; omega
  · rw [if_neg h0]; exact Nat.mod_le _ _
def SqrtPostV (a : Nat) (w : World) (e : Ending) (w' : World) : Prop :=
  ∃ A k c A' k' c' u v, u = .slice A k c ∧ v = .slice A' k' c' ∧ e = .returned (.tuple #[.slice A k c, .slice A' k' c']) ∧ Res w w' u (rootN a) ∧ Res w w' v (a - rootN a * rootN a) ∧ NV w' u (rootN a) ∧ NV w' v (a - rootN a * rootN a) ∧ (∀ g g', u.ownBlock = some g → v.ownBlock = some g' → g ≠ g') ∧ Only [] w w'
theorem sqrt_v {w : World} {a : Value} {m : Nat} (ha : Hid (NV w a m)) : Calls Tryd.prog 57 #[a] w (SqrtPostV m w) := by
  have hf := ha.out.few
  obtain ⟨A, c, xs, rfl, h2, h3, h4, rfl⟩ := ha.out
  have hr : rootN (val xs) ≤ val xs := Nat.le_trans (Nat.le_mul_self _) (rootN_is (val xs)).1
  exact (sqrt_any A c xs w h2 h3 h4).mono fun e w' ⟨u, v, h1, hu, hv, h5, h6⟩ => by
    obtain ⟨A1, c1, rfl⟩ := hu.form
    obtain ⟨A2, c2, rfl⟩ := hv.form
    exact ⟨A1, _, c1, A2, _, c2, _, _, rfl, rfl, h1, hu, hv, NV.of_res hu (hf.le hr), NV.of_res hv (hf.le (Nat.sub_le _ _)), h5, h6⟩
theorem text_v {w : World} {a : Value} {m : Nat} (ha : Hid (NV w a m)) (htab : Hid (Tab w)) : Calls Tryd.prog 43 #[a] w (TextPost m w) := by
  obtain ⟨A, c, xs, rfl, h2, h3, h4, rfl⟩ := ha.out
  exact text_any A c xs w h2 h3 htab
/-- Sub. -/
def SubPostV (a b : Nat) (w : World) (e : Ending) (w' : World) : Prop := ∃ A k c u, u = .slice A k c ∧ e = .returned (.tuple #[.slice A k c, .bool (decide (b ≤ a))]) ∧ Res w w' u (a - b) ∧ NV w' u (a - b) ∧ Only [] w w'

/-- A row of numbers. -/
def NVs (w : World) : List Value → List Nat → Prop
  | [], [] => True
  | v :: vs, n :: ns => NV w v n ∧ NVs w vs ns
  | _, _ => False
theorem NVs.only {w w' : World} (ho : Only [] w w') : ∀ {vs : List Value} {ns : List Nat}, NVs w vs ns → NVs w' vs ns
  | [], [], h => h
  | [], _ :: _, h => h.elim
  | _ :: _, [], h => h.elim
  | _ :: _, _ :: _, h => ⟨h.1.only ho, NVs.only ho h.2⟩
theorem NVs.items {w : World} : ∀ {vs : List Value} {ns : List Nat}, NVs w vs ns → ∃ L : List Item, L.length = vs.length ∧ sumL L = ns.sum ∧ ∀ (k : Nat) (hk : k < L.length), vs[k]? = some (.slice L[k].a L[k].xs.length L[k].c) ∧ Arg w L[k].a L[k].xs ∧ L[k].xs.length ≤ L[k].c ∧ (L[k].xs.length : Int) ≤ 3999999
  | [], [], _ => ⟨[], rfl, rfl, fun k hk => by simp at hk⟩
  | [], _ :: _, h => h.elim
  | _ :: _, [], h => h.elim
  | v :: vs, n :: ns, h => by
    obtain ⟨L, h1, h2, h3⟩ := NVs.items h.2
    obtain ⟨A, c, xs, rfl, k2, k3, k4, rfl⟩ := h.1
    refine ⟨⟨A, c, xs⟩ :: L, by simp [h1], by rw [List.sum_cons, ← h2]; rfl, ?_⟩
    intro k hk
    cases k with
    | zero => exact ⟨rfl, k2, k3, by simp; omega⟩
    | succ k => simpa using h3 k (by simpa using hk)
theorem few_pow {n : Nat} (h : Few n) (k : Nat) (hk : MX ≤ k) : n < BB ^ k := Nat.lt_of_lt_of_le h (Nat.pow_le_pow_right BB_pos hk)
theorem lt_big {n : Nat} (h : Few n) : n < BB ^ 3999999 := few_pow h 3999999 (by rw [MX_val]; decide)
theorem addL_v {w : World} (vs : List Value) (ns : List Nat) (k : Nat) (hk : Hid (vs.length = k)) (hl : (k : Int) ≤ 1000) (h : Hid (NVs w vs ns)) (hf : Hid (Few ns.sum)) :
    Calls Tryd.prog 42 #[.slice (some ⟨w.heap.size, 0, none⟩) k k] (w.alloc (Obj.cells vs.toArray 25)) (NPostV ns.sum w w) := by
  have ho : Only [] w (w.alloc (Obj.cells vs.toArray 25)) := (Only.refl [] w).alloc _
  have hb : Blk (w.alloc (Obj.cells vs.toArray 25)) w.heap.size 25 vs := Blk.new w 25 vs
  obtain ⟨L, h1, h2, h3⟩ := NVs.items (h.out.only ho)
  have hr : Hid (NsRead (w.alloc (Obj.cells vs.toArray 25)) (some ⟨w.heap.size, 0, none⟩) L) := fun j hj => by
    obtain ⟨h4, h5⟩ := h3 j hj
    exact ⟨_, 0, rfl, by rw [hb.cell, Nat.zero_add]; exact h4, h5⟩
  have hc := add_any (some ⟨w.heap.size, 0, none⟩) k L _ hr (by have := hk.out; omega) (lt_big (by rw [h2]; exact hf.out))
  rw [h1, hk.out, h2] at hc
  exact hc.mono fun e w' ⟨u, g1, g2, g3⟩ => NPostV.of ⟨u, g1, g2.pre ho.size, ho.nil_trans g3⟩ hf.out
theorem add2_v {w : World} {a b : Value} {m n : Nat} (ha : Hid (NV w a m)) (hb : Hid (NV w b n)) (hf : Hid (Few (m + n))) :
    Calls Tryd.prog 42 #[.slice (some ⟨w.heap.size, 0, none⟩) 2 2] (w.alloc (Obj.cells #[a, b] 25)) (NPostV (m + n) w w) := by
  have h := addL_v (w := w) [a, b] [m, n] 2 rfl (by omega) ⟨ha.out, hb.out, trivial⟩ (by show Few _; simp; exact hf.out)
  simp only [List.sum_cons, List.sum_nil, Nat.add_zero] at h
  exact h

/-- Sums and products of numbers that are not too great. -/
theorem few_mul {a b : Nat} {i j : Nat} (ha : a < BB ^ i) (hb : b < BB ^ j) : a * b < BB ^ (i + j) := by
  rw [Nat.pow_add]
  exact Nat.mul_lt_mul'' ha hb
theorem few_add {a b : Nat} {i : Nat} (ha : a < BB ^ i) (hb : b < BB ^ i) : a + b < BB ^ (i + 1) := by
  rw [Nat.pow_succ]
  have h1 := Nat.mul_le_mul_left (BB ^ i) BB_two
  omega
end Go.Proofs.YtphjcphcgnjogaaDoor
