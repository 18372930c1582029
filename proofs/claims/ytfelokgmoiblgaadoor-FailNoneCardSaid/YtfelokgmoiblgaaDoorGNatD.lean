/-
  nat.long: the long division.
-/
import Derived.Test.YtfelokgmoiblgaaDoorGNatC
import Derived.Test.YtfelokgmoiblgaaDoorGNatA
import Derived.Test.YtfelokgmoiblgaaDoorGVal
import Derived.StillTailTactics
import Derived.Test.YtfelokgmoiblgaaDoorGNatB
namespace Go.Proofs.YtfelokgmoiblgaaDoor
open Go.RowKit

/-- Where the rows of a division stand. -/
structure LW (w wr : World) (gu gq : Nat) (us qs : List Nat) (U0 V m q k : Nat) : Prop where
  li : LI us qs U0 V k
  bu : Blk wr gu 54 (limbV us)
  bq : Blk wr gq 54 (limbV qs)
  ul : us.length = m + 1
  ql : qs.length = q
  only : Only [gu, gq] w wr

/-- Where one digit stands. -/
structure DW (w wr : World) (gu : Nat) (us us' : List Nat) (V j n d b : Nat) : Prop where
  di : DI us us' V j n d b
  bu : Blk wr gu 54 (limbV us')
  only : Only [gu] w wr

/-- What long leaves. -/
def LongPost (a b : Nat) (w : World) (e : Ending) (w' : World) : Prop :=
  ∃ u v, e = .returned (.tuple #[u, v]) ∧ Res w w' u (a / b) ∧ Res w w' v (a % b) ∧ (∀ g g', u.ownBlock = some g → v.ownBlock = some g' → g ≠ g') ∧ Only [] w w'

end Go.Proofs.YtfelokgmoiblgaaDoor
/-
  nat.DivMod.
-/
namespace Go.Proofs.YtfelokgmoiblgaaDoor
open Go.RowKit

/-- What DivMod leaves. -/
def DMPost (a b : Nat) (w : World) (e : Ending) (w' : World) : Prop :=
  ∃ u v, e = .returned (.tuple #[u, v, .bool (decide (b ≠ 0))]) ∧ Res w w' u (a / b) ∧ Res w w' v (if b = 0 then 0 else a % b) ∧ (∀ g g', u.ownBlock = some g → v.ownBlock = some g' → g ≠ g') ∧ Only [] w w'

end Go.Proofs.YtfelokgmoiblgaaDoor
/-
  nat.Bits, limbRoot.
-/
namespace Go.Proofs.YtfelokgmoiblgaaDoor
open Go.RowKit

/-- The bits of a number. -/
def bitsN (n : Nat) : Nat := if n = 0 then 0 else Nat.log2 n + 1

theorem bitsN_top {xs : List Nat} {k : Nat} (hx : Limb xs) (hl : xs.length = k + 1) (ht : xs[k]?.getD 0 ≠ 0) : bitsN (val xs) = 64 * k + Lib.bitLen (xs[k]?.getD 0) := by
  have c1 := val_take_succ xs k (by omega)
  rw [show xs.take (k + 1) = xs by rw [← hl, List.take_length]] at c1
  have c0 := val_lt (hx.take k)
  rw [List.length_take, Nat.min_eq_left (by omega)] at c0
  have htb := hx.get k
  rw [BB_pow] at htb
  obtain ⟨b1, b2, b3⟩ := Lib.bitLenAux_bounds 64 (xs[k]?.getD 0) htb ht
  have e : Lib.bitLenAux 64 (xs[k]?.getD 0) = Lib.bitLen (xs[k]?.getD 0) := rfl
  rw [e] at b1 b2 b3
  generalize Lib.bitLen (xs[k]?.getD 0) = L at *
  generalize xs[k]?.getD 0 = t at *
  have hp : BB ^ k = 2 ^ (64 * k) := by rw [BB_pow, ← Nat.pow_mul]
  have h1 : 2 ^ (64 * k + (L - 1)) ≤ val xs := by
    rw [Nat.pow_add, ← hp]
    have := Nat.mul_le_mul_left (BB ^ k) b2
    omega
  have h2 : val xs < 2 ^ (64 * k + L) := by
    rw [Nat.pow_add, ← hp]
    have h3 : BB ^ k * (t + 1) ≤ BB ^ k * 2 ^ L := Nat.mul_le_mul_left _ b3
    rw [Nat.mul_add] at h3
    omega
  have h0 : val xs ≠ 0 := by
    have : 0 < 2 ^ (64 * k + (L - 1)) := Nat.pow_pos (by omega)
    omega
  unfold bitsN
  rw [if_neg h0]
  have h4 : Nat.log2 (val xs) = 64 * k + (L - 1) := (Nat.log2_eq_iff h0).2 ⟨h1, by rw [show 64 * k + (L - 1) + 1 = 64 * k + L by omega]; exact h2⟩
  omega

theorem len64_any (x : Nat) (hx : x < BB) (w : World) : Calls Tryd.prog 63 #[.int .u64 (x : Int)] w fun e w' => e = .returned (.int .i64 (Lib.bitLen x : Int)) ∧ w = w' := by
  rw [BB_val] at hx
  refine (Tryd.bits_Len64 (x : Int) w (by omega) (by omega)).mono ?_
  rintro e w' ⟨he, hw⟩
  rw [Int.toNat_natCast] at he
  exact ⟨he, hw.symm⟩

/-- The first guess for a limb. -/
theorem limb_guess {x : Nat} (h0 : x ≠ 0) (hx : x < BB) : ∃ h, (Lib.bitLen x + 1) / 2 = h ∧ h ≤ 32 ∧ rootN x ≤ 2 ^ h := by
  have hxb := hx
  rw [BB_pow] at hxb
  obtain ⟨b1, b2, b3⟩ := Lib.bitLenAux_bounds 64 x hxb h0
  have e : Lib.bitLenAux 64 x = Lib.bitLen x := rfl
  rw [e] at b1 b2 b3
  have hl : Lib.bitLen x ≤ 64 := Lib.bitLen_le x 64 (by omega) hxb
  generalize Lib.bitLen x = L at *
  refine ⟨_, rfl, by omega, ?_⟩
  have h1 := (rootN_is x).1
  apply Nat.le_of_lt
  apply Nat.lt_of_not_le
  intro h
  have h2 := Nat.mul_le_mul h h
  rw [← Nat.pow_add] at h2
  have h3 : 2 ^ L ≤ 2 ^ ((L + 1) / 2 + (L + 1) / 2) := Nat.pow_le_pow_right (by omega) (by omega)
  omega

theorem shl_one {h : Nat} (hh : h ≤ 32) : IntKind.u64.wrap ((1 : Int) * 2 ^ h) = ((2 ^ h : Nat) : Int) ∧ IntKind.u64.wrap ((2 : Int) ^ h) = ((2 ^ h : Nat) : Int) ∧ 2 ^ h ≤ 4294967296 := by
  have h1 : 2 ^ h ≤ 2 ^ 32 := Nat.pow_le_pow_right (by omega) hh
  have h2 : (2 : Int) ^ h = ((2 ^ h : Nat) : Int) := by simp
  have h3 : IntKind.u64.wrap ((2 ^ h : Nat) : Int) = ((2 ^ h : Nat) : Int) := u64_wrap (by rw [BB_val]; omega)
  rw [h2, Int.one_mul]
  exact ⟨h3, h3, h1⟩

end Go.Proofs.YtfelokgmoiblgaaDoor
/-
  nat.root.
-/
namespace Go.Proofs.YtfelokgmoiblgaaDoor
open Go.RowKit

theorem rootN_lt {a : Nat} (h : 2 ≤ a) : rootN a < a := by
  have := (rootN_is a).1
  apply Nat.lt_of_not_le
  intro h2
  have h3 := Nat.mul_le_mul h2 h2
  have h4 : 2 * a ≤ a * a := Nat.mul_le_mul_right _ h
  omega

theorem LimbsAt.inj {w : World} {u : Value} {xs ys : List Nat} (h : LimbsAt w u xs) (h' : LimbsAt w u ys) : xs = ys := by
  obtain ⟨A, c, rfl, r1, _, _⟩ := h.shape
  obtain ⟨A', c', e, r2, _, _⟩ := h'.shape
  injection e with e1 e2 _
  subst e1
  apply List.ext_getElem e2
  intro k h1 h2
  obtain ⟨b, o, rfl, c1⟩ := r1 k h1
  obtain ⟨b', o', e', c2⟩ := r2 k h2
  injection e' with e'
  injection e' with e3 e4 _
  subst e3 e4
  rw [c1] at c2
  injection c2 with c2
  injection c2 with _ c2
  have c3 : xs[k]?.getD 0 = ys[k]?.getD 0 := by omega
  rw [List.getElem?_eq_getElem h1, List.getElem?_eq_getElem h2] at c3
  exact c3
open Classical in

/-- The number that a row of its own holds. -/
noncomputable def valAt (w : World) (u : Value) : Nat := if h : ∃ n, LimbsAt w u (limbsOf n) then h.choose else 0

theorem valAt_eq {w : World} {u : Value} {n : Nat} (h : LimbsAt w u (limbsOf n)) : valAt w u = n := by
  have he : ∃ n, LimbsAt w u (limbsOf n) := ⟨n, h⟩
  unfold valAt
  rw [dif_pos he]
  exact limbsOf_inj (he.choose_spec.inj h)

theorem limbsOf_succ_len (a : Nat) : (limbsOf (a + 1)).length ≤ (limbsOf a).length + 1 := by
  apply limbsOf_len_le
  have h1 := lt_limbsOf a
  have h2 : BB ^ (limbsOf a).length * 2 ≤ BB ^ (limbsOf a).length * BB := Nat.mul_le_mul_left _ BB_two
  have h3 := BB_pow_pos (limbsOf a).length
  rw [Nat.pow_succ]
  omega

theorem limbsOf_shl_len (a h : Nat) : (limbsOf (a * 2 ^ h)).length ≤ (limbsOf a).length + (h / 64 + 1) := by
  apply limbsOf_len_le
  have h1 := lt_limbsOf a
  have h2 : a * 2 ^ h < BB ^ (limbsOf a).length * 2 ^ h := Nat.mul_lt_mul_of_pos_right h1 (Nat.pow_pos (by omega))
  have h3 : BB ^ (limbsOf a).length * 2 ^ h ≤ BB ^ (limbsOf a).length * BB ^ (h / 64 + 1) := by
    refine Nat.mul_le_mul_left _ ?_
    rw [BB_pow, ← Nat.pow_mul]
    exact Nat.pow_le_pow_right (by omega) (by omega)
  rw [Nat.pow_add]
  omega

end Go.Proofs.YtfelokgmoiblgaaDoor
/-
  nat.Sqrt.
-/
namespace Go.Proofs.YtfelokgmoiblgaaDoor
open Go.RowKit

/-- What Sqrt leaves. -/
def SqrtPost (a : Nat) (w : World) (e : Ending) (w' : World) : Prop :=
  ∃ u v, e = .returned (.tuple #[u, v]) ∧ Res w w' u (rootN a) ∧ Res w w' v (a - rootN a * rootN a) ∧ (∀ g g', u.ownBlock = some g → v.ownBlock = some g' → g ≠ g') ∧ Only [] w w'

end Go.Proofs.YtfelokgmoiblgaaDoor
