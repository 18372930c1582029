/-
  Numbers as values: the contracts of package nat, for slices that read as a number.
-/
import Derived.Test.YtfelokgmoiblgaaDoorGTxt
import Derived.Test.YtfelokgmoiblgaaDoorGNatD
import Derived.Test.YtfelokgmoiblgaaDoorDoorN
import Derived.Lib.TrailingZeros
import Derived.Laws.Bits64b
namespace Go.Proofs.YtfelokgmoiblgaaDoor
open Go.RowKit

/-- A slice that reads as the number n. -/
def NV (w : World) (v : Value) (n : Nat) : Prop := ∃ A c xs, v = .slice A xs.length c ∧ Arg w A xs ∧ xs.length ≤ c ∧ (xs.length : Int) ≤ 1000000 ∧ val xs = n

/-- So many limbs at most. -/
def MX : Nat := 1000000

theorem MX_val : MX = 1000000 := rfl
attribute [irreducible] MX

/-- Not too great. -/
def Few (n : Nat) : Prop := n < BB ^ MX

section
variable {w w' w0 : World} {v u : Value} {n m : Nat} {S : List Nat}

theorem NV.only (h : NV w v n) (ho : Only [] w w') : NV w' v n := by
  obtain ⟨A, c, xs, h1, h2, h3⟩ := h
  exact ⟨A, c, xs, h1, h2.only ho, h3⟩

theorem NV.mk {A : Option Addr} {c : Nat} {xs : List Nat} (h : Arg w A xs) (hc : xs.length ≤ c) (hl : (xs.length : Int) ≤ 1000000) : NV w (.slice A xs.length c) (val xs) := ⟨A, c, xs, rfl, h, hc, hl, rfl⟩

theorem NV.nil (w : World) : NV w (.slice none 0 0) 0 := ⟨none, 0, [], rfl, ⟨LRead.nil, limb_nil, by simp⟩, by simp, by simp, rfl⟩

theorem Few.len (h : Few n) : ((limbsOf n).length : Int) ≤ 1000000 := by have := limbsOf_len_le h; rw [MX_val] at this; omega

theorem NV.few (h : NV w v n) : Few n := by
  obtain ⟨A, c, xs, _, h2, _, h4, rfl⟩ := h
  exact Nat.lt_of_lt_of_le (val_lt h2.limb) (Nat.pow_le_pow_right BB_pos (by rw [MX_val]; omega))

theorem Few.le (h : Few n) (hm : m ≤ n) : Few m := Nat.lt_of_le_of_lt hm h

theorem Few.of_pow {k : Nat} (h : n < BB ^ k) (hk : (k : Int) ≤ 1000000) : Few n := Nat.lt_of_lt_of_le h (Nat.pow_le_pow_right BB_pos (by rw [MX_val]; omega))

theorem NV.of_res (h : Res w0 w u n) (hf : Few n) : NV w u n := by
  obtain ⟨A, c, rfl, h1, h2, h3⟩ := h.at_.shape
  exact ⟨A, c, _, rfl, ⟨h1, limb_limbsOf n, by have := hf.len; omega⟩, h2, hf.len, val_limbsOf n⟩

/-- A result's form. -/
theorem Res.form (h : Res w0 w u n) : ∃ A c, u = .slice A (limbsOf n).length c := by
  obtain ⟨A, c, rfl, _⟩ := h.at_.shape
  exact ⟨A, c, rfl⟩

end

/-- What a function leaves that tells a number. -/
def NPostV (n : Nat) (w0 w : World) (e : Ending) (w' : World) : Prop := ∃ A k c, e = .returned (.slice A k c) ∧ Res w0 w' (.slice A k c) n ∧ NV w' (.slice A k c) n ∧ Only [] w w'

theorem Res.len {w0 w : World} {A : Option Addr} {k c n : Nat} (h : Res w0 w (.slice A k c) n) : k = (limbsOf n).length := by
  obtain ⟨A', c', e⟩ := h.form
  injection e

theorem NPostV.of {n : Nat} {w : World} {e : Ending} {w' : World} (h : NPost n w e w') (hf : Few n) : NPostV n w w e w' := by
  obtain ⟨u, h1, h2, h3⟩ := h
  obtain ⟨A, c, rfl⟩ := h2.form
  exact ⟨A, _, c, h1, h2, NV.of_res h2 hf, h3⟩

/-- What DivMod leaves. -/
def DMPostV (a b : Nat) (w : World) (e : Ending) (w' : World) : Prop :=
  ∃ A k c A' k' c' u v, u = .slice A k c ∧ v = .slice A' k' c' ∧ e = .returned (.tuple #[.slice A k c, .slice A' k' c', .bool (decide (b ≠ 0))]) ∧ Res w w' u (a / b) ∧ Res w w' v (if b = 0 then 0 else a % b) ∧ NV w' u (a / b) ∧ NV w' v (if b = 0 then 0 else a % b) ∧ (∀ g g', u.ownBlock = some g → v.ownBlock = some g' → g ≠ g') ∧ Only [] w w'

def SqrtPostV (a : Nat) (w : World) (e : Ending) (w' : World) : Prop :=
  ∃ A k c A' k' c' u v, u = .slice A k c ∧ v = .slice A' k' c' ∧ e = .returned (.tuple #[.slice A k c, .slice A' k' c']) ∧ Res w w' u (rootN a) ∧ Res w w' v (a - rootN a * rootN a) ∧ NV w' u (rootN a) ∧ NV w' v (a - rootN a * rootN a) ∧ (∀ g g', u.ownBlock = some g → v.ownBlock = some g' → g ≠ g') ∧ Only [] w w'

/-- Sub. -/
def SubPostV (a b : Nat) (w : World) (e : Ending) (w' : World) : Prop := ∃ A k c u, u = .slice A k c ∧ e = .returned (.tuple #[.slice A k c, .bool (decide (b ≤ a))]) ∧ Res w w' u (a - b) ∧ NV w' u (a - b) ∧ Only [] w w'

/-- A row of numbers. -/
def NVs (w : World) : List Value → List Nat → Prop
  | [], [] => True
  | v :: vs, n :: ns => NV w v n ∧ NVs w vs ns
  | _, _ => False

theorem NVs.only {w w' : World} (ho : Only [] w w') : ∀ {vs : List Value} {ns : List Nat}, NVs w vs ns → NVs w' vs ns
  | [], [], h => h
  | [], _ :: _, h => h.elim
  | _ :: _, [], h => h.elim
  | _ :: _, _ :: _, h => ⟨h.1.only ho, NVs.only ho h.2⟩

theorem NVs.items {w : World} : ∀ {vs : List Value} {ns : List Nat}, NVs w vs ns → ∃ L : List Item, L.length = vs.length ∧ sumL L = ns.sum ∧ ∀ (k : Nat) (hk : k < L.length), vs[k]? = some (.slice L[k].a L[k].xs.length L[k].c) ∧ Arg w L[k].a L[k].xs ∧ L[k].xs.length ≤ L[k].c ∧ (L[k].xs.length : Int) ≤ 3999999
  | [], [], _ => ⟨[], rfl, rfl, fun k hk => by simp at hk⟩
  | [], _ :: _, h => h.elim
  | _ :: _, [], h => h.elim
  | v :: vs, n :: ns, h => by
    obtain ⟨L, h1, h2, h3⟩ := NVs.items h.2
    obtain ⟨A, c, xs, rfl, k2, k3, k4, rfl⟩ := h.1
    refine ⟨⟨A, c, xs⟩ :: L, by simp [h1], by rw [List.sum_cons, ← h2]; rfl, ?_⟩
    intro k hk
    cases k with
    | zero => exact ⟨rfl, k2, k3, by simp; omega⟩
    | succ k => simpa using h3 k (by simpa using hk)

theorem few_pow {n : Nat} (h : Few n) (k : Nat) (hk : MX ≤ k) : n < BB ^ k := Nat.lt_of_lt_of_le h (Nat.pow_le_pow_right BB_pos hk)

theorem lt_big {n : Nat} (h : Few n) : n < BB ^ 3999999 := few_pow h 3999999 (by rw [MX_val]; decide)

/-- Sums and products of numbers that are not too great. -/
theorem few_mul {a b : Nat} {i j : Nat} (ha : a < BB ^ i) (hb : b < BB ^ j) : a * b < BB ^ (i + j) := by
  rw [Nat.pow_add]
  exact Nat.mul_lt_mul'' ha hb

theorem few_add {a b : Nat} {i : Nat} (ha : a < BB ^ i) (hb : b < BB ^ i) : a + b < BB ^ (i + 1) := by
  rw [Nat.pow_succ]
  have h1 := Nat.mul_le_mul_left (BB ^ i) BB_two
  omega

end Go.Proofs.YtfelokgmoiblgaaDoor
/-
  compasslaw1: alive, Light.
-/
namespace Go.Proofs.YtfelokgmoiblgaaDoor
open Go.RowKit

theorem bb_two : limbsOf BB = [0, 1] := by
  have h1 : BB / BB = 1 := Nat.div_self BB_pos
  have h2 : 1 / BB = 0 := by rw [BB_val]
  have h3 : 1 % BB = 1 := by rw [BB_val]
  rw [limbsOf_pos (by have := BB_pos; omega), Nat.mod_self, h1, limbsOf_pos (by omega), h2, h3, limbsOf_zero]

theorem bits_bb : bitsN BB = 65 := by
  unfold bitsN
  rw [if_neg (by have := BB_pos; omega), BB_pow, Nat.log2_two_pow]

theorem root_is {a r : Nat} (h1 : r * r ≤ a) (h2 : a < (r + 1) * (r + 1)) : rootN a = r := by
  have h := rootN_is a
  apply Nat.le_antisymm
  · apply Nat.le_of_not_lt
    intro hc
    have := Nat.mul_le_mul hc hc
    simp only [Nat.succ_eq_add_one] at this
    have := h.1
    omega
  · apply Nat.le_of_not_lt
    intro hc
    have := Nat.mul_le_mul hc hc
    simp only [Nat.succ_eq_add_one] at this
    have := h.2
    omega

theorem dec_120 : Lib.decDigits 120 = [49, 50, 48] := by
  rw [dec_step (by omega), dec_step (by omega), dec_small (by omega)]
  rfl

theorem few_small {n : Nat} (h : n < BB) : Few n := Few.of_pow (k := 1) (by rw [Nat.pow_one]; exact h) (by omega)

/-- A slice of slices, of which the lengths are known. -/
structure Sl where
  a : Option Addr
  n : Nat
  c : Nat

def SlRead (w : World) (A : Option Addr) (L : List Sl) : Prop :=
  ∀ (k : Nat) (hk : k < L.length), ∃ b o, A = some ⟨b, o, none⟩ ∧ w.cell? ⟨b, o + k, none⟩ = some (.slice L[k].a L[k].n L[k].c)

def lightB (L : List Sl) : Bool := L.all fun x => decide (x.n ≤ 40)

end Go.Proofs.YtfelokgmoiblgaaDoor
/-
  nat.Sub, Shl, Shr, Low, over numbers as values.
-/
namespace Go.Proofs.YtfelokgmoiblgaaDoor
open Go.RowKit

/-- A shift: up, down, or too far. -/
def shlN (n : Nat) (z : Int) : Nat := if z > 16777216 ∨ z < -16777216 then 0 else if z < 0 then n / 2 ^ (-z).toNat else n * 2 ^ z.toNat

theorem shlN_up (n k : Nat) (hk : (k : Int) ≤ 16777216) : shlN n (k : Int) = n * 2 ^ k := by
  unfold shlN
  rw [if_neg (by omega), if_neg (by omega), Int.toNat_natCast]

theorem shlN_down (n k : Nat) (hk : (k : Int) ≤ 16777216) : shlN n (-(k : Int)) = n / 2 ^ k := by
  by_cases h0 : k = 0
  · subst h0
    unfold shlN
    simp
  · unfold shlN
    rw [if_neg (by omega), if_pos (by omega), Int.neg_neg, Int.toNat_natCast]

theorem shlN_far (n : Nat) (z : Int) (h : z > 16777216 ∨ z < -16777216) : shlN n z = 0 := by unfold shlN; rw [if_pos h]

theorem nv_zero (w : World) (w0 : World) : NPostV 0 w0 w (.returned (.slice none 0 0)) w := ⟨none, 0, 0, rfl, res_nil _ _, NV.nil _, Only.refl _ _⟩

/-- The zero bits at the end. -/
def lowN (n : Nat) : Nat := if _h : n = 0 then 0 else if n % 2 = 1 then 0 else 1 + lowN (n / 2)
termination_by n
decreasing_by omega

theorem lowN_zero : lowN 0 = 0 := by rw [lowN]; rfl

theorem lowN_odd {n : Nat} (h : n % 2 = 1) : lowN n = 0 := by rw [lowN, dif_neg (by omega), if_pos h]

theorem lowN_even {n : Nat} (h0 : n ≠ 0) (h : n % 2 = 0) : lowN n = 1 + lowN (n / 2) := by rw [lowN, dif_neg h0, if_neg (by omega)]

theorem lowN_is : ∀ (k m : Nat), lowN (2 ^ k * (2 * m + 1)) = k
  | 0, m => by rw [Nat.pow_zero, Nat.one_mul]; exact lowN_odd (by omega)
  | k + 1, m => by
    have hp : 0 < 2 ^ k := Nat.pow_pos (by omega)
    have h1 : 0 < 2 ^ k * (2 * m + 1) := Nat.mul_pos hp (by omega)
    have e : 2 ^ (k + 1) * (2 * m + 1) = 2 * (2 ^ k * (2 * m + 1)) := by rw [Nat.pow_succ, Nat.mul_comm (2 ^ k) 2, Nat.mul_assoc]
    rw [e, lowN_even (by omega) (by omega), Nat.mul_div_cancel_left _ (by omega), lowN_is k m]
    omega

theorem lowN_spec {n : Nat} (h : n ≠ 0) : ∃ m, n = 2 ^ lowN n * (2 * m + 1) := by
  induction n using Nat.strongRecOn with
  | ind n ih =>
    by_cases h1 : n % 2 = 1
    · exact ⟨n / 2, by rw [lowN_odd h1]; omega⟩
    · obtain ⟨m, hm⟩ := ih (n / 2) (by omega) (by omega)
      refine ⟨m, ?_⟩
      rw [lowN_even h (by omega), Nat.pow_add, Nat.pow_one, Nat.mul_assoc, ← hm]
      omega

theorem lowN_limbs {xs : List Nat} {k : Nat} (hk : k < xs.length) (hz : ∀ j, j < k → xs[j]?.getD 0 = 0) (hx : Limb xs) (h0 : xs[k]?.getD 0 ≠ 0) : lowN (val xs) = 64 * k + Lib.ctz 64 (xs[k]?.getD 0) := by
  have hb := hx.get k
  rw [BB_pow] at hb
  obtain ⟨m, hm, hlt⟩ := Lib.ctzFrom_spec 64 (xs[k]?.getD 0) (by omega) hb
  have hc : Lib.ctz 64 (xs[k]?.getD 0) = Lib.ctzFrom 64 (xs[k]?.getD 0) := by unfold Lib.ctz; rw [if_neg h0]
  rw [hc]
  generalize Lib.ctzFrom 64 (xs[k]?.getD 0) = c at *
  have e1 : val (xs.take k) = 0 := by
    have : xs.take k = List.replicate k 0 := by
      apply List.ext_getElem
      · simp; omega
      · intro i h1 h2
        have := hz i (by simp at h1; omega)
        rw [List.getElem?_eq_getElem (by simp at h1; omega)] at this
        simpa using this
    rw [this, val_zeros]
  have e2 := val_take_drop xs (k + 1) (by omega)
  rw [val_take_succ xs k hk, e1, hm, Nat.zero_add, Nat.pow_succ, Nat.mul_assoc, ← Nat.mul_add] at e2
  obtain ⟨d, hd⟩ : ∃ d, 64 = c + (d + 1) := ⟨64 - c - 1, by omega⟩
  have e3 : BB = 2 ^ c * (2 * 2 ^ d) := by
    rw [BB_pow, hd, Nat.pow_add, Nat.pow_succ 2 d, Nat.mul_comm (2 ^ d)]
  have e4 : BB ^ k = 2 ^ (64 * k) := by rw [BB_pow, ← Nat.pow_mul]
  rw [e4] at e2
  have e5 : val xs = 2 ^ (64 * k + c) * (2 * (m + 2 ^ d * val (xs.drop (k + 1))) + 1) := by
    rw [e2, Nat.pow_add, Nat.mul_assoc]
    congr 1
    conv => lhs; rw [e3]
    rw [Nat.mul_assoc, ← Nat.mul_add]
    congr 1
    rw [Nat.mul_add, Nat.mul_assoc]
    omega
  rw [e5, lowN_is]

set_option maxHeartbeats 1000000 in
theorem tz64_core (x k idx : Nat) (w : World) (hx0 : ((x : Int) == 0) = false)
    (key : IntKind.u64.wrap (bits BinOp.and IntKind.u64 (x : Int) (IntKind.u64.wrap (-(x : Int))) * 285870213051353865) / 288230376151711744 = (idx : Int))
    (hi : idx < 64) (hk : k < 64) (hcell : w.cell? ⟨3, idx, none⟩ = some (.int .u8 k)) :
    Calls Tryd.prog 68 #[.int .u64 x] w fun e w' => e = .returned (.int .i64 k) ∧ w = w' := by
  go_enter Tryd.func68, Tryd.ntmps68
  go_wp2_with (simp only [key])
  go_ret
  exact ⟨rfl, rfl⟩

theorem tz64_key (x a : Nat) (hx : x < 18446744073709551616) (hx0 : x ≠ 0) (hlow : x &&& (18446744073709551616 - x) = a) :
    IntKind.u64.wrap (bits BinOp.and IntKind.u64 (x : Int) (IntKind.u64.wrap (-(x : Int))) * 285870213051353865) / 288230376151711744 = ((a * 285870213051353865 % 18446744073709551616 / 288230376151711744 : Nat) : Int) := by
  have e1 : IntKind.u64.wrap (-(x : Int)) = ((18446744073709551616 - x : Nat) : Int) := by rw [IntKind.wrap_u64]; omega
  rw [e1, bits_and_u64_nat x _ hx (by omega), hlow, IntKind.wrap_u64]
  omega

theorem tab64_len : tab64 = Lib.deBruijn64tab.map (fun (n : Nat) => (n : Int)) := rfl

theorem getD_cast (l : List Nat) (i : Nat) : (l.map (fun (n : Nat) => (n : Int))).getD i 0 = ((l.getD i 0 : Nat) : Int) := by
  simp only [List.getD, List.getElem?_map]
  cases l[i]? <;> rfl

theorem tz64_any (x : Nat) (hx : x < BB) (hx0 : x ≠ 0) (w : World) (hT : Hid (Tab6 w)) : Calls Tryd.prog 68 #[.int .u64 x] w fun e w' => e = .returned (.int .i64 (Lib.ctz 64 x : Int)) ∧ w = w' := by
  rw [BB_val] at hx
  obtain ⟨hlow, hk⟩ := Lib.lowest_bit 64 x hx0 hx
  obtain ⟨hi, htab⟩ := Lib.deBruijn64_at _ hk
  have hl : tab64.length = 64 := rfl
  have hcell := hT.out.cell (g := 3) (by kernel_rfl) _ (by rw [hl]; exact hi)
  rw [tab64_len, getD_cast, htab] at hcell
  exact tz64_core x _ _ w (by simp; omega) (tz64_key x _ hx hx0 hlow) hi hk hcell

end Go.Proofs.YtfelokgmoiblgaaDoor
/-
  A walk's numbers: the values at hand and what they read as.
-/
namespace Go.Proofs.YtfelokgmoiblgaaDoor
open Go.RowKit

/-- The numbers at hand. -/
structure Env (w0 w : World) (vs : List Value) (ns : List Nat) : Prop where
  only : Only [] w0 w
  all : NVs w vs ns
theorem Env.step {w0 w w' : World} {vs : List Value} {ns : List Nat} (h : Env w0 w vs ns) (ho : Only [] w w') : Env w0 w' vs ns := ⟨h.only.nil_trans ho, NVs.only ho h.all⟩
theorem Env.push {w0 w : World} {vs : List Value} {ns : List Nat} (h : Env w0 w vs ns) {v : Value} {n : Nat} (hv : NV w v n) : Env w0 w (v :: vs) (n :: ns) := ⟨h.only, hv, h.all⟩
theorem Env.start (w : World) : Env w w [] [] := ⟨Only.refl _ _, trivial⟩
theorem NVs.get {w : World} : ∀ {vs : List Value} {ns : List Nat} (i : Nat) {v : Value} {n : Nat}, NVs w vs ns → vs[i]? = some v → ns[i]? = some n → NV w v n
  | [], [], i, v, n, _, h1, _ => by simp at h1
  | [], _ :: _, _, _, _, h, _, _ => h.elim
  | _ :: _, [], _, _, _, h, _, _ => h.elim
  | v :: vs, n :: ns, 0, _, _, h, h1, h2 => by
    simp only [List.getElem?_cons_zero, Option.some.injEq] at h1 h2
    subst h1 h2
    exact h.1
  | v :: vs, n :: ns, i + 1, _, _, h, h1, h2 => NVs.get i h.2 (by simpa using h1) (by simpa using h2)
theorem Env.at {w0 w : World} {vs : List Value} {ns : List Nat} (h : Hid (Env w0 w vs ns)) (i : Nat) {v : Value} {n : Nat} (h1 : vs[i]? = some v) (h2 : ns[i]? = some n) : Hid (NV w v n) := NVs.get i h.out.all h1 h2
/-- So many limbs at most. -/
def Lim (n k : Nat) : Prop := n < BB ^ k
theorem Lim.mul {a b i j : Nat} (ha : Lim a i) (hb : Lim b j) : Lim (a * b) (i + j) := few_mul ha hb
theorem Lim.le {a b i : Nat} (hb : Lim b i) (h : a ≤ b) : Lim a i := Nat.lt_of_le_of_lt h hb
theorem Lim.mono {a i j : Nat} (ha : Lim a i) (h : i ≤ j) : Lim a j := Nat.lt_of_lt_of_le ha (Nat.pow_le_pow_right BB_pos h)
theorem Lim.add {a b i j : Nat} (ha : Lim a i) (hb : Lim b j) : Lim (a + b) (i + j + 1) := few_add (ha.mono (by omega)) (hb.mono (by omega))
theorem Lim.few {a i : Nat} (h : Lim a i) (hi : i ≤ 1000000) : Few a := Few.of_pow h (by omega)
theorem Lim.one {a : Nat} (h : a < BB) : Lim a 1 := by unfold Lim; rwa [Nat.pow_one]
theorem Lim.val {xs : List Nat} (h : Limb xs) {k : Nat} (hk : xs.length ≤ k) : Lim (val xs) k := Nat.lt_of_lt_of_le (val_lt h) (Nat.pow_le_pow_right BB_pos hk)
end Go.Proofs.YtfelokgmoiblgaaDoor
