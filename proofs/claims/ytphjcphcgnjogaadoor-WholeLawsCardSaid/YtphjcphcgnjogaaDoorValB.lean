/-
  The steps of sums, differences, products and shifts of limbs: the plain law.
-/
import Derived.Test.YtphjcphcgnjogaaDoorVal
namespace Go.Proofs.YtphjcphcgnjogaaDoor

theorem add_step {zs : List Nat} {i v c lo hi : Nat} (h0 : i < zs.length) (h : lo + BB * hi = zs[i]?.getD 0 + v + c) : val (zs.set i lo) + BB ^ (i + 1) * hi = val zs + BB ^ i * v + BB ^ i * c := by
  have h1 := val_set zs i lo h0
  have h2 := congrArg (BB ^ i * ·) h
  simp only [Nat.mul_add] at h2
  rw [Nat.pow_succ, Nat.mul_assoc]
  omega
theorem sub_step {zs : List Nat} {i v b d b' : Nat} (h0 : i < zs.length) (h : d + v + b = zs[i]?.getD 0 + BB * b') : val (zs.set i d) + BB ^ i * v + BB ^ i * b = val zs + BB ^ (i + 1) * b' := by
  have h1 := val_set zs i d h0
  have h2 := congrArg (BB ^ i * ·) h
  simp only [Nat.mul_add] at h2
  rw [Nat.pow_succ, Nat.mul_assoc]
  omega
/-- What is below a power has no limb from there on. -/
theorem val_zero_of : ∀ {zs : List Nat}, val zs = 0 → ∀ k : Nat, zs[k]?.getD 0 = 0
  | [], _, k => by simp
  | z :: zs, h, 0 => by
    simp only [val] at h
    simp
    omega
  | z :: zs, h, k + 1 => by
    simp only [val] at h
    have hb := BB_pos
    have h1 : val zs = 0 := by
      rcases Nat.eq_zero_or_pos (val zs) with h2 | h2
      · exact h2
      · have := Nat.mul_pos hb h2
        omega
    have := val_zero_of h1 k
    simpa using this
theorem val_high {zs : List Nat} {m : Nat} (h : val zs < BB ^ m) (k : Nat) (hk : m ≤ k) : zs[k]?.getD 0 = 0 := by
  by_cases hm : m ≤ zs.length
  · have h1 := val_take_drop zs m hm
    have h2 : val (zs.drop m) = 0 := by
      rcases Nat.eq_zero_or_pos (val (zs.drop m)) with h2 | h2
      · exact h2
      · have h3 : BB ^ m * 1 ≤ BB ^ m * val (zs.drop m) := Nat.mul_le_mul_left _ h2
        omega
    have h3 := val_zero_of h2 (k - m)
    rw [List.getElem?_drop, show m + (k - m) = k by omega] at h3
    exact h3
  · rw [List.getElem?_eq_none (by omega)]
    rfl
theorem set_get_ne {zs : List Nat} {i j v : Nat} (h : i ≠ j) : (zs.set i v)[j]?.getD 0 = zs[j]?.getD 0 := by
  rw [List.getElem?_set_ne h]
theorem set_get_eq {zs : List Nat} {i v : Nat} (h : i < zs.length) : (zs.set i v)[i]?.getD 0 = v := by
  simp [h]
theorem val_take_all (xs : List Nat) : val (xs.take xs.length) = val xs := by rw [List.take_length]
theorem val_ge_get {zs : List Nat} (i : Nat) : BB ^ i * (zs[i]?.getD 0) ≤ val zs := by
  by_cases hi : i < zs.length
  · have h1 := val_take_drop zs (i + 1) (by omega)
    rw [val_take_succ zs i hi] at h1
    omega
  · rw [List.getElem?_eq_none (by omega)]
    simp
theorem pow_le {i j : Nat} (h : i ≤ j) : BB ^ i ≤ BB ^ j := Nat.pow_le_pow_right BB_pos h

/-- Divided by a power of two, limb by limb. -/
def shrAt (r : Nat) (xs : List Nat) (j : Nat) : Nat := xs[j]?.getD 0 / 2 ^ r + (xs[j + 1]?.getD 0 % 2 ^ r) * 2 ^ (64 - r)
def shrL (r : Nat) (xs : List Nat) : List Nat := (List.range xs.length).map (shrAt r xs)
theorem shrAt_cons (r x : Nat) (xs : List Nat) (j : Nat) : shrAt r (x :: xs) (j + 1) = shrAt r xs j := by simp [shrAt]
theorem shrL_cons (r x : Nat) (xs : List Nat) : shrL r (x :: xs) = (x / 2 ^ r + (xs[0]?.getD 0 % 2 ^ r) * 2 ^ (64 - r)) :: shrL r xs := by
  unfold shrL
  rw [List.length_cons, List.range_succ_eq_map, List.map_cons, List.map_map]
  have e : List.map (shrAt r (x :: xs) ∘ Nat.succ) (List.range xs.length) = List.map (shrAt r xs) (List.range xs.length) := by
    apply List.map_congr_left
    intro j _
    exact shrAt_cons r x xs j
  rw [e]
  simp [shrAt]
theorem val_mod (r : Nat) (hr : r < 64) : ∀ (xs : List Nat), val xs % 2 ^ r = xs[0]?.getD 0 % 2 ^ r
  | [] => by simp [val]
  | x :: xs => by
    have e : BB = 2 ^ r * 2 ^ (64 - r) := by rw [← Nat.pow_add, BB_pow]; congr 1; omega
    rw [val, e, Nat.mul_assoc, Nat.add_mul_mod_self_left]
    simp
theorem val_shrL (r : Nat) (hr : r < 64) : ∀ (xs : List Nat), val (shrL r xs) = val xs / 2 ^ r
  | [] => by simp [shrL, val]
  | x :: xs => by
    have ih := val_shrL r hr xs
    have hm := val_mod r hr xs
    have e : BB = 2 ^ r * 2 ^ (64 - r) := by rw [← Nat.pow_add, BB_pow]; congr 1; omega
    rw [shrL_cons, val, val, ih, ← hm]
    have hp : 0 < 2 ^ r := Nat.pow_pos (by omega)
    have h1 : x + BB * val xs = x + 2 ^ r * (2 ^ (64 - r) * val xs) := by rw [e, Nat.mul_assoc]
    rw [h1, Nat.add_mul_div_left _ _ hp]
    have h2 := Nat.div_add_mod (val xs) (2 ^ r)
    have h3 : 2 ^ (64 - r) * val xs = 2 ^ (64 - r) * (2 ^ r * (val xs / 2 ^ r)) + 2 ^ (64 - r) * (val xs % 2 ^ r) := by rw [← Nat.mul_add, h2]
    have h4 : 2 ^ (64 - r) * (2 ^ r * (val xs / 2 ^ r)) = BB * (val xs / 2 ^ r) := by rw [← Nat.mul_assoc, e, Nat.mul_comm (2 ^ (64 - r))]
    rw [h3, h4, Nat.mul_comm (2 ^ (64 - r)) (val xs % 2 ^ r)]
    omega
theorem shrAt_lt {r : Nat} (hr : r < 64) {xs : List Nat} (h : Limb xs) (j : Nat) : shrAt r xs j < BB := by
  have h1 := h.get j
  have e : BB = 2 ^ (64 - r) * 2 ^ r := by rw [← Nat.pow_add, BB_pow]; congr 1; omega
  have hp : 0 < 2 ^ r := Nat.pow_pos (by omega)
  have h2 : xs[j]?.getD 0 / 2 ^ r < 2 ^ (64 - r) := by
    rw [Nat.div_lt_iff_lt_mul hp, ← e]
    exact h1
  have h3 : xs[j + 1]?.getD 0 % 2 ^ r + 1 ≤ 2 ^ r := Nat.mod_lt _ hp
  have h4 : (xs[j + 1]?.getD 0 % 2 ^ r + 1) * 2 ^ (64 - r) ≤ 2 ^ r * 2 ^ (64 - r) := Nat.mul_le_mul_right _ h3
  rw [Nat.add_mul, Nat.one_mul, Nat.mul_comm (2 ^ r), ← e] at h4
  unfold shrAt
  omega
theorem shrL_len (r : Nat) (xs : List Nat) : (shrL r xs).length = xs.length := by simp [shrL]
theorem shrL_get (r : Nat) (xs : List Nat) (j : Nat) (h : j < xs.length) : (shrL r xs)[j]?.getD 0 = shrAt r xs j := by simp [shrL, h]
/-- A list that has the right limbs is the right list. -/
theorem eq_shrL {r : Nat} {xs zs : List Nat} (hl : zs.length = xs.length) (h : ∀ j, j < xs.length → zs[j]?.getD 0 = shrAt r xs j) : zs = shrL r xs := by
  apply List.ext_getElem
  · rw [hl, shrL_len]
  · intro j h1 h2
    have h3 := h j (by omega)
    rw [List.getElem?_eq_getElem h1] at h3
    rw [show zs[j] = shrAt r xs j from h3]
    simp [shrL]
theorem val_drop_div (xs : List Nat) (hx : Limb xs) (k : Nat) (hk : k ≤ xs.length) : val (xs.drop k) = val xs / BB ^ k := by
  have h1 := val_take_drop xs k hk
  have h2 := val_lt (hx.take k)
  rw [List.length_take, Nat.min_eq_left hk] at h2
  rw [h1, Nat.add_mul_div_left _ _ (BB_pow_pos k), Nat.div_eq_of_lt h2, Nat.zero_add]
theorem pow_split (n : Nat) : 2 ^ n = BB ^ (n / 64) * 2 ^ (n % 64) := by
  rw [BB_pow, ← Nat.pow_mul, ← Nat.pow_add]
  congr 1
  omega
theorem shr_val (xs : List Nat) (hx : Limb xs) (n : Nat) (hk : n / 64 ≤ xs.length) : val (shrL (n % 64) (xs.drop (n / 64))) = val xs / 2 ^ n := by
  rw [val_shrL _ (Nat.mod_lt _ (by omega)), val_drop_div xs hx _ hk, Nat.div_div_eq_div_mul, pow_split n]
theorem shr_small (xs : List Nat) (hx : Limb xs) (n : Nat) (hk : xs.length ≤ n / 64) : val xs / 2 ^ n = 0 := by
  apply Nat.div_eq_of_lt
  have h1 := val_lt hx
  have h2 := pow_le hk
  have h3 : BB ^ (n / 64) * 1 ≤ BB ^ (n / 64) * 2 ^ (n % 64) := Nat.mul_le_mul_left _ (Nat.pow_pos (by omega))
  rw [pow_split n]
  omega
end Go.Proofs.YtphjcphcgnjogaaDoor
